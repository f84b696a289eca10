/- The word of a sum, of scaled rows, ; in plain. Conditions: none. -/
import Derived.Test.YtjaaldandgfkgaaREnp
import Derived.Test.YtjaaldandgfkgaaJnU
import Derived.Test.YtjaaldandgfkgaaReb
import Derived.Test.YtjaaldandgfkgaaFt10
import Derived.Test.YtjaaldandgfkgaaSplW
import Derived.Test.YtjaaldandgfkgaaOpenSd
import Derived.Test.YtjaaldandgfkgaaShM
import Derived.Deep.Slices
namespace Go.Proofs.Ytjaaldandgfkgaa
open Go.RowKit

theorem el_fin (x : Fin 256) : el x.val = x := Fin.ext (el_val x.isLt)
theorem wrd_el {k : Nat} {g : Nat → Nat → Nat} {i c : Nat} : el (wrd k g i c) = gE.s k (fun t => gE.m (gE.cM el k i t) (el (g t c))) := el_fin _
theorem wrd_plus {k : Nat} {a b : Nat → Nat → Nat} {i c : Nat} : wrd k (fun j c => (gE.a (el (a j c)) (el (b j c))).val) i c = (gE.a (el (wrd k a i c)) (el (wrd k b i c))).val := by
  rw [wrd_el, wrd_el, ← gE.s_a]
  show (gE.s k _).val = _
  rw [gE.s_congr (g := fun t => gE.a (gE.m (gE.cM el k i t) (el (a t c))) (gE.m (gE.cM el k i t) (el (b t c)))) fun t _ => by rw [el_fin, gE.dist]]
theorem wrd_scale {k : Nat} {a : Nat → Nat → Nat} {s : Fin 256} {i c : Nat} : wrd k (fun j c => (gE.m (el (a j c)) s).val) i c = (gE.m (el (wrd k a i c)) s).val := by
  rw [wrd_el, gE.s_m']
  show (gE.s k _).val = _
  rw [gE.s_congr (g := fun t => gE.m (gE.m (gE.cM el k i t) (el (a t c))) s) fun t _ => by rw [el_fin, gE.m_assoc]]
theorem wrd_lo {k : Nat} {a : Nat → Nat → Nat} {i c : Nat} (hi : i < k) (h : a i c < 256) : wrd k a i c = a i c := by
  unfold wrd
  rw [gE.s_one hi]
  · show (gE.m (if i < k then gE.idm i i else _) _).val = _
    rw [if_pos hi]
    unfold Fd.idm
    rw [if_pos rfl, gE.u_m, el_val h]
  · intro j _ hne
    show gE.m (if i < k then gE.idm i j else _) _ = _
    rw [if_pos hi]
    unfold Fd.idm
    rw [if_neg (fun e => hne e.symm), gE.z_m]
end Go.Proofs.Ytjaaldandgfkgaa

/- What Join makes of the shards of an object, K of them or more, is the object; plain. Conditions: as the theorems have them. -/
namespace Go.Proofs.Ytjaaldandgfkgaa
open Go.RowKit

/-- The shares of k rows of a word make every row of it. -/
theorem shp_word {k n i : Nat} {a : Nat → Nat} {o : Nat → Fin 256} {g : Nat → Nat} {D : Nat → Nat → Nat} {c : Nat} (hk : k ≤ n) (hn : n ≤ 255) (hi : i < n) (ha : ∀ t, t < k → a t < n) (hinj : ∀ s t, s < k → t < k → a s = a t → s = t)
    (ho : gE.ShP (fun t => el (a t)) k (el i) o) (hg : ∀ t, t < k → g t = wrd k D (a t) c) : (gE.s k fun t => gE.m (o t) (el (g t))).val = wrd k D i c := by
  have h2 : gE.s k (fun t => gE.m (o t) (el (g t))) = gE.s k fun t => gE.s k fun j => gE.m (gE.m (o t) (gE.cM el k (a t) j)) (el (D j c)) := gE.s_congr fun t ht => by
    rw [hg t ht, wrd_el, gE.s_m]; exact gE.s_congr fun j _ => (gE.m_assoc _ _ _).symm
  have h1 : gE.s k (fun t => gE.m (o t) (el (g t))) = gE.s k fun j => gE.m (gE.cM el k i j) (el (D j c)) := by
    rw [h2, gE.s_swap]
    refine gE.s_congr fun j hj => ?_
    rw [← gE.s_m', Fd.shares_rows (F := gE) (k := k) (n := n) (i := i) (q := el) (at' := a) hk hi (fun x y hx hy e => el_inj (by omega) (by omega) e) ha hinj ho j hj]
  rw [h1]; rfl
theorem pos_at {K B s p : Nat} (_hK : 1 ≤ K) (_hB : 1 ≤ B) (_hp : p < s) : p / (K * B) * (K * B) + p % (K * B) / blen K B s (p / (K * B)) * blen K B s (p / (K * B)) + p % (K * B) % blen K B s (p / (K * B)) = p := by
  have h1 := Nat.div_add_mod' (p % (K * B)) (blen K B s (p / (K * B)))
  have h2 := Nat.div_add_mod' p (K * B)
  omega
/-- The shards of an object, some of them missing: Join's bytes are the object's. -/
theorem jn_back {n : Nat} {H : Nat → Hd} {BL : Nat → List (List Nat)} {Z : Hd} {l l' : List Nat} (hE : checkE Z = 0) (hn : n = shN Z) (hc : Z.K.toNat ≤ cntG H n) (hs : Z.size = (l.length : Int)) (hl : ∀ x ∈ l, x < 256)
    (hB : ∀ t, t < n → gone (H t) = false → BL t = spL Z.K.toNat Z.B.toNat l t) (h : JnL n H BL Z l') : l' = l := by
  obtain ⟨O, hO, rfl⟩ := h
  have hn255 := shN_255 hE
  obtain ⟨⟨m1, m2, m3, m4, m5, m6⟩, _, _, zE, _⟩ := check_facts hE
  have hK : 1 ≤ Z.K.toNat := by omega
  have hBp : 1 ≤ Z.B.toNat := by omega
  have hKn : Z.K.toNat ≤ n := by rw [hn]; unfold shN; omega
  have hsz : Z.size.toNat = l.length := by rw [hs]; rfl
  refine (mkL_ext hsz.symm fun p hp => ?_).symm
  rw [hsz] at hp ⊢
  obtain ⟨hj, hi, hcc⟩ := row_at (K := Z.K.toNat) (B := Z.B.toNat) (s := l.length) (p := p) hK hBp hp
  unfold jnB
  have hpk : ∀ t, t < Z.K.toNat → pkA (lsG H) n t < n ∧ gone (H (pkA (lsG H) n t)) = false := fun t ht => pkA_gone (by omega)
  rw [shp_word (k := Z.K.toNat) (n := n) (D := sby Z.K.toNat Z.B.toNat l (p / (Z.K.toNat * Z.B.toNat))) (c := p % (Z.K.toNat * Z.B.toNat) % blen Z.K.toNat Z.B.toNat l.length (p / (Z.K.toNat * Z.B.toNat))) hKn (by omega) (Nat.lt_of_lt_of_le hi hKn) (fun t ht => (hpk t ht).1)
    (fun s t hs ht e => pkA_inj (by rw [pkN_cntG]; omega) (by rw [pkN_cntG]; omega) e) (hO _ (Nat.lt_of_lt_of_le hi hKn)) (fun t ht => by
      rw [hB _ (hpk t ht).1 (hpk t ht).2]
      unfold spL
      rw [spT_get hj]
      unfold spB
      rw [mkL_get hcc])]
  rw [wrd_lo hi (sby_lt hl _ _ _)]
  unfold sby
  rw [pos_at hK hBp hp]
end Go.Proofs.Ytjaaldandgfkgaa

/- Shards of an object of which some are lost: what Join and Piece then answer; the list in memory. Conditions: as the theorems have them. -/
namespace Go.Proofs.Ytjaaldandgfkgaa
open Go.RowKit

def erH (P : Nat → Bool) (H : Nat → Hd) (t : Nat) : Hd := if P t = true then hd0 else H t
def erB (P : Nat → Bool) (BL : Nat → List (List Nat)) (t : Nat) : List (List Nat) := if P t = true then [] else BL t
theorem gone_hd0 : gone hd0 = true := rfl
theorem may_not_gone {h : Hd} (e : checkE h = 0) : gone h = false := by
  obtain ⟨⟨m1, m2, _⟩, _⟩ := check_facts e
  cases hg : gone h with
  | false => rfl
  | true => obtain ⟨a, b, c⟩ := gone_iff.1 hg; omega
theorem gone_erH {P : Nat → Bool} {H : Nat → Hd} {t : Nat} (h : gone (H t) = false) : gone (erH P H t) = P t := by
  unfold erH
  cases e : P t with
  | true => exact gone_hd0
  | false => exact h
theorem cntG_cntB {P : Nat → Bool} {H : Nat → Hd} : ∀ n, (∀ t, t < n → gone (H t) = false) → cntG (erH P H) n + cntB P n = n
  | 0, _ => rfl
  | n + 1, h => by
    have h1 := cntG_cntB (P := P) n fun t ht => h t (by omega)
    unfold cntG cntB
    rw [gone_erH (h n (by omega))]
    cases P n <;> simp <;> omega
theorem fst_ex {H : Nat → Hd} : ∀ n, 0 < cntG H n → ∃ k, FstS n H k
  | n + 1, h => by
    by_cases h1 : 0 < cntG H n
    · obtain ⟨k, h2, h3, h4⟩ := fst_ex n h1
      exact ⟨k, by omega, h3, h4⟩
    · refine ⟨n, by omega, fun t ht => ?_, ?_⟩
      · cases e : gone (H t) with
        | true => rfl
        | false =>
          exfalso
          have : ∀ m, t < m → m ≤ n → 0 < cntG H m := by
            intro m
            induction m with
            | zero => intro h; omega
            | succ m ih =>
              intro hm hn
              unfold cntG
              by_cases e2 : t = m
              · subst e2; rw [e]; simp
              · have := ih (by omega) (by omega); omega
          exact h1 (this n ht (Nat.le_refl _))
      · unfold cntG at h
        cases e : gone (H n) with
        | false => rfl
        | true => rw [e] at h; simp at h; omega
theorem spL_fit (K B : Nat) (l : List Nat) (i : Nat) : fitS K B l.length (spL K B l i) := by
  unfold fitS spL
  rw [spT_length]
  exact ⟨rfl, fun j hj => by rw [spT_get hj, spB_length]⟩
/-- Join's answer of the shards of an object, M of them or fewer lost. -/
theorem er_look {n : Nat} {H : Nat → Hd} {BL : Nat → List (List Nat)} {Z : Hd} {l : List Nat} {P : Nat → Bool} (hn : n = shN Z) (hE : ∀ t, t < n → checkE { Z with idx := (t : Int) } = 0) (hs : Z.size = (l.length : Int)) (hH : ∀ t, t < n → H t = { Z with idx := (t : Int) })
    (hB : ∀ t, t < n → BL t = spL Z.K.toNat Z.B.toNat l t) (hP : Z.K.toNat + cntB P n ≤ n) (hp : 0 < Z.K.toNat) : ∃ k, FstS n (erH P H) k ∧ P k = false ∧ erH P H k = { Z with idx := (k : Int) } ∧ LookE n (erH P H) (erB P BL) 0 ∧ Z.K.toNat ≤ cntG (erH P H) n := by
  have hg : ∀ t, t < n → gone (H t) = false := fun t ht => by rw [hH t ht]; exact may_not_gone (hE t ht)
  have hc := cntG_cntB (P := P) (H := H) n hg
  obtain ⟨k, hk⟩ := fst_ex (H := erH P H) n (by omega)
  have hPk : P k = false := by rw [← gone_erH (P := P) (hg k hk.1)]; exact hk.2.2
  have hek : erH P H k = { Z with idx := (k : Int) } := by unfold erH; rw [if_neg (by rw [hPk]; decide)]; exact hH k hk.1
  refine ⟨k, hk, hPk, hek, .inr ⟨k, hk, ?_⟩, by omega⟩
  rw [hek]
  refine .inr (.inr (.inr (.inr ⟨hE k hk.1, hn, fun u hu => ?_, ?_, rfl⟩)))
  · unfold okS erH erB
    cases e : P u with
    | true => exact .inl (by simpa using gone_hd0)
    | false =>
      refine .inr ⟨by simpa using hH u hu, ?_⟩
      show fitS Z.K.toNat Z.B.toNat Z.size.toNat _
      simp only [Bool.false_eq_true, if_false]
      rw [hB u hu, hs]
      exact spL_fit _ _ _ _
  · show Z.K.toNat ≤ _
    omega
theorem er_join {n : Nat} {H : Nat → Hd} {BL : Nat → List (List Nat)} {Z : Hd} {l l' : List Nat} {P : Nat → Bool} {er : Int} (hn : n = shN Z) (hE : ∀ t, t < n → checkE { Z with idx := (t : Int) } = 0) (hs : Z.size = (l.length : Int)) (hl : ∀ x ∈ l, x < 256) (hH : ∀ t, t < n → H t = { Z with idx := (t : Int) })
    (hB : ∀ t, t < n → BL t = spL Z.K.toNat Z.B.toNat l t) (hP : Z.K.toNat + cntB P n ≤ n) (hp : 0 < Z.K.toNat) (h : JoinR n (erH P H) (erB P BL) er l') : er = 0 ∧ l' = l := by
  obtain ⟨k, hk, hPk, hek, hL, hc⟩ := er_look hn hE hs hH hB hP hp
  have he := h.1.uniq hL
  refine ⟨he, ?_⟩
  obtain ⟨k', hk', hJ⟩ := h.2.2 he
  have := hk.uniq hk'
  subst this
  rw [hek] at hJ
  refine jn_back (Z := { Z with idx := (k : Int) }) (hE k hk.1) hn hc hs hl (fun t ht hgt => ?_) hJ
  have hPt : P t = false := by
    cases e : P t with
    | false => rfl
    | true => unfold erH at hgt; rw [e] at hgt; simp [gone_hd0] at hgt
  unfold erB
  rw [if_neg (by rw [hPt]; decide)]
  exact hB t ht
theorem er_piece {n : Nat} {H : Nat → Hd} {BL : Nat → List (List Nat)} {Z : Hd} {l l' : List Nat} {P : Nat → Bool} {er off q : Int} (hn : n = shN Z) (hE : ∀ t, t < n → checkE { Z with idx := (t : Int) } = 0) (hs : Z.size = (l.length : Int)) (hl : ∀ x ∈ l, x < 256) (hH : ∀ t, t < n → H t = { Z with idx := (t : Int) })
    (hB : ∀ t, t < n → BL t = spL Z.K.toNat Z.B.toNat l t) (hP : Z.K.toNat + cntB P n ≤ n) (hp : 0 < Z.K.toNat) (h : PieceR n (erH P H) (erB P BL) off q er l') : ((off < 0 ∨ q < 0) ∧ er = 2 ∧ l' = []) ∨ (0 ≤ off ∧ 0 ≤ q ∧ er = 0 ∧ l' = cutL l off.toNat q.toNat) := by
  obtain ⟨e0, l0, hJ, h⟩ := h
  obtain ⟨rfl, rfl⟩ := er_join hn hE hs hl hH hB hP hp hJ
  rcases h with ⟨a, _⟩ | ⟨_, b, c, d⟩ | ⟨_, b, c, d, e⟩
  · exact absurd rfl a
  · exact .inl ⟨b, c, d⟩
  · exact .inr ⟨b, c, d, e⟩

theorem hd0_wf : HdW hd0 := ⟨rfl, rfl, rfl, rfl, rfl, rfl, rfl, rfl, rfl, rfl, rfl, rfl, rfl, rfl, rfl, by decide⟩
theorem er_wf {P : Nat → Bool} {H : Nat → Hd} {t : Nat} (h : HdW (H t)) : HdW (erH P H t) := by
  unfold erH; split
  · exact hd0_wf
  · exact h
theorem er_bnd {P : Nat → Bool} {BL : Nat → List (List Nat)} {t m k : Nat} (h1 : (BL t).length ≤ m) (h2 : ∀ l ∈ BL t, l.length ≤ k) (h3 : ∀ l ∈ BL t, ∀ x ∈ l, x < 256) : (erB P BL t).length ≤ m ∧ (∀ l ∈ erB P BL t, l.length ≤ k) ∧ ∀ l ∈ erB P BL t, ∀ x ∈ l, x < 256 := by
  unfold erB; split
  · exact ⟨by simp, by simp, by simp⟩
  · exact ⟨h1, h2, h3⟩
theorem spl_row {h : Hd} (l : List Nat) (e : checkE h = 0) (i : Nat) : ∀ y ∈ spL h.K.toNat h.B.toNat l i, y.length ≤ 65536 := fun y hy => by
  unfold spL spT at hy
  obtain ⟨j, hj, rfl⟩ := List.mem_map.1 hy
  rw [spB_length]
  obtain ⟨⟨m1, m2, m3, m4, m5, m6⟩, _⟩ := check_facts e
  have := (blen_facts (K := h.K.toNat) (B := h.B.toNat) (by omega) (by omega) (List.mem_range.1 hj)).2.1
  omega

/-! ## the list in memory -/
def erC (P : Nat → Bool) (H : Nat → Hd) (V : Nat → Value) (t : Nat) : List Value := sdC (erH P H t) (if P t = true then .slice none 0 0 else V t)
structure ErSd (w : World) (B g c n : Nat) (H : Nat → Hd) (V : Nat → Value) (BL : Nat → List (List Nat)) (T : Nat → Nat) (P : Nat → Bool) : Prop where
  top : Own w B 69 17 (.slice (some ⟨g, 0, none⟩) n c) n (erC P H V)
  blk : ∀ i, i < n → OwnBk w (T i) (T (i + 1)) (V i) (BL i)
  lo : g < T 0
  mono : ∀ i, i < n → T i ≤ T (i + 1)
theorem OwnSd.er {w : World} {B g c n : Nat} {H : Nat → Hd} {V : Nat → Value} {BL : Nat → List (List Nat)} {T : Nat → Nat} (h : OwnSd w B g c n H V BL T) : ErSd w B g c n H V BL T (fun _ => false) :=
  ⟨h.top, h.blk, h.lo, h.mono⟩
theorem ErSd.kept {w w' : World} {B g c n : Nat} {H : Nat → Hd} {V : Nat → Value} {BL : Nat → List (List Nat)} {T : Nat → Nat} {P : Nat → Bool} (h : ErSd w B g c n H V BL T P) (hb : Below w.heap.size w w') : ErSd w' B g c n H V BL T P :=
  ⟨h.top.kept hb, fun i hi => (h.blk i hi).kept hb, h.lo, h.mono⟩
theorem ErSd.congr {w : World} {B g c n : Nat} {H : Nat → Hd} {V : Nat → Value} {BL : Nat → List (List Nat)} {T : Nat → Nat} {P P' : Nat → Bool} (h : ErSd w B g c n H V BL T P) (e : ∀ t, t < n → P' t = P t) : ErSd w B g c n H V BL T P' :=
  ⟨h.top.congr fun i hi => by unfold erC erH; rw [e i hi], h.blk, h.lo, h.mono⟩
theorem T_lo {n : Nat} {T : Nat → Nat} (h : ∀ i, i < n → T i ≤ T (i + 1)) : ∀ i, i ≤ n → T 0 ≤ T i
  | 0, _ => Nat.le_refl _
  | i + 1, hi => Nat.le_trans (T_lo h i (by omega)) (h i (by omega))
theorem ErSd.cur {w : World} {B g c n : Nat} {H : Nat → Hd} {V : Nat → Value} {BL : Nat → List (List Nat)} {T : Nat → Nat} {P : Nat → Bool} (h : ErSd w B g c n H V BL T P) : ∃ cur, w.heap[g]? = some (.cells cur 69 (0, 0)) ∧ cur.size = c * 17 ∧ n ≤ c ∧ B ≤ g := h.top.cur
/-- One more is lost. -/
theorem ErSd.erase {w w' : World} {B g c n i : Nat} {H : Nat → Hd} {V : Nat → Value} {BL : Nat → List (List Nat)} {T : Nat → Nat} {P : Nat → Bool} {cur : Array Value} (h : ErSd w B g c n H V BL T P) (hi : i < n) (hg : w.heap[g]? = some (.cells cur 69 (0, 0)))
    (hw : w'.heap[g]? = some (.cells (cur.toList.take (i * 17) ++ sdC hd0 (.slice none 0 0) ++ cur.toList.drop (i * 17 + 17)).toArray 69 (0, 0))) (hgr : w.grownBy w' (some g)) : ErSd w' B g c n H V BL T (fun t => if t = i then true else P t) := by
  refine ⟨(Own.part (i := i) (j := 0) (cs := sdC hd0 (.slice none 0 0)) h.top (fun _ _ => sdC_len _ _) hg hi (by rw [sdC_len]; decide) (by rw [Nat.add_zero, sdC_len]; exact hw)).congr fun t ht => ?_, fun t ht => ?_, h.lo, h.mono⟩
  · unfold erC erH
    by_cases e : t = i
    · subst e
      simp [sdC_len]
    · simp [e]
  · have h1 := Nat.lt_of_lt_of_le h.lo (T_lo h.mono t (by omega))
    obtain ⟨⟨S, C, h2, h3⟩, h4⟩ := h.blk t ht
    exact ⟨⟨S, C, h2.row_ h1 hgr, h3⟩, h4⟩
theorem ErSd.rsd {w : World} {B g c n : Nat} {H : Nat → Hd} {V : Nat → Value} {BL : Nat → List (List Nat)} {T : Nat → Nat} {P : Nat → Bool} (h : ErSd w B g c n H V BL T P) : RSd w (some ⟨g, 0, none⟩) n (erH P H) (erB P BL) := by
  have hv : ∀ i, ∃ A c, i < n → (if P i = true then .slice none 0 0 else V i) = Value.slice A (erB P BL i).length c ∧ RLL w A (erB P BL i) ∧ (erB P BL i).length ≤ c := fun i => by
    by_cases hi : i < n
    · unfold erB
      cases e : P i with
      | true => exact ⟨none, 0, fun _ => ⟨by simp, by simpa using RLL.nil _ _, by simp⟩⟩
      | false =>
        obtain ⟨A, c, e, hc, hr⟩ := (h.blk i hi).rd
        exact ⟨A, c, fun _ => ⟨by simpa using e, by simpa using hr, by simpa using hc⟩⟩
    · exact ⟨none, 0, fun h => absurd h hi⟩
  refine ⟨fun i => Classical.choose (hv i), fun i => Classical.choose (Classical.choose_spec (hv i)), ?_, fun i hi => (Classical.choose_spec (Classical.choose_spec (hv i)) hi).2⟩
  refine (h.top.rdC fun _ _ => sdC_len _ _).congr fun i hi => ?_
  show sdC _ _ = _
  rw [(Classical.choose_spec (Classical.choose_spec (hv i)) hi).1]
end Go.Proofs.Ytjaaldandgfkgaa

/- awake of the law's page: the walk. Conditions: none. -/
namespace Go.Proofs.Ytjaaldandgfkgaa
open Go.RowKit

def awH : Hd := ⟨0, 0, 0, 0, 0, 0, 0, 0, 2, 1, 4, ⟨#[97]⟩, 0, 0, 1, 1⟩
def awL : List Nat := [0, 1, 2, 3, 4, 5, 6, 7, 8, 9]
def awZ : Hd := { awH with size := (awL.length : Int), idx := 0 }
theorem aw_check : ∀ t : Nat, t < 3 → checkE { awZ with idx := (t : Int) } = 0 := by decide +kernel
theorem aw_lt : ∀ x ∈ awL, x < 256 := by decide
theorem aw_one : spL 2 4 awL 1 = [[4, 5, 6, 7], [9]] := by decide +kernel
theorem aw_two : spL 2 4 awL 2 = [[8, 9, 10, 11], [10]] := by decide +kernel
theorem aw_len (i : Nat) : (spL 2 4 awL i).length = 2 := by unfold spL; rw [spT_length]; decide +kernel
theorem aw_wf (t : Nat) (ht : t < 3) : HdW { awZ with idx := (t : Int) } := hdw_spl (h := awH) ⟨rfl, rfl, rfl, rfl, rfl, rfl, rfl, rfl, rfl, rfl, rfl, rfl, rfl, rfl, rfl, by decide⟩ 10 t (by omega) (by omega)
theorem aw_str : ((strL awL).toList == [0, 1, 2, 3, 4, 5, 6, 7, 8, 9]) = true := by decide +kernel
theorem lit_rll (w : World) (a b c d e : Nat) : RLL (((w.alloc (.cells #[.int .u8 (a : Int), .int .u8 (b : Int), .int .u8 (c : Int), .int .u8 (d : Int)] 5)).alloc (.cells #[.int .u8 (e : Int)] 5)).alloc (.cells #[.slice (some ⟨w.heap.size, 0, none⟩) 4 4, .slice (some ⟨w.heap.size + 1, 0, none⟩) 1 1] 43)) (some ⟨w.heap.size + 2, 0, none⟩) [[a, b, c, d], [e]] := by
  generalize h1 : w.alloc (.cells #[.int .u8 (a : Int), .int .u8 (b : Int), .int .u8 (c : Int), .int .u8 (d : Int)] 5) = w1
  have s1 : w1.heap.size = w.heap.size + 1 := by rw [← h1]; simp
  have g1 : w1.heap[w.heap.size]? = some (.cells #[.int .u8 (a : Int), .int .u8 (b : Int), .int .u8 (c : Int), .int .u8 (d : Int)] 5 (0, 0)) := by rw [← h1]; exact heap_alloc_new w _
  generalize h2 : w1.alloc (.cells #[.int .u8 (e : Int)] 5) = w2
  have s2 : w2.heap.size = w.heap.size + 2 := by rw [← h2]; simp [s1]
  have g2 : w2.heap[w.heap.size]? = some (.cells #[.int .u8 (a : Int), .int .u8 (b : Int), .int .u8 (c : Int), .int .u8 (d : Int)] 5 (0, 0)) := by rw [← h2, heap_alloc_old w1 _ (by omega)]; exact g1
  have g3 : w2.heap[w.heap.size + 1]? = some (.cells #[.int .u8 (e : Int)] 5 (0, 0)) := by rw [← h2, ← s1]; exact heap_alloc_new w1 _
  refine ⟨fun i => if i = 0 then some ⟨w.heap.size, 0, none⟩ else some ⟨w.heap.size + 1, 0, none⟩, fun i => if i = 0 then 4 else 1, fun i hi => ⟨w.heap.size + 2, 0, rfl, by simp [s2], ?_⟩, fun i hi j hj => ?_⟩
  · have h5 : (w2.alloc (.cells #[.slice (some ⟨w.heap.size, 0, none⟩) 4 4, .slice (some ⟨w.heap.size + 1, 0, none⟩) 1 1] 43)).heap[w.heap.size + 2]? = some (.cells #[.slice (some ⟨w.heap.size, 0, none⟩) 4 4, .slice (some ⟨w.heap.size + 1, 0, none⟩) 1 1] 43 (0, 0)) := by rw [← s2]; exact heap_alloc_new w2 _
    rw [cell_of_row _ _ (0 + i) _ _ (0, 0) h5]
    have hi : i < 2 := hi
    rcases i with _ | _ | i
    · rfl
    · rfl
    · omega
  · have hi : i < 2 := hi
    rcases i with _ | _ | i
    · have h6 : (w2.alloc (.cells #[.slice (some ⟨w.heap.size, 0, none⟩) 4 4, .slice (some ⟨w.heap.size + 1, 0, none⟩) 1 1] 43)).heap[w.heap.size]? = some (.cells #[.int .u8 (a : Int), .int .u8 (b : Int), .int .u8 (c : Int), .int .u8 (d : Int)] 5 (0, 0)) := by rw [heap_alloc_old w2 _ (by omega)]; exact g2
      refine ⟨w.heap.size, 0, rfl, by simp [s2]; omega, ?_⟩
      rw [cell_of_row _ _ (0 + j) _ _ (0, 0) h6]
      have hj : j < 4 := hj
      rcases j with _ | _ | _ | _ | j
      · rfl
      · rfl
      · rfl
      · rfl
      · omega
    · have h6 : (w2.alloc (.cells #[.slice (some ⟨w.heap.size, 0, none⟩) 4 4, .slice (some ⟨w.heap.size + 1, 0, none⟩) 1 1] 43)).heap[w.heap.size + 1]? = some (.cells #[.int .u8 (e : Int)] 5 (0, 0)) := by rw [heap_alloc_old w2 _ (by omega)]; exact g3
      refine ⟨w.heap.size + 1, 0, rfl, by simp [s2], ?_⟩
      rw [cell_of_row _ _ (0 + j) _ _ (0, 0) h6]
      have hj : j < 1 := hj
      obtain rfl : j = 0 := by omega
      rfl
    · omega
set_option maxRecDepth 100000 in
set_option maxHeartbeats 4000000 in
theorem awake_any (w : World) : Calls Try.prog 33 #[] w fun e w' => e = .returned (.bool true) ∧ Below w.heap.size w w' := by
  go_enter Try.func33, Try.ntmps33
  go_wp2_with fail
  refine (some_any _).mono ?_
  rintro e w1 ⟨rfl, hb1⟩
  have HB1 := Lib.hid hb1
  have hs1 := hb1.size
  clear hb1
  go_wp2_with fail
  have hlA : RL (w1.alloc (.cells #[.int .u8 0, .int .u8 1, .int .u8 2, .int .u8 3, .int .u8 4, .int .u8 5, .int .u8 6, .int .u8 7, .int .u8 8, .int .u8 9] 5)) (some ⟨w1.heap.size, 0, none⟩) awL := fun i hi => by
    have hi : i < 10 := hi
    refine ⟨_, _, rfl, by simp, ?_⟩
    rw [cell_of_row _ _ (0 + i) _ _ (0, 0) (heap_alloc_new w1 _)]
    rcases i with _ | _ | _ | _ | _ | _ | _ | _ | _ | _ | i <;> first | rfl | omega
  have hb2 := (Below.refl w1.heap.size w1).alloc (Nat.le_refl _) (.cells #[.int .u8 0, .int .u8 1, .int .u8 2, .int .u8 3, .int .u8 4, .int .u8 5, .int .u8 6, .int .u8 7, .int .u8 8, .int .u8 9] 5)
  have HB2 := Lib.hid (HB1.out.trans (hb2.mono hs1))
  refine (split_any awH (some ⟨w1.heap.size, 0, none⟩) 10 awL _ aw_lt (by decide) (by decide) (by decide) hlA).mono ?_
  rintro e w3 ⟨hb3, _, h3⟩
  obtain ⟨g, V, T, rfl, _, hO⟩ : ∃ g V T, e = .returned (.tuple #[.slice (some ⟨g, 0, none⟩) 3 3, .int .i64 0]) ∧ (w1.alloc (.cells #[.int .u8 0, .int .u8 1, .int .u8 2, .int .u8 3, .int .u8 4, .int .u8 5, .int .u8 6, .int .u8 7, .int .u8 8, .int .u8 9] 5)).heap.size ≤ g ∧ OwnSd w3 (w1.alloc (.cells #[.int .u8 0, .int .u8 1, .int .u8 2, .int .u8 3, .int .u8 4, .int .u8 5, .int .u8 6, .int .u8 7, .int .u8 8, .int .u8 9] 5)).heap.size g 3 3 (fun i => { awZ with idx := (i : Int) }) V (fun i => spL 2 4 awL i) T := h3 (aw_check 0 (by decide))
  have HB3 := Lib.hid (HB2.out.trans (hb3.mono HB2.out.size))
  have HO := Lib.hid hO
  clear hlA hb2 hb3 h3 hO
  obtain ⟨A1, c1, e1, _, hr1⟩ := (HO.out.blk 1 (by decide)).rd
  rw [aw_one] at e1 hr1
  obtain ⟨A2, c2, e2, _, hr2⟩ := (HO.out.blk 2 (by decide)).rd
  rw [aw_two] at e2 hr2
  have KR1 : Hid (∀ w', Below w3.heap.size w3 w' → RLL w' A1 [[4, 5, 6, 7], [9]]) := Lib.hid fun w' hb => hr1.below hb
  have KR2' : Hid (∀ w', Below w3.heap.size w3 w' → RLL w' A2 [[8, 9, 10, 11], [10]]) := Lib.hid fun w' hb => hr2.below hb
  have hgl : g < w3.heap.size := (HO.out.top.lt g rfl).2
  have KC1 : Hid (∀ w', Below w3.heap.size w3 w' → w'.cell? ⟨g, 33, none⟩ = some (.slice A1 2 c1)) := Lib.hid fun w' hb => by
    rw [hb.cell (p := ⟨g, 33, none⟩) hgl]
    have := HO.out.top.cellN (fun _ _ => sdC_len _ _) (show 1 < 3 by decide) (show 16 < 17 by decide)
    rw [this]
    exact congrArg some e1
  have KC2' : Hid (∀ w', Below w3.heap.size w3 w' → w'.cell? ⟨g, 50, none⟩ = some (.slice A2 2 c2)) := Lib.hid fun w' hb => by
    rw [hb.cell (p := ⟨g, 50, none⟩) hgl]
    have := HO.out.top.cellN (fun _ _ => sdC_len _ _) (show 2 < 3 by decide) (show 16 < 17 by decide)
    rw [this]
    exact congrArg some e2
  clear e1 e2 hr1 hr2
  have k1 : w3.cell? ⟨g, 33, none⟩ = some (.slice A1 2 c1) := KC1.out _ (Below.refl _ _)
  go_wp2_with fail
  have hR1 := lit_rll w3 4 5 6 7 9
  have hbl1 := (((Below.refl w3.heap.size w3).alloc (Nat.le_refl _) (.cells #[.int .u8 4, .int .u8 5, .int .u8 6, .int .u8 7] 5)).alloc (by simp) (.cells #[.int .u8 9] 5)).alloc (by simp; omega) (.cells #[.slice (some ⟨w3.heap.size, 0, none⟩) 4 4, .slice (some ⟨w3.heap.size + 1, 0, none⟩) 1 1] 43)
  have HBL1 := Lib.hid hbl1
  refine (same_any A1 (some ⟨w3.heap.size + 2, 0, none⟩) 2 c1 2 _ _ _ (by decide) (fun p hp q hq => getD_lt (b := 256) (l := ([[4, 5, 6, 7], [9]] : List (List Nat)).getD p []) (by
    have hp : p < 2 := hp
    rcases p with _ | _ | p
    · decide
    · decide
    · omega) hq) (rdm_rll (KR1.out _ hbl1)) (rdm_rll hR1)).mono ?_
  rintro e w5 ⟨rfl, hd1⟩
  have HBn1 : Hid (Below w3.heap.size w3 w5) := Lib.hid (HBL1.out.trans ((hd1.below _).mono HBL1.out.size))
  clear k1 hR1 hbl1 hd1 HBL1
  have KR2 : Hid (∀ w', Below w5.heap.size w5 w' → RLL w' A2 [[8, 9, 10, 11], [10]]) := Lib.hid fun w' hb => KR2'.out w' (HBn1.out.trans (hb.mono HBn1.out.size))
  have KC2 : Hid (∀ w', Below w5.heap.size w5 w' → w'.cell? ⟨g, 50, none⟩ = some (.slice A2 2 c2)) := Lib.hid fun w' hb => KC2'.out w' (HBn1.out.trans (hb.mono HBn1.out.size))
  have k2 : w5.cell? ⟨g, 50, none⟩ = some (.slice A2 2 c2) := KC2.out _ (Below.refl _ _)
  go_wp2_with fail
  have hR2 := lit_rll w5 8 9 10 11 10
  have hbl2 := (((Below.refl w5.heap.size w5).alloc (Nat.le_refl _) (.cells #[.int .u8 8, .int .u8 9, .int .u8 10, .int .u8 11] 5)).alloc (by simp) (.cells #[.int .u8 10] 5)).alloc (by simp; omega) (.cells #[.slice (some ⟨w5.heap.size, 0, none⟩) 4 4, .slice (some ⟨w5.heap.size + 1, 0, none⟩) 1 1] 43)
  have HBL2 := Lib.hid hbl2
  refine (same_any A2 (some ⟨w5.heap.size + 2, 0, none⟩) 2 c2 2 _ _ _ (by decide) (fun p hp q hq => getD_lt (b := 256) (l := ([[8, 9, 10, 11], [10]] : List (List Nat)).getD p []) (by
    have hp : p < 2 := hp
    rcases p with _ | _ | p
    · decide
    · decide
    · omega) hq) (rdm_rll (KR2.out _ hbl2)) (rdm_rll hR2)).mono ?_
  rintro e w7 ⟨rfl, hd2⟩
  have HBn2 : Hid (Below w5.heap.size w5 w7) := Lib.hid (HBL2.out.trans ((hd2.below _).mono HBL2.out.size))
  clear k2 hR2 hbl2 hd2 HBL2
  have HE7 := Lib.hid ((HO.out.kept (HBn1.out.trans (HBn2.out.mono HBn1.out.size))).er)
  have HB7 := Lib.hid (HB3.out.trans ((HBn1.out.mono HB3.out.size).trans (HBn2.out.mono (Nat.le_trans HB3.out.size HBn1.out.size))))
  clear KR1 KR2 KR2' KC1 KC2 KC2' HBn1 HBn2 HO
  obtain ⟨cur, hcur, hcz, _, hBg⟩ := HE7.out.cur
  have HCUR := Lib.hid hcur
  clear hcur
  go_wp2_with (refine wpList_storePart rfl 69 (.tmp 42) (.tmp 41) rfl g 0 #[.int .u8 0, .int .u8 0, .int .u8 0, .int .u8 0, .int .u8 0, .int .u8 0, .int .u8 0, .int .u8 0, .int .i64 0, .int .i64 0, .int .i64 0, .string ⟨#[]⟩, .int .i64 0, .int .i64 0, .int .i64 0, .int .i64 0, .slice none 0 0] rfl rfl (by kernel_rfl) 69 cur (by rw [hcz]; decide) HCUR.out rfl ?_)
  intro w8 hw8 hg8 _
  have HE8 := Lib.hid (HE7.out.erase (i := 0) (by decide) HCUR.out hw8 hg8)
  have HB8 : Hid (Below w.heap.size w w8) := Lib.hid ⟨hg8.os.trans HB7.out.os, hg8.tape.trans HB7.out.tape, hg8.output.trans HB7.out.output, Nat.le_trans HB7.out.size hg8.size, fun i hi => (hg8.block i (by have := HB7.out.size; omega) (fun e => by
    injection e with e
    have h1 := HB2.out.size
    omega)).trans (HB7.out.block i hi)⟩
  clear hw8 hg8 HE7 HB7 HCUR
  go_wp2_with fail
  have HJ := Lib.hid (fun (er : Int) (l' : List Nat) (h : JoinR 3 (erH (fun t => if t = 0 then true else false) fun i => { awZ with idx := (i : Int) }) (erB (fun t => if t = 0 then true else false) fun i => spL 2 4 awL i) er l') => er_join (Z := awZ) (l := awL) (by decide) aw_check rfl aw_lt (fun t _ => rfl) (fun t _ => rfl) (by decide) (by decide) h)
  have HBD : Hid (∀ t, t < 3 → _) := Lib.hid fun t (_ : t < 3) => er_bnd (P := fun t => if t = 0 then true else false) (BL := fun i => spL 2 4 awL i) (t := t) (m := 140737488351232) (k := 140737488351232) (by show (spL 2 4 awL t).length ≤ _; rw [aw_len]; decide) (fun y hy => Nat.le_trans (spl_row (h := awZ) awL (aw_check 0 (by decide)) t y hy) (by decide)) (spl_lt 2 4 awL t)
  refine (join_all (some ⟨g, 0, none⟩) 3 3 _ _ w8 (by decide) (fun t ht => er_wf (aw_wf t ht)) HE8.out.rsd (fun t ht => (HBD.out t ht).1) (fun t ht => (HBD.out t ht).2.1) (fun t ht => (HBD.out t ht).2.2)).mono ?_
  rintro e w9 ⟨er, l', A9, c9, rfl, hJ, hO9, hb9⟩
  obtain ⟨rfl, rfl⟩ := HJ.out er l' hJ
  have hcv := conv_strL c9 aw_lt (own_rl' hO9)
  have HB9 := Lib.hid (HB8.out.trans (hb9.mono HB8.out.size))
  have hst := aw_str
  clear hJ hO9 hb9 HJ HBD HE8
  go_wp2
  go_ret
  exact ⟨rfl, HB9.out⟩
end Go.Proofs.Ytjaaldandgfkgaa

/- A list of shards as an argument, opened. Conditions: none. -/
namespace Go.Proofs.Ytjaaldandgfkgaa
open Go.ChangeShapes Go.WideShapes Go.ChangeAt Go.RowKit Go.Joins Go.Deep

section
variable {H : Type} {enc : TypeId × Value → H} {w : World} {base : Nat} {held : Bool}
set_option maxRecDepth 100000 in
theorem shard_cap {fuel : Nat} {c0 c1 c2 c3 c4 c5 c6 c7 c8 c9 c10 c11 c12 c13 c14 c15 : Value} {A : Option Addr} {n c : Nat} {x : DataW H × List MemPlace} (h : DataW.trod enc Try.prog w base (fun _ => true) held fuel 69 [c0, c1, c2, c3, c4, c5, c6, c7, c8, c9, c10, c11, c12, c13, c14, c15, .slice A n c] = some x) : n ≤ c := by
  obtain ⟨xs, k, _, hx, hlen, hxl, hg⟩ := DataW.trod_struct Try.underlying69 h
  have kB : Try.prog.cellsOf 67 = 1 := by kernel_rfl
  have g1 : DataW.trod enc Try.prog w base (fun _ => true) held k 67 (([c0, c1, c2, c3, c4, c5, c6, c7, c8, c9, c10, c11, c12, c13, c14, c15, .slice A n c].drop 16).take (Try.prog.cellsOf 67)) = xs[1]? := hg 1 _ rfl
  have hxl' : xs.length = 2 := hxl
  obtain ⟨y1, q1⟩ := some_of hxl' (i := 1) (by omega)
  rw [q1, kB] at g1
  simp only [List.drop_succ_cons, List.drop_zero, List.take_succ_cons, List.take_zero] at g1
  rcases open_slice Try.underlying67 g1 with ⟨e, _⟩ | ⟨a, len, cap, m, n', D, Pl, e, _, hl, _⟩
  · simp only [List.cons.injEq, and_true, Value.slice.injEq] at e
    obtain ⟨_, e1, e2⟩ := e
    omega
  · simp only [List.cons.injEq, and_true, Value.slice.injEq] at e
    obtain ⟨_, e1, e2⟩ := e
    omega
structure ShOne where
  h : Hd
  A : Option Addr
  c : Nat
  BL : List (List Nat)
instance : Inhabited ShOne := ⟨⟨⟨0, 0, 0, 0, 0, 0, 0, 0, 0, 0, 0, ⟨#[]⟩, 0, 0, 0, 0⟩, none, 0, []⟩⟩
set_option maxRecDepth 100000 in
theorem open_shards {fuel : Nat} {v : Value} {x : DataW H × List MemPlace} (h : DataW.trod enc Try.prog w base (fun _ => true) held fuel 45 [v] = some x) (hw : ∀ n ∈ x.1.weights Try.prog 45, n ≤ reachBytes) :
    ∃ (A : Option Addr) (n c : Nat) (H : Nat → Hd) (BL : Nat → List (List Nat)), v = .slice A n c ∧ n ≤ c ∧ c ≤ maxLen ∧ RSd w A n H BL ∧ n * 104 ≤ 140737488351232 ∧ (∀ i, i < n → (H i).Wf) ∧ (∀ i, i < n → (BL i).length * 24 ≤ 140737488351232) ∧ (∀ i, i < n → ∀ l ∈ BL i, l.length ≤ 140737488351232) ∧ ∀ i, i < n → ∀ l ∈ BL i, ∀ x ∈ l, x < 256 := by
  have k17 : Try.prog.cellsOf 69 = 17 := by kernel_rfl
  have k104 : Try.prog.bytesOf 69 = 104 := by kernel_rfl
  rcases open_slice Try.underlying45 h with ⟨e, _⟩ | ⟨a, len, cap, m, n', D, Pl, e, hb, hl, hm, hmm, rfl, hx⟩
  · simp only [List.cons.injEq, and_true] at e
    exact ⟨none, 0, 0, fun _ => (default : ShOne).h, fun _ => [], e, Nat.le_refl _, by unfold maxLen; omega, RSd.zero _ _ _ _, by omega, fun i hi => absurd hi (by omega), fun i hi => absurd hi (by omega), fun i hi => absurd hi (by omega), fun i hi => absurd hi (by omega)⟩
  · simp only [List.cons.injEq, and_true] at e
    simp only [if_true] at hmm
    subst hmm
    obtain ⟨hW, hrow⟩ := weights_slice Try.underlying45 hw
    rw [k104] at hW
    have hr := reach_le
    simp at hW
    rw [k17] at hx
    obtain ⟨q, hq⟩ := choose_lt (α := ShOne) (n := len) (p := fun i q => (∀ j u, (sdC q.h (.slice q.A q.BL.length q.c))[j]? = some u → w.cell? (a.add (i * 17 + j)) = some u) ∧ q.h.Wf ∧ RLL w q.A q.BL ∧ q.BL.length ≤ q.c ∧ q.BL.length * 24 ≤ 140737488351232 ∧ (∀ l ∈ q.BL, l.length ≤ 140737488351232) ∧ ∀ l ∈ q.BL, ∀ x ∈ l, x < 256) (fun i hi => by
      obtain ⟨cs', h1, h2⟩ := hx i (by omega)
      obtain ⟨_, hlen, hcell⟩ := World.cells?_some h1
      have hmem : D i ∈ (List.range len).map D := List.mem_map.2 ⟨i, List.mem_range.2 hi, rfl⟩
      obtain ⟨hd, A, c, BL, rfl, h3, h4, h5, h6, h7⟩ := open_shard h2 (hrow _ hmem)
      refine ⟨⟨hd, A, c, BL⟩, fun j u hj => ?_, h3, h4, shard_cap h2, h5, h6, h7⟩
      have hj17 : j < 17 := (List.getElem?_eq_some_iff.1 hj).1
      have h8 := hcell j hj17
      rw [add_add] at h8
      rw [h8]
      exact hj)
    refine ⟨some a, len, _, fun i => (q i).h, fun i => (q i).BL, e, hl, hm, ⟨fun i => (q i).A, fun i => (q i).c, fun i hi => ?_, fun i hi => ⟨(hq i hi).2.2.1, (hq i hi).2.2.2.1⟩⟩, by omega, fun i hi => (hq i hi).2.1, fun i hi => (hq i hi).2.2.2.2.1, fun i hi => (hq i hi).2.2.2.2.2.1, fun i hi => (hq i hi).2.2.2.2.2.2⟩
    have h0 := (hq i hi).1
    have hs : a.spot = none := by
      have h9 := (hq 0 (by omega)).1 0 _ rfl
      unfold Addr.add at h9
      simp only [Nat.zero_mul, Nat.add_zero, if_true] at h9
      exact World.cell?_spot h9
    obtain ⟨b, o, sp⟩ := a
    simp only at hs
    subst hs
    have hadd : ∀ j, (⟨b, o, none⟩ : Addr).add (i * 17 + j) = ⟨b, o + i * 17 + j, none⟩ := fun j => by unfold Addr.add; split <;> simp_all <;> omega
    refine ⟨b, o, rfl, ?_, fun j u hj => by rw [← hadd]; exact h0 j u hj⟩
    have h9 := h0 0 _ rfl
    rw [hadd] at h9
    unfold World.cell? at h9
    cases hh : w.heap[b]? with
    | none => simp [hh] at h9
    | some x => exact (Array.getElem?_eq_some_iff.1 hh).1
end
end Go.Proofs.Ytjaaldandgfkgaa

/- An object's numbers and bytes as an argument, opened. Conditions: none. -/
namespace Go.Proofs.Ytjaaldandgfkgaa
open Go.ChangeShapes Go.WideShapes Go.ChangeAt Go.RowKit Go.Joins Go.Deep

/-- The store's name are bytes. -/
def Pln.Wf (p : Pln) : Prop := (Lit.int .u8 p.s0).wf = true ∧ (Lit.int .u8 p.s1).wf = true ∧ (Lit.int .u8 p.s2).wf = true ∧ (Lit.int .u8 p.s3).wf = true ∧ (Lit.int .u8 p.s4).wf = true ∧ (Lit.int .u8 p.s5).wf = true ∧ (Lit.int .u8 p.s6).wf = true ∧ (Lit.int .u8 p.s7).wf = true
section
variable {H : Type} {enc : TypeId × Value → H} {w : World} {base : Nat} {held : Bool}
set_option maxRecDepth 100000 in
theorem open_plain {fuel : Nat} {cs : List Value} {x : DataW H × List MemPlace} (h : DataW.trod enc Try.prog w base (fun _ => true) held fuel 64 cs = some x) (hw : ∀ n ∈ x.1.weights Try.prog 64, n ≤ reachBytes) :
    ∃ (p : Pln) (A : Option Addr) (cd : Nat) (l : List Nat) (Pk : Option Addr) (np cp : Nat) (pi : Nat → Int), cs = [.int .i64 p.K, .int .i64 p.M, .int .i64 p.B, .int .u8 p.s0, .int .u8 p.s1, .int .u8 p.s2, .int .u8 p.s3, .int .u8 p.s4, .int .u8 p.s5, .int .u8 p.s6, .int .u8 p.s7, .string p.key, .int .i64 p.ep, .int .i64 p.ct, .slice A l.length cd, .slice Pk np cp] ∧ p.Wf ∧ RL w A l ∧ l.length ≤ cd ∧ cd ≤ maxLen ∧ l.length ≤ 140737488351232 ∧ (∀ x ∈ l, x < 256) ∧ Rd w Pk np (fun i => .int .i64 (pi i)) ∧ np * 8 ≤ 140737488351232 := by
  obtain ⟨xs, n, _, hx, hlen, hxl, hg⟩ := DataW.trod_struct Try.underlying64 h
  have hc : cs.length = 16 := hlen.trans (by kernel_rfl)
  have kS : Try.prog.cellsOf 38 = 8 := by kernel_rfl
  have kB : Try.prog.cellsOf 5 = 1 := by kernel_rfl
  have kI : Try.prog.cellsOf 3 = 1 := by kernel_rfl
  have kT : Try.prog.cellsOf 9 = 1 := by kernel_rfl
  have kD : Try.prog.cellsOf 43 = 1 := by kernel_rfl
  have kN : Try.prog.cellsOf 25 = 1 := by kernel_rfl
  match cs, hc with
  | [c0, c1, c2, c3, c4, c5, c6, c7, c8, c9, c10, c11, c12, c13, c14, c15], _ =>
    have hxl' : xs.length = 9 := hxl
    have g0 : DataW.trod enc Try.prog w base (fun _ => true) held n 3 (([c0, c1, c2, c3, c4, c5, c6, c7, c8, c9, c10, c11, c12, c13, c14, c15].drop 0).take (Try.prog.cellsOf 3)) = xs[0]? := hg 0 _ rfl
    have g1 : DataW.trod enc Try.prog w base (fun _ => true) held n 3 (([c0, c1, c2, c3, c4, c5, c6, c7, c8, c9, c10, c11, c12, c13, c14, c15].drop 1).take (Try.prog.cellsOf 3)) = xs[1]? := hg 1 _ rfl
    have g2 : DataW.trod enc Try.prog w base (fun _ => true) held n 3 (([c0, c1, c2, c3, c4, c5, c6, c7, c8, c9, c10, c11, c12, c13, c14, c15].drop 2).take (Try.prog.cellsOf 3)) = xs[2]? := hg 2 _ rfl
    have g3 : DataW.trod enc Try.prog w base (fun _ => true) held n 38 (([c0, c1, c2, c3, c4, c5, c6, c7, c8, c9, c10, c11, c12, c13, c14, c15].drop 3).take (Try.prog.cellsOf 38)) = xs[3]? := hg 3 _ rfl
    have g4 : DataW.trod enc Try.prog w base (fun _ => true) held n 9 (([c0, c1, c2, c3, c4, c5, c6, c7, c8, c9, c10, c11, c12, c13, c14, c15].drop 11).take (Try.prog.cellsOf 9)) = xs[4]? := hg 4 _ rfl
    have g5 : DataW.trod enc Try.prog w base (fun _ => true) held n 3 (([c0, c1, c2, c3, c4, c5, c6, c7, c8, c9, c10, c11, c12, c13, c14, c15].drop 12).take (Try.prog.cellsOf 3)) = xs[5]? := hg 5 _ rfl
    have g6 : DataW.trod enc Try.prog w base (fun _ => true) held n 3 (([c0, c1, c2, c3, c4, c5, c6, c7, c8, c9, c10, c11, c12, c13, c14, c15].drop 13).take (Try.prog.cellsOf 3)) = xs[6]? := hg 6 _ rfl
    have g7 : DataW.trod enc Try.prog w base (fun _ => true) held n 43 (([c0, c1, c2, c3, c4, c5, c6, c7, c8, c9, c10, c11, c12, c13, c14, c15].drop 14).take (Try.prog.cellsOf 43)) = xs[7]? := hg 7 _ rfl
    have g8 : DataW.trod enc Try.prog w base (fun _ => true) held n 25 (([c0, c1, c2, c3, c4, c5, c6, c7, c8, c9, c10, c11, c12, c13, c14, c15].drop 15).take (Try.prog.cellsOf 25)) = xs[8]? := hg 8 _ rfl
    obtain ⟨x0, e0⟩ := some_of hxl' (i := 0) (by omega)
    obtain ⟨x1, e1⟩ := some_of hxl' (i := 1) (by omega)
    obtain ⟨x2, e2⟩ := some_of hxl' (i := 2) (by omega)
    obtain ⟨x3, e3⟩ := some_of hxl' (i := 3) (by omega)
    obtain ⟨x4, e4⟩ := some_of hxl' (i := 4) (by omega)
    obtain ⟨x5, e5⟩ := some_of hxl' (i := 5) (by omega)
    obtain ⟨x6, e6⟩ := some_of hxl' (i := 6) (by omega)
    obtain ⟨x7, e7⟩ := some_of hxl' (i := 7) (by omega)
    obtain ⟨x8, e8⟩ := some_of hxl' (i := 8) (by omega)
    rw [e0, kI] at g0; rw [e1, kI] at g1; rw [e2, kI] at g2; rw [e3, kS] at g3; rw [e4, kT] at g4; rw [e5, kI] at g5; rw [e6, kI] at g6; rw [e7, kD] at g7; rw [e8, kN] at g8
    simp only [List.drop_succ_cons, List.drop_zero, List.take_succ_cons, List.take_zero] at g0 g1 g2 g3 g4 g5 g6 g7 g8
    have hx1 : x.1 = .agg (xs.map (·.1)) := by rw [hx]
    obtain ⟨K, rfl, _⟩ := one_int Try.underlying3 g0
    obtain ⟨M, rfl, _⟩ := one_int Try.underlying3 g1
    obtain ⟨B, rfl, _⟩ := one_int Try.underlying3 g2
    obtain ⟨ys, m, _, _, _, hyl, hy⟩ := DataW.trod_array Try.underlying38 g3
    rw [kB] at hy
    have a0 := hy 0 (by omega)
    obtain ⟨y0, f0⟩ := some_of hyl (i := 0) (by omega)
    rw [f0] at a0
    simp only [Nat.reduceMul, List.drop_zero, List.take_succ_cons, List.take_zero] at a0
    obtain ⟨n0, rfl, w0⟩ := one_int Try.underlying5 a0
    have a1 := hy 1 (by omega)
    obtain ⟨y1, f1⟩ := some_of hyl (i := 1) (by omega)
    rw [f1] at a1
    simp only [Nat.reduceMul, List.drop_succ_cons, List.drop_zero, List.take_succ_cons, List.take_zero] at a1
    obtain ⟨n1, rfl, w1⟩ := one_int Try.underlying5 a1
    have a2 := hy 2 (by omega)
    obtain ⟨y2, f2⟩ := some_of hyl (i := 2) (by omega)
    rw [f2] at a2
    simp only [Nat.reduceMul, List.drop_succ_cons, List.drop_zero, List.take_succ_cons, List.take_zero] at a2
    obtain ⟨n2, rfl, w2⟩ := one_int Try.underlying5 a2
    have a3 := hy 3 (by omega)
    obtain ⟨y3, f3⟩ := some_of hyl (i := 3) (by omega)
    rw [f3] at a3
    simp only [Nat.reduceMul, List.drop_succ_cons, List.drop_zero, List.take_succ_cons, List.take_zero] at a3
    obtain ⟨n3, rfl, w3⟩ := one_int Try.underlying5 a3
    have a4 := hy 4 (by omega)
    obtain ⟨y4, f4⟩ := some_of hyl (i := 4) (by omega)
    rw [f4] at a4
    simp only [Nat.reduceMul, List.drop_succ_cons, List.drop_zero, List.take_succ_cons, List.take_zero] at a4
    obtain ⟨n4, rfl, w4⟩ := one_int Try.underlying5 a4
    have a5 := hy 5 (by omega)
    obtain ⟨y5, f5⟩ := some_of hyl (i := 5) (by omega)
    rw [f5] at a5
    simp only [Nat.reduceMul, List.drop_succ_cons, List.drop_zero, List.take_succ_cons, List.take_zero] at a5
    obtain ⟨n5, rfl, w5⟩ := one_int Try.underlying5 a5
    have a6 := hy 6 (by omega)
    obtain ⟨y6, f6⟩ := some_of hyl (i := 6) (by omega)
    rw [f6] at a6
    simp only [Nat.reduceMul, List.drop_succ_cons, List.drop_zero, List.take_succ_cons, List.take_zero] at a6
    obtain ⟨n6, rfl, w6⟩ := one_int Try.underlying5 a6
    have a7 := hy 7 (by omega)
    obtain ⟨y7, f7⟩ := some_of hyl (i := 7) (by omega)
    rw [f7] at a7
    simp only [Nat.reduceMul, List.drop_succ_cons, List.drop_zero, List.take_succ_cons, List.take_zero] at a7
    obtain ⟨n7, rfl, w7⟩ := one_int Try.underlying5 a7
    obtain ⟨key, rfl, _⟩ := one_string Try.underlying9 g4
    obtain ⟨ep, rfl, _⟩ := one_int Try.underlying3 g5
    obtain ⟨ct, rfl, _⟩ := one_int Try.underlying3 g6
    obtain ⟨A, nd, cd, f, rfl, hnc, hcm, hR, hnd, hf⟩ := open_bvec Try.underlying43 Try.underlying5 (by kernel_rfl) (by kernel_rfl) g7 (fun m hm => hw m (by
      rw [hx1]
      simp only [DataW.weights, Try.underlying64]
      exact DataW.weights_mem_each (j := 7) (t := 43) (d := x7.1) rfl (by rw [List.getElem?_map, e7]; rfl) m hm))
    obtain ⟨Pk, np, cp, pi, rfl, hP, hnp⟩ := open_vec Try.underlying25 Try.underlying3 (by kernel_rfl) (by kernel_rfl) g8 (fun m hm => hw m (by
      rw [hx1]
      simp only [DataW.weights, Try.underlying64]
      exact DataW.weights_mem_each (j := 8) (t := 25) (d := x8.1) rfl (by rw [List.getElem?_map, e8]; rfl) m hm))
    refine ⟨⟨K, M, B, n0, n1, n2, n3, n4, n5, n6, n7, key, ep, ct⟩, A, cd, mkL nd f, Pk, np, cp, pi, by rw [mkL_length], ⟨w0, w1, w2, w3, w4, w5, w6, w7⟩, rl_of_rd hR, by rw [mkL_length]; exact hnc, hcm, by rw [mkL_length]; exact hnd, mkL_lt hf, hP, hnp⟩
end
end Go.Proofs.Ytjaaldandgfkgaa

/- The head that fit makes is one that may be; parts of heads, compared. Conditions: as the theorems have them. -/
namespace Go.Proofs.Ytjaaldandgfkgaa
open Go.RowKit

theorem keyF_size (k : ByteArray) : 0 < (keyF k).size ∧ (keyF k).size ≤ 255 := by
  unfold keyF
  split
  · decide
  · split
    · rw [ByteArray.size_extract]; omega
    · omega
theorem fit_checkS (p : Pln) (n s i : Nat) (hs : s ≤ fitN p n) (hi : i < (1 + fK p) + (1 + fM p)) : checkE { fitH p with size := (s : Int), idx := (i : Int) } = 0 := by
  obtain ⟨h1, h2, h3, h4⟩ := fit_nums p
  obtain ⟨k1, k2⟩ := keyF_size p.key
  have hep : pickN p.ep 4294967295 < 4294967295 := pickN_lt (by decide)
  have hct : pickN p.ct 4294967295 < 4294967295 := pickN_lt (by decide)
  have hmay : MayS (1 + (fK p : Int)) (1 + (fM p : Int)) (1 + (fB p : Int)) := by unfold MayS; omega
  have hfn : fitN p n = min n (min 1048576 (4096 * (1 + fK p) * (1 + fB p))) := rfl
  have hsz : sizeE (1 + (fK p : Int)) (1 + (fM p : Int)) (1 + (fB p : Int)) (s : Int) = 0 := by
    unfold sizeE
    rw [if_pos hmay]
    unfold fitE
    have e1 : (1 + (fK p : Int)).toNat = 1 + fK p := by omega
    have e2 : (1 + (fB p : Int)).toNat = 1 + fB p := by omega
    rw [if_neg (by omega), e1, e2, if_neg]
    rintro (h | h)
    · omega
    · have hS : 0 < (1 + fK p) * (1 + fB p) := Nat.mul_pos (by omega) (by omega)
      have hm : 4096 * (1 + fK p) * (1 + fB p) = 4096 * ((1 + fK p) * (1 + fB p)) := Nat.mul_assoc _ _ _
      have h5 : nblk ((1 + fK p) * (1 + fB p)) ((s : Nat) : Int).toNat < 4097 := by
        unfold nblk
        rw [Nat.div_lt_iff_lt_mul hS]
        have : ((s : Nat) : Int).toNat = s := rfl
        rw [this]
        generalize (1 + fK p) * (1 + fB p) = S at *
        omega
      omega
  unfold checkE
  show (if ¬ MayS (1 + (fK p : Int)) (1 + (fM p : Int)) (1 + (fB p : Int)) then (4 : Int) else if (keyF p.key).size = 0 ∨ 255 < (keyF p.key).size then 90 else if sizeE (1 + (fK p : Int)) (1 + (fM p : Int)) (1 + (fB p : Int)) (s : Int) ≠ 0 then sizeE (1 + (fK p : Int)) (1 + (fM p : Int)) (1 + (fB p : Int)) (s : Int) else
    if (i : Int) < 0 ∨ (1 + (fK p : Int)) + (1 + (fM p : Int)) ≤ (i : Int) then 2 else if (1 + (pickN p.ep 4294967295 : Int)) < 1 ∨ 4294967295 < (1 + (pickN p.ep 4294967295 : Int)) ∨ (1 + (pickN p.ct 4294967295 : Int)) < 1 ∨ 4294967295 < (1 + (pickN p.ct 4294967295 : Int)) then 2 else 0) = 0
  rw [if_neg (fun h => h hmay), if_neg (by omega), hsz, if_neg (by simp), if_neg (by omega), if_neg (by omega)]
theorem fit_check (p : Pln) (n i : Nat) (hi : i < (1 + fK p) + (1 + fM p)) : checkE { fitH p with size := ((fitN p n : Nat) : Int), idx := (i : Int) } = 0 := fit_checkS p n _ i (Nat.le_refl _) hi
theorem fit_wf {p : Pln} (h : p.Wf) : HdW (fitH p) := by
  obtain ⟨w0, w1, w2, w3, w4, w5, w6, w7⟩ := h
  obtain ⟨h1, h2, h3, h4⟩ := fit_nums p
  have hk := keyF_size p.key
  have hep : pickN p.ep 4294967295 < 4294967295 := pickN_lt (by decide)
  have hct : pickN p.ct 4294967295 < 4294967295 := pickN_lt (by decide)
  exact ⟨w0, w1, w2, w3, w4, w5, w6, w7, i64_wf (n := 1 + (fK p : Int)) (by omega) (by omega), i64_wf (n := 1 + (fM p : Int)) (by omega) (by omega), i64_wf (n := 1 + (fB p : Int)) (by omega) (by omega), rfl, rfl, i64_wf (n := 1 + (pickN p.ep 4294967295 : Int)) (by omega) (by omega), i64_wf (n := 1 + (pickN p.ct 4294967295 : Int)) (by omega) (by omega), Nat.le_trans hk.2 (by decide)⟩
theorem fitN_le (p : Pln) (n : Nat) : fitN p n ≤ n := by unfold fitN; omega
theorem agg_same {t : TypeId} {cs : Array Value} {ls : List Lit} (ht : ∀ w : World, ∃ r : Bool, (Op.equalIn 10000 t (.agg cs) (.agg cs)).run Try.prog w = .ok r w ∧ (r = true ↔ ls = ls)) (w : World) : (Op.equalIn 10000 t (.agg cs) (.agg cs)).run Try.prog w = .ok true w := by
  obtain ⟨r, hr, e⟩ := ht w
  rw [e.2 rfl] at hr
  exact hr
theorem gen_same {e c : Int} (he : (Lit.int .i64 e).wf = true) (hc : (Lit.int .i64 c).wf = true) (w : World) : (Op.equalIn 10000 40 (.agg #[.int .i64 e, .int .i64 c]) (.agg #[.int .i64 e, .int .i64 c])).run Try.prog w = .ok true w := by
  have hl : Try.prog.keyLits 8 40 [.int .i64 e, .int .i64 c] = some [.int .i64 e, .int .i64 c] :=
    kl_struct (ls := [[.int .i64 e], [.int .i64 c]]) Try.underlying40 ⟨cG.symm, by decide +kernel⟩ (by
      simp only [List.mapM_cons, List.mapM_nil, cI, List.drop_zero, List.drop_succ_cons, List.take_succ_cons, List.take_zero]
      rw [kl_int Try.underlying3 he, kl_int Try.underlying3 hc]
      rfl)
  exact agg_same (fun w => run_equalIn_deep (P := Try.prog) 9992 8 40 (by kernel_rfl) w 8 8 (.agg #[.int .i64 e, .int .i64 c]) (.agg #[.int .i64 e, .int .i64 c]) _ _ (by kernel_rfl) (by kernel_rfl) hl hl) w
theorem shape_same {K M B : Int} (h1 : (Lit.int .i64 K).wf = true) (h2 : (Lit.int .i64 M).wf = true) (h3 : (Lit.int .i64 B).wf = true) (w : World) : (Op.equalIn 10000 24 (.agg #[.int .i64 K, .int .i64 M, .int .i64 B]) (.agg #[.int .i64 K, .int .i64 M, .int .i64 B])).run Try.prog w = .ok true w := by
  obtain ⟨r, hr, e⟩ := shape_eql K M B K M B h1 h2 h3 h1 h2 h3 w
  rw [e.2 ⟨rfl, rfl, rfl⟩] at hr
  exact hr
set_option maxRecDepth 100000 in
theorem store_same {h : Hd} (H : HdW h) (w : World) : (Op.equalIn 10000 38 (.agg #[.int .u8 h.s0, .int .u8 h.s1, .int .u8 h.s2, .int .u8 h.s3, .int .u8 h.s4, .int .u8 h.s5, .int .u8 h.s6, .int .u8 h.s7]) (.agg #[.int .u8 h.s0, .int .u8 h.s1, .int .u8 h.s2, .int .u8 h.s3, .int .u8 h.s4, .int .u8 h.s5, .int .u8 h.s6, .int .u8 h.s7])).run Try.prog w = .ok true w := by
  obtain ⟨w0, w1, w2, w3, w4, w5, w6, w7, _⟩ := H
  have hl : Try.prog.keyLits 8 38 [.int .u8 h.s0, .int .u8 h.s1, .int .u8 h.s2, .int .u8 h.s3, .int .u8 h.s4, .int .u8 h.s5, .int .u8 h.s6, .int .u8 h.s7] = some [.int .u8 h.s0, .int .u8 h.s1, .int .u8 h.s2, .int .u8 h.s3, .int .u8 h.s4, .int .u8 h.s5, .int .u8 h.s6, .int .u8 h.s7] := by
    have hx : ∀ x ∈ [h.s0, h.s1, h.s2, h.s3, h.s4, h.s5, h.s6, h.s7], (Lit.int .u8 x).wf = true :=
      fa_cons w0 (fa_cons w1 (fa_cons w2 (fa_cons w3 (fa_cons w4 (fa_cons w5 (fa_cons w6 (fa_cons w7 fa_nil)))))))
    have h := kl_bytes (d := 6) (xs := [h.s0, h.s1, h.s2, h.s3, h.s4, h.s5, h.s6, h.s7]) Try.underlying38 c8 rfl hx
    simp only [List.map_cons, List.map_nil] at h
    exact h
  exact agg_same (fun w => run_equalIn_deep (P := Try.prog) 9992 8 38 (by kernel_rfl) w 8 8 (.agg #[.int .u8 h.s0, .int .u8 h.s1, .int .u8 h.s2, .int .u8 h.s3, .int .u8 h.s4, .int .u8 h.s5, .int .u8 h.s6, .int .u8 h.s7]) (.agg #[.int .u8 h.s0, .int .u8 h.s1, .int .u8 h.s2, .int .u8 h.s3, .int .u8 h.s4, .int .u8 h.s5, .int .u8 h.s6, .int .u8 h.s7]) _ _ (by kernel_rfl) (by kernel_rfl) hl hl) w
theorem guard_G : Try.prog.eqGuardType Try.prog.depth 40 = false := by kernel_rfl
theorem guard_8 : Try.prog.eqGuardType Try.prog.depth 38 = false := by kernel_rfl
end Go.Proofs.Ytjaaldandgfkgaa
