/- Shards of an object of which some are lost: what Join and Piece then answer; the list in memory. Conditions: as the theorems have them. -/
import Derived.Test.YtjaaldandgfkgaaFt10
import Derived.Test.YtjaaldandgfkgaaJnB
import Derived.Test.YtjaaldandgfkgaaSplW
namespace Go.Proofs.Ytjaaldandgfkgaa
open Go.RowKit

def erH (P : Nat → Bool) (H : Nat → Hd) (t : Nat) : Hd := if P t = true then hd0 else H t
def erB (P : Nat → Bool) (BL : Nat → List (List Nat)) (t : Nat) : List (List Nat) := if P t = true then [] else BL t
theorem gone_hd0 : gone hd0 = true := rfl
theorem may_not_gone {h : Hd} (e : checkE h = 0) : gone h = false := by
  obtain ⟨⟨m1, m2, _⟩, _⟩ := check_facts e
  cases hg : gone h with
  | false => rfl
  | true => obtain ⟨a, b, c⟩ := gone_iff.1 hg; omega
theorem gone_erH {P : Nat → Bool} {H : Nat → Hd} {t : Nat} (h : gone (H t) = false) : gone (erH P H t) = P t := by
  unfold erH
  cases e : P t with
  | true => exact gone_hd0
  | false => exact h
theorem cntG_cntB {P : Nat → Bool} {H : Nat → Hd} : ∀ n, (∀ t, t < n → gone (H t) = false) → cntG (erH P H) n + cntB P n = n
  | 0, _ => rfl
  | n + 1, h => by
    have h1 := cntG_cntB (P := P) n fun t ht => h t (by omega)
    unfold cntG cntB
    rw [gone_erH (h n (by omega))]
    cases P n <;> simp <;> omega
theorem fst_ex {H : Nat → Hd} : ∀ n, 0 < cntG H n → ∃ k, FstS n H k
  | n + 1, h => by
    by_cases h1 : 0 < cntG H n
    · obtain ⟨k, h2, h3, h4⟩ := fst_ex n h1
      exact ⟨k, by omega, h3, h4⟩
    · refine ⟨n, by omega, fun t ht => ?_, ?_⟩
      · cases e : gone (H t) with
        | true => rfl
        | false =>
          exfalso
          have : ∀ m, t < m → m ≤ n → 0 < cntG H m := by
            intro m
            induction m with
            | zero => intro h; omega
            | succ m ih =>
              intro hm hn
              unfold cntG
              by_cases e2 : t = m
              · subst e2; rw [e]; simp
              · have := ih (by omega) (by omega); omega
          exact h1 (this n ht (Nat.le_refl _))
      · unfold cntG at h
        cases e : gone (H n) with
        | false => rfl
        | true => rw [e] at h; simp at h; omega
theorem spL_fit (K B : Nat) (l : List Nat) (i : Nat) : fitS K B l.length (spL K B l i) := by
  unfold fitS spL
  rw [spT_length]
  exact ⟨rfl, fun j hj => by rw [spT_get hj, spB_length]⟩
/-- Join's answer of the shards of an object, M of them or fewer lost. -/
theorem er_look {n : Nat} {H : Nat → Hd} {BL : Nat → List (List Nat)} {Z : Hd} {l : List Nat} {P : Nat → Bool} (hn : n = shN Z) (hE : ∀ t, t < n → checkE { Z with idx := (t : Int) } = 0) (hs : Z.size = (l.length : Int)) (hH : ∀ t, t < n → H t = { Z with idx := (t : Int) })
    (hB : ∀ t, t < n → BL t = spL Z.K.toNat Z.B.toNat l t) (hP : Z.K.toNat + cntB P n ≤ n) (hp : 0 < Z.K.toNat) : ∃ k, FstS n (erH P H) k ∧ P k = false ∧ erH P H k = { Z with idx := (k : Int) } ∧ LookE n (erH P H) (erB P BL) 0 ∧ Z.K.toNat ≤ cntG (erH P H) n := by
  have hg : ∀ t, t < n → gone (H t) = false := fun t ht => by rw [hH t ht]; exact may_not_gone (hE t ht)
  have hc := cntG_cntB (P := P) (H := H) n hg
  obtain ⟨k, hk⟩ := fst_ex (H := erH P H) n (by omega)
  have hPk : P k = false := by rw [← gone_erH (P := P) (hg k hk.1)]; exact hk.2.2
  have hek : erH P H k = { Z with idx := (k : Int) } := by unfold erH; rw [if_neg (by rw [hPk]; decide)]; exact hH k hk.1
  refine ⟨k, hk, hPk, hek, .inr ⟨k, hk, ?_⟩, by omega⟩
  rw [hek]
  refine .inr (.inr (.inr (.inr ⟨hE k hk.1, hn, fun u hu => ?_, ?_, rfl⟩)))
  · unfold okS erH erB
    cases e : P u with
    | true => exact .inl (by simpa using gone_hd0)
    | false =>
      refine .inr ⟨by simpa using hH u hu, ?_⟩
      show fitS Z.K.toNat Z.B.toNat Z.size.toNat _
      simp only [Bool.false_eq_true, if_false]
      rw [hB u hu, hs]
      exact spL_fit _ _ _ _
  · show Z.K.toNat ≤ _
    omega
theorem er_join {n : Nat} {H : Nat → Hd} {BL : Nat → List (List Nat)} {Z : Hd} {l l' : List Nat} {P : Nat → Bool} {er : Int} (hn : n = shN Z) (hE : ∀ t, t < n → checkE { Z with idx := (t : Int) } = 0) (hs : Z.size = (l.length : Int)) (hl : ∀ x ∈ l, x < 256) (hH : ∀ t, t < n → H t = { Z with idx := (t : Int) })
    (hB : ∀ t, t < n → BL t = spL Z.K.toNat Z.B.toNat l t) (hP : Z.K.toNat + cntB P n ≤ n) (hp : 0 < Z.K.toNat) (h : JoinR n (erH P H) (erB P BL) er l') : er = 0 ∧ l' = l := by
  obtain ⟨k, hk, hPk, hek, hL, hc⟩ := er_look hn hE hs hH hB hP hp
  have he := h.1.uniq hL
  refine ⟨he, ?_⟩
  obtain ⟨k', hk', hJ⟩ := h.2.2 he
  have := hk.uniq hk'
  subst this
  rw [hek] at hJ
  refine jn_back (Z := { Z with idx := (k : Int) }) (hE k hk.1) hn hc hs hl (fun t ht hgt => ?_) hJ
  have hPt : P t = false := by
    cases e : P t with
    | false => rfl
    | true => unfold erH at hgt; rw [e] at hgt; simp [gone_hd0] at hgt
  unfold erB
  rw [if_neg (by rw [hPt]; decide)]
  exact hB t ht
theorem er_piece {n : Nat} {H : Nat → Hd} {BL : Nat → List (List Nat)} {Z : Hd} {l l' : List Nat} {P : Nat → Bool} {er off q : Int} (hn : n = shN Z) (hE : ∀ t, t < n → checkE { Z with idx := (t : Int) } = 0) (hs : Z.size = (l.length : Int)) (hl : ∀ x ∈ l, x < 256) (hH : ∀ t, t < n → H t = { Z with idx := (t : Int) })
    (hB : ∀ t, t < n → BL t = spL Z.K.toNat Z.B.toNat l t) (hP : Z.K.toNat + cntB P n ≤ n) (hp : 0 < Z.K.toNat) (h : PieceR n (erH P H) (erB P BL) off q er l') : ((off < 0 ∨ q < 0) ∧ er = 2 ∧ l' = []) ∨ (0 ≤ off ∧ 0 ≤ q ∧ er = 0 ∧ l' = cutL l off.toNat q.toNat) := by
  obtain ⟨e0, l0, hJ, h⟩ := h
  obtain ⟨rfl, rfl⟩ := er_join hn hE hs hl hH hB hP hp hJ
  rcases h with ⟨a, _⟩ | ⟨_, b, c, d⟩ | ⟨_, b, c, d, e⟩
  · exact absurd rfl a
  · exact .inl ⟨b, c, d⟩
  · exact .inr ⟨b, c, d, e⟩

theorem hd0_wf : HdW hd0 := ⟨rfl, rfl, rfl, rfl, rfl, rfl, rfl, rfl, rfl, rfl, rfl, rfl, rfl, rfl, rfl, by decide⟩
theorem er_wf {P : Nat → Bool} {H : Nat → Hd} {t : Nat} (h : HdW (H t)) : HdW (erH P H t) := by
  unfold erH; split
  · exact hd0_wf
  · exact h
theorem er_bnd {P : Nat → Bool} {BL : Nat → List (List Nat)} {t m k : Nat} (h1 : (BL t).length ≤ m) (h2 : ∀ l ∈ BL t, l.length ≤ k) (h3 : ∀ l ∈ BL t, ∀ x ∈ l, x < 256) : (erB P BL t).length ≤ m ∧ (∀ l ∈ erB P BL t, l.length ≤ k) ∧ ∀ l ∈ erB P BL t, ∀ x ∈ l, x < 256 := by
  unfold erB; split
  · exact ⟨by simp, by simp, by simp⟩
  · exact ⟨h1, h2, h3⟩
theorem spl_row {h : Hd} (l : List Nat) (e : checkE h = 0) (i : Nat) : ∀ y ∈ spL h.K.toNat h.B.toNat l i, y.length ≤ 65536 := fun y hy => by
  unfold spL spT at hy
  obtain ⟨j, hj, rfl⟩ := List.mem_map.1 hy
  rw [spB_length]
  obtain ⟨⟨m1, m2, m3, m4, m5, m6⟩, _⟩ := check_facts e
  have := (blen_facts (K := h.K.toNat) (B := h.B.toNat) (by omega) (by omega) (List.mem_range.1 hj)).2.1
  omega

/-! ## the list in memory -/
def erC (P : Nat → Bool) (H : Nat → Hd) (V : Nat → Value) (t : Nat) : List Value := sdC (erH P H t) (if P t = true then .slice none 0 0 else V t)
structure ErSd (w : World) (B g c n : Nat) (H : Nat → Hd) (V : Nat → Value) (BL : Nat → List (List Nat)) (T : Nat → Nat) (P : Nat → Bool) : Prop where
  top : Own w B 69 17 (.slice (some ⟨g, 0, none⟩) n c) n (erC P H V)
  blk : ∀ i, i < n → OwnBk w (T i) (T (i + 1)) (V i) (BL i)
  lo : g < T 0
  mono : ∀ i, i < n → T i ≤ T (i + 1)
theorem OwnSd.er {w : World} {B g c n : Nat} {H : Nat → Hd} {V : Nat → Value} {BL : Nat → List (List Nat)} {T : Nat → Nat} (h : OwnSd w B g c n H V BL T) : ErSd w B g c n H V BL T (fun _ => false) :=
  ⟨h.top, h.blk, h.lo, h.mono⟩
theorem ErSd.kept {w w' : World} {B g c n : Nat} {H : Nat → Hd} {V : Nat → Value} {BL : Nat → List (List Nat)} {T : Nat → Nat} {P : Nat → Bool} (h : ErSd w B g c n H V BL T P) (hb : Below w.heap.size w w') : ErSd w' B g c n H V BL T P :=
  ⟨h.top.kept hb, fun i hi => (h.blk i hi).kept hb, h.lo, h.mono⟩
theorem ErSd.congr {w : World} {B g c n : Nat} {H : Nat → Hd} {V : Nat → Value} {BL : Nat → List (List Nat)} {T : Nat → Nat} {P P' : Nat → Bool} (h : ErSd w B g c n H V BL T P) (e : ∀ t, t < n → P' t = P t) : ErSd w B g c n H V BL T P' :=
  ⟨h.top.congr fun i hi => by unfold erC erH; rw [e i hi], h.blk, h.lo, h.mono⟩
theorem T_lo {n : Nat} {T : Nat → Nat} (h : ∀ i, i < n → T i ≤ T (i + 1)) : ∀ i, i ≤ n → T 0 ≤ T i
  | 0, _ => Nat.le_refl _
  | i + 1, hi => Nat.le_trans (T_lo h i (by omega)) (h i (by omega))
theorem ErSd.cur {w : World} {B g c n : Nat} {H : Nat → Hd} {V : Nat → Value} {BL : Nat → List (List Nat)} {T : Nat → Nat} {P : Nat → Bool} (h : ErSd w B g c n H V BL T P) : ∃ cur, w.heap[g]? = some (.cells cur 69 (0, 0)) ∧ cur.size = c * 17 ∧ n ≤ c ∧ B ≤ g := h.top.cur
/-- One more is lost. -/
theorem ErSd.erase {w w' : World} {B g c n i : Nat} {H : Nat → Hd} {V : Nat → Value} {BL : Nat → List (List Nat)} {T : Nat → Nat} {P : Nat → Bool} {cur : Array Value} (h : ErSd w B g c n H V BL T P) (hi : i < n) (hg : w.heap[g]? = some (.cells cur 69 (0, 0)))
    (hw : w'.heap[g]? = some (.cells (cur.toList.take (i * 17) ++ sdC hd0 (.slice none 0 0) ++ cur.toList.drop (i * 17 + 17)).toArray 69 (0, 0))) (hgr : w.grownBy w' (some g)) : ErSd w' B g c n H V BL T (fun t => if t = i then true else P t) := by
  refine ⟨(Own.part (i := i) (j := 0) (cs := sdC hd0 (.slice none 0 0)) h.top (fun _ _ => sdC_len _ _) hg hi (by rw [sdC_len]; decide) (by rw [Nat.add_zero, sdC_len]; exact hw)).congr fun t ht => ?_, fun t ht => ?_, h.lo, h.mono⟩
  · unfold erC erH
    by_cases e : t = i
    · subst e
      simp [sdC_len]
    · simp [e]
  · have h1 := Nat.lt_of_lt_of_le h.lo (T_lo h.mono t (by omega))
    obtain ⟨⟨S, C, h2, h3⟩, h4⟩ := h.blk t ht
    exact ⟨⟨S, C, h2.row_ h1 hgr, h3⟩, h4⟩
theorem ErSd.rsd {w : World} {B g c n : Nat} {H : Nat → Hd} {V : Nat → Value} {BL : Nat → List (List Nat)} {T : Nat → Nat} {P : Nat → Bool} (h : ErSd w B g c n H V BL T P) : RSd w (some ⟨g, 0, none⟩) n (erH P H) (erB P BL) := by
  have hv : ∀ i, ∃ A c, i < n → (if P i = true then .slice none 0 0 else V i) = Value.slice A (erB P BL i).length c ∧ RLL w A (erB P BL i) ∧ (erB P BL i).length ≤ c := fun i => by
    by_cases hi : i < n
    · unfold erB
      cases e : P i with
      | true => exact ⟨none, 0, fun _ => ⟨by simp, by simpa using RLL.nil _ _, by simp⟩⟩
      | false =>
        obtain ⟨A, c, e, hc, hr⟩ := (h.blk i hi).rd
        exact ⟨A, c, fun _ => ⟨by simpa using e, by simpa using hr, by simpa using hc⟩⟩
    · exact ⟨none, 0, fun h => absurd h hi⟩
  refine ⟨fun i => Classical.choose (hv i), fun i => Classical.choose (Classical.choose_spec (hv i)), ?_, fun i hi => (Classical.choose_spec (Classical.choose_spec (hv i)) hi).2⟩
  refine (h.top.rdC fun _ _ => sdC_len _ _).congr fun i hi => ?_
  show sdC _ _ = _
  rw [(Classical.choose_spec (Classical.choose_spec (hv i)) hi).1]
end Go.Proofs.Ytjaaldandgfkgaa

/- awake of the law's page: the walk. Conditions: none. -/
namespace Go.Proofs.Ytjaaldandgfkgaa
open Go.RowKit

def awH : Hd := ⟨0, 0, 0, 0, 0, 0, 0, 0, 2, 1, 4, ⟨#[97]⟩, 0, 0, 1, 1⟩
def awL : List Nat := [0, 1, 2, 3, 4, 5, 6, 7, 8, 9]
def awZ : Hd := { awH with size := (awL.length : Int), idx := 0 }
theorem aw_check : ∀ t : Nat, t < 3 → checkE { awZ with idx := (t : Int) } = 0 := by decide +kernel
theorem aw_lt : ∀ x ∈ awL, x < 256 := by decide
theorem aw_one : spL 2 4 awL 1 = [[4, 5, 6, 7], [9]] := by decide +kernel
theorem aw_two : spL 2 4 awL 2 = [[8, 9, 10, 11], [10]] := by decide +kernel
theorem aw_len (i : Nat) : (spL 2 4 awL i).length = 2 := by unfold spL; rw [spT_length]; decide +kernel
theorem aw_wf (t : Nat) (ht : t < 3) : HdW { awZ with idx := (t : Int) } := hdw_spl (h := awH) ⟨rfl, rfl, rfl, rfl, rfl, rfl, rfl, rfl, rfl, rfl, rfl, rfl, rfl, rfl, rfl, by decide⟩ 10 t (by omega) (by omega)
theorem aw_str : ((strL awL).toList == [0, 1, 2, 3, 4, 5, 6, 7, 8, 9]) = true := by decide +kernel
theorem lit_rll (w : World) (a b c d e : Nat) : RLL (((w.alloc (.cells #[.int .u8 (a : Int), .int .u8 (b : Int), .int .u8 (c : Int), .int .u8 (d : Int)] 5)).alloc (.cells #[.int .u8 (e : Int)] 5)).alloc (.cells #[.slice (some ⟨w.heap.size, 0, none⟩) 4 4, .slice (some ⟨w.heap.size + 1, 0, none⟩) 1 1] 43)) (some ⟨w.heap.size + 2, 0, none⟩) [[a, b, c, d], [e]] := by
  generalize h1 : w.alloc (.cells #[.int .u8 (a : Int), .int .u8 (b : Int), .int .u8 (c : Int), .int .u8 (d : Int)] 5) = w1
  have s1 : w1.heap.size = w.heap.size + 1 := by rw [← h1]; simp
  have g1 : w1.heap[w.heap.size]? = some (.cells #[.int .u8 (a : Int), .int .u8 (b : Int), .int .u8 (c : Int), .int .u8 (d : Int)] 5 (0, 0)) := by rw [← h1]; exact heap_alloc_new w _
  generalize h2 : w1.alloc (.cells #[.int .u8 (e : Int)] 5) = w2
  have s2 : w2.heap.size = w.heap.size + 2 := by rw [← h2]; simp [s1]
  have g2 : w2.heap[w.heap.size]? = some (.cells #[.int .u8 (a : Int), .int .u8 (b : Int), .int .u8 (c : Int), .int .u8 (d : Int)] 5 (0, 0)) := by rw [← h2, heap_alloc_old w1 _ (by omega)]; exact g1
  have g3 : w2.heap[w.heap.size + 1]? = some (.cells #[.int .u8 (e : Int)] 5 (0, 0)) := by rw [← h2, ← s1]; exact heap_alloc_new w1 _
  refine ⟨fun i => if i = 0 then some ⟨w.heap.size, 0, none⟩ else some ⟨w.heap.size + 1, 0, none⟩, fun i => if i = 0 then 4 else 1, fun i hi => ⟨w.heap.size + 2, 0, rfl, by simp [s2], ?_⟩, fun i hi j hj => ?_⟩
  · have h5 : (w2.alloc (.cells #[.slice (some ⟨w.heap.size, 0, none⟩) 4 4, .slice (some ⟨w.heap.size + 1, 0, none⟩) 1 1] 43)).heap[w.heap.size + 2]? = some (.cells #[.slice (some ⟨w.heap.size, 0, none⟩) 4 4, .slice (some ⟨w.heap.size + 1, 0, none⟩) 1 1] 43 (0, 0)) := by rw [← s2]; exact heap_alloc_new w2 _
    rw [cell_of_row _ _ (0 + i) _ _ (0, 0) h5]
    have hi : i < 2 := hi
    rcases i with _ | _ | i
    · rfl
    · rfl
    · omega
  · have hi : i < 2 := hi
    rcases i with _ | _ | i
    · have h6 : (w2.alloc (.cells #[.slice (some ⟨w.heap.size, 0, none⟩) 4 4, .slice (some ⟨w.heap.size + 1, 0, none⟩) 1 1] 43)).heap[w.heap.size]? = some (.cells #[.int .u8 (a : Int), .int .u8 (b : Int), .int .u8 (c : Int), .int .u8 (d : Int)] 5 (0, 0)) := by rw [heap_alloc_old w2 _ (by omega)]; exact g2
      refine ⟨w.heap.size, 0, rfl, by simp [s2]; omega, ?_⟩
      rw [cell_of_row _ _ (0 + j) _ _ (0, 0) h6]
      have hj : j < 4 := hj
      rcases j with _ | _ | _ | _ | j
      · rfl
      · rfl
      · rfl
      · rfl
      · omega
    · have h6 : (w2.alloc (.cells #[.slice (some ⟨w.heap.size, 0, none⟩) 4 4, .slice (some ⟨w.heap.size + 1, 0, none⟩) 1 1] 43)).heap[w.heap.size + 1]? = some (.cells #[.int .u8 (e : Int)] 5 (0, 0)) := by rw [heap_alloc_old w2 _ (by omega)]; exact g3
      refine ⟨w.heap.size + 1, 0, rfl, by simp [s2], ?_⟩
      rw [cell_of_row _ _ (0 + j) _ _ (0, 0) h6]
      have hj : j < 1 := hj
      obtain rfl : j = 0 := by omega
      rfl
    · omega
set_option maxRecDepth 100000 in
set_option maxHeartbeats 4000000 in
theorem awake_any (w : World) : Calls Try.prog 33 #[] w fun e w' => e = .returned (.bool true) ∧ Below w.heap.size w w' := by
  go_enter Try.func33, Try.ntmps33
  go_wp2_with fail
  refine (some_any _).mono ?_
  rintro e w1 ⟨rfl, hb1⟩
  have HB1 := Lib.hid hb1
  have hs1 := hb1.size
  clear hb1
  go_wp2_with fail
  have hlA : RL (w1.alloc (.cells #[.int .u8 0, .int .u8 1, .int .u8 2, .int .u8 3, .int .u8 4, .int .u8 5, .int .u8 6, .int .u8 7, .int .u8 8, .int .u8 9] 5)) (some ⟨w1.heap.size, 0, none⟩) awL := fun i hi => by
    have hi : i < 10 := hi
    refine ⟨_, _, rfl, by simp, ?_⟩
    rw [cell_of_row _ _ (0 + i) _ _ (0, 0) (heap_alloc_new w1 _)]
    rcases i with _ | _ | _ | _ | _ | _ | _ | _ | _ | _ | i <;> first | rfl | omega
  have hb2 := (Below.refl w1.heap.size w1).alloc (Nat.le_refl _) (.cells #[.int .u8 0, .int .u8 1, .int .u8 2, .int .u8 3, .int .u8 4, .int .u8 5, .int .u8 6, .int .u8 7, .int .u8 8, .int .u8 9] 5)
  have HB2 := Lib.hid (HB1.out.trans (hb2.mono hs1))
  refine (split_any awH (some ⟨w1.heap.size, 0, none⟩) 10 awL _ aw_lt (by decide) (by decide) (by decide) hlA).mono ?_
  rintro e w3 ⟨hb3, _, h3⟩
  obtain ⟨g, V, T, rfl, _, hO⟩ : ∃ g V T, e = .returned (.tuple #[.slice (some ⟨g, 0, none⟩) 3 3, .int .i64 0]) ∧ (w1.alloc (.cells #[.int .u8 0, .int .u8 1, .int .u8 2, .int .u8 3, .int .u8 4, .int .u8 5, .int .u8 6, .int .u8 7, .int .u8 8, .int .u8 9] 5)).heap.size ≤ g ∧ OwnSd w3 (w1.alloc (.cells #[.int .u8 0, .int .u8 1, .int .u8 2, .int .u8 3, .int .u8 4, .int .u8 5, .int .u8 6, .int .u8 7, .int .u8 8, .int .u8 9] 5)).heap.size g 3 3 (fun i => { awZ with idx := (i : Int) }) V (fun i => spL 2 4 awL i) T := h3 (aw_check 0 (by decide))
  have HB3 := Lib.hid (HB2.out.trans (hb3.mono HB2.out.size))
  have HO := Lib.hid hO
  clear hlA hb2 hb3 h3 hO
  obtain ⟨A1, c1, e1, _, hr1⟩ := (HO.out.blk 1 (by decide)).rd
  rw [aw_one] at e1 hr1
  obtain ⟨A2, c2, e2, _, hr2⟩ := (HO.out.blk 2 (by decide)).rd
  rw [aw_two] at e2 hr2
  have KR1 : Hid (∀ w', Below w3.heap.size w3 w' → RLL w' A1 [[4, 5, 6, 7], [9]]) := Lib.hid fun w' hb => hr1.below hb
  have KR2' : Hid (∀ w', Below w3.heap.size w3 w' → RLL w' A2 [[8, 9, 10, 11], [10]]) := Lib.hid fun w' hb => hr2.below hb
  have hgl : g < w3.heap.size := (HO.out.top.lt g rfl).2
  have KC1 : Hid (∀ w', Below w3.heap.size w3 w' → w'.cell? ⟨g, 33, none⟩ = some (.slice A1 2 c1)) := Lib.hid fun w' hb => by
    rw [hb.cell (p := ⟨g, 33, none⟩) hgl]
    have := HO.out.top.cellN (fun _ _ => sdC_len _ _) (show 1 < 3 by decide) (show 16 < 17 by decide)
    rw [this]
    exact congrArg some e1
  have KC2' : Hid (∀ w', Below w3.heap.size w3 w' → w'.cell? ⟨g, 50, none⟩ = some (.slice A2 2 c2)) := Lib.hid fun w' hb => by
    rw [hb.cell (p := ⟨g, 50, none⟩) hgl]
    have := HO.out.top.cellN (fun _ _ => sdC_len _ _) (show 2 < 3 by decide) (show 16 < 17 by decide)
    rw [this]
    exact congrArg some e2
  clear e1 e2 hr1 hr2
  have k1 : w3.cell? ⟨g, 33, none⟩ = some (.slice A1 2 c1) := KC1.out _ (Below.refl _ _)
  go_wp2_with fail
  have hR1 := lit_rll w3 4 5 6 7 9
  have hbl1 := (((Below.refl w3.heap.size w3).alloc (Nat.le_refl _) (.cells #[.int .u8 4, .int .u8 5, .int .u8 6, .int .u8 7] 5)).alloc (by simp) (.cells #[.int .u8 9] 5)).alloc (by simp; omega) (.cells #[.slice (some ⟨w3.heap.size, 0, none⟩) 4 4, .slice (some ⟨w3.heap.size + 1, 0, none⟩) 1 1] 43)
  have HBL1 := Lib.hid hbl1
  refine (same_any A1 (some ⟨w3.heap.size + 2, 0, none⟩) 2 c1 2 _ _ _ (by decide) (fun p hp q hq => getD_lt (b := 256) (l := ([[4, 5, 6, 7], [9]] : List (List Nat)).getD p []) (by
    have hp : p < 2 := hp
    rcases p with _ | _ | p
    · decide
    · decide
    · omega) hq) (rdm_rll (KR1.out _ hbl1)) (rdm_rll hR1)).mono ?_
  rintro e w5 ⟨rfl, hd1⟩
  have HBn1 : Hid (Below w3.heap.size w3 w5) := Lib.hid (HBL1.out.trans ((hd1.below _).mono HBL1.out.size))
  clear k1 hR1 hbl1 hd1 HBL1
  have KR2 : Hid (∀ w', Below w5.heap.size w5 w' → RLL w' A2 [[8, 9, 10, 11], [10]]) := Lib.hid fun w' hb => KR2'.out w' (HBn1.out.trans (hb.mono HBn1.out.size))
  have KC2 : Hid (∀ w', Below w5.heap.size w5 w' → w'.cell? ⟨g, 50, none⟩ = some (.slice A2 2 c2)) := Lib.hid fun w' hb => KC2'.out w' (HBn1.out.trans (hb.mono HBn1.out.size))
  have k2 : w5.cell? ⟨g, 50, none⟩ = some (.slice A2 2 c2) := KC2.out _ (Below.refl _ _)
  go_wp2_with fail
  have hR2 := lit_rll w5 8 9 10 11 10
  have hbl2 := (((Below.refl w5.heap.size w5).alloc (Nat.le_refl _) (.cells #[.int .u8 8, .int .u8 9, .int .u8 10, .int .u8 11] 5)).alloc (by simp) (.cells #[.int .u8 10] 5)).alloc (by simp; omega) (.cells #[.slice (some ⟨w5.heap.size, 0, none⟩) 4 4, .slice (some ⟨w5.heap.size + 1, 0, none⟩) 1 1] 43)
  have HBL2 := Lib.hid hbl2
  refine (same_any A2 (some ⟨w5.heap.size + 2, 0, none⟩) 2 c2 2 _ _ _ (by decide) (fun p hp q hq => getD_lt (b := 256) (l := ([[8, 9, 10, 11], [10]] : List (List Nat)).getD p []) (by
    have hp : p < 2 := hp
    rcases p with _ | _ | p
    · decide
    · decide
    · omega) hq) (rdm_rll (KR2.out _ hbl2)) (rdm_rll hR2)).mono ?_
  rintro e w7 ⟨rfl, hd2⟩
  have HBn2 : Hid (Below w5.heap.size w5 w7) := Lib.hid (HBL2.out.trans ((hd2.below _).mono HBL2.out.size))
  clear k2 hR2 hbl2 hd2 HBL2
  have HE7 := Lib.hid ((HO.out.kept (HBn1.out.trans (HBn2.out.mono HBn1.out.size))).er)
  have HB7 := Lib.hid (HB3.out.trans ((HBn1.out.mono HB3.out.size).trans (HBn2.out.mono (Nat.le_trans HB3.out.size HBn1.out.size))))
  clear KR1 KR2 KR2' KC1 KC2 KC2' HBn1 HBn2 HO
  obtain ⟨cur, hcur, hcz, _, hBg⟩ := HE7.out.cur
  have HCUR := Lib.hid hcur
  clear hcur
  go_wp2_with (refine wpList_storePart rfl 69 (.tmp 42) (.tmp 41) rfl g 0 #[.int .u8 0, .int .u8 0, .int .u8 0, .int .u8 0, .int .u8 0, .int .u8 0, .int .u8 0, .int .u8 0, .int .i64 0, .int .i64 0, .int .i64 0, .string ⟨#[]⟩, .int .i64 0, .int .i64 0, .int .i64 0, .int .i64 0, .slice none 0 0] rfl rfl (by kernel_rfl) 69 cur (by rw [hcz]; decide) HCUR.out rfl ?_)
  intro w8 hw8 hg8 _
  have HE8 := Lib.hid (HE7.out.erase (i := 0) (by decide) HCUR.out hw8 hg8)
  have HB8 : Hid (Below w.heap.size w w8) := Lib.hid ⟨hg8.os.trans HB7.out.os, hg8.tape.trans HB7.out.tape, hg8.output.trans HB7.out.output, Nat.le_trans HB7.out.size hg8.size, fun i hi => (hg8.block i (by have := HB7.out.size; omega) (fun e => by
    injection e with e
    have h1 := HB2.out.size
    omega)).trans (HB7.out.block i hi)⟩
  clear hw8 hg8 HE7 HB7 HCUR
  go_wp2_with fail
  have HJ := Lib.hid (fun (er : Int) (l' : List Nat) (h : JoinR 3 (erH (fun t => if t = 0 then true else false) fun i => { awZ with idx := (i : Int) }) (erB (fun t => if t = 0 then true else false) fun i => spL 2 4 awL i) er l') => er_join (Z := awZ) (l := awL) (by decide) aw_check rfl aw_lt (fun t _ => rfl) (fun t _ => rfl) (by decide) (by decide) h)
  have HBD : Hid (∀ t, t < 3 → _) := Lib.hid fun t (_ : t < 3) => er_bnd (P := fun t => if t = 0 then true else false) (BL := fun i => spL 2 4 awL i) (t := t) (m := 140737488351232) (k := 140737488351232) (by show (spL 2 4 awL t).length ≤ _; rw [aw_len]; decide) (fun y hy => Nat.le_trans (spl_row (h := awZ) awL (aw_check 0 (by decide)) t y hy) (by decide)) (spl_lt 2 4 awL t)
  refine (join_all (some ⟨g, 0, none⟩) 3 3 _ _ w8 (by decide) (fun t ht => er_wf (aw_wf t ht)) HE8.out.rsd (fun t ht => (HBD.out t ht).1) (fun t ht => (HBD.out t ht).2.1) (fun t ht => (HBD.out t ht).2.2)).mono ?_
  rintro e w9 ⟨er, l', A9, c9, rfl, hJ, hO9, hb9⟩
  obtain ⟨rfl, rfl⟩ := HJ.out er l' hJ
  have hcv := conv_strL c9 aw_lt (own_rl' hO9)
  have HB9 := Lib.hid (HB8.out.trans (hb9.mono HB8.out.size))
  have hst := aw_str
  clear hJ hO9 hb9 HJ HBD HE8
  go_wp2
  go_ret
  exact ⟨rfl, HB9.out⟩
end Go.Proofs.Ytjaaldandgfkgaa
