/- A byte written in a shard that was answered; what Join says of shards of any bytes. Conditions: as the theorems have them. -/
import Derived.Test.YtjaaldandgfkgaaOpnS
namespace Go.Proofs.Ytjaaldandgfkgaa
open Go.RowKit

theorem fit_same {K B s : Nat} {X Y : List (List Nat)} (h : fitS K B s X) (h1 : Y.length = X.length) (h2 : ∀ r, r < X.length → (Y.getD r []).length = (X.getD r []).length) : fitS K B s Y :=
  ⟨h1.trans h.1, fun j hj => by rw [h1] at hj; rw [h2 j hj]; exact h.2 j hj⟩
/-- Row r's bytes in memory, and how one is written. -/
theorem OwnBk.row_at {w : World} {B T : Nat} {V : Value} {LL : List (List Nat)} (h : OwnBk w B T V LL) {r k : Nat} (hr : r < LL.length) (hk : k < (LL.getD r []).length) : ∃ t c s C, V = .slice (some ⟨t, 0, none⟩) LL.length c ∧ LL.length ≤ c ∧ B ≤ t ∧ t < T ∧ w.cell? ⟨t, r, none⟩ = some (.slice (some ⟨s, 0, none⟩) (LL.getD r []).length C) ∧ B ≤ s ∧ s < T ∧ s < w.heap.size ∧
    w.cell? ⟨s, k, none⟩ = some (.int .u8 (((LL.getD r []).getD k 0 : Nat) : Int)) ∧ w.frozen? ⟨s, k, none⟩ = false ∧ (∀ x : Nat, OwnBk (w.setCell ⟨s, k, none⟩ (.int .u8 (x : Int))) B T V (LL.set r ((LL.getD r []).set k x))) ∧ ∀ (B' bo no co : Nat) (f : Nat → List Value), Own w B' 3 1 (.slice (some ⟨bo, 0, none⟩) no co) no f → bo ≠ s := by
  obtain ⟨⟨S, C, h1, h2⟩, h3⟩ := h
  obtain ⟨t, c, rfl, _, _, hc, _⟩ := h1.top.form (by omega)
  have hrow := h1.row r hr
  unfold rowV at hrow
  obtain ⟨s, c2, e, hs1, hs2, _, hf⟩ := hrow.own.form (by omega)
  injection e with e1 _ e3
  have hob : (rowV S C LL r).ownBlock = some s := by unfold rowV; rw [e1]; rfl
  have hrow2 := hrow.own
  rw [e1] at hrow2
  refine ⟨t, c, s, C r, rfl, hc, (h1.top.lt t rfl).1, h3 t rfl, ?_, hs1, h2 r hr s hob, hs2, hrow2.cell1 hk, hf k, fun x => ⟨⟨S, C, h1.setByte hr hk e1 x, fun i hi q hq => ?_⟩, h3⟩, fun B' bo no co f ho e => ?_⟩
  · rw [h1.top.cell1 hr]
    unfold rowV; rw [e1]
  · have hi' : i < LL.length := by rw [List.length_set] at hi; exact hi
    refine h2 i hi' q ?_
    rw [← hq]
    unfold rowV
    by_cases e : i = r
    · subst e
      have : ((LL.set i ((LL.getD i []).set k x)).getD i []).length = (LL.getD i []).length := by
        rw [List.getD_eq_getElem?_getD, List.getElem?_set]
        simp [hi']
      rw [this]
    · have : (LL.set r ((LL.getD r []).set k x)).getD i [] = LL.getD i [] := by
        rw [List.getD_eq_getElem?_getD, List.getElem?_set, if_neg (fun e' => e e'.symm), ← List.getD_eq_getElem?_getD]
      rw [this]
  · rcases own_ne ho hrow2 (by decide) with h | h
    · cases h
    · exact h (by rw [e]; rfl)
/-- A byte of shard q is written. -/
theorem OwnSd.setB {w : World} {B g c n q s k : Nat} {x : Value} {H : Nat → Hd} {V : Nat → Value} {BL : Nat → List (List Nat)} {T : Nat → Nat} {X : List (List Nat)} (h : OwnSd w B g c n H V BL T) (hq : q < n) (hs1 : T q ≤ s) (hs2 : s < T (q + 1)) (hX : OwnBk (w.setCell ⟨s, k, none⟩ x) (T q) (T (q + 1)) (V q) X) :
    OwnSd (w.setCell ⟨s, k, none⟩ x) B g c n H V (upd BL q X) T := by
  refine ⟨h.top.setOther (a := ⟨s, k, none⟩) (fun e => ?_) x, fun i hi => ?_, h.lo, h.mono⟩
  · have e : some g = some s := e
    injection e with e
    have := T_lo h.mono q (by omega)
    have := h.lo
    omega
  · by_cases e : i = q
    · subst e; rw [upd_at]; exact hX
    · rw [upd_ne _ _ _ e]
      refine (h.blk i hi).set ?_ x
      rcases Nat.lt_or_ge i q with h1 | h1
      · refine .inr (Nat.le_trans ?_ hs1)
        have : ∀ m, i + 1 ≤ m → m ≤ n → T (i + 1) ≤ T m := by
          intro m
          induction m with
          | zero => intro h; omega
          | succ m ih =>
            intro hm hn
            by_cases e2 : i = m
            · subst e2; exact Nat.le_refl _
            · exact Nat.le_trans (ih (by omega) (by omega)) (h.mono m (by omega))
        exact this q h1 (by omega)
      · refine .inl (Nat.lt_of_lt_of_le hs2 ?_)
        have : ∀ m, q + 1 ≤ m → m ≤ n → T (q + 1) ≤ T m := by
          intro m
          induction m with
          | zero => intro h; omega
          | succ m ih =>
            intro hm hn
            by_cases e2 : q = m
            · subst e2; exact Nat.le_refl _
            · exact Nat.le_trans (ih (by omega) (by omega)) (h.mono m (by omega))
        exact this i (by omega) (by omega)
theorem row_set_len {LL : List (List Nat)} {r k x : Nat} : (LL.set r ((LL.getD r []).set k x)).length = LL.length ∧ ∀ i, ((LL.set r ((LL.getD r []).set k x)).getD i []).length = (LL.getD i []).length := by
  refine ⟨List.length_set .., fun i => ?_⟩
  rw [List.getD_eq_getElem?_getD, List.getElem?_set]
  by_cases e : r = i
  · subst e
    rw [if_pos rfl]
    by_cases h : r < LL.length
    · rw [if_pos h]; simp
    · rw [if_neg h]
      rw [List.getD_eq_getElem?_getD, List.getElem?_eq_none (by omega)]
  · rw [if_neg e, ← List.getD_eq_getElem?_getD]
theorem row_set_lt {LL : List (List Nat)} {r k x : Nat} (hx : x < 256) (h : ∀ l ∈ LL, ∀ y ∈ l, y < 256) : ∀ l ∈ LL.set r ((LL.getD r []).set k x), ∀ y ∈ l, y < 256 := fun l hl y hy => by
  rcases List.mem_or_eq_of_mem_set hl with hl | rfl
  · exact h l hl y hy
  · rcases List.mem_or_eq_of_mem_set hy with hy | rfl
    · rcases Nat.lt_or_ge r LL.length with h1 | h1
      · exact h _ (memL_get' h1) y hy
      · rw [List.getD_eq_getElem?_getD, List.getElem?_eq_none h1] at hy
        simp at hy
    · exact hx
/-- Join's answer of shards of any bytes, M of them or fewer lost. -/
theorem er_lookF {n : Nat} {H : Nat → Hd} {BL : Nat → List (List Nat)} {Z : Hd} {P : Nat → Bool} (hn : n = shN Z) (hE : ∀ t, t < n → checkE { Z with idx := (t : Int) } = 0) (hH : ∀ t, t < n → H t = { Z with idx := (t : Int) })
    (hB : ∀ t, t < n → fitS Z.K.toNat Z.B.toNat Z.size.toNat (BL t)) (hP : Z.K.toNat + cntB P n ≤ n) (hp : 0 < Z.K.toNat) : ∃ k, FstS n (erH P H) k ∧ P k = false ∧ erH P H k = { Z with idx := (k : Int) } ∧ LookE n (erH P H) (erB P BL) 0 ∧ cntG (erH P H) n + cntB P n = n := by
  have hg : ∀ t, t < n → gone (H t) = false := fun t ht => by rw [hH t ht]; exact may_not_gone (hE t ht)
  have hc := cntG_cntB (P := P) (H := H) n hg
  obtain ⟨k, hk⟩ := fst_ex (H := erH P H) n (by omega)
  have hPk : P k = false := by rw [← gone_erH (P := P) (hg k hk.1)]; exact hk.2.2
  have hek : erH P H k = { Z with idx := (k : Int) } := by unfold erH; rw [if_neg (by rw [hPk]; decide)]; exact hH k hk.1
  refine ⟨k, hk, hPk, hek, .inr ⟨k, hk, ?_⟩, hc⟩
  rw [hek]
  refine .inr (.inr (.inr (.inr ⟨hE k hk.1, hn, fun u hu => ?_, ?_, rfl⟩)))
  · unfold okS erH erB
    cases e : P u with
    | true => exact .inl (by simpa using gone_hd0)
    | false =>
      refine .inr ⟨by simpa using hH u hu, ?_⟩
      show fitS Z.K.toNat Z.B.toNat Z.size.toNat _
      simp only [Bool.false_eq_true, if_false]
      exact hB u hu
  · show Z.K.toNat ≤ _
    omega
/-- The object that Join makes of K shards that stand has them. -/
theorem open_join {n : Nat} {H : Nat → Hd} {BL : Nat → List (List Nat)} {Z : Hd} {l' : List Nat} {P : Nat → Bool} {er : Int} (hn : n = shN Z) (hE : ∀ t, t < n → checkE { Z with idx := (t : Int) } = 0) (hH : ∀ t, t < n → H t = { Z with idx := (t : Int) }) (hd : Z.K.toNat ∣ Z.size.toNat)
    (hB : ∀ t, t < n → fitS Z.K.toNat Z.B.toNat Z.size.toNat (BL t)) (hX : ∀ t, t < n → ∀ l ∈ BL t, ∀ x ∈ l, x < 256) (hP : Z.K.toNat + cntB P n = n) (hp : 0 < Z.K.toNat) (h : JoinR n (erH P H) (erB P BL) er l') :
    er = 0 ∧ l'.length = Z.size.toNat ∧ (∀ x ∈ l', x < 256) ∧ ∀ t, t < n → P t = false → spL Z.K.toNat Z.B.toNat l' t = BL t := by
  obtain ⟨k, hk, hPk, hek, hL, hc⟩ := er_lookF (P := P) hn hE hH hB (by omega) hp
  have he := h.1.uniq hL
  refine ⟨he, ?_⟩
  have hlt := h.lt
  obtain ⟨k', hk', hJ⟩ := h.2.2 he
  have := hk.uniq hk'
  subst this
  rw [hek] at hJ
  have hg : ∀ t, t < n → (gone (erH P H t) = false ↔ P t = false) := fun t ht => by rw [gone_erH (by rw [hH t ht]; exact may_not_gone (hE t ht))]
  obtain ⟨h1, h2⟩ := opn_split (Z := { Z with idx := (k : Int) }) (hE k hk.1) hn (by show _ = Z.K.toNat; omega) hd (fun t ht hgt => by
    have hPt := (hg t ht).1 hgt
    unfold erB
    rw [if_neg (by rw [hPt]; decide)]
    exact ⟨hB t ht, hX t ht⟩) hJ
  refine ⟨h1, hlt, fun t ht hPt => ?_⟩
  have h3 := h2 t ht ((hg t ht).2 hPt)
  unfold erB at h3
  rw [if_neg (by rw [hPt]; decide)] at h3
  exact h3
theorem wanted_un {ops : Array Oper} {o oj : Oper} {a : Act} {j d : Nat} {b : Bool} (hg : o.guard = some (j, b)) (hj : ops[j]? = some oj) (hd : oj.dst = some d) (hv : a.tmps[d]?.getD undef = undef) : ¬ Region.wanted o (yielded ops a.tmps) = true := by
  cases h : a.tmps[d]? with
  | none => simp [Region.wanted, hg, yielded, hj, hd, h]
  | some v =>
    rw [h] at hv
    simp only [Option.getD_some] at hv
    subst hv
    simp [Region.wanted, hg, yielded, hj, hd, h, undef]
theorem OwnSd.listc {w : World} {B g c n q : Nat} {H : Nat → Hd} {V : Nat → Value} {BL : Nat → List (List Nat)} {T : Nat → Nat} (h : OwnSd w B g c n H V BL T) (hq : q < n) : ∃ A d, w.cell? ⟨g, q * 17 + 16, none⟩ = some (.slice A (BL q).length d) := by
  have hc : w.cell? ⟨g, q * 17 + 16, none⟩ = some (V q) := h.top.cellN (fun _ _ => sdC_len _ _) hq (show 16 < 17 by decide)
  obtain ⟨⟨S, C, h1, h2⟩, _⟩ := h.blk q hq
  obtain ⟨A, d, e, _⟩ := h1.top.rd
  exact ⟨A, d, by rw [hc, e]⟩
theorem OwnSd.rowc {w : World} {B g c n q r : Nat} {H : Nat → Hd} {V : Nat → Value} {BL : Nat → List (List Nat)} {T : Nat → Nat} (h : OwnSd w B g c n H V BL T) (hq : q < n) (hr : r < (BL q).length) : ∃ t d S C, w.cell? ⟨g, q * 17 + 16, none⟩ = some (.slice (some ⟨t, 0, none⟩) (BL q).length d) ∧ w.cell? ⟨t, r, none⟩ = some (.slice S ((BL q).getD r []).length C) := by
  have hc : w.cell? ⟨g, q * 17 + 16, none⟩ = some (V q) := h.top.cellN (fun _ _ => sdC_len _ _) hq (show 16 < 17 by decide)
  obtain ⟨⟨S, C, h1, h2⟩, _⟩ := h.blk q hq
  obtain ⟨t, d, e, _⟩ := h1.top.form (by omega)
  refine ⟨t, d, S r, C r, by rw [hc, e], ?_⟩
  have h3 := h1.top
  rw [e] at h3
  exact h3.cell1 hr
theorem OwnSd.bytec {w : World} {B g c n q r k : Nat} {H : Nat → Hd} {V : Nat → Value} {BL : Nat → List (List Nat)} {T : Nat → Nat} (h : OwnSd w B g c n H V BL T) (hq : q < n) (hr : r < (BL q).length) (hk : k < ((BL q).getD r []).length) : ∃ t d s C, w.cell? ⟨g, q * 17 + 16, none⟩ = some (.slice (some ⟨t, 0, none⟩) (BL q).length d) ∧ w.cell? ⟨t, r, none⟩ = some (.slice (some ⟨s, 0, none⟩) ((BL q).getD r []).length C) ∧
    w.cell? ⟨s, k, none⟩ = some (.int .u8 ((((BL q).getD r []).getD k 0 : Nat) : Int)) ∧ w.frozen? ⟨s, k, none⟩ = false ∧ B ≤ s ∧ (∀ x : Nat, OwnSd (w.setCell ⟨s, k, none⟩ (.int .u8 (x : Int))) B g c n H V (upd BL q ((BL q).set r (((BL q).getD r []).set k x))) T) ∧ ∀ (B' bo no co : Nat) (f : Nat → List Value), Own w B' 3 1 (.slice (some ⟨bo, 0, none⟩) no co) no f → bo ≠ s := by
  have hc : w.cell? ⟨g, q * 17 + 16, none⟩ = some (V q) := h.top.cellN (fun _ _ => sdC_len _ _) hq (show 16 < 17 by decide)
  obtain ⟨t, d, s, C, e, _, _, _, h1, hs1, hs2, _, h2, h3, h4, h5⟩ := (h.blk q hq).row_at hr hk
  have hT := T_lo h.mono q (by omega)
  have hg := (h.top.lt g rfl).1
  have hl := h.lo
  exact ⟨t, d, s, C, by rw [hc, e], h1, h2, h3, by omega, fun x => h.setB hq hs1 hs2 (h4 x), h5⟩
/-- Every shard has the form that its head asks for. -/
def Fit10 (n : Nat) (Z : Hd) (Bs : Nat → List (List Nat)) : Prop := ∀ t, t < n → fitS Z.K.toNat Z.B.toNat Z.size.toNat (Bs t) ∧ ∀ l ∈ Bs t, ∀ x ∈ l, x < 256
theorem Fit10.set {n q r k x : Nat} {Z : Hd} {Bs : Nat → List (List Nat)} (h : Fit10 n Z Bs) (hq : q < n) (hx : x < 256) : Fit10 n Z (upd Bs q ((Bs q).set r (((Bs q).getD r []).set k x))) := fun t ht => by
  by_cases e : t = q
  · subst e
    rw [upd_at]
    exact ⟨fit_same (h t ht).1 row_set_len.1 fun i _ => row_set_len.2 i, row_set_lt hx (h t ht).2⟩
  · rw [upd_ne _ _ _ e]
    exact h t ht
theorem Fit10.spl {n : Nat} {Z : Hd} {l : List Nat} (hs : Z.size = (l.length : Int)) : Fit10 n Z (fun t => spL Z.K.toNat Z.B.toNat l t) := fun t _ => by
  have h := spL_fit Z.K.toNat Z.B.toNat l t
  rw [show l.length = Z.size.toNat from by rw [hs]; rfl] at h
  exact ⟨h, spl_lt _ _ _ _⟩
theorem Fit10.bnd {n : Nat} {Z : Hd} {Bs : Nat → List (List Nat)} {l : List Nat} (h : Fit10 n Z Bs) (e : checkE Z = 0) (hs : Z.size = (l.length : Int)) {t : Nat} (ht : t < n) : (Bs t).length ≤ 4097 ∧ (∀ y ∈ Bs t, y.length ≤ 65536) := by
  have h1 := spL_fit Z.K.toNat Z.B.toNat l t
  rw [show l.length = Z.size.toNat from by rw [hs]; rfl] at h1
  have h2 := spl_len l e hs t
  rw [h1.1, ← (h t ht).1.1] at h2
  refine ⟨Nat.le_trans h2 (by decide), fun y hy => ?_⟩
  obtain ⟨j, hj, rfl⟩ := List.mem_iff_getElem.1 hy
  have hj1 : j < (spL Z.K.toNat Z.B.toNat l t).length := by rw [h1.1, ← (h t ht).1.1]; exact hj
  have h3 := spl_row l e t _ (memL_get' hj1)
  rw [h1.2 j hj1, ← (h t ht).1.2 j hj] at h3
  rw [List.getD_eq_getElem?_getD, List.getElem?_eq_getElem hj] at h3
  exact h3
end Go.Proofs.Ytjaaldandgfkgaa
