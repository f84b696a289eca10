/- Memory for shards: rows apart; blocks between two marks; lists of shards, seventeen cells each. Conditions: as the theorems have them. -/
import Derived.Test.YtjaaldandgfkgaaOwl
import Derived.Test.YtjaaldandgfkgaaRw16
namespace Go.Proofs.Ytjaaldandgfkgaa
open Go.RowKit

theorem put_grown {w : World} {p i : Nat} (x : Value) : w.grownBy (w.setCell ⟨p, i, none⟩ x) (some p) := ⟨rfl, rfl, rfl, by simp, fun k _ hk => Below.heap_setCell _ _ _ _ (fun e => hk (by rw [e]))⟩
theorem OwnB.put {w : World} {B g c n : Nat} {l : List Nat} (h : OwnB w B (.slice (some ⟨g, 0, none⟩) n c) l) (hn : n = l.length) {i : Nat} (hi : i < n) (x : Nat) : OwnB (w.setCell ⟨g, i, none⟩ (.int .u8 (x : Int))) B (.slice (some ⟨g, 0, none⟩) n c) (l.set i x) := by
  subst hn
  refine OwnB.of ?_
  rw [List.length_set]
  refine (Own.set1 h.own hi (.int .u8 (x : Int))).congr fun j hj => ?_
  by_cases e : j = i
  · subst e; simp [List.getD_eq_getElem?_getD, hj]
  · rw [if_neg e]
    simp [List.getD_eq_getElem?_getD, Ne.symm e]
/-- Row i as its header says. -/
def rowV (S : Nat → Option Addr) (C : Nat → Nat) (LL : List (List Nat)) (i : Nat) : Value := .slice (S i) (LL.getD i []).length (C i)
/-- Rows with their headers: owned, and no two in one block. -/
structure LA (w : World) (B : Nat) (v : Value) (LL : List (List Nat)) (S : Nat → Option Addr) (C : Nat → Nat) : Prop where
  top : Own w B 43 1 v LL.length (fun i => [rowV S C LL i])
  row : ∀ i, i < LL.length → OwnB w B (rowV S C LL i) (LL.getD i [])
  apart : ∀ i j, i < j → j < LL.length → ∀ k, (rowV S C LL i).ownBlock = some k → (rowV S C LL j).ownBlock ≠ some k
/-- The same, the headers unnamed; the rows' blocks below T. -/
def OwnLA (w : World) (B T : Nat) (v : Value) (LL : List (List Nat)) : Prop := ∃ S C, LA w B v LL S C ∧ ∀ i, i < LL.length → ∀ k, (rowV S C LL i).ownBlock = some k → k < T
theorem OwnLA.nil (w : World) (B T : Nat) : OwnLA w B T (.slice none 0 0) [] := ⟨fun _ => none, fun _ => 0, ⟨Own.nil _ _ _ _ _, fun i hi => absurd hi (by simp), fun i j _ hj => absurd hj (by simp)⟩, fun i hi => absurd hi (by simp)⟩
theorem LA.kept {w w' : World} {B : Nat} {v : Value} {LL : List (List Nat)} {S : Nat → Option Addr} {C : Nat → Nat} (h : LA w B v LL S C) (hb : Below w.heap.size w w') : LA w' B v LL S C :=
  ⟨h.top.kept hb, fun i hi => (h.row i hi).kept hb, h.apart⟩
theorem LA.ll {w : World} {B : Nat} {v : Value} {LL : List (List Nat)} {S : Nat → Option Addr} {C : Nat → Nat} (h : LA w B v LL S C) : OwnLL w B v LL := ⟨S, C, h.top, h.row⟩
theorem OwnLA.kept {w w' : World} {B T : Nat} {v : Value} {LL : List (List Nat)} (h : OwnLA w B T v LL) (hb : Below w.heap.size w w') : OwnLA w' B T v LL := by
  obtain ⟨S, C, h1, h2⟩ := h
  exact ⟨S, C, h1.kept hb, h2⟩
theorem OwnLA.ll {w : World} {B T : Nat} {v : Value} {LL : List (List Nat)} (h : OwnLA w B T v LL) : OwnLL w B v LL := by
  obtain ⟨S, C, h1, _⟩ := h
  exact h1.ll
theorem OwnLA.fresh {w : World} {B T : Nat} {v : Value} {LL : List (List Nat)} (h : OwnLA w B T v LL) : OwnLA w B w.heap.size v LL := by
  obtain ⟨S, C, h1, h2⟩ := h
  exact ⟨S, C, h1, fun i hi k hk => ((h1.row i hi).lt k hk).2⟩
theorem OwnLA.mono {w : World} {B B' T : Nat} {v : Value} {LL : List (List Nat)} (h : OwnLA w B T v LL) (hB : B' ≤ B) : OwnLA w B' T v LL := by
  obtain ⟨S, C, h1, h2⟩ := h
  exact ⟨S, C, ⟨h1.top.mono hB, fun i hi => (h1.row i hi).mono hB, h1.apart⟩, h2⟩
theorem ne_row {w : World} {B p : Nat} {u : Value} (hp : p < B) (hu : ∀ k, u.ownBlock = some k → B ≤ k ∧ k < w.heap.size) : u.ownBlock = none ∨ u.ownBlock ≠ some p := by
  cases ho : u.ownBlock with
  | none => exact .inl rfl
  | some k => exact .inr fun e => by injection e with e; have := (hu k ho).1; omega
theorem LA.row_ {w w' : World} {B g : Nat} {v : Value} {LL : List (List Nat)} {S : Nat → Option Addr} {C : Nat → Nat} (h : LA w B v LL S C) (hg : g < B) (hgr : w.grownBy w' (some g)) : LA w' B v LL S C :=
  ⟨h.top.keptRow hgr (ne_row hg h.top.lt), fun i hi => (h.row i hi).keptRow hgr (ne_row hg (h.row i hi).lt), h.apart⟩
theorem OwnLA.row_ {w w' : World} {B T g : Nat} {v : Value} {LL : List (List Nat)} (h : OwnLA w B T v LL) (hg : g < B) (hgr : w.grownBy w' (some g)) : OwnLA w' B T v LL := by
  obtain ⟨S, C, h1, h2⟩ := h
  exact ⟨S, C, h1.row_ hg hgr, h2⟩
theorem OwnLA.set {w : World} {B T p i : Nat} {v : Value} {LL : List (List Nat)} (h : OwnLA w B T v LL) (hp : p < B) (x : Value) : OwnLA (w.setCell ⟨p, i, none⟩ x) B T v LL := h.row_ hp (put_grown x)
/-- 'append(out, row)': the row was made behind the others. -/
theorem wpList_pushLA {w : World} {ops : Array Oper} {rest : List Oper} {o : Oper} {a : Act} {Q : Exit → Act → World → Prop} {A : Option Addr} {c n : Nat} (hgd : o.guard = none) (s xo : Operand)
    (ho : o.op = .call { callee := .builtin .append, args := #[s, xo], argTypes := #[67, 67] }) (B T : Nat) (v : Value) (LL : List (List Nat)) (hv : a.eval s = v) (hown : OwnLA w B T v LL) (hB : B ≤ w.heap.size) (hBT : B ≤ T)
    (l : List Nat) (hn : n = l.length) (hrow : OwnB w T (.slice A n c) l) (N : Nat) (hN : w.heap.size = N) (hx : a.eval xo = .slice (some ⟨N, 0, none⟩) 1 1) (hlen : LL.length ≤ 1000000000000)
    (h : ∀ v' w', OwnLA w' B w'.heap.size v' (LL ++ [l]) → Below B w w' → w.grownBy w' v.ownBlock → (v'.ownBlock = v.ownBlock ∨ v'.ownBlock = some (w.heap.size + 1)) → wpList Try.prog ops Q rest (a.put o.dst v') w') : wpList Try.prog ops Q (o :: rest) a (w.alloc (.cells #[.slice A n c] 43)) := by
  subst hn
  obtain ⟨S, C, hL, hT⟩ := hown
  have h1' : Own w B 43 1 v LL.length (fun i => [rowV (upd S LL.length A) (upd C LL.length c) (LL ++ [l]) i]) := hL.top.congr fun i hi => by
    unfold rowV; rw [upd_ne _ _ _ (by omega), upd_ne _ _ _ (by omega), getD_app_l hi]
  refine wpList_push w hgd s xo 67 ho B 43 1 24 (.slice none 0 0) #[.slice A l.length c] Try.underlying67 rowsInf rfl (by decide) v LL.length _ hv h1' hB N hN hx
    (by unfold rowV; rw [upd_at, upd_at, getD_app_r]) rfl rfl (by omega) (by omega) ?_
  intro v' w' hown' hb hg hat
  have eO : ∀ i, i < LL.length → rowV (upd S LL.length A) (upd C LL.length c) (LL ++ [l]) i = rowV S C LL i := fun i hi => by
    unfold rowV; rw [upd_ne _ _ _ (by omega), upd_ne _ _ _ (by omega), getD_app_l hi]
  have eN : rowV (upd S LL.length A) (upd C LL.length c) (LL ++ [l]) LL.length = .slice A l.length c := by unfold rowV; rw [upd_at, upd_at, getD_app_r]
  have hrows : ∀ i, i < (LL ++ [l]).length → OwnB w' B (rowV (upd S LL.length A) (upd C LL.length c) (LL ++ [l]) i) ((LL ++ [l]).getD i []) := fun i hi => by
    have hi : i < LL.length + 1 := by rw [List.length_append] at hi; exact hi
    by_cases e : i = LL.length
    · subst e
      rw [eN, getD_app_r]
      exact (hrow.mono hBT).keptRow hg (own_ne hrow.own hL.top (by decide))
    · rw [eO i (by omega), getD_app_l (by omega)]
      exact (hL.row i (by omega)).keptRow hg (own_ne (hL.row i (by omega)).own hL.top (by decide))
  refine h v' w' ⟨upd S LL.length A, upd C LL.length c, ⟨by rw [List.length_append]; exact hown', hrows, fun i j hij hj k hk => ?_⟩, fun i hi k hk => ((hrows i hi).lt k hk).2⟩ hb hg hat
  have hj : j < LL.length + 1 := by rw [List.length_append] at hj; exact hj
  rw [eO i (by omega)] at hk
  by_cases e : j = LL.length
  · subst e
    rw [eN]
    intro e2
    have h3 := (hrow.lt k e2).1
    have h4 := hT i (by omega) k hk
    omega
  · rw [eO j (by omega)]
    exact hL.apart i j hij (by omega) k hk
/-- One byte of a row is written. -/
theorem LA.setByte {w : World} {B : Nat} {v : Value} {LL : List (List Nat)} {S : Nat → Option Addr} {C : Nat → Nat} (h : LA w B v LL S C) {i k g : Nat} (hi : i < LL.length) (hk : k < (LL.getD i []).length) (hS : S i = some ⟨g, 0, none⟩) (x : Nat) :
    LA (w.setCell ⟨g, k, none⟩ (.int .u8 (x : Int))) B v (LL.set i ((LL.getD i []).set k x)) S C := by
  have hlen : (LL.set i ((LL.getD i []).set k x)).length = LL.length := List.length_set ..
  have hget : ∀ j, (LL.set i ((LL.getD i []).set k x)).getD j [] = if j = i then (LL.getD i []).set k x else LL.getD j [] := fun j => by
    rw [List.getD_eq_getElem?_getD, List.getElem?_set]
    by_cases e : i = j
    · subst e; rw [if_pos rfl, if_pos hi, if_pos rfl]; rfl
    · rw [if_neg e, if_neg (fun e' => e e'.symm), ← List.getD_eq_getElem?_getD]
  have hrv : ∀ j, rowV S C (LL.set i ((LL.getD i []).set k x)) j = rowV S C LL j := fun j => by
    unfold rowV
    rw [hget]
    by_cases e : j = i
    · subst e; rw [if_pos rfl, List.length_set]
    · rw [if_neg e]
  have hob : (rowV S C LL i).ownBlock = some g := by unfold rowV; rw [hS]; rfl
  have hgr : w.grownBy (w.setCell ⟨g, k, none⟩ (.int .u8 (x : Int))) (some g) := put_grown _
  refine ⟨?_, fun j hj => ?_, fun a b hab hb c hc => ?_⟩
  · rw [hlen]
    refine (h.top.keptRow hgr ?_).congr fun j _ => by rw [hrv]
    rcases own_ne h.top (h.row i hi).own (by decide) with e | e
    · exact .inl e
    · exact .inr (by rw [hob] at e; exact e)
  · rw [hlen] at hj
    rw [hrv, hget]
    by_cases e : j = i
    · subst e
      rw [if_pos rfl]
      have hr := h.row j hi
      unfold rowV at hr ⊢
      rw [hS] at hr ⊢
      exact OwnB.put hr rfl hk x
    · rw [if_neg e]
      refine (h.row j hj).keptRow hgr ?_
      refine .inr fun e2 => ?_
      rcases Nat.lt_or_ge i j with hij | hij
      · exact h.apart i j hij hj g hob e2
      · exact h.apart j i (by omega) hi g e2 hob
  · rw [hlen] at hb
    rw [hrv] at hc ⊢
    exact h.apart a b hab hb c hc

/-! ## Blocks between two marks -/
theorem Own.blocks {w w' : World} {B e sz n : Nat} {v : Value} {f : Nat → List Value} (h : Own w B e sz v n f) (hb : ∀ k, v.ownBlock = some k → w'.heap[k]? = w.heap[k]?) : Own w' B e sz v n f := by
  obtain ⟨h1, h2⟩ := h
  refine ⟨h1, ?_⟩
  rcases h2 with h2 | ⟨g, cap, cur, rfl, hg, hh, hn, hc, hcur, htake⟩
  · exact .inl h2
  · exact .inr ⟨g, cap, cur, rfl, hg, by rw [hb g rfl]; exact hh, hn, hc, hcur, htake⟩
/-- The blocks of a shard: owned, apart, all between B and T. -/
def OwnBk (w : World) (B T : Nat) (v : Value) (LL : List (List Nat)) : Prop := OwnLA w B T v LL ∧ ∀ k, v.ownBlock = some k → k < T
theorem OwnBk.nil (w : World) (B T : Nat) : OwnBk w B T (.slice none 0 0) [] := ⟨OwnLA.nil _ _ _, fun k hk => by cases hk⟩
theorem OwnBk.of {w : World} {B T : Nat} {v : Value} {LL : List (List Nat)} (h : OwnLA w B T v LL) : OwnBk w B w.heap.size v LL := by
  refine ⟨h.fresh, fun k hk => ?_⟩
  obtain ⟨S, C, h1, _⟩ := h
  exact (h1.top.lt k hk).2
theorem LA.blocks {w w' : World} {B T : Nat} {v : Value} {LL : List (List Nat)} {S : Nat → Option Addr} {C : Nat → Nat} (h : LA w B v LL S C) (h1 : ∀ i, i < LL.length → ∀ k, (rowV S C LL i).ownBlock = some k → k < T) (h2 : ∀ k, v.ownBlock = some k → k < T)
    (hb : ∀ k, B ≤ k → k < T → w'.heap[k]? = w.heap[k]?) : LA w' B v LL S C :=
  ⟨h.top.blocks fun k hk => hb k (h.top.lt k hk).1 (h2 k hk), fun i hi => OwnB.of ((h.row i hi).own.blocks fun k hk => hb k ((h.row i hi).lt k hk).1 (h1 i hi k hk)), h.apart⟩
theorem OwnBk.blocks {w w' : World} {B T : Nat} {v : Value} {LL : List (List Nat)} (h : OwnBk w B T v LL) (hb : ∀ k, B ≤ k → k < T → w'.heap[k]? = w.heap[k]?) : OwnBk w' B T v LL := by
  obtain ⟨⟨S, C, h1, h2⟩, h3⟩ := h
  exact ⟨⟨S, C, h1.blocks h2 h3 hb, h2⟩, h3⟩
theorem OwnBk.kept {w w' : World} {B T : Nat} {v : Value} {LL : List (List Nat)} (h : OwnBk w B T v LL) (hb : Below w.heap.size w w') : OwnBk w' B T v LL := ⟨h.1.kept hb, h.2⟩
theorem OwnBk.rd {w : World} {B T : Nat} {v : Value} {LL : List (List Nat)} (h : OwnBk w B T v LL) : ∃ A c, v = .slice A LL.length c ∧ LL.length ≤ c ∧ RLL w A LL := h.1.ll.rd
theorem OwnBk.set {w : World} {B T p i : Nat} {v : Value} {LL : List (List Nat)} (h : OwnBk w B T v LL) (hp : p < B ∨ T ≤ p) (x : Value) : OwnBk (w.setCell ⟨p, i, none⟩ x) B T v LL :=
  h.blocks fun k h1 h2 => Below.heap_setCell _ _ _ _ (by show k ≠ p; omega)

/-! ## Elements of many cells -/
theorem flat_len {sz : Nat} {f : Nat → List Value} : ∀ {n : Nat}, (∀ i, i < n → (f i).length = sz) → ((List.range n).flatMap f).length = n * sz
  | 0, _ => by simp
  | n + 1, h => by
    rw [List.range_succ, List.flatMap_append, List.length_append, flat_len fun i hi => h i (by omega), Nat.add_mul]
    simp [h n (by omega)]
theorem flat_get {sz : Nat} {f : Nat → List Value} : ∀ {n i j : Nat}, (∀ i, i < n → (f i).length = sz) → i < n → j < sz → ((List.range n).flatMap f)[i * sz + j]? = (f i)[j]?
  | n + 1, i, j, h, hi, hj => by
    have hl := flat_len fun i hi => h i (show i < n + 1 by omega)
    have hln : ((List.range n).flatMap f).length = n * sz := flat_len fun i hi => h i (by omega)
    rw [List.range_succ, List.flatMap_append]
    by_cases e : i = n
    · subst e
      rw [List.getElem?_append_right (by omega), hln]
      simp
    · have h1 : (i + 1) * sz ≤ n * sz := Nat.mul_le_mul_right _ (by omega)
      rw [Nat.add_mul] at h1
      rw [List.getElem?_append_left (by omega)]
      exact flat_get (fun i hi => h i (by omega)) (by omega) hj
theorem flat_ext {sz n : Nat} {f : Nat → List Value} {l : List Value} (hf : ∀ i, i < n → (f i).length = sz) (hl : l.length = n * sz) (h : ∀ i j, i < n → j < sz → l[i * sz + j]? = (f i)[j]?) : l = (List.range n).flatMap f := by
  apply List.ext_getElem?
  intro q
  by_cases hq : q < n * sz
  · have hsz : 0 < sz := by
      rcases Nat.eq_zero_or_pos sz with h0 | h0
      · subst h0; simp at hq
      · exact h0
    have h1 : q / sz < n := (Nat.div_lt_iff_lt_mul hsz).2 hq
    have h2 : q % sz < sz := Nat.mod_lt _ hsz
    have h3 : q = q / sz * sz + q % sz := (Nat.div_add_mod' q sz).symm
    rw [h3, h _ _ h1 h2, flat_get hf h1 h2]
  · rw [List.getElem?_eq_none (by omega), List.getElem?_eq_none (by rw [flat_len hf]; omega)]
theorem Own.cellN {w : World} {B e sz g c n : Nat} {f : Nat → List Value} (h : Own w B e sz (.slice (some ⟨g, 0, none⟩) n c) n f) (hf : ∀ i, i < n → (f i).length = sz) {i j : Nat} (hi : i < n) (hj : j < sz) : w.cell? ⟨g, i * sz + j, none⟩ = (f i)[j]? := by
  have h1 : (i + 1) * sz ≤ n * sz := Nat.mul_le_mul_right _ hi
  rw [Nat.add_mul] at h1
  rw [World.ownsRow.cellAt h (i * sz + j) (by omega), flat_get hf hi hj]
theorem Own.setN {w : World} {B e sz g c n : Nat} {f : Nat → List Value} (h : Own w B e sz (.slice (some ⟨g, 0, none⟩) n c) n f) (hf : ∀ i, i < n → (f i).length = sz) {i j : Nat} (hi : i < n) (hj : j < sz) (u : Value) :
    Own (w.setCell ⟨g, i * sz + j, none⟩ u) B e sz (.slice (some ⟨g, 0, none⟩) n c) n (fun t => if t = i then (f i).set j u else f t) := by
  have := (World.ownsRow.stored h (i * sz + j) u).1
  unfold Own
  rw [← flat_ext (sz := sz) (l := ((List.range n).flatMap f).set (i * sz + j) u)]
  · exact this
  · intro t ht
    by_cases e : t = i
    · subst e; rw [if_pos rfl, List.length_set]; exact hf t ht
    · rw [if_neg e]; exact hf t ht
  · rw [List.length_set]; exact flat_len hf
  · intro t s ht hs
    rw [List.getElem?_set]
    by_cases e : t = i
    · subst e
      rw [if_pos rfl]
      by_cases e2 : j = s
      · subst e2
        have h1 : (t + 1) * sz ≤ n * sz := Nat.mul_le_mul_right _ ht
        rw [Nat.add_mul] at h1
        rw [if_pos rfl, if_pos (by rw [flat_len hf]; omega), List.getElem?_set, if_pos rfl, if_pos (by rw [hf t ht]; exact hs)]
      · rw [if_neg (by omega), flat_get hf ht hs, List.getElem?_set, if_neg e2]
    · rw [if_neg e, if_neg, flat_get hf ht hs]
      intro e2
      rcases Nat.lt_or_ge t i with h1 | h1
      · have : (t + 1) * sz ≤ i * sz := Nat.mul_le_mul_right _ h1
        rw [Nat.add_mul] at this; omega
      · have : (i + 1) * sz ≤ t * sz := Nat.mul_le_mul_right _ (show i + 1 ≤ t by omega)
        rw [Nat.add_mul] at this; omega

/-! ## Shards -/
def hdC (h : Hd) : List Value := [.int .u8 h.s0, .int .u8 h.s1, .int .u8 h.s2, .int .u8 h.s3, .int .u8 h.s4, .int .u8 h.s5, .int .u8 h.s6, .int .u8 h.s7, .int .i64 h.K, .int .i64 h.M, .int .i64 h.B, .string h.key, .int .i64 h.size, .int .i64 h.idx, .int .i64 h.ep, .int .i64 h.ct]
def sdC (h : Hd) (v : Value) : List Value := [.int .u8 h.s0, .int .u8 h.s1, .int .u8 h.s2, .int .u8 h.s3, .int .u8 h.s4, .int .u8 h.s5, .int .u8 h.s6, .int .u8 h.s7, .int .i64 h.K, .int .i64 h.M, .int .i64 h.B, .string h.key, .int .i64 h.size, .int .i64 h.idx, .int .i64 h.ep, .int .i64 h.ct, v]
theorem sdC_len (h : Hd) (v : Value) : (sdC h v).length = 17 := rfl
theorem sdC_set (h : Hd) (v u : Value) : (sdC h v).set 16 u = sdC h u := rfl
theorem sdC_idx (h : Hd) (v : Value) (n : Int) : (sdC h v).set 13 (.int .i64 n) = sdC { h with idx := n } v := rfl
/-- A list of shards in memory that can be read: the cells. -/
def RdC (w : World) (A : Option Addr) (n : Nat) (F : Nat → List Value) : Prop :=
  ∀ i, i < n → ∃ b o, A = some ⟨b, o, none⟩ ∧ b < w.heap.size ∧ ∀ j u, (F i)[j]? = some u → w.cell? ⟨b, o + i * 17 + j, none⟩ = some u
theorem RdC.keep {w w' : World} {A : Option Addr} {n : Nat} {F : Nat → List Value} (h : RdC w A n F) (hb : Below w.heap.size w w') : RdC w' A n F := fun i hi => by
  obtain ⟨b, o, e, hlt, hc⟩ := h i hi
  have hs := hb.size
  exact ⟨b, o, e, by omega, fun j u hj => by rw [hb.cell (p := ⟨b, o + i * 17 + j, none⟩) hlt]; exact hc j u hj⟩
theorem RdC.zero (w : World) (A : Option Addr) (F : Nat → List Value) : RdC w A 0 F := fun i hi => absurd hi (by omega)
/-- Shards that can be read. -/
def RSd (w : World) (A : Option Addr) (n : Nat) (H : Nat → Hd) (BL : Nat → List (List Nat)) : Prop :=
  ∃ (S : Nat → Option Addr) (C : Nat → Nat), RdC w A n (fun i => sdC (H i) (.slice (S i) (BL i).length (C i))) ∧ ∀ i, i < n → RLL w (S i) (BL i) ∧ (BL i).length ≤ C i
theorem RSd.below {w w' : World} {A : Option Addr} {n : Nat} {H : Nat → Hd} {BL : Nat → List (List Nat)} (h : RSd w A n H BL) (hb : Below w.heap.size w w') : RSd w' A n H BL := by
  obtain ⟨S, C, h1, h2⟩ := h
  exact ⟨S, C, h1.keep hb, fun i hi => ⟨(h2 i hi).1.below hb, (h2 i hi).2⟩⟩
theorem RSd.zero (w : World) (A : Option Addr) (H : Nat → Hd) (BL : Nat → List (List Nat)) : RSd w A 0 H BL := ⟨fun _ => none, fun _ => 0, RdC.zero _ _ _, fun i hi => absurd hi (by omega)⟩
/-- Shards that a call has built: the list g, each one's blocks in memory of their own, between T i and T (i + 1). -/
structure OwnSd (w : World) (B g c n : Nat) (H : Nat → Hd) (V : Nat → Value) (BL : Nat → List (List Nat)) (T : Nat → Nat) : Prop where
  top : Own w B 69 17 (.slice (some ⟨g, 0, none⟩) n c) n (fun i => sdC (H i) (V i))
  blk : ∀ i, i < n → OwnBk w (T i) (T (i + 1)) (V i) (BL i)
  lo : g < T 0
  mono : ∀ i, i < n → T i ≤ T (i + 1)
theorem Own.rdC {w : World} {B e g c n : Nat} {F : Nat → List Value} (h : Own w B e 17 (.slice (some ⟨g, 0, none⟩) n c) n F) (hf : ∀ i, i < n → (F i).length = 17) : RdC w (some ⟨g, 0, none⟩) n F := fun i hi => by
  refine ⟨g, 0, rfl, (h.lt g rfl).2, fun j u hj => ?_⟩
  have hj2 : j < 17 := by rw [← hf i hi]; exact (List.getElem?_eq_some_iff.1 hj).1
  rw [Nat.zero_add, h.cellN hf hi hj2, hj]
theorem Own.rdC' {w : World} {B e n : Nat} {v : Value} {F : Nat → List Value} (h : Own w B e 17 v n F) (hf : ∀ i, i < n → (F i).length = 17) : ∃ A c, v = .slice A n c ∧ n ≤ c ∧ c ≤ maxLen ∧ RdC w A n F := by
  obtain ⟨h1, h2⟩ := id h
  rcases h2 with ⟨rfl, rfl⟩ | ⟨b, cap, cur, rfl, hg, hh, hn, hc, hcur, htake⟩
  · exact ⟨none, 0, rfl, Nat.le_refl _, by unfold maxLen; omega, RdC.zero _ _ _⟩
  · exact ⟨_, cap, rfl, hn, hc, h.rdC hf⟩
theorem RdC.congr {w : World} {A : Option Addr} {n : Nat} {F G : Nat → List Value} (h : RdC w A n F) (e : ∀ i, i < n → F i = G i) : RdC w A n G := fun i hi => by
  obtain ⟨b, o, e1, h1, h2⟩ := h i hi
  exact ⟨b, o, e1, h1, by rw [← e i hi]; exact h2⟩
theorem OwnSd.rsd {w : World} {B g c n : Nat} {H : Nat → Hd} {V : Nat → Value} {BL : Nat → List (List Nat)} {T : Nat → Nat} (h : OwnSd w B g c n H V BL T) : RSd w (some ⟨g, 0, none⟩) n H BL := by
  have hv : ∀ i, ∃ A c, i < n → V i = .slice A (BL i).length c ∧ RLL w A (BL i) ∧ (BL i).length ≤ c := fun i => by
    by_cases hi : i < n
    · obtain ⟨A, c, e, hc, hr⟩ := (h.blk i hi).rd
      exact ⟨A, c, fun _ => ⟨e, hr, hc⟩⟩
    · exact ⟨none, 0, fun h => absurd h hi⟩
  refine ⟨fun i => Classical.choose (hv i), fun i => Classical.choose (Classical.choose_spec (hv i)), ?_, fun i hi => (Classical.choose_spec (Classical.choose_spec (hv i)) hi).2⟩
  exact (h.top.rdC fun i _ => sdC_len _ _).congr fun i hi => by rw [(Classical.choose_spec (Classical.choose_spec (hv i)) hi).1]
theorem OwnSd.kept {w w' : World} {B g c n : Nat} {H : Nat → Hd} {V : Nat → Value} {BL : Nat → List (List Nat)} {T : Nat → Nat} (h : OwnSd w B g c n H V BL T) (hb : Below w.heap.size w w') : OwnSd w' B g c n H V BL T :=
  ⟨h.top.kept hb, fun i hi => (h.blk i hi).kept hb, h.lo, h.mono⟩
end Go.Proofs.Ytjaaldandgfkgaa
