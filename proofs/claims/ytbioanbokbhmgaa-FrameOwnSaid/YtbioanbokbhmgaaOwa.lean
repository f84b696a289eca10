/- Rows of bytes that a call has built, which lie apart: words for them; what keeps them. Conditions: as the theorems have them. -/
import Derived.Test.YtbioanbokbhmgaaWk8
namespace Go.Proofs.Ytbioanbokbhmgaa
open Go.RowKit

/-- Row i as its header says. -/
def rowV (S : Nat → Option Addr) (C : Nat → Nat) (LL : List (List Nat)) (i : Nat) : Value := .slice (S i) (LL.getD i []).length (C i)
/-- Rows with their headers: owned, and no two in one block. -/
structure LA (w : World) (B : Nat) (v : Value) (LL : List (List Nat)) (S : Nat → Option Addr) (C : Nat → Nat) : Prop where
  top : Own w B 47 1 v LL.length (fun i => [rowV S C LL i])
  row : ∀ i, i < LL.length → OwnB w B (rowV S C LL i) (LL.getD i [])
  apart : ∀ i j, i < j → j < LL.length → ∀ k, (rowV S C LL i).ownBlock = some k → (rowV S C LL j).ownBlock ≠ some k
/-- The same, the headers unnamed; the rows' blocks below T. -/
def OwnLA (w : World) (B T : Nat) (v : Value) (LL : List (List Nat)) : Prop := ∃ S C, LA w B v LL S C ∧ ∀ i, i < LL.length → ∀ k, (rowV S C LL i).ownBlock = some k → k < T
theorem OwnLA.nil (w : World) (B T : Nat) : OwnLA w B T (.slice none 0 0) [] := ⟨fun _ => none, fun _ => 0, ⟨Own.nil _ _ _ _ _, fun i hi => absurd hi (by simp), fun i j _ hj => absurd hj (by simp)⟩, fun i hi => absurd hi (by simp)⟩
theorem LA.kept {w w' : World} {B : Nat} {v : Value} {LL : List (List Nat)} {S : Nat → Option Addr} {C : Nat → Nat} (h : LA w B v LL S C) (hb : Below w.heap.size w w') : LA w' B v LL S C :=
  ⟨h.top.kept hb, fun i hi => (h.row i hi).kept hb, h.apart⟩
theorem LA.ll {w : World} {B : Nat} {v : Value} {LL : List (List Nat)} {S : Nat → Option Addr} {C : Nat → Nat} (h : LA w B v LL S C) : OwnLL w B v LL := ⟨S, C, h.top, h.row⟩
theorem OwnLA.kept {w w' : World} {B T : Nat} {v : Value} {LL : List (List Nat)} (h : OwnLA w B T v LL) (hb : Below w.heap.size w w') : OwnLA w' B T v LL := by
  obtain ⟨S, C, h1, h2⟩ := h
  exact ⟨S, C, h1.kept hb, h2⟩
theorem OwnLA.ll {w : World} {B T : Nat} {v : Value} {LL : List (List Nat)} (h : OwnLA w B T v LL) : OwnLL w B v LL := by
  obtain ⟨S, C, h1, _⟩ := h
  exact h1.ll
theorem OwnLA.fresh {w : World} {B T : Nat} {v : Value} {LL : List (List Nat)} (h : OwnLA w B T v LL) : OwnLA w B w.heap.size v LL := by
  obtain ⟨S, C, h1, h2⟩ := h
  exact ⟨S, C, h1, fun i hi k hk => ((h1.row i hi).lt k hk).2⟩
theorem OwnLA.mono {w : World} {B B' T : Nat} {v : Value} {LL : List (List Nat)} (h : OwnLA w B T v LL) (hB : B' ≤ B) : OwnLA w B' T v LL := by
  obtain ⟨S, C, h1, h2⟩ := h
  exact ⟨S, C, ⟨h1.top.mono hB, fun i hi => (h1.row i hi).mono hB, h1.apart⟩, h2⟩
theorem ne_row {w : World} {B p : Nat} {u : Value} (hp : p < B) (hu : ∀ k, u.ownBlock = some k → B ≤ k ∧ k < w.heap.size) : u.ownBlock = none ∨ u.ownBlock ≠ some p := by
  cases ho : u.ownBlock with
  | none => exact .inl rfl
  | some k => exact .inr fun e => by injection e with e; have := (hu k ho).1; omega
theorem LA.row_ {w w' : World} {B g : Nat} {v : Value} {LL : List (List Nat)} {S : Nat → Option Addr} {C : Nat → Nat} (h : LA w B v LL S C) (hg : g < B) (hgr : w.grownBy w' (some g)) : LA w' B v LL S C :=
  ⟨h.top.keptRow hgr (ne_row hg h.top.lt), fun i hi => (h.row i hi).keptRow hgr (ne_row hg (h.row i hi).lt), h.apart⟩
theorem OwnLA.row_ {w w' : World} {B T g : Nat} {v : Value} {LL : List (List Nat)} (h : OwnLA w B T v LL) (hg : g < B) (hgr : w.grownBy w' (some g)) : OwnLA w' B T v LL := by
  obtain ⟨S, C, h1, h2⟩ := h
  exact ⟨S, C, h1.row_ hg hgr, h2⟩
theorem OwnLA.set {w : World} {B T p i : Nat} {v : Value} {LL : List (List Nat)} (h : OwnLA w B T v LL) (hp : p < B) (x : Value) : OwnLA (w.setCell ⟨p, i, none⟩ x) B T v LL := h.row_ hp (far_grown x)
/-- 'append(out, row)': the row was made behind the others. -/
theorem wpList_pushLA {w : World} {ops : Array Oper} {rest : List Oper} {o : Oper} {a : Act} {Q : Exit → Act → World → Prop} {A : Option Addr} {c n : Nat} (hgd : o.guard = none) (s xo : Operand)
    (ho : o.op = .call { callee := .builtin .append, args := #[s, xo], argTypes := #[44, 44] }) (B T : Nat) (v : Value) (LL : List (List Nat)) (hv : a.eval s = v) (hown : OwnLA w B T v LL) (hB : B ≤ w.heap.size) (hBT : B ≤ T)
    (l : List Nat) (hn : n = l.length) (hrow : OwnB w T (.slice A n c) l) (N : Nat) (hN : w.heap.size = N) (hx : a.eval xo = .slice (some ⟨N, 0, none⟩) 1 1) (hlen : LL.length ≤ 1000000000000)
    (h : ∀ v' w', OwnLA w' B w'.heap.size v' (LL ++ [l]) → Below B w w' → w.grownBy w' v.ownBlock → (v'.ownBlock = v.ownBlock ∨ v'.ownBlock = some (w.heap.size + 1)) → wpList Try.prog ops Q rest (a.put o.dst v') w') : wpList Try.prog ops Q (o :: rest) a (w.alloc (.cells #[.slice A n c] 47)) := by
  subst hn
  obtain ⟨S, C, hL, hT⟩ := hown
  have h1' : Own w B 47 1 v LL.length (fun i => [rowV (upd S LL.length A) (upd C LL.length c) (LL ++ [l]) i]) := hL.top.congr fun i hi => by
    unfold rowV; rw [upd_ne _ _ _ (by omega), upd_ne _ _ _ (by omega), getD_app_l hi]
  refine wpList_push w hgd s xo 44 ho B 47 1 24 (.slice none 0 0) #[.slice A l.length c] Try.underlying44 rowsInf rfl (by decide) v LL.length _ hv h1' hB N hN hx
    (by unfold rowV; rw [upd_at, upd_at, getD_app_r]) rfl rfl (by omega) (by omega) ?_
  intro v' w' hown' hb hg hat
  have eO : ∀ i, i < LL.length → rowV (upd S LL.length A) (upd C LL.length c) (LL ++ [l]) i = rowV S C LL i := fun i hi => by
    unfold rowV; rw [upd_ne _ _ _ (by omega), upd_ne _ _ _ (by omega), getD_app_l hi]
  have eN : rowV (upd S LL.length A) (upd C LL.length c) (LL ++ [l]) LL.length = .slice A l.length c := by unfold rowV; rw [upd_at, upd_at, getD_app_r]
  have hrows : ∀ i, i < (LL ++ [l]).length → OwnB w' B (rowV (upd S LL.length A) (upd C LL.length c) (LL ++ [l]) i) ((LL ++ [l]).getD i []) := fun i hi => by
    have hi : i < LL.length + 1 := by rw [List.length_append] at hi; exact hi
    by_cases e : i = LL.length
    · subst e
      rw [eN, getD_app_r]
      exact (hrow.mono hBT).keptRow hg (own_ne hrow.own hL.top (by decide))
    · rw [eO i (by omega), getD_app_l (by omega)]
      exact (hL.row i (by omega)).keptRow hg (own_ne (hL.row i (by omega)).own hL.top (by decide))
  refine h v' w' ⟨upd S LL.length A, upd C LL.length c, ⟨by rw [List.length_append]; exact hown', hrows, fun i j hij hj k hk => ?_⟩, fun i hi k hk => ((hrows i hi).lt k hk).2⟩ hb hg hat
  have hj : j < LL.length + 1 := by rw [List.length_append] at hj; exact hj
  rw [eO i (by omega)] at hk
  by_cases e : j = LL.length
  · subst e
    rw [eN]
    intro e2
    have h3 := (hrow.lt k e2).1
    have h4 := hT i (by omega) k hk
    omega
  · rw [eO j (by omega)]
    exact hL.apart i j hij (by omega) k hk
/-- One byte of a row is written. -/
theorem LA.setByte {w : World} {B : Nat} {v : Value} {LL : List (List Nat)} {S : Nat → Option Addr} {C : Nat → Nat} (h : LA w B v LL S C) {i k g : Nat} (hi : i < LL.length) (hk : k < (LL.getD i []).length) (hS : S i = some ⟨g, 0, none⟩) (x : Nat) :
    LA (w.setCell ⟨g, k, none⟩ (.int .u8 (x : Int))) B v (LL.set i ((LL.getD i []).set k x)) S C := by
  have hlen : (LL.set i ((LL.getD i []).set k x)).length = LL.length := List.length_set ..
  have hget : ∀ j, (LL.set i ((LL.getD i []).set k x)).getD j [] = if j = i then (LL.getD i []).set k x else LL.getD j [] := fun j => by
    rw [List.getD_eq_getElem?_getD, List.getElem?_set]
    by_cases e : i = j
    · subst e; rw [if_pos rfl, if_pos hi, if_pos rfl]; rfl
    · rw [if_neg e, if_neg (fun e' => e e'.symm), ← List.getD_eq_getElem?_getD]
  have hrv : ∀ j, rowV S C (LL.set i ((LL.getD i []).set k x)) j = rowV S C LL j := fun j => by
    unfold rowV
    rw [hget]
    by_cases e : j = i
    · subst e; rw [if_pos rfl, List.length_set]
    · rw [if_neg e]
  have hob : (rowV S C LL i).ownBlock = some g := by unfold rowV; rw [hS]; rfl
  have hgr : w.grownBy (w.setCell ⟨g, k, none⟩ (.int .u8 (x : Int))) (some g) := far_grown _
  refine ⟨?_, fun j hj => ?_, fun a b hab hb c hc => ?_⟩
  · rw [hlen]
    refine (h.top.keptRow hgr ?_).congr fun j _ => by rw [hrv]
    rcases own_ne h.top (h.row i hi).own (by decide) with e | e
    · exact .inl e
    · exact .inr (by rw [hob] at e; exact e)
  · rw [hlen] at hj
    rw [hrv, hget]
    by_cases e : j = i
    · subst e
      rw [if_pos rfl]
      have hr := h.row j hi
      unfold rowV at hr ⊢
      rw [hS] at hr ⊢
      exact OwnB.set hr rfl hk x
    · rw [if_neg e]
      refine (h.row j hj).keptRow hgr ?_
      refine .inr fun e2 => ?_
      rcases Nat.lt_or_ge i j with hij | hij
      · exact h.apart i j hij hj g hob e2
      · exact h.apart j i (by omega) hi g e2 hob
  · rw [hlen] at hb
    rw [hrv] at hc ⊢
    exact h.apart a b hab hb c hc
end Go.Proofs.Ytbioanbokbhmgaa
