/- Rows of bytes that the call owns: append of a row. Conditions: none of any program. -/
import Derived.Test.YtbioanbokbhmgaaByu
namespace Go.Proofs.Ytbioanbokbhmgaa
open Go.RowKit

theorem rowsInf : (Try.prog.info? 47).map (fun i => (i.zero, i.size, i.bytes)) = some (some (.slice none 0 0), 1, 24) := by kernel_rfl
/-- Rows that the call has made, each memory of its own. -/
def OwnLL (w : World) (B : Nat) (v : Value) (LL : List (List Nat)) : Prop :=
  ∃ (S : Nat → Option Addr) (C : Nat → Nat), Own w B 47 1 v LL.length (fun i => [.slice (S i) (LL.getD i []).length (C i)]) ∧ ∀ i, i < LL.length → OwnB w B (.slice (S i) (LL.getD i []).length (C i)) (LL.getD i [])
theorem OwnLL.nil (w : World) (B : Nat) : OwnLL w B (.slice none 0 0) [] := ⟨fun _ => none, fun _ => 0, Own.nil _ _ _ _ _, fun i hi => absurd hi (by simp)⟩
theorem OwnLL.kept {w w' : World} {B : Nat} {v : Value} {LL : List (List Nat)} (h : OwnLL w B v LL) (hb : Below w.heap.size w w') : OwnLL w' B v LL := by
  obtain ⟨S, C, h1, h2⟩ := h
  exact ⟨S, C, h1.kept hb, fun i hi => (h2 i hi).kept hb⟩
theorem OwnLL.mono {w : World} {B B' : Nat} {v : Value} {LL : List (List Nat)} (h : OwnLL w B v LL) (hB : B' ≤ B) : OwnLL w B' v LL := by
  obtain ⟨S, C, h1, h2⟩ := h
  exact ⟨S, C, h1.mono hB, fun i hi => (h2 i hi).mono hB⟩
theorem OwnLL.rd {w : World} {B : Nat} {v : Value} {LL : List (List Nat)} (h : OwnLL w B v LL) : ∃ A c, v = .slice A LL.length c ∧ LL.length ≤ c ∧ RLL w A LL := by
  obtain ⟨S, C, h1, h2⟩ := h
  obtain ⟨A, c, hv, hc, _, hr, _⟩ := h1.rd
  refine ⟨A, c, hv, hc, S, C, hr, fun i hi => ?_⟩
  obtain ⟨A', c', e, _, _, hr', _⟩ := (h2 i hi).rd
  injection e with e _ _
  rw [e]; exact hr'
theorem getD_app_l {α : Type} {l : List α} {x d : α} {i : Nat} (h : i < l.length) : (l ++ [x]).getD i d = l.getD i d := by simp [List.getD, List.getElem?_append_left h]
theorem getD_app_r {α : Type} {l : List α} {x d : α} : (l ++ [x]).getD l.length d = x := by simp [List.getD]
theorem wpList_pushLL {w : World} {ops : Array Oper} {rest : List Oper} {o : Oper} {a : Act} {Q : Exit → Act → World → Prop} {A : Option Addr} {c n : Nat} (hgd : o.guard = none) (s xo : Operand)
    (ho : o.op = .call { callee := .builtin .append, args := #[s, xo], argTypes := #[44, 44] }) (B : Nat) (v : Value) (LL : List (List Nat)) (hv : a.eval s = v) (hown : OwnLL w B v LL) (hB : B ≤ w.heap.size)
    (l : List Nat) (hn : n = l.length) (hrow : OwnB w B (.slice A n c) l) (N : Nat) (hN : w.heap.size = N) (hx : a.eval xo = .slice (some ⟨N, 0, none⟩) 1 1) (hlen : LL.length ≤ 1000000000000)
    (h : ∀ v' w', OwnLL w' B v' (LL ++ [l]) → Below B w w' → wpList Try.prog ops Q rest (a.put o.dst v') w') : wpList Try.prog ops Q (o :: rest) a (w.alloc (.cells #[.slice A n c] 47)) := by
  subst hn
  obtain ⟨S, C, h1, h2⟩ := hown
  have h1' : Own w B 47 1 v LL.length (fun i => [.slice (upd S LL.length A i) ((LL ++ [l]).getD i []).length (upd C LL.length c i)]) := h1.congr fun i hi => by
    rw [upd_ne _ _ _ (by omega), upd_ne _ _ _ (by omega), getD_app_l hi]
  refine wpList_push w hgd s xo 44 ho B 47 1 24 (.slice none 0 0) #[.slice A l.length c] Try.underlying44 rowsInf rfl (by decide) v LL.length _ hv h1' hB N hN hx
    (by rw [upd_at, upd_at, getD_app_r]) rfl rfl (by omega) (by omega) ?_
  intro v' w' hown' hb hg _
  refine h v' w' ⟨upd S LL.length A, upd C LL.length c, by rw [List.length_append]; exact hown', fun i hi => ?_⟩ hb
  have hi : i < LL.length + 1 := by rw [List.length_append] at hi; exact hi
  by_cases e : i = LL.length
  · subst e
    rw [upd_at, upd_at, getD_app_r]
    exact hrow.keptRow hg (own_ne hrow.own h1 (by decide))
  · rw [upd_ne _ _ _ e, upd_ne _ _ _ e, getD_app_l (by omega)]
    exact (h2 i (by omega)).keptRow hg (own_ne (h2 i (by omega)).own h1 (by decide))
theorem OwnLL.one {w : World} {B : Nat} {A : Option Addr} {c n : Nat} {l : List Nat} (hn : n = l.length) (hrow : OwnB w B (.slice A n c) l) (hB : B ≤ w.heap.size) : OwnLL (w.alloc (.cells #[.slice A n c] 47)) B (.slice (some ⟨w.heap.size, 0, none⟩) 1 1) [l] := by
  subst hn
  refine ⟨fun _ => A, fun _ => c, ?_, fun i hi => ?_⟩
  · exact own_of_row (World.rowIs_alloc w #[.slice A l.length c] 47 (fun i => .slice A (([l] : List (List Nat)).getD i []).length c) (by
      intro i hi
      match i, hi with
      | 0, _ => rfl)) hB (by decide)
  · have hi : i < 1 := hi
    have : i = 0 := by omega
    subst this
    exact hrow.kept ((Below.refl _ _).alloc (Nat.le_refl _) _)
end Go.Proofs.Ytbioanbokbhmgaa
