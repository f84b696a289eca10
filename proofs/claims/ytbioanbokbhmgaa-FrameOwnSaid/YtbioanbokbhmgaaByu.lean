/- More of bytes in memory: a string's bytes in new memory, rows of bytes, append onto a full slice that is read. Conditions: none of any program. -/
import Derived.Test.YtbioanbokbhmgaaByt
import Derived.Test.YtbioanbokbhmgaaFactG
import Derived.Lib.ConvBytes
namespace Go.Proofs.Ytbioanbokbhmgaa
open Go.RowKit

theorem mixed : Try.prog.follows .mixedOrders = true := by kernel_rfl
theorem conv_bytes (w : World) (s : ByteArray) : ∃ A c w', (convert 9 47 (.string s)).run Try.prog w = .ok (.slice A s.size c) w' ∧ RL w' A (bl s) ∧ Below w.heap.size w w' := by
  refine ⟨_, _, _, Lib.run_convert_string_bytes w 9 47 5 s Try.underlying9 Try.underlying47 Try.underlying5, ?_, ?_⟩
  · intro i hi
    rw [bl_length] at hi
    refine ⟨_, _, rfl, by rw [Lib.bytesWorld_size]; omega, ?_⟩
    rw [Nat.zero_add, Lib.bytesWorld_cell w _ s i hi]
    unfold bl
    have hs : i < s.data.toList.length := by rw [Array.length_toList]; exact hi
    have hs2 : i < s.data.size := hi
    simp [List.getD, Array.getElem?_eq_getElem hs2]
  · refine ⟨by simp [Lib.bytesWorld, World.freeze, World.alloc, World.drew, -World.alloc_eq, -World.drew_eq], by simp [Lib.bytesWorld, World.freeze, World.alloc, World.drew, -World.alloc_eq, -World.drew_eq], by simp [Lib.bytesWorld, World.freeze, World.alloc, World.drew, -World.alloc_eq, -World.drew_eq], by rw [Lib.bytesWorld_size]; omega, fun k hk => Lib.bytesWorld_at_old w _ s k hk⟩
/-- Rows of bytes, read. -/
def RLL (w : World) (A : Option Addr) (LL : List (List Nat)) : Prop :=
  ∃ (S : Nat → Option Addr) (C : Nat → Nat), Rd w A LL.length (fun i => .slice (S i) (LL.getD i []).length (C i)) ∧ ∀ i, i < LL.length → RL w (S i) (LL.getD i [])
theorem RLL.below {w w' : World} {A : Option Addr} {LL : List (List Nat)} (h : RLL w A LL) (hb : Below w.heap.size w w') : RLL w' A LL := by
  obtain ⟨S, C, h1, h2⟩ := h
  exact ⟨S, C, h1.below hb, fun i hi => (h2 i hi).below hb⟩
theorem RLL.nil (w : World) (A : Option Addr) : RLL w A [] := ⟨fun _ => none, fun _ => 0, Rd.zero _ _ _, fun i hi => absurd hi (by simp)⟩
/-- A value is a slice of these bytes. -/
def IsRL (l : List Nat) (v : Value) (w : World) : Prop := ∃ A c, v = .slice A l.length c ∧ RL w A l
theorem IsRL.below {l : List Nat} {v : Value} {w w' : World} (h : IsRL l v w) (hb : Below w.heap.size w w') : IsRL l v w' := by
  obtain ⟨A, c, e, h⟩ := h
  exact ⟨A, c, e, h.below hb⟩
def IsRLL (LL : List (List Nat)) (v : Value) (w : World) : Prop := ∃ A c, v = .slice A LL.length c ∧ RLL w A LL
def IsOwnB (B : Nat) (l : List Nat) (v : Value) (w : World) : Prop := OwnB w B v l
def Fact.rl (l : List Nat) : Fact := ⟨IsRL l, fun _ _ _ h hb => h.below hb⟩
def Fact.rll (LL : List (List Nat)) : Fact := ⟨IsRLL LL, fun _ _ _ ⟨A, c, e, h⟩ hb => ⟨A, c, e, h.below hb⟩⟩
def Fact.own (B : Nat) (l : List Nat) : Fact := ⟨IsOwnB B l, fun _ _ _ h hb => OwnB.kept h hb⟩
theorem OwnB.isRL {w : World} {B : Nat} {v : Value} {l : List Nat} (h : OwnB w B v l) : IsRL l v w := by
  obtain ⟨A, c, e, _, _, hr, _⟩ := h.rd
  exact ⟨A, c, e, hr⟩
/-- Each value of the list is a slice of the bytes beside it. -/
def All2 (w : World) : List Value → List (List Nat) → Prop
  | [], [] => True
  | v :: vs, l :: ls => IsRL l v w ∧ All2 w vs ls
  | _, _ => False
theorem All2.len {w : World} : ∀ {vs : List Value} {ls : List (List Nat)}, All2 w vs ls → vs.length = ls.length
  | [], [], _ => rfl
  | _ :: _, _ :: _, h => by simp [h.2.len]
theorem All2.get {w : World} : ∀ {vs : List Value} {ls : List (List Nat)}, All2 w vs ls → ∀ i, i < ls.length → ∃ v, vs[i]? = some v ∧ IsRL (ls.getD i []) v w
  | v :: _, l :: _, h, 0, _ => ⟨v, rfl, h.1⟩
  | [], [], _, _, hi => absurd hi (by simp)
  | _ :: vs, _ :: ls, h, i + 1, hi => by
    obtain ⟨v, h1, h2⟩ := h.2.get i (by simpa using hi)
    exact ⟨v, by simpa using h1, by simpa using h2⟩
theorem rll_new {w : World} {vs : List Value} {LL : List (List Nat)} (h : All2 w vs LL) : RLL (w.alloc (.cells vs.toArray 47)) (some ⟨w.heap.size, 0, none⟩) LL := by
  have hb := (Below.refl w.heap.size w).alloc (Nat.le_refl _) (.cells vs.toArray 47)
  have hg : ∀ i, ∃ (S : Option Addr) (c : Nat), i < LL.length → vs[i]? = some (.slice S (LL.getD i []).length c) ∧ RL w S (LL.getD i []) := fun i => by
    by_cases hi : i < LL.length
    · obtain ⟨v, h1, A, c, e, h2⟩ := h.get i hi
      exact ⟨A, c, fun _ => ⟨by rw [h1, e], h2⟩⟩
    · exact ⟨none, 0, fun h => absurd h hi⟩
  obtain ⟨S, hS⟩ := Classical.axiomOfChoice hg
  obtain ⟨C, hC⟩ := Classical.axiomOfChoice hS
  refine ⟨S, C, fun i hi => ⟨_, _, rfl, by simp, ?_⟩, fun i hi => (hC i hi).2.below hb⟩
  have := cells_new w vs.toArray 47 i _ (by simpa using (hC i hi).1)
  have hadd : (⟨w.heap.size, 0, none⟩ : Addr).add i = ⟨w.heap.size, 0 + i, none⟩ := by unfold Addr.add; split <;> simp_all
  rw [hadd] at this
  exact this
theorem isRLL_new {w : World} {C : Array Value} {n : Nat} {LL : List (List Nat)} (h : All2 w C.toList LL) (hn : n = LL.length) : IsRLL LL (.slice (some ⟨w.heap.size, 0, none⟩) n n) (w.alloc (.cells C 47)) := by
  subst hn
  exact ⟨_, _, rfl, rll_new h⟩
/-- New bytes, laid in a block of their own. -/
theorem rl_new {w : World} {C : Array Value} {l : List Nat} (T : Nat) (hC : C.toList = l.map bv) : RL (w.alloc (.cells C T)) (some ⟨w.heap.size, 0, none⟩) l := by
  intro i hi
  refine ⟨_, _, rfl, by simp, ?_⟩
  have := cells_new w C T i (bv (l.getD i 0)) (by rw [hC, List.getElem?_map, List.getElem?_eq_getElem hi, getD_in hi]; rfl)
  have hadd : (⟨w.heap.size, 0, none⟩ : Addr).add i = ⟨w.heap.size, 0 + i, none⟩ := by unfold Addr.add; split <;> simp_all
  rw [hadd] at this
  exact this
/-- append onto a full slice that is read: new memory. -/
theorem wp_appFull {w : World} {o : Oper} {a : Act} {K : Act → World → Prop} {Q : Exit → Act → World → Prop} (s xo : Operand) (tx : TypeId)
    (ho : o.op = .call { callee := .builtin .append, args := #[s, xo], argTypes := #[47, tx] }) (ad : Addr) (l : List Nat) (hv : a.eval s = .slice (some ad) l.length l.length) (hl : RL w (some ad) l)
    (x : Value) (m : Nat) (xs : List Nat) (hx : a.eval xo = x) (hs : Src Try.prog 1 tx x m (xs.map bv) w) (hm0 : 0 < m) (hlen : l.length + m ≤ 140737488355328)
    (h : ∀ v' w', OwnB w' w.heap.size v' (l ++ xs) → Below w.heap.size w w' → K (a.put o.dst v') w') : o.wp Try.prog a w K Q := by
  have hm : xs.length = m := by have := hs.newsLen; simpa using this
  obtain ⟨i, hi, hz0, hz1, hz2⟩ := info_parts byteInf
  have h63 : l.length + m ≤ maxLen := by unfold maxLen; omega
  have hcells : ∀ j u, (l.map bv)[j]? = some u → w.drew.cell? (ad.add j) = some u := by
    intro j u hu
    have hlt : j < l.length := by have := (List.getElem?_eq_some_iff.1 hu).1; simpa using this
    obtain ⟨b', o', e1, _, hc⟩ := hl j hlt
    have hadd : (⟨b', o', none⟩ : Addr).add j = ⟨b', o' + j, none⟩ := by clear hlen h63 hm0; unfold Addr.add; split <;> simp_all
    rw [Option.some.inj e1, hadd]
    simp only [List.getElem?_map, List.getElem?_eq_getElem hlt, Option.map_some, Option.some.injEq] at hu
    show w.cell? _ = some u
    rw [hc, ← hu]
    show some (Value.int .u8 ((l.getD j 0 : Nat) : Int)) = _
    rw [getD_in hlt]; rfl
  have hold := run_firstCells_some (P := Try.prog) w.drew 1 l.length ad l.length l.length (l.map bv) (by simp) hcells
  have k1 : l.length < l.length + m := by omega
  have k2 : ((l.length + m : Nat) : Int) ≤ 9223372036854775807 := by have h := hlen; omega
  have k3 : (l.length + m) * i.bytes ≤ 140737488355328 := by rw [hz2, Nat.mul_one]; exact hlen
  have hr := run_append_grow_src (P := Try.prog) w 47 tx o.type 5 i (.int .u8 0) Try.underlying47 hi hz0 (some ad) l.length l.length (l.map bv) (by rw [hz1]; exact hold) x m (xs.map bv) (by rw [hz1]; exact hs) k1 k2 (growslice_fits k1 k3)
  unfold Oper.wp execOp
  simp only [ho, resolve, invoke, builtin, Sem.run_bind, Sem.run_pure, Result.andThen_ok, List.map_toArray, List.map_cons, List.map_nil, hv, hx, hr]
  refine h _ _ ?_ ?_
  · have hge := grownCap_ge w (l.length + m) l.length 5
    unfold OwnB
    rw [List.length_append, hm]
    refine ⟨by simp [hm], .inr ⟨w.heap.size, _, _, rfl, Nat.le_refl _, heap_alloc_new w.drew _, hge, grownCap_le_maxLen w _ _ _ h63, ?_, ?_⟩⟩
    · have : (Value.int IntKind.u8 0).cells.size = 1 := rfl
      simp only [Array.size_append, List.size_toArray, size_zeroCells, this, List.length_append, List.length_map, hm, Nat.mul_one]
      omega
    · simp only [Array.toList_append]
      rw [List.map_append, List.take_append_of_le_length (by simp [hm]), List.take_of_length_le (by simp [hm])]
  · exact ((Dr.refl w).drew.below w.heap.size).trans ((Below.refl w.heap.size w.drew).alloc (Nat.le_refl _) _)
theorem slot_eval (a : Act) (s : Nat) : a.eval (.tmp s) = a.tmps[s]?.getD undef := by simp [Act.eval]
end Go.Proofs.Ytbioanbokbhmgaa
