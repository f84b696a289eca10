/- A list of shards as an argument, opened. Conditions: none. -/
import Derived.Test.YtjaaldandgfkgaaOpenSd
import Derived.Test.YtjaaldandgfkgaaShM
import Derived.Deep.Slices
namespace Go.Proofs.Ytjaaldandgfkgaa
open Go.ChangeShapes Go.WideShapes Go.ChangeAt Go.RowKit Go.Joins Go.Deep

section
variable {H : Type} {enc : TypeId × Value → H} {w : World} {base : Nat} {held : Bool}
set_option maxRecDepth 100000 in
theorem shard_cap {fuel : Nat} {c0 c1 c2 c3 c4 c5 c6 c7 c8 c9 c10 c11 c12 c13 c14 c15 : Value} {A : Option Addr} {n c : Nat} {x : DataW H × List MemPlace} (h : DataW.trod enc Try.prog w base (fun _ => true) held fuel 69 [c0, c1, c2, c3, c4, c5, c6, c7, c8, c9, c10, c11, c12, c13, c14, c15, .slice A n c] = some x) : n ≤ c := by
  obtain ⟨xs, k, _, hx, hlen, hxl, hg⟩ := DataW.trod_struct Try.underlying69 h
  have kB : Try.prog.cellsOf 67 = 1 := by kernel_rfl
  have g1 : DataW.trod enc Try.prog w base (fun _ => true) held k 67 (([c0, c1, c2, c3, c4, c5, c6, c7, c8, c9, c10, c11, c12, c13, c14, c15, .slice A n c].drop 16).take (Try.prog.cellsOf 67)) = xs[1]? := hg 1 _ rfl
  have hxl' : xs.length = 2 := hxl
  obtain ⟨y1, q1⟩ := some_of hxl' (i := 1) (by omega)
  rw [q1, kB] at g1
  simp only [List.drop_succ_cons, List.drop_zero, List.take_succ_cons, List.take_zero] at g1
  rcases open_slice Try.underlying67 g1 with ⟨e, _⟩ | ⟨a, len, cap, m, n', D, Pl, e, _, hl, _⟩
  · simp only [List.cons.injEq, and_true, Value.slice.injEq] at e
    obtain ⟨_, e1, e2⟩ := e
    omega
  · simp only [List.cons.injEq, and_true, Value.slice.injEq] at e
    obtain ⟨_, e1, e2⟩ := e
    omega
structure ShOne where
  h : Hd
  A : Option Addr
  c : Nat
  BL : List (List Nat)
instance : Inhabited ShOne := ⟨⟨⟨0, 0, 0, 0, 0, 0, 0, 0, 0, 0, 0, ⟨#[]⟩, 0, 0, 0, 0⟩, none, 0, []⟩⟩
set_option maxRecDepth 100000 in
theorem open_shards {fuel : Nat} {v : Value} {x : DataW H × List MemPlace} (h : DataW.trod enc Try.prog w base (fun _ => true) held fuel 45 [v] = some x) (hw : ∀ n ∈ x.1.weights Try.prog 45, n ≤ reachBytes) :
    ∃ (A : Option Addr) (n c : Nat) (H : Nat → Hd) (BL : Nat → List (List Nat)), v = .slice A n c ∧ n ≤ c ∧ c ≤ maxLen ∧ RSd w A n H BL ∧ n * 104 ≤ 140737488351232 ∧ (∀ i, i < n → (H i).Wf) ∧ (∀ i, i < n → (BL i).length * 24 ≤ 140737488351232) ∧ (∀ i, i < n → ∀ l ∈ BL i, l.length ≤ 140737488351232) ∧ ∀ i, i < n → ∀ l ∈ BL i, ∀ x ∈ l, x < 256 := by
  have k17 : Try.prog.cellsOf 69 = 17 := by kernel_rfl
  have k104 : Try.prog.bytesOf 69 = 104 := by kernel_rfl
  rcases open_slice Try.underlying45 h with ⟨e, _⟩ | ⟨a, len, cap, m, n', D, Pl, e, hb, hl, hm, hmm, rfl, hx⟩
  · simp only [List.cons.injEq, and_true] at e
    exact ⟨none, 0, 0, fun _ => (default : ShOne).h, fun _ => [], e, Nat.le_refl _, by unfold maxLen; omega, RSd.zero _ _ _ _, by omega, fun i hi => absurd hi (by omega), fun i hi => absurd hi (by omega), fun i hi => absurd hi (by omega), fun i hi => absurd hi (by omega)⟩
  · simp only [List.cons.injEq, and_true] at e
    simp only [if_true] at hmm
    subst hmm
    obtain ⟨hW, hrow⟩ := weights_slice Try.underlying45 hw
    rw [k104] at hW
    have hr := reach_le
    simp at hW
    rw [k17] at hx
    obtain ⟨q, hq⟩ := choose_lt (α := ShOne) (n := len) (p := fun i q => (∀ j u, (sdC q.h (.slice q.A q.BL.length q.c))[j]? = some u → w.cell? (a.add (i * 17 + j)) = some u) ∧ q.h.Wf ∧ RLL w q.A q.BL ∧ q.BL.length ≤ q.c ∧ q.BL.length * 24 ≤ 140737488351232 ∧ (∀ l ∈ q.BL, l.length ≤ 140737488351232) ∧ ∀ l ∈ q.BL, ∀ x ∈ l, x < 256) (fun i hi => by
      obtain ⟨cs', h1, h2⟩ := hx i (by omega)
      obtain ⟨_, hlen, hcell⟩ := World.cells?_some h1
      have hmem : D i ∈ (List.range len).map D := List.mem_map.2 ⟨i, List.mem_range.2 hi, rfl⟩
      obtain ⟨hd, A, c, BL, rfl, h3, h4, h5, h6, h7⟩ := open_shard h2 (hrow _ hmem)
      refine ⟨⟨hd, A, c, BL⟩, fun j u hj => ?_, h3, h4, shard_cap h2, h5, h6, h7⟩
      have hj17 : j < 17 := (List.getElem?_eq_some_iff.1 hj).1
      have h8 := hcell j hj17
      rw [add_add] at h8
      rw [h8]
      exact hj)
    refine ⟨some a, len, _, fun i => (q i).h, fun i => (q i).BL, e, hl, hm, ⟨fun i => (q i).A, fun i => (q i).c, fun i hi => ?_, fun i hi => ⟨(hq i hi).2.2.1, (hq i hi).2.2.2.1⟩⟩, by omega, fun i hi => (hq i hi).2.1, fun i hi => (hq i hi).2.2.2.2.1, fun i hi => (hq i hi).2.2.2.2.2.1, fun i hi => (hq i hi).2.2.2.2.2.2⟩
    have h0 := (hq i hi).1
    have hs : a.spot = none := by
      have h9 := (hq 0 (by omega)).1 0 _ rfl
      unfold Addr.add at h9
      simp only [Nat.zero_mul, Nat.add_zero, if_true] at h9
      exact World.cell?_spot h9
    obtain ⟨b, o, sp⟩ := a
    simp only at hs
    subst hs
    have hadd : ∀ j, (⟨b, o, none⟩ : Addr).add (i * 17 + j) = ⟨b, o + i * 17 + j, none⟩ := fun j => by unfold Addr.add; split <;> simp_all <;> omega
    refine ⟨b, o, rfl, ?_, fun j u hj => by rw [← hadd]; exact h0 j u hj⟩
    have h9 := h0 0 _ rfl
    rw [hadd] at h9
    unfold World.cell? at h9
    cases hh : w.heap[b]? with
    | none => simp [hh] at h9
    | some x => exact (Array.getElem?_eq_some_iff.1 hh).1
end
end Go.Proofs.Ytjaaldandgfkgaa
