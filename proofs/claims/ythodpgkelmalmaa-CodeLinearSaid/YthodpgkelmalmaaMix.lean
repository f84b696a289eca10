/- A region that draws its order, operation by operation: an operation is taken first (it looks at nothing, or S settles what it sees), or it is the only one that may come up. Conditions: as the theorem has them. -/
import Derived.Test.YthodpgkelmalmaaHeld
namespace Go.Proofs.Ythodpgkelmalmaa
open Go Go.RowKit

section
variable {P : Program} {ops : Array Oper} {Q : Exit → Act → World → Prop} {md : Region.Mode} {S : World → Prop} {Z : List Nat}

/-- In the list's order. (number, is it taken first, does it look | need it not keep S, operation). -/
def wpMix (P : Program) (ops : Array Oper) (Q : Exit → Act → World → Prop) (S : World → Prop) : List (Nat × Bool × Bool × Oper) → Act → World → Prop
  | [], a, w => Q .normal a w
  | (_, true, d, o) :: rest, a, w => (d = true → S w) ∧ ∃ v, YieldsIf P ops (fun w => d = true → S w) o v a ∧ wpMix P ops Q S rest (a.put o.dst v) w
  | (_, false, z, o) :: rest, a, w => if Region.wanted o (yielded ops a.tmps) then o.wp P a w (fun a' w' => (z = false → S w → S w') ∧ wpMix P ops Q S rest a' w') Q ∨ (o.asks P a w ∧ LetsOut Q) else wpMix P ops Q S rest (a.put o.dst undef) w
theorem mix_look {a : Act} {w : World} {k : Nat} {o : Oper} {rest : List (Nat × Bool × Bool × Oper)} (hS : S w) (v : Value) (hw : Region.wanted o (yielded ops a.tmps) = true) (hy : ∀ w, S w → (execOp a.eval o).run P w = .ok (.value v) w)
    (h : wpMix P ops Q S rest (a.put o.dst v) w) : wpMix P ops Q S ((k, true, true, o) :: rest) a w := ⟨fun _ => hS, v, .inl ⟨hw, fun w hS => hy w (hS rfl)⟩, h⟩
theorem mix_pure {a : Act} {w : World} {k : Nat} {o : Oper} {rest : List (Nat × Bool × Bool × Oper)} (v : Value) (hw : Region.wanted o (yielded ops a.tmps) = true) (hy : ∀ w, (execOp a.eval o).run P w = .ok (.value v) w)
    (h : wpMix P ops Q S rest (a.put o.dst v) w) : wpMix P ops Q S ((k, true, false, o) :: rest) a w := ⟨fun h => absurd h (by decide), v, .inl ⟨hw, fun w _ => hy w⟩, h⟩
theorem mix_skip {a : Act} {w : World} {k : Nat} {d : Bool} {o : Oper} {rest : List (Nat × Bool × Bool × Oper)} (hS : S w) (hw : Region.wanted o (yielded ops a.tmps) = false)
    (h : wpMix P ops Q S rest (a.put o.dst undef) w) : wpMix P ops Q S ((k, true, d, o) :: rest) a w := ⟨fun _ => hS, undef, .inr ⟨hw, rfl⟩, h⟩
theorem mix_pass {a : Act} {w : World} {k : Nat} {o : Oper} {rest : List (Nat × Bool × Bool × Oper)} (hw : Region.wanted o (yielded ops a.tmps) = false)
    (h : wpMix P ops Q S rest (a.put o.dst undef) w) : wpMix P ops Q S ((k, true, false, o) :: rest) a w := ⟨fun h => absurd h (by decide), undef, .inr ⟨hw, rfl⟩, h⟩
theorem mix_step {a : Act} {w : World} {k : Nat} {z : Bool} {o : Oper} {rest : List (Nat × Bool × Bool × Oper)}
    (h : ∀ K : Act → World → Prop, Hid (∀ a' w', (z = false → S w → S w') → wpMix P ops Q S rest a' w' → K a' w') → if Region.wanted o (yielded ops a.tmps) = true then o.wp P a w K Q else K (a.put o.dst undef) w) : wpMix P ops Q S ((k, false, z, o) :: rest) a w := by
  have h0 := h (fun a' w' => (z = false → S w → S w') ∧ wpMix P ops Q S rest a' w') fun _ _ h1 h2 => ⟨h1, h2⟩
  unfold wpMix
  split
  · rename_i hw; rw [if_pos hw] at h0; exact .inl h0
  · rename_i hw; rw [if_neg hw] at h0; exact h0.2
theorem mix_list {a : Act} {w : World} {k : Nat} {z : Bool} {o : Oper} {rest : List (Nat × Bool × Bool × Oper)}
    (h : ∀ K : Act → World → Prop, Hid (∀ a' w', (z = false → S w → S w') → wpMix P ops Q S rest a' w' → K a' w') → wpList P ops (Kq K Q) [o] a w) : wpMix P ops Q S ((k, false, z, o) :: rest) a w := by
  have h0 := h (fun a' w' => (z = false → S w → S w') ∧ wpMix P ops Q S rest a' w') fun _ _ h1 h2 => ⟨h1, h2⟩
  unfold wpMix
  unfold wpList at h0
  split
  · rename_i hw
    rw [if_pos hw] at h0
    rcases h0 with h0 | h0
    · exact .inl (wp_Kq (Oper.wp_mono (fun _ _ h => h) h0))
    · exact .inr h0
  · rename_i hw; rw [if_neg hw] at h0; exact h0.2
theorem mix_nil {a : Act} {w : World} (h : Q .normal a w) : wpMix P ops (NoPanic Q) S [] a w := h

def lexM (md : Region.Mode) (ops : Array Oper) : List (Nat × Bool × Bool × Oper) → Array Bool → Bool
  | [], listed => (Region.ready md ops listed).isEmpty
  | (k, true, _, _) :: l, listed => (Region.ready md ops listed).contains k && Region.free md ops listed k && lexM md ops l (listed.setIfInBounds k true)
  | (k, false, _, _) :: l, listed => decide (Region.ready md ops listed = [k]) && lexM md ops l (listed.setIfInBounds k true)

theorem wpAnyE_of_mix (hsel : Region.noSelect ops = true) (hQ : ∀ c a d v w, Q (.panic c) (a.put d v) w → Q (.panic c) a w) :
    ∀ (l : List (Nat × Bool × Bool × Oper)) (listed : Array Bool) (a : Act) (w : World),
    (∀ t, t ∈ l → ops[t.1]? = some t.2.2.2 ∧ (t.2.1 = false → t.2.2.1 = true → t.1 ∈ Z) ∧ (t.2.1 = true → t.2.2.1 = true → ∀ z, z ∈ Z → Region.waitsFor md ops z t.1 = true)) →
    lexM md ops l listed = true → wpMix P ops Q S l a w → wpAnyE P md ops Q S Z l.length listed a w
  | [], _, _, _, _, hB, h => ⟨by simpa [lexM] using hB, h⟩
  | (k, true, d, o) :: l, listed, a, w, hl, hB, h => by
    obtain ⟨h0, _, hz⟩ := hl (k, true, d, o) (List.mem_cons_self ..)
    simp only [lexM, Bool.and_eq_true] at hB
    obtain ⟨⟨hr, hf⟩, hB'⟩ := hB
    have hr' : k ∈ Region.ready md ops listed := by simpa using hr
    obtain ⟨hS, v, hy, hK⟩ := h
    refine wpAnyE_first (T := fun w => d = true → S w) ?_ h0 (Region.noSelect_spec hsel) (fun c a w => hQ c a _ _ w) _ listed a w (Region.free_spec h0 hf) hr' hy hS
      (wpAnyE_of_mix hsel hQ l _ _ w (fun t ht => hl t (List.mem_cons_of_mem _ ht)) hB' hK)
    cases d with
    | false => exact .inl fun _ h => absurd h (by decide)
    | true => exact .inr ⟨funext fun w => propext ⟨fun h => h rfl, fun h _ => h⟩, hz rfl rfl⟩
  | (k, false, z, o) :: l, listed, a, w, hl, hB, h => by
    obtain ⟨h0, hz, _⟩ := hl (k, false, z, o) (List.mem_cons_self ..)
    simp only [lexM, Bool.and_eq_true, decide_eq_true_eq] at hB
    refine ⟨fun h1 => (by rw [hB.1] at h1; cases h1), fun i hi => ?_⟩
    rw [hB.1] at hi
    have hik : i = k := by simpa using hi
    subst hik
    have hw : wpOp P ops Q i (fun a' w' => (z = false → S w → S w') ∧ wpMix P ops Q S l a' w') a w := by
      unfold wpOp
      simp only [h0]
      unfold wpMix at h
      split at h
      · rename_i hw; rw [if_pos hw]; exact h
      · rename_i hw; rw [if_neg hw]; exact ⟨fun _ h => h, h⟩
    exact wpOp_mono (fun a' w' h' => ⟨fun hne => h'.1 (by cases z with | false => rfl | true => exact absurd (hz rfl rfl) hne), wpAnyE_of_mix hsel hQ l _ a' w' (fun t ht => hl t (List.mem_cons_of_mem _ ht)) hB.2 h'.2⟩) hw

/-- Marks: (is it hoisted ahead of the rest, is it taken first, does it look | need it not keep S). -/
def hdM : List (Bool × Bool × Bool) → List Oper → Nat → List (Nat × Bool × Bool × Oper)
  | (true, f, d) :: cs, o :: l, k => (k, f, d, o) :: hdM cs l (k + 1)
  | (false, _, _) :: cs, _ :: l, k => hdM cs l (k + 1)
  | _, _, _ => []
def tlM : List (Bool × Bool × Bool) → List Oper → Nat → List (Nat × Bool × Bool × Oper)
  | (true, _, _) :: cs, _ :: l, k => tlM cs l (k + 1)
  | (false, f, d) :: cs, o :: l, k => (k, f, d, o) :: tlM cs l (k + 1)
  | _, _, _ => []
theorem hdM_mem {t : Nat × Bool × Bool × Oper} : ∀ {cs : List (Bool × Bool × Bool)} {l : List Oper} {k : Nat}, t ∈ hdM cs l k → ∃ j, t.1 = k + j ∧ l[j]? = some t.2.2.2
  | (true, f, d) :: cs, o :: l, k, h => by
    have h : t ∈ (k, f, d, o) :: hdM cs l (k + 1) := h
    rcases List.mem_cons.1 h with h | h
    · subst h; exact ⟨0, rfl, rfl⟩
    · obtain ⟨j, h1, h2⟩ := hdM_mem h
      exact ⟨j + 1, by omega, by simpa using h2⟩
  | (false, f, d) :: cs, o :: l, k, h => by
    obtain ⟨j, h1, h2⟩ := hdM_mem (show t ∈ hdM cs l (k + 1) from h)
    exact ⟨j + 1, by omega, by simpa using h2⟩
  | [], _, _, h => absurd h (by simp [hdM])
  | (true, _, _) :: _, [], _, h => absurd h (by simp [hdM])
  | (false, _, _) :: _, [], _, h => absurd h (by simp [hdM])
theorem tlM_mem {t : Nat × Bool × Bool × Oper} : ∀ {cs : List (Bool × Bool × Bool)} {l : List Oper} {k : Nat}, t ∈ tlM cs l k → ∃ j, t.1 = k + j ∧ l[j]? = some t.2.2.2
  | (false, f, d) :: cs, o :: l, k, h => by
    have h : t ∈ (k, f, d, o) :: tlM cs l (k + 1) := h
    rcases List.mem_cons.1 h with h | h
    · subst h; exact ⟨0, rfl, rfl⟩
    · obtain ⟨j, h1, h2⟩ := tlM_mem h
      exact ⟨j + 1, by omega, by simpa using h2⟩
  | (true, f, d) :: cs, o :: l, k, h => by
    obtain ⟨j, h1, h2⟩ := tlM_mem (show t ∈ tlM cs l (k + 1) from h)
    exact ⟨j + 1, by omega, by simpa using h2⟩
  | [], _, _, h => absurd h (by simp [tlM])
  | (true, _, _) :: _, [], _, h => absurd h (by simp [tlM])
  | (false, _, _) :: _, [], _, h => absurd h (by simp [tlM])
theorem hdtlM_len : ∀ (cs : List (Bool × Bool × Bool)) (l : List Oper) (k : Nat), cs.length = l.length → (hdM cs l k).length + (tlM cs l k).length = l.length := by
  intro cs
  induction cs with
  | nil =>
    intro l k h
    cases l with
    | nil => simp [hdM, tlM]
    | cons o l => simp at h
  | cons c cs ih =>
    intro l k h
    cases l with
    | nil => simp at h
    | cons o l =>
      have := ih l (k + 1) (by simpa using h)
      obtain ⟨b, f, d⟩ := c
      cases b <;> simp only [hdM, tlM, List.length_cons] <;> omega
def mixB (l : List Oper) (cs : List (Bool × Bool × Bool)) : Bool :=
  Region.noSelect l.toArray && decide (cs.length = l.length) && (hdM cs l 0 ++ tlM cs l 0).all (fun t => !t.2.1 || !t.2.2.1 || (hdM cs l 0 ++ tlM cs l 0).all fun u => u.2.1 || !u.2.2.1 || Region.waitsFor .any l.toArray u.1 t.1) && lexM .any l.toArray (hdM cs l 0 ++ tlM cs l 0) (Array.replicate l.length false)
theorem wp_region_mix {id : Nat} {a : Act} {w : World} {l : List Oper} (cs : List (Bool × Bool × Bool)) (hm : P.follows .mixedOrders = true) (hB : mixB l cs = true) (S : World → Prop)
    (hS : S w.drew)
    (h : Hid (S w.drew) → wpMix P l.toArray (NoPanic Q) S (hdM cs l 0 ++ tlM cs l 0) a w.drew) : (Code.region id l.toArray true).wp P Q a w := by
  refine wp_region_noPanic ?_
  simp only [mixB, Bool.and_eq_true, decide_eq_true_eq] at hB
  obtain ⟨⟨⟨hsel, hn⟩, hz⟩, hlex⟩ := hB
  have H := wpAnyE_of_mix (P := P) (Q := NoPanic Q) (md := .any) (S := S) (Z := ((hdM cs l 0 ++ tlM cs l 0).filter fun u => !u.2.1 && u.2.2.1).map (·.1)) hsel (fun _ _ _ _ _ h => h)
    (hdM cs l 0 ++ tlM cs l 0) (Array.replicate l.length false) a w.drew
    (fun t ht => by
      have hm : ∃ j, t.1 = 0 + j ∧ l[j]? = some t.2.2.2 := by
        rcases List.mem_append.1 ht with h | h
        · exact hdM_mem h
        · exact tlM_mem h
      obtain ⟨j, h1, h2⟩ := hm
      refine ⟨by rw [h1]; simpa using h2, fun e1 e2 => List.mem_map.2 ⟨t, List.mem_filter.2 ⟨ht, by rw [e1, e2]; rfl⟩, rfl⟩, fun e1 e2 z hz' => ?_⟩
      obtain ⟨u, hu, rfl⟩ := List.mem_map.1 hz'
      obtain ⟨hu1, hu2⟩ := List.mem_filter.1 hu
      simp only [Bool.and_eq_true, Bool.not_eq_true'] at hu2
      have h4 := List.all_eq_true.1 hz t ht
      rw [e1, e2] at h4
      simp only [Bool.not_true, Bool.false_or] at h4
      have h5 := List.all_eq_true.1 h4 u hu1
      rw [hu2.1, hu2.2] at h5
      simpa using h5)
    hlex (h hS)
  refine wp_region_any hm (wpAny_of_E (Z := ((hdM cs l 0 ++ tlM cs l 0).filter fun u => !u.2.1 && u.2.2.1).map (·.1)) (S := S) _ _ _ _ ?_)
  rw [List.length_append, hdtlM_len _ _ _ hn] at H
  simpa using H
end
end Go.Proofs.Ythodpgkelmalmaa
