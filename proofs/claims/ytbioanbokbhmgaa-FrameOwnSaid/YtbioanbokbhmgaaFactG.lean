/- A region that draws its order: what looks at the world is settled by a property S of it and taken first, with what looks at nothing; the rest comes up in one order, and keeps S but where every look waits for it to come later. Conditions: as the theorems have them. -/
import Derived.Test.YtbioanbokbhmgaaMem2
namespace Go.Proofs.Ytbioanbokbhmgaa
open Go Go.RowKit

section
variable {P : Program} {ops : Array Oper} {Q : Exit → Act → World → Prop} {md : Region.Mode} {S : World → Prop} {Z : List Nat}

/-- Whatever order is picked, every operation but those of Z keeps S. -/
def wpAnyE (P : Program) (md : Region.Mode) (ops : Array Oper) (Q : Exit → Act → World → Prop) (S : World → Prop) (Z : List Nat) : Nat → Array Bool → Act → World → Prop
  | 0, listed, a, w => Region.ready md ops listed = [] ∧ Q .normal a w
  | fuel + 1, listed, a, w =>
    (Region.ready md ops listed = [] → Q .normal a w) ∧
    ∀ i ∈ Region.ready md ops listed, wpOp P ops Q i (fun a' w' => (¬ i ∈ Z → S w → S w') ∧ wpAnyE P md ops Q S Z fuel (listed.setIfInBounds i true) a' w') a w
theorem wpAny_of_E : ∀ (fuel : Nat) (listed : Array Bool) (a : Act) (w : World), wpAnyE P md ops Q S Z fuel listed a w → wpAny P md ops Q fuel listed a w
  | 0, _, _, _, h => h
  | fuel + 1, _, _, _, h => ⟨h.1, fun i hi => wpOp_mono (fun a' w' h' => wpAny_of_E fuel _ a' w' h'.2) (h.2 i hi)⟩

/-- An operation that may be taken first: T is S where it looks at the world (and every operation of Z waits for it), nothing where it does not. -/
theorem wpAnyE_first {i : Nat} {oi : Oper} {v : Value} {T : World → Prop} (hT : (∀ w, T w) ∨ (T = S ∧ ∀ z, z ∈ Z → Region.waitsFor md ops z i = true)) (hi : ops[i]? = some oi) (hsel : ∀ (j : Nat) (o : Oper) cs b, ops[j]? = some o → o.op ≠ .select cs b)
    (hQ : ∀ c a w, Q (.panic c) (a.put oi.dst v) w → Q (.panic c) a w) :
    ∀ (fuel : Nat) (listed : Array Bool) (a : Act) (w : World),
      (∀ j oj, ops[j]? = some oj → j ≠ i → listed.getD j true = false → (∀ e ∈ oj.after, Region.binds md e = true → e.on ≠ i) → oi.apart ops oj = true) →
      i ∈ Region.ready md ops listed → YieldsIf P ops T oi v a → T w →
      wpAnyE P md ops Q S Z fuel (listed.setIfInBounds i true) (a.put oi.dst v) w → wpAnyE P md ops Q S Z (fuel + 1) listed a w := by
  intro fuel
  induction fuel with
  | zero =>
    intro listed a w _ hr hy hS H
    refine ⟨fun h => (by rw [h] at hr; cases hr), fun j hj => ?_⟩
    by_cases hji : j = i
    · subst hji; exact hy.wpOp hi hS ⟨fun _ h => h, H⟩
    · have := ready_mono hj hji
      rw [H.1] at this
      cases this
  | succ fuel ih =>
    intro listed a w hfree hr hy hS H
    refine ⟨fun h => (by rw [h] at hr; cases hr), fun j hj => ?_⟩
    by_cases hji : j = i
    · subst hji; exact hy.wpOp hi hS ⟨fun _ h => h, H⟩
    · have h1 := H.2 j (ready_mono hj hji)
      obtain ⟨hjun, oj, hoj, hall⟩ := mem_ready.1 hj
      have hun := (mem_ready.1 hr).1
      have hnot : ∀ e ∈ oj.after, Region.binds md e = true → e.on ≠ i := fun e he hb heq => by
        have h1 := hall e he hb
        rw [heq, getD_both hun] at h1
        cases h1
      have hjz : (∀ w, T w) ∨ (T = S ∧ ¬ j ∈ Z) := by
        rcases hT with h | ⟨h, hz⟩
        · exact .inl h
        · refine .inr ⟨h, fun e => ?_⟩
          obtain ⟨oz, hoz, e, he, hb, hon⟩ := Region.waitsFor_spec (hz j e)
          have : oz = oj := Option.some.inj (hoz.symm.trans hoj)
          subst this
          exact hnot e he hb hon
      have h2 := wpOp_putIf hoj (hfree j oj hoj hji hjun hnot) (fun cs b => hsel i oi cs b hi) (fun cs b => hsel j oj cs b hoj) hQ hy h1
      have hfree' : ∀ k ok, ops[k]? = some ok → k ≠ i → (listed.setIfInBounds j true).getD k true = false →
          (∀ e ∈ ok.after, Region.binds md e = true → e.on ≠ i) → oi.apart ops ok = true := fun k ok hk hki hun hno => by
        refine hfree k ok hk hki ?_ hno
        by_cases hjk : j = k
        · subst hjk; exact hjun
        · rw [getD_set_ne true hjk] at hun; exact hun
      refine wpOp_mono (fun a' w' h3 => ⟨h3.2.1, ih (listed.setIfInBounds j true) a' w' hfree' (ready_mono hr (Ne.symm hji)) h3.1 ?_ ?_⟩) h2
      · rcases hjz with h | ⟨rfl, hz⟩
        · exact h w'
        · exact h3.2.1 hz hS
      rw [Array.setIfInBounds_comm _ _ hji]
      exact h3.2.2

/-- What is taken first, in the order of the list: each with 'does it look at the world'. -/
def wpHeld (P : Program) (ops : Array Oper) (S : World → Prop) (L : Act → Prop) : List (Nat × Bool × Oper) → Act → Prop
  | [], a => L a
  | (_, d, o) :: rest, a => ∃ v, YieldsIf P ops (fun w => d = true → S w) o v a ∧ wpHeld P ops S L rest (a.put o.dst v)
theorem wpHeld_nil {L : Act → Prop} {a : Act} (h : L a) : wpHeld P ops S L [] a := h
theorem wpHeld_step {L : Act → Prop} {a : Act} {k : Nat} {o : Oper} {rest : List (Nat × Bool × Oper)} (v : Value) (hw : Region.wanted o (yielded ops a.tmps) = true) (hy : ∀ w, S w → (execOp a.eval o).run P w = .ok (.value v) w)
    (h : wpHeld P ops S L rest (a.put o.dst v)) : wpHeld P ops S L ((k, true, o) :: rest) a := ⟨v, .inl ⟨hw, fun w hS => hy w (hS rfl)⟩, h⟩
theorem wpHeld_pure {L : Act → Prop} {a : Act} {k : Nat} {o : Oper} {rest : List (Nat × Bool × Oper)} (v : Value) (hw : Region.wanted o (yielded ops a.tmps) = true) (hy : ∀ w, (execOp a.eval o).run P w = .ok (.value v) w)
    (h : wpHeld P ops S L rest (a.put o.dst v)) : wpHeld P ops S L ((k, false, o) :: rest) a := ⟨v, .inl ⟨hw, fun w _ => hy w⟩, h⟩
theorem wpHeld_skip {L : Act → Prop} {a : Act} {k : Nat} {d : Bool} {o : Oper} {rest : List (Nat × Bool × Oper)} (hw : Region.wanted o (yielded ops a.tmps) = false)
    (h : wpHeld P ops S L rest (a.put o.dst undef)) : wpHeld P ops S L ((k, d, o) :: rest) a := ⟨undef, .inr ⟨hw, rfl⟩, h⟩
/-- What comes behind it, in the order of the list: each with 'need it not keep S'. -/
def wpTailE (P : Program) (ops : Array Oper) (Q : Exit → Act → World → Prop) (S : World → Prop) : List (Nat × Bool × Oper) → Act → World → Prop
  | [], a, w => Q .normal a w
  | (_, z, o) :: rest, a, w => if Region.wanted o (yielded ops a.tmps) then o.wp P a w (fun a' w' => (z = false → S w → S w') ∧ wpTailE P ops Q S rest a' w') Q ∨ (o.asks P a w ∧ LetsOut Q) else wpTailE P ops Q S rest (a.put o.dst undef) w
theorem wpTailE_step {a : Act} {w : World} {k : Nat} {z : Bool} {o : Oper} {rest : List (Nat × Bool × Oper)}
    (h : ∀ K : Act → World → Prop, Hid (∀ a' w', (z = false → S w → S w') → wpTailE P ops Q S rest a' w' → K a' w') → if Region.wanted o (yielded ops a.tmps) = true then o.wp P a w K Q else K (a.put o.dst undef) w) : wpTailE P ops Q S ((k, z, o) :: rest) a w := by
  have h0 := h (fun a' w' => (z = false → S w → S w') ∧ wpTailE P ops Q S rest a' w') fun _ _ h1 h2 => ⟨h1, h2⟩
  unfold wpTailE
  split
  · rename_i hw; rw [if_pos hw] at h0; exact .inl h0
  · rename_i hw; rw [if_neg hw] at h0; exact h0.2
/-- The way on, as what follows an operation. -/
def Kq (K : Act → World → Prop) (Q : Exit → Act → World → Prop) : Exit → Act → World → Prop
  | .normal, a, w => K a w
  | e, a, w => Q e a w
theorem wp_Kq {K : Act → World → Prop} {o : Oper} {a : Act} {w : World} (h : o.wp P a w K (Kq K Q)) : o.wp P a w K Q := by
  unfold Oper.wp at *
  generalize (execOp a.eval o).run P w = r at *
  cases r with
  | ok n w' => cases n <;> exact h
  | halt x w' => cases x <;> exact h
/-- An operation met by a law for lists. -/
theorem wpTailE_list {a : Act} {w : World} {k : Nat} {z : Bool} {o : Oper} {rest : List (Nat × Bool × Oper)}
    (h : ∀ K : Act → World → Prop, Hid (∀ a' w', (z = false → S w → S w') → wpTailE P ops Q S rest a' w' → K a' w') → wpList P ops (Kq K Q) [o] a w) : wpTailE P ops Q S ((k, z, o) :: rest) a w := by
  have h0 := h (fun a' w' => (z = false → S w → S w') ∧ wpTailE P ops Q S rest a' w') fun _ _ h1 h2 => ⟨h1, h2⟩
  unfold wpTailE
  unfold wpList at h0
  split
  · rename_i hw
    rw [if_pos hw] at h0
    rcases h0 with h0 | h0
    · exact .inl (wp_Kq (Oper.wp_mono (fun _ _ h => h) h0))
    · exact .inr h0
  · rename_i hw; rw [if_neg hw] at h0; exact h0.2
theorem wpTailE_nil {a : Act} {w : World} (h : Q .normal a w) : wpTailE P ops (NoPanic Q) S [] a w := h

/-- The rest comes up in this order alone. -/
def seqP (md : Region.Mode) (ops : Array Oper) : List (Nat × Bool × Oper) → Array Bool → Bool
  | [], listed => (Region.ready md ops listed).isEmpty
  | (k, _, _) :: ts, listed => decide (Region.ready md ops listed = [k]) && seqP md ops ts (listed.setIfInBounds k true)
def lexP (md : Region.Mode) (ops : Array Oper) (ts : List (Nat × Bool × Oper)) : List (Nat × Bool × Oper) → Array Bool → Bool
  | [], listed => seqP md ops ts listed
  | (k, _, _) :: hs, listed => (Region.ready md ops listed).contains k && Region.free md ops listed k && lexP md ops ts hs (listed.setIfInBounds k true)

theorem wpAnyE_of_seq : ∀ (ts : List (Nat × Bool × Oper)) (listed : Array Bool) (a : Act) (w : World), (∀ t, t ∈ ts → ops[t.1]? = some t.2.2 ∧ (t.2.1 = true → t.1 ∈ Z)) →
    seqP md ops ts listed = true → wpTailE P ops Q S ts a w → wpAnyE P md ops Q S Z ts.length listed a w
  | [], _, _, _, _, hB, h => ⟨by simpa [seqP] using hB, h⟩
  | (k, z, o) :: l, listed, a, w, hl, hB, h => by
    obtain ⟨h0, hz⟩ := hl (k, z, o) (List.mem_cons_self ..)
    simp only [seqP, Bool.and_eq_true, decide_eq_true_eq] at hB
    refine ⟨fun h1 => (by rw [hB.1] at h1; cases h1), fun i hi => ?_⟩
    rw [hB.1] at hi
    have hik : i = k := by simpa using hi
    subst hik
    have hw : wpOp P ops Q i (fun a' w' => (z = false → S w → S w') ∧ wpTailE P ops Q S l a' w') a w := by
      unfold wpOp
      simp only [h0]
      unfold wpTailE at h
      split at h
      · rename_i hw; rw [if_pos hw]; exact h
      · rename_i hw; rw [if_neg hw]; exact ⟨fun _ h => h, h⟩
    exact wpOp_mono (fun a' w' h' => ⟨fun hne => h'.1 (by cases z with | false => rfl | true => exact absurd (hz rfl) hne), wpAnyE_of_seq l _ a' w' (fun t ht => hl t (List.mem_cons_of_mem _ ht)) hB.2 h'.2⟩) hw

theorem wpAnyE_lex {w : World} {ts : List (Nat × Bool × Oper)} (hts : ∀ t, t ∈ ts → ops[t.1]? = some t.2.2 ∧ (t.2.1 = true → t.1 ∈ Z)) (hsel : Region.noSelect ops = true) (hQ : ∀ c a d v w, Q (.panic c) (a.put d v) w → Q (.panic c) a w) (hS : S w) :
    ∀ (hs : List (Nat × Bool × Oper)) (listed : Array Bool) (a : Act), (∀ t, t ∈ hs → ops[t.1]? = some t.2.2 ∧ (t.2.1 = true → ∀ z, z ∈ Z → Region.waitsFor md ops z t.1 = true)) →
    lexP md ops ts hs listed = true → wpHeld P ops S (fun a' => wpTailE P ops Q S ts a' w) hs a →
    wpAnyE P md ops Q S Z (hs.length + ts.length) listed a w
  | [], listed, a, _, hB, h => by
    simp only [List.length_nil, Nat.zero_add]
    exact wpAnyE_of_seq ts listed a w hts (by simpa [lexP] using hB) h
  | (k, d, o) :: l, listed, a, hl, hB, h => by
    obtain ⟨h0, hz⟩ := hl (k, d, o) (List.mem_cons_self ..)
    simp only [lexP, Bool.and_eq_true] at hB
    obtain ⟨⟨hr, hf⟩, hB'⟩ := hB
    have hr' : k ∈ Region.ready md ops listed := by simpa using hr
    obtain ⟨v, hy, hK⟩ := h
    rw [show ((k, d, o) :: l).length + ts.length = (l.length + ts.length) + 1 by simp only [List.length_cons]; omega]
    refine wpAnyE_first (T := fun w => d = true → S w) ?_ h0 (Region.noSelect_spec hsel) (fun c a w => hQ c a _ _ w) _ listed a w (Region.free_spec h0 hf) hr' hy (fun _ => hS)
      (wpAnyE_lex hts hsel hQ hS l _ _ (fun t ht => hl t (List.mem_cons_of_mem _ ht)) hB' hK)
    cases d with
    | false => exact .inl fun _ h => absurd h (by decide)
    | true => exact .inr ⟨funext fun w => propext ⟨fun h => h rfl, fun h _ => h⟩, hz rfl⟩

/-- Numbers and marks for a list of operations. -/
def tag (f : Nat → Bool) (k : Nat) : List Oper → List (Nat × Bool × Oper)
  | [] => []
  | o :: l => (k, f k, o) :: tag f (k + 1) l
theorem tag_mem {f : Nat → Bool} {t : Nat × Bool × Oper} : ∀ {l : List Oper} {k : Nat}, t ∈ tag f k l → ∃ j, t.1 = k + j ∧ l[j]? = some t.2.2 ∧ t.2.1 = f t.1
  | [], k, h => absurd (show t ∈ ([] : List (Nat × Bool × Oper)) from h) (by simp)
  | o :: l, k, h => by
    have h : t ∈ (k, f k, o) :: tag f (k + 1) l := h
    rcases List.mem_cons.1 h with h | h
    · subst h; exact ⟨0, rfl, rfl, rfl⟩
    · obtain ⟨j, h1, h2, h3⟩ := tag_mem h
      exact ⟨j + 1, by omega, by simpa using h2, h3⟩
theorem tag_len {f : Nat → Bool} : ∀ (l : List Oper) (k : Nat), (tag f k l).length = l.length
  | [], _ => rfl
  | o :: l, k => by simp [tag, tag_len l]

/-- n operations, of which those that f marks look at the world; then a row, of which those that g marks need not keep S: each of them waits for all that look. -/
def heldTailB (l : List Oper) (n : Nat) (f g : Nat → Bool) : Bool :=
  Region.noSelect l.toArray && decide (n < l.length) && (List.range n).all (fun i => !f i || (List.range l.length).all fun z => decide (z < n) || !g z || Region.waitsFor .any l.toArray z i) && lexP .any l.toArray (tag g n (l.drop n)) (tag f 0 (l.take n)) (Array.replicate l.length false)
theorem wp_region_held2 {id : Nat} {a : Act} {w : World} {l : List Oper} (n : Nat) (f g : Nat → Bool) (hm : P.follows .mixedOrders = true) (hB : heldTailB l n f g = true) (S : World → Prop)
    (hS : S w.drew)
    (h : wpHeld P l.toArray S (fun a' => wpTailE P l.toArray (NoPanic Q) S (tag g n (l.drop n)) a' w.drew) (tag f 0 (l.take n)) a) : (Code.region id l.toArray true).wp P Q a w := by
  refine wp_region_noPanic ?_
  simp only [heldTailB, Bool.and_eq_true, decide_eq_true_eq] at hB
  obtain ⟨⟨⟨hsel, hn⟩, hz⟩, hlex⟩ := hB
  have H := wpAnyE_lex (P := P) (Q := NoPanic Q) (md := .any) (S := S) (Z := (List.range l.length).filter fun z => !decide (z < n) && g z) (ts := tag g n (l.drop n))
    (fun t ht => by
      obtain ⟨j, h1, h2, h3⟩ := tag_mem ht
      rw [List.getElem?_drop] at h2
      have hj : n + j < l.length := (List.getElem?_eq_some_iff.1 h2).1
      refine ⟨by rw [h1]; simpa using h2, fun e => ?_⟩
      rw [h3] at e
      rw [h1] at e ⊢
      simp [hj, e])
    hsel (fun _ _ _ _ _ h => h) hS (tag f 0 (l.take n)) (Array.replicate l.length false) a
    (fun t ht => by
      obtain ⟨j, h1, h2, h3⟩ := tag_mem ht
      have hj : j < n := Nat.lt_of_not_le fun hge => by rw [List.getElem?_take, if_neg (by omega)] at h2; cases h2
      rw [List.getElem?_take, if_pos hj] at h2
      refine ⟨by rw [h1]; simpa using h2, fun e z hz' => ?_⟩
      rw [h3] at e
      have hz' := List.mem_filter.1 hz'
      simp only [List.mem_range, Bool.and_eq_true, Bool.not_eq_true', decide_eq_false_iff_not] at hz'
      have h4 := List.all_eq_true.1 hz t.1 (List.mem_range.2 (by omega))
      rw [e] at h4
      simp only [Bool.not_true, Bool.false_or] at h4
      have h5 := List.all_eq_true.1 h4 z (List.mem_range.2 hz'.1)
      simpa [hz'.2.1, hz'.2.2] using h5)
    hlex h
  refine wp_region_any hm (wpAny_of_E (Z := (List.range l.length).filter fun z => !decide (z < n) && g z) (S := S) _ _ _ _ ?_)
  rw [tag_len, tag_len, List.length_drop, List.length_take, show min n l.length + (l.length - n) = l.length by omega] at H
  simpa using H

/-! ### Any operations first: a mark for each operation: (true, does it look) of what is taken first, (false, need it not keep S) of the rest -/
def hdO : List (Bool × Bool) → List Oper → Nat → List (Nat × Bool × Oper)
  | (true, f) :: cs, o :: l, k => (k, f, o) :: hdO cs l (k + 1)
  | (false, _) :: cs, _ :: l, k => hdO cs l (k + 1)
  | _, _, _ => []
def tlO : List (Bool × Bool) → List Oper → Nat → List (Nat × Bool × Oper)
  | (true, _) :: cs, _ :: l, k => tlO cs l (k + 1)
  | (false, f) :: cs, o :: l, k => (k, f, o) :: tlO cs l (k + 1)
  | _, _, _ => []
theorem hdO_mem {t : Nat × Bool × Oper} : ∀ {cs : List (Bool × Bool)} {l : List Oper} {k : Nat}, t ∈ hdO cs l k → ∃ j, t.1 = k + j ∧ l[j]? = some t.2.2
  | (true, f) :: cs, o :: l, k, h => by
    have h : t ∈ (k, f, o) :: hdO cs l (k + 1) := h
    rcases List.mem_cons.1 h with h | h
    · subst h; exact ⟨0, rfl, rfl⟩
    · obtain ⟨j, h1, h2⟩ := hdO_mem h
      exact ⟨j + 1, by omega, by simpa using h2⟩
  | (false, f) :: cs, o :: l, k, h => by
    obtain ⟨j, h1, h2⟩ := hdO_mem (show t ∈ hdO cs l (k + 1) from h)
    exact ⟨j + 1, by omega, by simpa using h2⟩
  | [], _, _, h => absurd h (by simp [hdO])
  | (true, _) :: _, [], _, h => absurd h (by simp [hdO])
  | (false, _) :: _, [], _, h => absurd h (by simp [hdO])
theorem tlO_mem {t : Nat × Bool × Oper} : ∀ {cs : List (Bool × Bool)} {l : List Oper} {k : Nat}, t ∈ tlO cs l k → ∃ j, t.1 = k + j ∧ l[j]? = some t.2.2
  | (false, f) :: cs, o :: l, k, h => by
    have h : t ∈ (k, f, o) :: tlO cs l (k + 1) := h
    rcases List.mem_cons.1 h with h | h
    · subst h; exact ⟨0, rfl, rfl⟩
    · obtain ⟨j, h1, h2⟩ := tlO_mem h
      exact ⟨j + 1, by omega, by simpa using h2⟩
  | (true, f) :: cs, o :: l, k, h => by
    obtain ⟨j, h1, h2⟩ := tlO_mem (show t ∈ tlO cs l (k + 1) from h)
    exact ⟨j + 1, by omega, by simpa using h2⟩
  | [], _, _, h => absurd h (by simp [tlO])
  | (true, _) :: _, [], _, h => absurd h (by simp [tlO])
  | (false, _) :: _, [], _, h => absurd h (by simp [tlO])
theorem hdtl_len : ∀ (cs : List (Bool × Bool)) (l : List Oper) (k : Nat), cs.length = l.length → (hdO cs l k).length + (tlO cs l k).length = l.length := by
  intro cs
  induction cs with
  | nil =>
    intro l k h
    cases l with
    | nil => simp [hdO, tlO]
    | cons o l => simp at h
  | cons c cs ih =>
    intro l k h
    cases l with
    | nil => simp at h
    | cons o l =>
      have := ih l (k + 1) (by simpa using h)
      obtain ⟨b, f⟩ := c
      cases b <;> simp only [hdO, tlO, List.length_cons] <;> omega
def heldB (l : List Oper) (cs : List (Bool × Bool)) : Bool :=
  Region.noSelect l.toArray && decide (cs.length = l.length) && (hdO cs l 0).all (fun t => !t.2.1 || (tlO cs l 0).all fun u => !u.2.1 || Region.waitsFor .any l.toArray u.1 t.1) && lexP .any l.toArray (tlO cs l 0) (hdO cs l 0) (Array.replicate l.length false)
theorem wp_region_held {id : Nat} {a : Act} {w : World} {l : List Oper} (cs : List (Bool × Bool)) (hm : P.follows .mixedOrders = true) (hB : heldB l cs = true) (S : World → Prop)
    (hS : S w.drew)
    (h : wpHeld P l.toArray S (fun a' => wpTailE P l.toArray (NoPanic Q) S (tlO cs l 0) a' w.drew) (hdO cs l 0) a) : (Code.region id l.toArray true).wp P Q a w := by
  refine wp_region_noPanic ?_
  simp only [heldB, Bool.and_eq_true, decide_eq_true_eq] at hB
  obtain ⟨⟨⟨hsel, hn⟩, hz⟩, hlex⟩ := hB
  have H := wpAnyE_lex (P := P) (Q := NoPanic Q) (md := .any) (S := S) (Z := ((tlO cs l 0).filter fun u => u.2.1).map (·.1)) (ts := tlO cs l 0)
    (fun t ht => by
      obtain ⟨j, h1, h2⟩ := tlO_mem ht
      refine ⟨by rw [h1]; simpa using h2, fun e => List.mem_map.2 ⟨t, List.mem_filter.2 ⟨ht, e⟩, rfl⟩⟩)
    hsel (fun _ _ _ _ _ h => h) hS (hdO cs l 0) (Array.replicate l.length false) a
    (fun t ht => by
      obtain ⟨j, h1, h2⟩ := hdO_mem ht
      refine ⟨by rw [h1]; simpa using h2, fun e z hz' => ?_⟩
      obtain ⟨u, hu, rfl⟩ := List.mem_map.1 hz'
      obtain ⟨hu1, hu2⟩ := List.mem_filter.1 hu
      have h4 := List.all_eq_true.1 hz t ht
      rw [e] at h4
      simp only [Bool.not_true, Bool.false_or] at h4
      have h5 := List.all_eq_true.1 h4 u hu1
      rw [hu2] at h5
      simpa using h5)
    hlex h
  refine wp_region_any hm (wpAny_of_E (Z := ((tlO cs l 0).filter fun u => u.2.1).map (·.1)) (S := S) _ _ _ _ ?_)
  rw [hdtl_len _ _ _ hn] at H
  simpa using H
end
end Go.Proofs.Ytbioanbokbhmgaa

/- A region that draws its order, operation by operation: an operation is taken first (it looks at nothing, or S settles what it sees), or it is the only one that may come up. Conditions: as the theorem has them. -/
namespace Go.Proofs.Ytbioanbokbhmgaa
open Go Go.RowKit

section
variable {P : Program} {ops : Array Oper} {Q : Exit → Act → World → Prop} {md : Region.Mode} {S : World → Prop} {Z : List Nat}

/-- In the list's order. (number, is it taken first, does it look | need it not keep S, operation). -/
def wpMix (P : Program) (ops : Array Oper) (Q : Exit → Act → World → Prop) (S : World → Prop) : List (Nat × Bool × Bool × Oper) → Act → World → Prop
  | [], a, w => Q .normal a w
  | (_, true, d, o) :: rest, a, w => (d = true → S w) ∧ ∃ v, YieldsIf P ops (fun w => d = true → S w) o v a ∧ wpMix P ops Q S rest (a.put o.dst v) w
  | (_, false, z, o) :: rest, a, w => if Region.wanted o (yielded ops a.tmps) then o.wp P a w (fun a' w' => (z = false → S w → S w') ∧ wpMix P ops Q S rest a' w') Q ∨ (o.asks P a w ∧ LetsOut Q) else wpMix P ops Q S rest (a.put o.dst undef) w
theorem mix_look {a : Act} {w : World} {k : Nat} {o : Oper} {rest : List (Nat × Bool × Bool × Oper)} (hS : S w) (v : Value) (hw : Region.wanted o (yielded ops a.tmps) = true) (hy : ∀ w, S w → (execOp a.eval o).run P w = .ok (.value v) w)
    (h : wpMix P ops Q S rest (a.put o.dst v) w) : wpMix P ops Q S ((k, true, true, o) :: rest) a w := ⟨fun _ => hS, v, .inl ⟨hw, fun w hS => hy w (hS rfl)⟩, h⟩
theorem mix_pure {a : Act} {w : World} {k : Nat} {o : Oper} {rest : List (Nat × Bool × Bool × Oper)} (v : Value) (hw : Region.wanted o (yielded ops a.tmps) = true) (hy : ∀ w, (execOp a.eval o).run P w = .ok (.value v) w)
    (h : wpMix P ops Q S rest (a.put o.dst v) w) : wpMix P ops Q S ((k, true, false, o) :: rest) a w := ⟨fun h => absurd h (by decide), v, .inl ⟨hw, fun w _ => hy w⟩, h⟩
theorem mix_skip {a : Act} {w : World} {k : Nat} {d : Bool} {o : Oper} {rest : List (Nat × Bool × Bool × Oper)} (hS : S w) (hw : Region.wanted o (yielded ops a.tmps) = false)
    (h : wpMix P ops Q S rest (a.put o.dst undef) w) : wpMix P ops Q S ((k, true, d, o) :: rest) a w := ⟨fun _ => hS, undef, .inr ⟨hw, rfl⟩, h⟩
theorem mix_pass {a : Act} {w : World} {k : Nat} {o : Oper} {rest : List (Nat × Bool × Bool × Oper)} (hw : Region.wanted o (yielded ops a.tmps) = false)
    (h : wpMix P ops Q S rest (a.put o.dst undef) w) : wpMix P ops Q S ((k, true, false, o) :: rest) a w := ⟨fun h => absurd h (by decide), undef, .inr ⟨hw, rfl⟩, h⟩
theorem mix_step {a : Act} {w : World} {k : Nat} {z : Bool} {o : Oper} {rest : List (Nat × Bool × Bool × Oper)}
    (h : ∀ K : Act → World → Prop, Hid (∀ a' w', (z = false → S w → S w') → wpMix P ops Q S rest a' w' → K a' w') → if Region.wanted o (yielded ops a.tmps) = true then o.wp P a w K Q else K (a.put o.dst undef) w) : wpMix P ops Q S ((k, false, z, o) :: rest) a w := by
  have h0 := h (fun a' w' => (z = false → S w → S w') ∧ wpMix P ops Q S rest a' w') fun _ _ h1 h2 => ⟨h1, h2⟩
  unfold wpMix
  split
  · rename_i hw; rw [if_pos hw] at h0; exact .inl h0
  · rename_i hw; rw [if_neg hw] at h0; exact h0.2
theorem mix_list {a : Act} {w : World} {k : Nat} {z : Bool} {o : Oper} {rest : List (Nat × Bool × Bool × Oper)}
    (h : ∀ K : Act → World → Prop, Hid (∀ a' w', (z = false → S w → S w') → wpMix P ops Q S rest a' w' → K a' w') → wpList P ops (Kq K Q) [o] a w) : wpMix P ops Q S ((k, false, z, o) :: rest) a w := by
  have h0 := h (fun a' w' => (z = false → S w → S w') ∧ wpMix P ops Q S rest a' w') fun _ _ h1 h2 => ⟨h1, h2⟩
  unfold wpMix
  unfold wpList at h0
  split
  · rename_i hw
    rw [if_pos hw] at h0
    rcases h0 with h0 | h0
    · exact .inl (wp_Kq (Oper.wp_mono (fun _ _ h => h) h0))
    · exact .inr h0
  · rename_i hw; rw [if_neg hw] at h0; exact h0.2
theorem mix_nil {a : Act} {w : World} (h : Q .normal a w) : wpMix P ops (NoPanic Q) S [] a w := h

def lexM (md : Region.Mode) (ops : Array Oper) : List (Nat × Bool × Bool × Oper) → Array Bool → Bool
  | [], listed => (Region.ready md ops listed).isEmpty
  | (k, true, _, _) :: l, listed => (Region.ready md ops listed).contains k && Region.free md ops listed k && lexM md ops l (listed.setIfInBounds k true)
  | (k, false, _, _) :: l, listed => decide (Region.ready md ops listed = [k]) && lexM md ops l (listed.setIfInBounds k true)

theorem wpAnyE_of_mix (hsel : Region.noSelect ops = true) (hQ : ∀ c a d v w, Q (.panic c) (a.put d v) w → Q (.panic c) a w) :
    ∀ (l : List (Nat × Bool × Bool × Oper)) (listed : Array Bool) (a : Act) (w : World),
    (∀ t, t ∈ l → ops[t.1]? = some t.2.2.2 ∧ (t.2.1 = false → t.2.2.1 = true → t.1 ∈ Z) ∧ (t.2.1 = true → t.2.2.1 = true → ∀ z, z ∈ Z → Region.waitsFor md ops z t.1 = true)) →
    lexM md ops l listed = true → wpMix P ops Q S l a w → wpAnyE P md ops Q S Z l.length listed a w
  | [], _, _, _, _, hB, h => ⟨by simpa [lexM] using hB, h⟩
  | (k, true, d, o) :: l, listed, a, w, hl, hB, h => by
    obtain ⟨h0, _, hz⟩ := hl (k, true, d, o) (List.mem_cons_self ..)
    simp only [lexM, Bool.and_eq_true] at hB
    obtain ⟨⟨hr, hf⟩, hB'⟩ := hB
    have hr' : k ∈ Region.ready md ops listed := by simpa using hr
    obtain ⟨hS, v, hy, hK⟩ := h
    refine wpAnyE_first (T := fun w => d = true → S w) ?_ h0 (Region.noSelect_spec hsel) (fun c a w => hQ c a _ _ w) _ listed a w (Region.free_spec h0 hf) hr' hy hS
      (wpAnyE_of_mix hsel hQ l _ _ w (fun t ht => hl t (List.mem_cons_of_mem _ ht)) hB' hK)
    cases d with
    | false => exact .inl fun _ h => absurd h (by decide)
    | true => exact .inr ⟨funext fun w => propext ⟨fun h => h rfl, fun h _ => h⟩, hz rfl rfl⟩
  | (k, false, z, o) :: l, listed, a, w, hl, hB, h => by
    obtain ⟨h0, hz, _⟩ := hl (k, false, z, o) (List.mem_cons_self ..)
    simp only [lexM, Bool.and_eq_true, decide_eq_true_eq] at hB
    refine ⟨fun h1 => (by rw [hB.1] at h1; cases h1), fun i hi => ?_⟩
    rw [hB.1] at hi
    have hik : i = k := by simpa using hi
    subst hik
    have hw : wpOp P ops Q i (fun a' w' => (z = false → S w → S w') ∧ wpMix P ops Q S l a' w') a w := by
      unfold wpOp
      simp only [h0]
      unfold wpMix at h
      split at h
      · rename_i hw; rw [if_pos hw]; exact h
      · rename_i hw; rw [if_neg hw]; exact ⟨fun _ h => h, h⟩
    exact wpOp_mono (fun a' w' h' => ⟨fun hne => h'.1 (by cases z with | false => rfl | true => exact absurd (hz rfl rfl) hne), wpAnyE_of_mix hsel hQ l _ a' w' (fun t ht => hl t (List.mem_cons_of_mem _ ht)) hB.2 h'.2⟩) hw

/-- Marks: (is it hoisted ahead of the rest, is it taken first, does it look | need it not keep S). -/
def hdM : List (Bool × Bool × Bool) → List Oper → Nat → List (Nat × Bool × Bool × Oper)
  | (true, f, d) :: cs, o :: l, k => (k, f, d, o) :: hdM cs l (k + 1)
  | (false, _, _) :: cs, _ :: l, k => hdM cs l (k + 1)
  | _, _, _ => []
def tlM : List (Bool × Bool × Bool) → List Oper → Nat → List (Nat × Bool × Bool × Oper)
  | (true, _, _) :: cs, _ :: l, k => tlM cs l (k + 1)
  | (false, f, d) :: cs, o :: l, k => (k, f, d, o) :: tlM cs l (k + 1)
  | _, _, _ => []
theorem hdM_mem {t : Nat × Bool × Bool × Oper} : ∀ {cs : List (Bool × Bool × Bool)} {l : List Oper} {k : Nat}, t ∈ hdM cs l k → ∃ j, t.1 = k + j ∧ l[j]? = some t.2.2.2
  | (true, f, d) :: cs, o :: l, k, h => by
    have h : t ∈ (k, f, d, o) :: hdM cs l (k + 1) := h
    rcases List.mem_cons.1 h with h | h
    · subst h; exact ⟨0, rfl, rfl⟩
    · obtain ⟨j, h1, h2⟩ := hdM_mem h
      exact ⟨j + 1, by omega, by simpa using h2⟩
  | (false, f, d) :: cs, o :: l, k, h => by
    obtain ⟨j, h1, h2⟩ := hdM_mem (show t ∈ hdM cs l (k + 1) from h)
    exact ⟨j + 1, by omega, by simpa using h2⟩
  | [], _, _, h => absurd h (by simp [hdM])
  | (true, _, _) :: _, [], _, h => absurd h (by simp [hdM])
  | (false, _, _) :: _, [], _, h => absurd h (by simp [hdM])
theorem tlM_mem {t : Nat × Bool × Bool × Oper} : ∀ {cs : List (Bool × Bool × Bool)} {l : List Oper} {k : Nat}, t ∈ tlM cs l k → ∃ j, t.1 = k + j ∧ l[j]? = some t.2.2.2
  | (false, f, d) :: cs, o :: l, k, h => by
    have h : t ∈ (k, f, d, o) :: tlM cs l (k + 1) := h
    rcases List.mem_cons.1 h with h | h
    · subst h; exact ⟨0, rfl, rfl⟩
    · obtain ⟨j, h1, h2⟩ := tlM_mem h
      exact ⟨j + 1, by omega, by simpa using h2⟩
  | (true, f, d) :: cs, o :: l, k, h => by
    obtain ⟨j, h1, h2⟩ := tlM_mem (show t ∈ tlM cs l (k + 1) from h)
    exact ⟨j + 1, by omega, by simpa using h2⟩
  | [], _, _, h => absurd h (by simp [tlM])
  | (true, _, _) :: _, [], _, h => absurd h (by simp [tlM])
  | (false, _, _) :: _, [], _, h => absurd h (by simp [tlM])
theorem hdtlM_len : ∀ (cs : List (Bool × Bool × Bool)) (l : List Oper) (k : Nat), cs.length = l.length → (hdM cs l k).length + (tlM cs l k).length = l.length := by
  intro cs
  induction cs with
  | nil =>
    intro l k h
    cases l with
    | nil => simp [hdM, tlM]
    | cons o l => simp at h
  | cons c cs ih =>
    intro l k h
    cases l with
    | nil => simp at h
    | cons o l =>
      have := ih l (k + 1) (by simpa using h)
      obtain ⟨b, f, d⟩ := c
      cases b <;> simp only [hdM, tlM, List.length_cons] <;> omega
def mixB (l : List Oper) (cs : List (Bool × Bool × Bool)) : Bool :=
  Region.noSelect l.toArray && decide (cs.length = l.length) && (hdM cs l 0 ++ tlM cs l 0).all (fun t => !t.2.1 || !t.2.2.1 || (hdM cs l 0 ++ tlM cs l 0).all fun u => u.2.1 || !u.2.2.1 || Region.waitsFor .any l.toArray u.1 t.1) && lexM .any l.toArray (hdM cs l 0 ++ tlM cs l 0) (Array.replicate l.length false)
theorem wp_region_mix {id : Nat} {a : Act} {w : World} {l : List Oper} (cs : List (Bool × Bool × Bool)) (hm : P.follows .mixedOrders = true) (hB : mixB l cs = true) (S : World → Prop)
    (hS : S w.drew)
    (h : Hid (S w.drew) → wpMix P l.toArray (NoPanic Q) S (hdM cs l 0 ++ tlM cs l 0) a w.drew) : (Code.region id l.toArray true).wp P Q a w := by
  refine wp_region_noPanic ?_
  simp only [mixB, Bool.and_eq_true, decide_eq_true_eq] at hB
  obtain ⟨⟨⟨hsel, hn⟩, hz⟩, hlex⟩ := hB
  have H := wpAnyE_of_mix (P := P) (Q := NoPanic Q) (md := .any) (S := S) (Z := ((hdM cs l 0 ++ tlM cs l 0).filter fun u => !u.2.1 && u.2.2.1).map (·.1)) hsel (fun _ _ _ _ _ h => h)
    (hdM cs l 0 ++ tlM cs l 0) (Array.replicate l.length false) a w.drew
    (fun t ht => by
      have hm : ∃ j, t.1 = 0 + j ∧ l[j]? = some t.2.2.2 := by
        rcases List.mem_append.1 ht with h | h
        · exact hdM_mem h
        · exact tlM_mem h
      obtain ⟨j, h1, h2⟩ := hm
      refine ⟨by rw [h1]; simpa using h2, fun e1 e2 => List.mem_map.2 ⟨t, List.mem_filter.2 ⟨ht, by rw [e1, e2]; rfl⟩, rfl⟩, fun e1 e2 z hz' => ?_⟩
      obtain ⟨u, hu, rfl⟩ := List.mem_map.1 hz'
      obtain ⟨hu1, hu2⟩ := List.mem_filter.1 hu
      simp only [Bool.and_eq_true, Bool.not_eq_true'] at hu2
      have h4 := List.all_eq_true.1 hz t ht
      rw [e1, e2] at h4
      simp only [Bool.not_true, Bool.false_or] at h4
      have h5 := List.all_eq_true.1 h4 u hu1
      rw [hu2.1, hu2.2] at h5
      simpa using h5)
    hlex (h hS)
  refine wp_region_any hm (wpAny_of_E (Z := ((hdM cs l 0 ++ tlM cs l 0).filter fun u => !u.2.1 && u.2.2.1).map (·.1)) (S := S) _ _ _ _ ?_)
  rw [List.length_append, hdtlM_len _ _ _ hn] at H
  simpa using H
end
end Go.Proofs.Ytbioanbokbhmgaa

/- A region that draws its order, whose operations only read and make new memory: each operation yields a value with a fact that new memory leaves true; whatever the order, behind the region all facts hold. Conditions: as the theorem has them. -/
namespace Go.Proofs.Ytbioanbokbhmgaa
open Go Go.RowKit

/-- What is known of a value; new memory leaves it true. -/
structure Fact where
  p : Value → World → Prop
  st : ∀ v w w', p v w → Below w.heap.size w w' → p v w'
def Fact.is (v0 : Value) : Fact := ⟨fun v _ => v = v0, fun _ _ _ h _ => h⟩
def Fact.any : Fact := ⟨fun _ _ => True, fun _ _ _ h _ => h⟩
def slot (a : Act) (s : Nat) : Value := a.tmps[s]?.getD undef
def nthO : List (Oper × Fact) → Nat → Option (Oper × Fact)
  | [], _ => none
  | x :: _, 0 => some x
  | _ :: l, n + 1 => nthO l n
theorem nthO_eq : ∀ (l : List (Oper × Fact)) (n : Nat), nthO l n = l[n]?
  | [], _ => by simp [nthO]
  | x :: l, 0 => rfl
  | x :: l, n + 1 => by simp [nthO, nthO_eq l n]
/-- The facts of what an operation waits for. -/
def okPre (L : List (Oper × Fact)) (a : Act) (w : World) : List Edge → Prop → Prop
  | [], X => X
  | e :: es, X => match Region.binds .any e, nthO L e.on with
    | true, some (o, f) => (match o.dst with
      | some d => f.p (slot a d) w → okPre L a w es X
      | none => okPre L a w es X)
    | _, _ => okPre L a w es X
/-- Whoever lays this slot waits for operation i. -/
def freeSlot (l : List Oper) (i s : Nat) : Bool := (List.range l.length).all fun k => match l[k]? with
  | some o => o.dst != some s || k == i || Region.waitsFor .any l.toArray k i
  | none => true
/-- A statement in a box. -/
structure Box (p : Prop) : Prop where
  out : p
def stepOk (P : Program) (L : List (Oper × Fact)) (a0 : Act) (w0 : World) (Q : Exit → Act → World → Prop) (i : Nat) (o : Oper) (f : Fact) : Prop :=
  ∀ (a : Act) (w : World), Below w0.heap.size w0 w → (∀ s, freeSlot (L.map (·.1)) i s = true → slot a s = slot a0 s) →
    ∀ K : Act → World → Prop, Hid (∀ v w', Below w.heap.size w w' → f.p v w' → K (a.put o.dst v) w') → okPre L a w o.after.toList (Box (o.wp P a w K Q))
def stepsG (P : Program) (L : List (Oper × Fact)) (a0 : Act) (w0 : World) (Q : Exit → Act → World → Prop) : Nat → List (Oper × Fact) → Prop
  | _, [] => True
  | i, (o, f) :: rest => stepOk P L a0 w0 Q i o f ∧ stepsG P L a0 w0 Q (i + 1) rest
def finG (Q : Exit → Act → World → Prop) : List (Oper × Fact) → Act → World → Prop
  | [], a, w => Q .normal a w
  | (o, f) :: rest, a, w => match o.dst with
    | some d => ∀ v, f.p v w → finG Q rest (a.put (some d) v) w
    | none => finG Q rest a w
/-- What is reckoned of the region: no guards, waiting only for what stands ahead, every slot laid once, within the frame. -/
def factB (l : List Oper) (n : Nat) : Bool :=
  (List.range l.length).all fun i => match l[i]? with
    | some o => o.guard.isNone && o.after.toList.all (fun e => decide (e.on < i)) && (match o.dst with
      | some d => decide (d < n) && (List.range l.length).all fun k => k == i || (match l[k]? with
        | some o' => o'.dst != some d
        | none => true)
      | none => true)
    | none => true
theorem slot_put_same {a : Act} {d : Nat} {v : Value} (h : d < a.tmps.size) : slot (a.put (some d) v) d = v := by
  simp [slot, Act.put, h]
theorem slot_put_other {a : Act} {d s : Nat} {v : Value} (h : d ≠ s) : slot (a.put (some d) v) s = slot a s := by
  simp [slot, Act.put, h]
theorem size_put (a : Act) (d : Option Nat) (v : Value) : (a.put d v).tmps.size = a.tmps.size := by cases d <;> simp [Act.put]
theorem defers_put (a : Act) (d : Option Nat) (v : Value) : (a.put d v).defers = a.defers := by cases d <;> rfl
theorem act_ext {a b : Act} (hs : a.tmps.size = b.tmps.size) (hd : a.defers = b.defers) (h : ∀ s, slot a s = slot b s) : a = b := by
  obtain ⟨t, d⟩ := a
  obtain ⟨t', d'⟩ := b
  simp only at hs hd
  subst hd
  congr 1
  refine Array.ext hs fun i h1 h2 => ?_
  have := h i
  simpa [slot, h1, h2] using this

section
variable {P : Program} {L : List (Oper × Fact)} {a0 : Act} {w0 : World} {Q : Exit → Act → World → Prop}
/-- So far. -/
structure FxInv (L : List (Oper × Fact)) (a0 : Act) (w0 : World) (listed : Array Bool) (a : Act) (w : World) : Prop where
  size : listed.size = L.length
  defers : a.defers = a0.defers
  tmps : a.tmps.size = a0.tmps.size
  below : Below w0.heap.size w0 w
  closed : ∀ (k : Nat) (x : Oper × Fact), L[k]? = some x → listed.getD k false = true → ∀ e ∈ x.1.after, Region.binds .any e = true → listed.getD e.on false = true
  old : ∀ s, (∀ (k : Nat) (x : Oper × Fact), L[k]? = some x → x.1.dst = some s → listed.getD k false = false) → slot a s = slot a0 s
  fact : ∀ (k : Nat) (x : Oper × Fact) d, L[k]? = some x → x.1.dst = some d → listed.getD k false = true → x.2.p (slot a d) w
theorem factB_spec {l : List Oper} {n : Nat} (h : factB l n = true) {i : Nat} {o : Oper} (hi : l[i]? = some o) :
    o.guard = none ∧ (∀ e ∈ o.after, e.on < i) ∧ (∀ d, o.dst = some d → d < n ∧ ∀ (k : Nat) (o' : Oper), k ≠ i → l[k]? = some o' → o'.dst ≠ some d) := by
  have hlt := (List.getElem?_eq_some_iff.1 hi).1
  have h1 := List.all_eq_true.1 h i (List.mem_range.2 hlt)
  rw [hi] at h1
  simp only [Bool.and_eq_true] at h1
  obtain ⟨⟨hg, he⟩, hd⟩ := h1
  refine ⟨by simpa using hg, fun e hx => by simpa using List.all_eq_true.1 he e (by simpa using hx), fun d hdd => ?_⟩
  rw [hdd] at hd
  simp only [Bool.and_eq_true, decide_eq_true_eq] at hd
  refine ⟨hd.1, fun k o' hk hko e => ?_⟩
  have h2 := List.all_eq_true.1 hd.2 k (List.mem_range.2 (List.getElem?_eq_some_iff.1 hko).1)
  rw [hko] at h2
  simp [hk, e] at h2
theorem getD_tf {listed : Array Bool} {k : Nat} (h : k < listed.size) : listed.getD k true = listed.getD k false := by simp [h]
theorem okPre_elim {a : Act} {w : World} {listed : Array Bool} (H : FxInv L a0 w0 listed a w) {X : Prop} : ∀ {es : List Edge}, (∀ e ∈ es, Region.binds .any e = true → listed.getD e.on false = true) → okPre L a w es X → X
  | [], _, h => h
  | e :: es, he, h => by
    have he' : ∀ e ∈ es, Region.binds .any e = true → listed.getD e.on false = true := fun e h => he e (List.mem_cons_of_mem _ h)
    unfold okPre at h
    split at h
    · rename_i o f hb hn
      rw [nthO_eq] at hn
      split at h
      · rename_i d hd
        exact okPre_elim H he' (h (H.fact _ _ _ hn hd (he e (List.mem_cons_self ..) hb)))
      · exact okPre_elim H he' h
    · exact okPre_elim H he' h
theorem stepsG_get : ∀ {l : List (Oper × Fact)} {k : Nat}, stepsG P L a0 w0 Q k l → ∀ {i : Nat} {x : Oper × Fact}, l[i]? = some x → stepOk P L a0 w0 Q (k + i) x.1 x.2
  | [], _, _, i, x, h => by simp at h
  | y :: l, k, hs, 0, x, h => by
    simp at h; subst h; exact hs.1
  | y :: l, k, hs, i + 1, x, h => by
    have := stepsG_get (l := l) hs.2 (i := i) (x := x) (by simpa using h)
    rw [show k + (i + 1) = k + 1 + i by omega]; exact this
theorem finG_done (hB : factB (L.map (·.1)) a0.tmps.size = true) {listed : Array Bool} {a : Act} {w : World} (H : FxInv L a0 w0 listed a w) (hall : ∀ k, k < L.length → listed.getD k false = true) :
    ∀ (l : List (Oper × Fact)) (k : Nat) (b : Act), L.drop k = l → b.tmps.size = a0.tmps.size → b.defers = a0.defers →
      (∀ s, (∀ (j : Nat) (x : Oper × Fact), k ≤ j → L[j]? = some x → x.1.dst ≠ some s) → slot b s = slot a s) → finG Q l b w → Q .normal a w
  | [], k, b, hd, hs, hdf, hsl, h => by
    have hk : L.length ≤ k := by simpa using hd
    have : b = a := act_ext (hs.trans H.tmps.symm) (hdf.trans H.defers.symm) fun s => hsl s fun j x hj hx => by
      have := (List.getElem?_eq_some_iff.1 hx).1; omega
    rw [← this]; exact h
  | (o, f) :: rest, k, b, hd, hs, hdf, hsl, h => by
    have hk : k < L.length := by
      rcases Nat.lt_or_ge k L.length with h1 | h1
      · exact h1
      · rw [List.drop_eq_nil_of_le h1] at hd; cases hd
    have hx : L[k]? = some (o, f) := by
      have : (L.drop k)[0]? = some (o, f) := by rw [hd]; rfl
      simpa using this
    have hrest : L.drop (k + 1) = rest := by
      have : (L.drop k).drop 1 = rest := by rw [hd]; rfl
      simpa [List.drop_drop] using this
    have hsp := factB_spec hB (i := k) (o := o) (by simp [hx])
    cases hdst : o.dst with
    | none =>
      simp only [finG, hdst] at h
      refine finG_done hB H hall rest (k + 1) b hrest hs hdf (fun s hs' => hsl s fun j x hj hx' => ?_) h
      by_cases e : j = k
      · subst e
        rw [hx] at hx'
        injection hx' with hx'
        subst hx'
        simp [hdst]
      · exact hs' j x (by omega) hx'
    | some d =>
      have hp := H.fact k (o, f) d hx hdst (hall k hk)
      simp only [finG, hdst] at h
      have h2 := h (slot a d) hp
      have hdn := (hsp.2.2 d hdst).1
      refine finG_done hB H hall rest (k + 1) (b.put (some d) (slot a d)) hrest (by rw [size_put]; exact hs) (by rw [defers_put]; exact hdf) (fun s hs' => ?_) h2
      by_cases e : d = s
      · subst e
        exact slot_put_same (Nat.lt_of_lt_of_eq hdn hs.symm)
      · rw [slot_put_other e]
        refine hsl s fun j x hj hx' => ?_
        by_cases e2 : j = k
        · subst e2
          rw [hx] at hx'
          injection hx' with hx'
          subst hx'
          simp [hdst, e]
        · exact hs' j x (by omega) hx'
theorem wpAny_facts (hB : factB (L.map (·.1)) a0.tmps.size = true) (hst : stepsG P L a0 w0 Q 0 L) (hfin : ∀ w', Below w0.heap.size w0 w' → finG Q L a0 w') :
    ∀ (fuel : Nat) (listed : Array Bool) (a : Act) (w : World), FxInv L a0 w0 listed a w → (∀ k, k < L.length → fuel ≤ (listed.toList.filter (! ·)).length ∧ (listed.toList.filter (! ·)).length ≤ fuel) → wpAny P .any (L.map (·.1)).toArray Q fuel listed a w := by
  have hnil : ∀ {listed : Array Bool} {a : Act} {w : World}, FxInv L a0 w0 listed a w → Region.ready .any (L.map (·.1)).toArray listed = [] → ∀ k, k < L.length → listed.getD k false = true := by
    intro listed a w H hr k
    induction k using Nat.strongRecOn with
    | _ k ih =>
      intro hk
      cases hf : listed.getD k false with
      | true => rfl
      | false =>
        exfalso
        have hx : (L.map (·.1)).toArray[k]? = some (L[k]).1 := by simp [hk]
        have hm : k ∈ Region.ready .any (L.map (·.1)).toArray listed := mem_ready.2 ⟨by rw [getD_tf (by rw [H.size]; exact hk)]; exact hf, _, hx, fun e he _ => ih e.on ((factB_spec hB (i := k) (o := (L[k]).1) (by simp [hk])).2.1 e he) (by have := (factB_spec hB (i := k) (o := (L[k]).1) (by simp [hk])).2.1 e he; omega)⟩
        rw [hr] at hm
        cases hm
  have hend : ∀ {listed : Array Bool} {a : Act} {w : World}, FxInv L a0 w0 listed a w → (∀ k, k < L.length → listed.getD k false = true) → Q .normal a w := fun H hall =>
    finG_done hB H hall L 0 a0 rfl rfl rfl (fun s hs => (H.old s fun k x hx hd => absurd hd (hs k x (by omega) hx)).symm) (hfin _ H.below)
  intro fuel
  induction fuel with
  | zero =>
    intro listed a w H hc
    have hall : ∀ k, k < L.length → listed.getD k false = true := by
      intro k hk
      have h0 := (hc k hk).2
      have hlt : k < listed.size := by rw [H.size]; exact hk
      cases hf : listed.getD k false with
      | true => rfl
      | false =>
        exfalso
        have hmem : false ∈ listed.toList := by
          have : listed[k] = false := by simpa [hlt] using hf
          rw [← this]; exact Array.getElem_mem_toList hlt
        have : false ∈ listed.toList.filter (! ·) := List.mem_filter.2 ⟨hmem, rfl⟩
        have := List.length_pos_of_mem this
        omega
    refine ⟨?_, hend H hall⟩
    cases hr : Region.ready .any (L.map (·.1)).toArray listed with
    | nil => rfl
    | cons i _ =>
      exfalso
      have hi : i ∈ Region.ready .any (L.map (·.1)).toArray listed := by rw [hr]; simp
      obtain ⟨h1, o, ho, _⟩ := mem_ready.1 hi
      have hlt : i < L.length := by have := (Array.getElem?_eq_some_iff.1 ho).1; simpa using this
      have := hall i hlt
      rw [← getD_tf (by rw [H.size]; exact hlt)] at this
      rw [h1] at this
      cases this
  | succ fuel ih =>
    intro listed a w H hc
    refine ⟨fun hr => hend H (hnil H hr), fun i hi => ?_⟩
    obtain ⟨h1, o, ho, hpre⟩ := mem_ready.1 hi
    have hlt : i < L.length := by have := (Array.getElem?_eq_some_iff.1 ho).1; simpa using this
    have hL : (L.map (·.1))[i]? = some o := by simpa using ho
    obtain ⟨f, hx⟩ : ∃ f, L[i]? = some (o, f) := by
      refine ⟨(L[i]).2, ?_⟩
      have : (L[i]).1 = o := by simpa [hlt] using hL
      rw [List.getElem?_eq_getElem hlt, ← this]
    have hli : listed.getD i false = false := by rw [← getD_tf (by rw [H.size]; exact hlt)]; exact h1
    have hsp := factB_spec hB hL
    have hset : ∀ k, (listed.setIfInBounds i true).getD k false = if k = i then true else listed.getD k false := by
      intro k
      by_cases e : k = i
      · subst e; rw [if_pos rfl]; simp [H.size, hlt]
      · rw [if_neg e]; exact getD_set_ne false (fun h => e h.symm)
    have hok := stepsG_get hst hx a w H.below (fun s hs => H.old s fun k x hxk hdk => by
      have hkl := (List.getElem?_eq_some_iff.1 hxk).1
      have h2 := List.all_eq_true.1 hs k (List.mem_range.2 (by simpa using hkl))
      have h3 : (L.map (·.1))[k]? = some x.1 := by simp [hxk]
      rw [h3] at h2
      simp only [Bool.or_eq_true, bne_iff_ne, ne_eq, beq_iff_eq] at h2
      cases hf : listed.getD k false with
      | false => rfl
      | true =>
        rcases h2 with (h2 | h2) | h2
        · exact absurd hdk h2
        · rw [h2, Nat.zero_add, hli] at hf; cases hf
        · obtain ⟨ok, hok, e, he, hb, hon⟩ := Region.waitsFor_spec h2
          have : ok = x.1 := by
            have h4 : (L.map (·.1)).toArray[k]? = some x.1 := by simpa using h3
            rw [h4] at hok
            exact (Option.some.inj hok).symm
          subst this
          have := H.closed k x hxk hf e he hb
          rw [hon, Nat.zero_add, hli] at this
          cases this)
    unfold wpOp
    simp only [ho]
    have hwant : Region.wanted o (yielded (L.map (·.1)).toArray a.tmps) = true := by simp [Region.wanted, hsp.1]
    rw [if_pos hwant]
    refine .inl (okPre_elim H (fun e he hb => hpre e (by simpa using he) hb) (hok _ fun v w' hb hv => ih _ _ _ ?_ ?_)).out
    · refine ⟨by simpa using H.size, by rw [defers_put]; exact H.defers, by rw [size_put]; exact H.tmps, H.below.trans (hb.mono H.below.size), ?_, ?_, ?_⟩
      · intro k x hxk hk e he hbe
        rw [hset] at hk ⊢
        by_cases e1 : e.on = i
        · rw [if_pos e1]
        · rw [if_neg e1]
          by_cases e2 : k = i
          · subst e2
            rw [hx] at hxk
            injection hxk with hxk
            subst hxk
            exact hpre e he hbe
          · rw [if_neg e2] at hk
            exact H.closed k x hxk hk e he hbe
      · intro s hs
        have hdo : o.dst ≠ some s := fun e => by
          have := hs i (o, f) hx e
          rw [hset, if_pos rfl] at this
          cases this
        have hput : slot (a.put o.dst v) s = slot a s := by
          cases hd : o.dst with
          | none => rfl
          | some d => exact slot_put_other fun e => hdo (by rw [hd, e])
        rw [hput]
        refine H.old s fun k x hxk hdk => ?_
        have := hs k x hxk hdk
        rw [hset] at this
        by_cases e : k = i
        · rw [if_pos e] at this; cases this
        · rw [if_neg e] at this; exact this
      · intro k x d hxk hdk hk
        rw [hset] at hk
        by_cases e : k = i
        · subst e
          rw [hx] at hxk
          injection hxk with hxk
          subst hxk
          show f.p (slot (a.put o.dst v) d) w'
          have hdk : o.dst = some d := hdk
          rw [hdk, slot_put_same (by rw [H.tmps]; exact (hsp.2.2 d hdk).1)]
          exact hv
        · rw [if_neg e] at hk
          have hne : slot (a.put o.dst v) d = slot a d := by
            cases hd : o.dst with
            | none => rfl
            | some d' =>
              refine slot_put_other fun e2 => ?_
              have := (hsp.2.2 d' hd).2 k x.1 e (by simp [hxk])
              exact this (by rw [hdk, e2])
          rw [hne]
          exact x.2.st _ _ _ (H.fact k x d hxk hdk hk) hb
    · intro k hk
      have h0 := hc k hk
      have hlt' : i < listed.size := by rw [H.size]; exact hlt
      have hcount : ∀ (l : List Bool) (i : Nat), l[i]? = some false → ((l.set i true).filter (! ·)).length + 1 = (l.filter (! ·)).length := by
        intro l
        induction l with
        | nil => intro i h; simp at h
        | cons x l ihl =>
          intro i h
          cases i with
          | zero => simp at h; subst h; simp
          | succ i =>
            have h2 := ihl i (by simpa using h)
            cases x <;> simp <;> omega
      have h3 := hcount listed.toList i (by
        have : listed[i] = false := by simpa [hlt'] using hli
        simp [hlt', this])
      rw [Array.toList_setIfInBounds]
      omega
/-- THE RULE. -/
theorem wp_region_facts {id : Nat} {a : Act} {w : World} {l : List Oper} (F : List Fact) (hm : P.follows .mixedOrders = true) (hB : (decide (F.length = l.length) && factB l a.tmps.size) = true)
    (hst : Hid (Below w.heap.size w w.drew) → stepsG P (l.zip F) a w.drew (NoPanic Q) 0 (l.zip F)) (hfin : ∀ w', Below w.heap.size w w' → finG (NoPanic Q) (l.zip F) a w') : (Code.region id l.toArray true).wp P Q a w := by
  simp only [Bool.and_eq_true, decide_eq_true_eq] at hB
  have hdr : Below w.heap.size w w.drew := (Dr.refl w).drew.below _
  have hfst : (l.zip F).map (·.1) = l := by rw [List.map_fst_zip]; omega
  have hlen : (l.zip F).length = l.length := by simp; omega
  refine wp_region_noPanic (wp_region_any hm ?_)
  have h := wpAny_facts (P := P) (L := l.zip F) (a0 := a) (w0 := w.drew) (Q := NoPanic Q) (by rw [hfst]; exact hB.2) (hst hdr) (fun w' hb => hfin w' (hdr.trans hb)) l.length (Array.replicate l.length false) a w.drew
    ⟨by simp [hlen], rfl, rfl, Below.refl _ _, fun k x hx hk => by
      exfalso
      simp [Array.getD] at hk, fun _ _ => rfl, fun k x d hx hd hk => by
      exfalso
      simp [Array.getD] at hk⟩ (fun k _ => by simp)
  rw [hfst] at h
  simpa using h
end
end Go.Proofs.Ytbioanbokbhmgaa

/- The facts rule for a region with guarded operations. Conditions: as the theorem has them. -/
namespace Go.Proofs.Ytbioanbokbhmgaa
open Go Go.RowKit

def stepOkG (P : Program) (L : List (Oper × Fact)) (a0 : Act) (w0 : World) (Q : Exit → Act → World → Prop) (i : Nat) (o : Oper) (f : Fact) : Prop :=
  ∀ (a : Act) (w : World), Below w0.heap.size w0 w → (∀ s, freeSlot (L.map (·.1)) i s = true → slot a s = slot a0 s) →
    ∀ K : Act → World → Prop, Hid (∀ v w', Below w.heap.size w w' → f.p v w' → K (a.put o.dst v) w') → okPre L a w o.after.toList (Box (if Region.wanted o (yielded (L.map (·.1)).toArray a.tmps) = true then o.wp P a w K Q else K (a.put o.dst undef) w))
def stepsH (P : Program) (L : List (Oper × Fact)) (a0 : Act) (w0 : World) (Q : Exit → Act → World → Prop) : Nat → List (Oper × Fact) → Prop
  | _, [] => True
  | i, (o, f) :: rest => stepOkG P L a0 w0 Q i o f ∧ stepsH P L a0 w0 Q (i + 1) rest
/-- What is reckoned of the region: waiting only for what stands ahead, every slot laid once, within the frame. -/
def factH (l : List Oper) (n : Nat) : Bool :=
  (List.range l.length).all fun i => match l[i]? with
    | some o => o.after.toList.all (fun e => decide (e.on < i)) && (match o.dst with
      | some d => decide (d < n) && (List.range l.length).all fun k => k == i || (match l[k]? with
        | some o' => o'.dst != some d
        | none => true)
      | none => true)
    | none => true
section
variable {P : Program} {L : List (Oper × Fact)} {a0 : Act} {w0 : World} {Q : Exit → Act → World → Prop}
theorem wanted_yes {ops : Array Oper} {o oj : Oper} {a : Act} {j d : Nat} {b : Bool} (hg : o.guard = some (j, b)) (hj : ops[j]? = some oj) (hd : oj.dst = some d) (hv : a.tmps[d]?.getD undef = .bool b) : Region.wanted o (yielded ops a.tmps) = true := by
  cases h : a.tmps[d]? with
  | none => rw [h] at hv; cases hv
  | some v =>
    rw [h] at hv
    simp only [Option.getD_some] at hv
    subst hv
    simp [Region.wanted, hg, yielded, hj, hd, h]
theorem wanted_no {ops : Array Oper} {o oj : Oper} {a : Act} {j d : Nat} {b : Bool} (hg : o.guard = some (j, b)) (hj : ops[j]? = some oj) (hd : oj.dst = some d) (hv : a.tmps[d]?.getD undef = .bool (!b)) : ¬ Region.wanted o (yielded ops a.tmps) = true := by
  cases h : a.tmps[d]? with
  | none => rw [h] at hv; cases hv
  | some v =>
    rw [h] at hv
    simp only [Option.getD_some] at hv
    subst hv
    cases b <;> simp [Region.wanted, hg, yielded, hj, hd, h]
theorem factH_spec {l : List Oper} {n : Nat} (h : factH l n = true) {i : Nat} {o : Oper} (hi : l[i]? = some o) :
    (∀ e ∈ o.after, e.on < i) ∧ (∀ d, o.dst = some d → d < n ∧ ∀ (k : Nat) (o' : Oper), k ≠ i → l[k]? = some o' → o'.dst ≠ some d) := by
  have hlt := (List.getElem?_eq_some_iff.1 hi).1
  have h1 := List.all_eq_true.1 h i (List.mem_range.2 hlt)
  rw [hi] at h1
  simp only [Bool.and_eq_true] at h1
  obtain ⟨he, hd⟩ := h1
  refine ⟨fun e hx => by simpa using List.all_eq_true.1 he e (by simpa using hx), fun d hdd => ?_⟩
  rw [hdd] at hd
  simp only [Bool.and_eq_true, decide_eq_true_eq] at hd
  refine ⟨hd.1, fun k o' hk hko e => ?_⟩
  have h2 := List.all_eq_true.1 hd.2 k (List.mem_range.2 (List.getElem?_eq_some_iff.1 hko).1)
  rw [hko] at h2
  simp [hk, e] at h2
theorem stepsH_get : ∀ {l : List (Oper × Fact)} {k : Nat}, stepsH P L a0 w0 Q k l → ∀ {i : Nat} {x : Oper × Fact}, l[i]? = some x → stepOkG P L a0 w0 Q (k + i) x.1 x.2
  | [], _, _, i, x, h => by simp at h
  | y :: l, k, hs, 0, x, h => by
    simp at h; subst h; exact hs.1
  | y :: l, k, hs, i + 1, x, h => by
    have := stepsH_get (l := l) hs.2 (i := i) (x := x) (by simpa using h)
    rw [show k + (i + 1) = k + 1 + i by omega]; exact this
theorem finH_done (hB : factH (L.map (·.1)) a0.tmps.size = true) {listed : Array Bool} {a : Act} {w : World} (H : FxInv L a0 w0 listed a w) (hall : ∀ k, k < L.length → listed.getD k false = true) :
    ∀ (l : List (Oper × Fact)) (k : Nat) (b : Act), L.drop k = l → b.tmps.size = a0.tmps.size → b.defers = a0.defers →
      (∀ s, (∀ (j : Nat) (x : Oper × Fact), k ≤ j → L[j]? = some x → x.1.dst ≠ some s) → slot b s = slot a s) → finG Q l b w → Q .normal a w
  | [], k, b, hd, hs, hdf, hsl, h => by
    have hk : L.length ≤ k := by simpa using hd
    have : b = a := act_ext (hs.trans H.tmps.symm) (hdf.trans H.defers.symm) fun s => hsl s fun j x hj hx => by
      have := (List.getElem?_eq_some_iff.1 hx).1; omega
    rw [← this]; exact h
  | (o, f) :: rest, k, b, hd, hs, hdf, hsl, h => by
    have hk : k < L.length := by
      rcases Nat.lt_or_ge k L.length with h1 | h1
      · exact h1
      · rw [List.drop_eq_nil_of_le h1] at hd; cases hd
    have hx : L[k]? = some (o, f) := by
      have : (L.drop k)[0]? = some (o, f) := by rw [hd]; rfl
      simpa using this
    have hrest : L.drop (k + 1) = rest := by
      have : (L.drop k).drop 1 = rest := by rw [hd]; rfl
      simpa [List.drop_drop] using this
    have hsp := factH_spec hB (i := k) (o := o) (by simp [hx])
    cases hdst : o.dst with
    | none =>
      simp only [finG, hdst] at h
      refine finH_done hB H hall rest (k + 1) b hrest hs hdf (fun s hs' => hsl s fun j x hj hx' => ?_) h
      by_cases e : j = k
      · subst e
        rw [hx] at hx'
        injection hx' with hx'
        subst hx'
        simp [hdst]
      · exact hs' j x (by omega) hx'
    | some d =>
      have hp := H.fact k (o, f) d hx hdst (hall k hk)
      simp only [finG, hdst] at h
      have h2 := h (slot a d) hp
      have hdn := (hsp.2 d hdst).1
      refine finH_done hB H hall rest (k + 1) (b.put (some d) (slot a d)) hrest (by rw [size_put]; exact hs) (by rw [defers_put]; exact hdf) (fun s hs' => ?_) h2
      by_cases e : d = s
      · subst e
        exact slot_put_same (Nat.lt_of_lt_of_eq hdn hs.symm)
      · rw [slot_put_other e]
        refine hsl s fun j x hj hx' => ?_
        by_cases e2 : j = k
        · subst e2
          rw [hx] at hx'
          injection hx' with hx'
          subst hx'
          simp [hdst, e]
        · exact hs' j x (by omega) hx'
theorem wpAny_factsG (hB : factH (L.map (·.1)) a0.tmps.size = true) (hst : stepsH P L a0 w0 Q 0 L) (hfin : ∀ w', Below w0.heap.size w0 w' → finG Q L a0 w') :
    ∀ (fuel : Nat) (listed : Array Bool) (a : Act) (w : World), FxInv L a0 w0 listed a w → (∀ k, k < L.length → fuel ≤ (listed.toList.filter (! ·)).length ∧ (listed.toList.filter (! ·)).length ≤ fuel) → wpAny P .any (L.map (·.1)).toArray Q fuel listed a w := by
  have hnil : ∀ {listed : Array Bool} {a : Act} {w : World}, FxInv L a0 w0 listed a w → Region.ready .any (L.map (·.1)).toArray listed = [] → ∀ k, k < L.length → listed.getD k false = true := by
    intro listed a w H hr k
    induction k using Nat.strongRecOn with
    | _ k ih =>
      intro hk
      cases hf : listed.getD k false with
      | true => rfl
      | false =>
        exfalso
        have hx : (L.map (·.1)).toArray[k]? = some (L[k]).1 := by simp [hk]
        have hm : k ∈ Region.ready .any (L.map (·.1)).toArray listed := mem_ready.2 ⟨by rw [getD_tf (by rw [H.size]; exact hk)]; exact hf, _, hx, fun e he _ => ih e.on ((factH_spec hB (i := k) (o := (L[k]).1) (by simp [hk])).1 e he) (by have := (factH_spec hB (i := k) (o := (L[k]).1) (by simp [hk])).1 e he; omega)⟩
        rw [hr] at hm
        cases hm
  have hend : ∀ {listed : Array Bool} {a : Act} {w : World}, FxInv L a0 w0 listed a w → (∀ k, k < L.length → listed.getD k false = true) → Q .normal a w := fun H hall =>
    finH_done hB H hall L 0 a0 rfl rfl rfl (fun s hs => (H.old s fun k x hx hd => absurd hd (hs k x (by omega) hx)).symm) (hfin _ H.below)
  intro fuel
  induction fuel with
  | zero =>
    intro listed a w H hc
    have hall : ∀ k, k < L.length → listed.getD k false = true := by
      intro k hk
      have h0 := (hc k hk).2
      have hlt : k < listed.size := by rw [H.size]; exact hk
      cases hf : listed.getD k false with
      | true => rfl
      | false =>
        exfalso
        have hmem : false ∈ listed.toList := by
          have : listed[k] = false := by simpa [hlt] using hf
          rw [← this]; exact Array.getElem_mem_toList hlt
        have : false ∈ listed.toList.filter (! ·) := List.mem_filter.2 ⟨hmem, rfl⟩
        have := List.length_pos_of_mem this
        omega
    refine ⟨?_, hend H hall⟩
    cases hr : Region.ready .any (L.map (·.1)).toArray listed with
    | nil => rfl
    | cons i _ =>
      exfalso
      have hi : i ∈ Region.ready .any (L.map (·.1)).toArray listed := by rw [hr]; simp
      obtain ⟨h1, o, ho, _⟩ := mem_ready.1 hi
      have hlt : i < L.length := by have := (Array.getElem?_eq_some_iff.1 ho).1; simpa using this
      have := hall i hlt
      rw [← getD_tf (by rw [H.size]; exact hlt)] at this
      rw [h1] at this
      cases this
  | succ fuel ih =>
    intro listed a w H hc
    refine ⟨fun hr => hend H (hnil H hr), fun i hi => ?_⟩
    obtain ⟨h1, o, ho, hpre⟩ := mem_ready.1 hi
    have hlt : i < L.length := by have := (Array.getElem?_eq_some_iff.1 ho).1; simpa using this
    have hL : (L.map (·.1))[i]? = some o := by simpa using ho
    obtain ⟨f, hx⟩ : ∃ f, L[i]? = some (o, f) := by
      refine ⟨(L[i]).2, ?_⟩
      have : (L[i]).1 = o := by simpa [hlt] using hL
      rw [List.getElem?_eq_getElem hlt, ← this]
    have hli : listed.getD i false = false := by rw [← getD_tf (by rw [H.size]; exact hlt)]; exact h1
    have hsp := factH_spec hB hL
    have hset : ∀ k, (listed.setIfInBounds i true).getD k false = if k = i then true else listed.getD k false := by
      intro k
      by_cases e : k = i
      · subst e; rw [if_pos rfl]; simp [H.size, hlt]
      · rw [if_neg e]; exact getD_set_ne false (fun h => e h.symm)
    have hok := stepsH_get hst hx a w H.below (fun s hs => H.old s fun k x hxk hdk => by
      have hkl := (List.getElem?_eq_some_iff.1 hxk).1
      have h2 := List.all_eq_true.1 hs k (List.mem_range.2 (by simpa using hkl))
      have h3 : (L.map (·.1))[k]? = some x.1 := by simp [hxk]
      rw [h3] at h2
      simp only [Bool.or_eq_true, bne_iff_ne, ne_eq, beq_iff_eq] at h2
      cases hf : listed.getD k false with
      | false => rfl
      | true =>
        rcases h2 with (h2 | h2) | h2
        · exact absurd hdk h2
        · rw [h2, Nat.zero_add, hli] at hf; cases hf
        · obtain ⟨ok, hok, e, he, hb, hon⟩ := Region.waitsFor_spec h2
          have : ok = x.1 := by
            have h4 : (L.map (·.1)).toArray[k]? = some x.1 := by simpa using h3
            rw [h4] at hok
            exact (Option.some.inj hok).symm
          subst this
          have := H.closed k x hxk hf e he hb
          rw [hon, Nat.zero_add, hli] at this
          cases this)
    unfold wpOp
    simp only [ho]
    have hbox := (okPre_elim H (fun e he hb => hpre e (by simpa using he) hb) (hok (fun a' w' => wpAny P .any (L.map (·.1)).toArray Q fuel (listed.setIfInBounds i true) a' w') fun v w' hb hv => ih _ _ _ ?_ ?_)).out
    · by_cases hw : Region.wanted o (yielded (L.map (·.1)).toArray a.tmps) = true
      · rw [if_pos hw] at hbox ⊢
        exact .inl hbox
      · rw [if_neg hw] at hbox ⊢
        exact hbox
    · refine ⟨by simpa using H.size, by rw [defers_put]; exact H.defers, by rw [size_put]; exact H.tmps, H.below.trans (hb.mono H.below.size), ?_, ?_, ?_⟩
      · intro k x hxk hk e he hbe
        rw [hset] at hk ⊢
        by_cases e1 : e.on = i
        · rw [if_pos e1]
        · rw [if_neg e1]
          by_cases e2 : k = i
          · subst e2
            rw [hx] at hxk
            injection hxk with hxk
            subst hxk
            exact hpre e he hbe
          · rw [if_neg e2] at hk
            exact H.closed k x hxk hk e he hbe
      · intro s hs
        have hdo : o.dst ≠ some s := fun e => by
          have := hs i (o, f) hx e
          rw [hset, if_pos rfl] at this
          cases this
        have hput : slot (a.put o.dst v) s = slot a s := by
          cases hd : o.dst with
          | none => rfl
          | some d => exact slot_put_other fun e => hdo (by rw [hd, e])
        rw [hput]
        refine H.old s fun k x hxk hdk => ?_
        have := hs k x hxk hdk
        rw [hset] at this
        by_cases e : k = i
        · rw [if_pos e] at this; cases this
        · rw [if_neg e] at this; exact this
      · intro k x d hxk hdk hk
        rw [hset] at hk
        by_cases e : k = i
        · subst e
          rw [hx] at hxk
          injection hxk with hxk
          subst hxk
          show f.p (slot (a.put o.dst v) d) w'
          have hdk : o.dst = some d := hdk
          rw [hdk, slot_put_same (by rw [H.tmps]; exact (hsp.2 d hdk).1)]
          exact hv
        · rw [if_neg e] at hk
          have hne : slot (a.put o.dst v) d = slot a d := by
            cases hd : o.dst with
            | none => rfl
            | some d' =>
              refine slot_put_other fun e2 => ?_
              have := (hsp.2 d' hd).2 k x.1 e (by simp [hxk])
              exact this (by rw [hdk, e2])
          rw [hne]
          exact x.2.st _ _ _ (H.fact k x d hxk hdk hk) hb
    · intro k hk
      have h0 := hc k hk
      have hlt' : i < listed.size := by rw [H.size]; exact hlt
      have hcount : ∀ (l : List Bool) (i : Nat), l[i]? = some false → ((l.set i true).filter (! ·)).length + 1 = (l.filter (! ·)).length := by
        intro l
        induction l with
        | nil => intro i h; simp at h
        | cons x l ihl =>
          intro i h
          cases i with
          | zero => simp at h; subst h; simp
          | succ i =>
            have h2 := ihl i (by simpa using h)
            cases x <;> simp <;> omega
      have h3 := hcount listed.toList i (by
        have : listed[i] = false := by simpa [hlt'] using hli
        simp [hlt', this])
      rw [Array.toList_setIfInBounds]
      omega
/-- THE RULE. -/
theorem wp_region_factsG {id : Nat} {a : Act} {w : World} {l : List Oper} (F : List Fact) (hm : P.follows .mixedOrders = true) (hB : (decide (F.length = l.length) && factH l a.tmps.size) = true)
    (hst : Hid (Below w.heap.size w w.drew) → stepsH P (l.zip F) a w.drew (NoPanic Q) 0 (l.zip F)) (hfin : ∀ w', Below w.heap.size w w' → finG (NoPanic Q) (l.zip F) a w') : (Code.region id l.toArray true).wp P Q a w := by
  simp only [Bool.and_eq_true, decide_eq_true_eq] at hB
  have hdr : Below w.heap.size w w.drew := (Dr.refl w).drew.below _
  have hfst : (l.zip F).map (·.1) = l := by rw [List.map_fst_zip]; omega
  have hlen : (l.zip F).length = l.length := by simp; omega
  refine wp_region_noPanic (wp_region_any hm ?_)
  have h := wpAny_factsG (P := P) (L := l.zip F) (a0 := a) (w0 := w.drew) (Q := NoPanic Q) (by rw [hfst]; exact hB.2) (hst hdr) (fun w' hb => hfin w' (hdr.trans hb)) l.length (Array.replicate l.length false) a w.drew
    ⟨by simp [hlen], rfl, rfl, Below.refl _ _, fun k x hx hk => by
      exfalso
      simp [Array.getD] at hk, fun _ _ => rfl, fun k x d hx hd hk => by
      exfalso
      simp [Array.getD] at hk⟩ (fun k _ => by simp)
  rw [hfst] at h
  simpa using h
end
end Go.Proofs.Ytbioanbokbhmgaa
