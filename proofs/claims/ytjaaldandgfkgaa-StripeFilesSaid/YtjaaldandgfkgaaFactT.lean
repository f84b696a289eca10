/- A drawn region whose last operations wait for all others: those by facts, in any order; the last ones in their turn. Conditions: as the theorem has them. -/
import Derived.Test.YtjaaldandgfkgaaFactG
namespace Go.Proofs.Ytjaaldandgfkgaa
open Go Go.RowKit

section
variable {P : Program} {Q : Exit → Act → World → Prop}

theorem wp_KqT {K K1 : Act → World → Prop} {o : Oper} {a : Act} {w : World} (h : o.wp P a w K (Kq K1 Q)) : o.wp P a w K Q := by
  unfold Oper.wp at *
  generalize (execOp a.eval o).run P w = r at *
  cases r with
  | ok n w' => cases n <;> exact h
  | halt x w' => cases x <;> exact h
theorem wpOp_split {ops ops' : Array Oper} {i : Nat} {K K' K1 : Act → World → Prop} {a : Act} {w : World} (h1 : ops'[i]? = ops[i]?) (hy : ∀ o, ops[i]? = some o → Region.wanted o (yielded ops' a.tmps) = Region.wanted o (yielded ops a.tmps))
    (hK : ∀ a w, K a w → K' a w) (h : wpOp P ops (Kq K1 Q) i K a w) : wpOp P ops' Q i K' a w := by
  unfold wpOp at h ⊢
  rw [h1]
  cases ho : ops[i]? with
  | none => simp only [ho] at h ⊢; exact hK _ _ h
  | some o =>
    simp only [ho] at h ⊢
    rw [hy o ho]
    by_cases hw : Region.wanted o (yielded ops a.tmps) = true
    · rw [if_pos hw] at h ⊢
      rcases h with h | ⟨h2, h3⟩
      · exact .inl (wp_KqT (Oper.wp_mono hK h))
      · exact .inr ⟨h2, h3⟩
    · rw [if_neg hw] at h ⊢
      exact hK _ _ h
theorem cnt_set : ∀ (l : List Bool) (i : Nat), l[i]? = some false → ((l.set i true).filter (! ·)).length + 1 = (l.filter (! ·)).length := by
  intro l
  induction l with
  | nil => intro i h; simp at h
  | cons x l ihl =>
    intro i h
    cases i with
    | zero => simp at h; subst h; simp
    | succ i =>
      have h2 := ihl i (by simpa using h)
      cases x <;> simp <;> omega
theorem all_true {l : List Bool} (h : (l.filter (! ·)).length = 0) : l = List.replicate l.length true := by
  induction l with
  | nil => rfl
  | cons x l ih =>
    cases x with
    | false => simp at h
    | true =>
      have := ih (by simpa using h)
      simp only [List.length_cons, List.replicate_succ]
      rw [← this]
theorem ex_false {l : List Bool} (h : 0 < (l.filter (! ·)).length) : ∃ k : Nat, l[k]? = some false ∧ ∀ j : Nat, j < k → l[j]? = some true := by
  induction l with
  | nil => simp at h
  | cons x l ih =>
    cases x with
    | false => exact ⟨0, rfl, fun j hj => absurd hj (by omega)⟩
    | true =>
      obtain ⟨k, h1, h2⟩ := ih (by simpa using h)
      refine ⟨k + 1, by simpa using h1, fun j hj => ?_⟩
      cases j with
      | zero => rfl
      | succ j => simpa using h2 j (by omega)
theorem getD_app_lt {x : Array Bool} {m i : Nat} {d : Bool} (h : i < x.size) : (x ++ Array.replicate m false).getD i d = x.getD i d := by
  simp [Array.getD, h, Array.getElem_append_left h]
  omega
theorem getD_app_ge {x : Array Bool} {m i : Nat} (h : x.size ≤ i) : (x ++ Array.replicate m false).getD i false = false := by
  by_cases h2 : i < (x ++ Array.replicate m false).size
  · simp [Array.getD, Array.getElem_append_right h]
  · have h3 : ¬ i < x.size + m := by simpa using h2
    simp [Array.getD, h3]
theorem wanted_same {ops ops' : Array Oper} {n : Nat} {o : Oper} {a : Act} (hsame : ∀ i : Nat, i < n → ops'[i]? = ops[i]?) (hg : ∀ j b, o.guard = some (j, b) → j < n) : Region.wanted o (yielded ops' a.tmps) = Region.wanted o (yielded ops a.tmps) := by
  unfold Region.wanted
  cases hq : o.guard with
  | none => rfl
  | some p =>
    obtain ⟨j, b⟩ := p
    simp only
    have : yielded ops' a.tmps j = yielded ops a.tmps j := by unfold yielded; rw [hsame j (hg j b hq)]
    rw [this]
/-- Does i wait for k, through others? -/
def reachT (l : Array Oper) : Nat → Nat → Nat → Bool
  | 0, _, _ => false
  | f + 1, i, k => match l[i]? with
    | some o => o.after.toList.any fun e => Region.binds .any e && (e.on == k || reachT l f e.on k)
    | none => false
theorem reach_step {l : Array Oper} {f i k : Nat} {o : Oper} (ho : l[i]? = some o) (h : reachT l (f + 1) i k = true) : ∃ e ∈ o.after, Region.binds .any e = true ∧ (e.on = k ∨ reachT l f e.on k = true) := by
  unfold reachT at h
  rw [ho] at h
  obtain ⟨e, he, h2⟩ := List.any_eq_true.1 h
  simp only [Bool.and_eq_true, Bool.or_eq_true, beq_iff_eq] at h2
  exact ⟨e, by simpa using he, h2.1, h2.2⟩
theorem reach_some {l : Array Oper} {f i k : Nat} (h : reachT l f i k = true) : ∃ o, l[i]? = some o := by
  cases f with
  | zero => simp [reachT] at h
  | succ f =>
    unfold reachT at h
    cases ho : l[i]? with
    | none => rw [ho] at h; cases h
    | some o => exact ⟨o, rfl⟩
theorem reach_listed {l : Array Oper} {L : Nat → Prop} (hcl : ∀ (j : Nat) (o : Oper), l[j]? = some o → L j → ∀ e ∈ o.after, Region.binds .any e = true → L e.on) : ∀ (f i k : Nat) (o : Oper), l[i]? = some o → (∀ e ∈ o.after, Region.binds .any e = true → L e.on) → reachT l f i k = true → L k
  | 0, _, _, _, _, _, h => by simp [reachT] at h
  | f + 1, i, k, o, ho, hr, h => by
    obtain ⟨e, he, hb, h2⟩ := reach_step ho h
    rcases h2 with h2 | h2
    · rw [← h2]; exact hr e he hb
    · obtain ⟨o', ho'⟩ := reach_some h2
      exact reach_listed hcl f e.on k o' ho' (hcl e.on o' ho' (hr e he hb)) h2
theorem reach_ge {l : Array Oper} (hE : ∀ (j : Nat) (o : Oper), l[j]? = some o → ∀ e ∈ o.after, e.on < j) : ∀ (f i k : Nat) (o : Oper), l[i]? = some o → reachT l f i k = true → ∃ e ∈ o.after, Region.binds .any e = true ∧ k ≤ e.on
  | 0, _, _, _, _, h => by simp [reachT] at h
  | f + 1, i, k, o, ho, h => by
    obtain ⟨e, he, hb, h2⟩ := reach_step ho h
    refine ⟨e, he, hb, ?_⟩
    rcases h2 with h2 | h2
    · omega
    · obtain ⟨o', ho'⟩ := reach_some h2
      obtain ⟨e', he', _, h3⟩ := reach_ge hE f e.on k o' ho' h2
      have := hE e.on o' ho' e' he'
      omega
theorem wpAny_split {ops ops' : Array Oper} {n m : Nat} (hn : ops.size = n) (_hn' : ops'.size = n + m) (hsame : ∀ i : Nat, i < n → ops'[i]? = ops[i]?)
    (hE : ∀ (i : Nat) (o : Oper), ops[i]? = some o → (∀ e ∈ o.after, e.on < i) ∧ (∀ j b, o.guard = some (j, b) → j < n))
    (hbar : ∀ (i : Nat) (o : Oper), n ≤ i → ops'[i]? = some o → ∀ k, k < n → ∃ f, reachT ops' f i k = true) :
    ∀ (fuel : Nat) (lst : Array Bool) (a : Act) (w : World), lst.size = n → (∀ (j : Nat) (o : Oper), ops[j]? = some o → lst.getD j false = true → ∀ e ∈ o.after, Region.binds .any e = true → lst.getD e.on false = true) → (lst.toList.filter (! ·)).length = fuel →
      wpAny P .any ops (Kq (fun a w => wpAny P .any ops' Q m (Array.replicate n true ++ Array.replicate m false) a w) Q) fuel lst a w → wpAny P .any ops' Q (fuel + m) (lst ++ Array.replicate m false) a w := by
  intro fuel
  induction fuel with
  | zero =>
    intro lst a w hs _ hc h
    have e : lst = Array.replicate n true := by
      have := all_true hc
      apply Array.toList_inj.1
      rw [this]
      simp [hs]
    rw [e, Nat.zero_add]
    exact h.2
  | succ fuel ih =>
    intro lst a w hs hcl hc h
    obtain ⟨k0, hk0, hk1⟩ := ex_false (l := lst.toList) (by omega)
    have hk0n : k0 < n := by
      have := (List.getElem?_eq_some_iff.1 hk0).1
      rw [← hs]; simpa using this
    have hgd : ∀ (j : Nat) (d b : Bool), lst.toList[j]? = some b → lst.getD j d = b := fun j d b hj => by
      have hl := (List.getElem?_eq_some_iff.1 hj).1
      have hl' : j < lst.size := by simpa using hl
      have h2 := (List.getElem?_eq_some_iff.1 hj).2
      simp only [Array.getD, hl', dif_pos]
      simpa using h2
    have hr0 : k0 ∈ Region.ready .any ops lst := by
      have hx : ops[k0]? = some ops[k0] := by simp [hn, hk0n]
      exact mem_ready.2 ⟨hgd k0 true false hk0, _, hx, fun e he _ => hgd _ _ _ (hk1 e.on ((hE k0 _ hx).1 e he))⟩
    have hsub : ∀ i, i ∈ Region.ready .any ops' (lst ++ Array.replicate m false) → i ∈ Region.ready .any ops lst := by
      intro i hi
      obtain ⟨h1, o, ho, hpre⟩ := mem_ready.1 hi
      by_cases hin : i < n
      · have ho' : ops[i]? = some o := by rw [← hsame i hin]; exact ho
        refine mem_ready.2 ⟨by rw [getD_app_lt (by rw [hs]; exact hin)] at h1; exact h1, o, ho', fun e he hb => ?_⟩
        have := hpre e he hb
        rw [getD_app_lt (by rw [hs]; have := (hE i o ho').1 e he; omega)] at this
        exact this
      · exfalso
        obtain ⟨f, hf⟩ := hbar i o (by omega) ho k0 hk0n
        have := reach_listed (L := fun j => (lst ++ Array.replicate m false).getD j false = true) (fun j o' ho' hj e he hb => by
          by_cases hjn : j < n
          · rw [getD_app_lt (by rw [hs]; exact hjn)] at hj
            have ho2 : ops[j]? = some o' := by rw [← hsame j hjn]; exact ho'
            have h5 := hcl j o' ho2 hj e he hb
            rw [getD_app_lt (by rw [hs]; have := (hE j o' ho2).1 e he; omega)]
            exact h5
          · exfalso
            rw [getD_app_ge (by rw [hs]; omega)] at hj
            cases hj) f i k0 o ho hpre hf
        rw [getD_app_lt (by rw [hs]; exact hk0n), hgd k0 false false hk0] at this
        cases this
    have hr0' : k0 ∈ Region.ready .any ops' (lst ++ Array.replicate m false) := by
      have hx : ops[k0]? = some ops[k0] := by simp [hn, hk0n]
      have hx' : ops'[k0]? = some ops[k0] := by rw [hsame k0 hk0n]; exact hx
      refine mem_ready.2 ⟨by rw [getD_app_lt (by rw [hs]; exact hk0n)]; exact hgd k0 true false hk0, _, hx', fun e he _ => ?_⟩
      have hlt := (hE k0 _ hx).1 e he
      rw [getD_app_lt (by rw [hs]; omega)]
      exact hgd _ _ _ (hk1 e.on hlt)
    rw [show fuel + 1 + m = (fuel + m) + 1 by omega]
    refine ⟨fun hr => (by rw [hr] at hr0'; cases hr0'), fun i hi => ?_⟩
    have hi' := hsub i hi
    obtain ⟨h1, o, ho, _⟩ := mem_ready.1 hi'
    have hin : i < n := by rw [← hn]; exact (Array.getElem?_eq_some_iff.1 ho).1
    have hop := h.2 i hi'
    have hset : (lst ++ Array.replicate m false).setIfInBounds i true = lst.setIfInBounds i true ++ Array.replicate m false := by
      apply Array.toList_inj.1
      simp only [Array.toList_setIfInBounds, Array.toList_append]
      rw [List.set_append_left _ _ (by simpa [hs] using hin)]
    rw [hset]
    have hli : lst.toList[i]? = some false := by
      have hl' : i < lst.size := by rw [hs]; exact hin
      simp only [Array.getD, hl', dif_pos] at h1
      simp only [Array.getElem?_toList, hl', Array.getElem?_eq_getElem]
      exact congrArg some h1
    refine wpOp_split (hsame i hin) (fun o' ho' => wanted_same hsame (hE i o' ho').2) (fun a' w' h' => ih _ a' w' (by simpa using hs) ?_ ?_ h') hop
    · intro j o' ho' hj e he hb
      have hse : ∀ q, (lst.setIfInBounds i true).getD q false = if q = i then true else lst.getD q false := fun q => by
        by_cases e : q = i
        · subst e; rw [if_pos rfl]; simp [hs, hin]
        · rw [if_neg e]; exact getD_set_ne false (fun h => e h.symm)
      rw [hse] at hj ⊢
      by_cases e1 : e.on = i
      · rw [if_pos e1]
      · rw [if_neg e1]
        by_cases e2 : j = i
        · subst e2
          have : o' = o := by rw [ho] at ho'; exact (Option.some.inj ho').symm
          subst this
          obtain ⟨_, o2, ho2, hpre2⟩ := mem_ready.1 hi'
          have : o2 = o' := by rw [ho] at ho2; exact (Option.some.inj ho2).symm
          subst this
          exact hpre2 e he hb
        · rw [if_neg e2] at hj
          exact hcl j o' ho' hj e he hb
    have := cnt_set lst.toList i hli
    rw [Array.toList_setIfInBounds]
    omega
theorem wpAny_seq {ops : Array Oper} {n m : Nat} (hn : ops.size = n + m)
    (hT : ∀ (j : Nat) (o : Oper), j < m → ops[n + j]? = some o → (∀ k, k < n + j → ∃ e ∈ o.after, Region.binds .any e = true ∧ k ≤ e.on) ∧ ∀ e ∈ o.after, e.on < n + j) :
    ∀ (r j : Nat) (a : Act) (w : World), j + r = m → wpList P ops Q (ops.toList.drop (n + j)) a w → wpAny P .any ops Q r (Array.replicate (n + j) true ++ Array.replicate r false) a w := by
  have hyes : ∀ (p r i : Nat) (d : Bool), i < p → (Array.replicate p true ++ Array.replicate r false).getD i d = true := fun p r i d h => by
    rw [getD_app_lt (by simpa using h)]; simp [Array.getD, h]
  have hno : ∀ (p r i : Nat) (d : Bool), p ≤ i → i < p + r → (Array.replicate p true ++ Array.replicate r false).getD i d = false := fun p r i d h1 h2 => by
    have h3 : i < (Array.replicate p true ++ Array.replicate r false).size := by simpa using h2
    simp [Array.getD, h2, Array.getElem_append_right, h1]
  intro r
  induction r with
  | zero =>
    intro j a w hj h
    have hd : ops.toList.drop (n + j) = [] := List.drop_eq_nil_of_le (by simp [hn]; omega)
    rw [hd] at h
    refine ⟨?_, h⟩
    cases hr : Region.ready .any ops (Array.replicate (n + j) true ++ Array.replicate 0 false) with
    | nil => rfl
    | cons i l =>
      exfalso
      have hi : i ∈ Region.ready .any ops (Array.replicate (n + j) true ++ Array.replicate 0 false) := by rw [hr]; simp
      obtain ⟨h1, o, ho, _⟩ := mem_ready.1 hi
      have hlt : i < n + j := by have := (Array.getElem?_eq_some_iff.1 ho).1; omega
      rw [hyes _ _ _ _ hlt] at h1
      cases h1
  | succ r ih =>
    intro j a w hj h
    have hlt : n + j < ops.size := by omega
    have hx : ops[n + j]? = some ops[n + j] := by simp [hlt]
    obtain ⟨hw, he⟩ := hT j _ (by omega) hx
    have hmem : n + j ∈ Region.ready .any ops (Array.replicate (n + j) true ++ Array.replicate (r + 1) false) :=
      mem_ready.2 ⟨hno _ _ _ _ (Nat.le_refl _) (by omega), _, hx, fun e h1 _ => hyes _ _ _ _ (he e h1)⟩
    refine ⟨fun hr => (by rw [hr] at hmem; cases hmem), fun i hi => ?_⟩
    obtain ⟨h1, o, ho, hpre⟩ := mem_ready.1 hi
    have hil : i < n + m := by have := (Array.getElem?_eq_some_iff.1 ho).1; omega
    have hge : n + j ≤ i := by
      rcases Nat.lt_or_ge i (n + j) with h2 | h2
      · rw [hyes _ _ _ _ h2] at h1; cases h1
      · exact h2
    have hij : i = n + j := by
      rcases Nat.lt_or_ge (n + j) i with h2 | h2
      · exfalso
        obtain ⟨hw2, _⟩ := hT (i - n) o (by omega) (by rw [show n + (i - n) = i by omega]; exact ho)
        obtain ⟨e, he2, hb2, hon⟩ := hw2 (n + j) (by omega)
        have := hpre e he2 hb2
        have hlt2 : e.on < ops.size := by
          obtain ⟨_, h7⟩ := hT (i - n) o (by omega) (by rw [show n + (i - n) = i by omega]; exact ho)
          have := h7 e he2
          omega
        rw [hno _ _ _ _ hon (by omega)] at this
        cases this
      · omega
    subst hij
    have ho' : o = ops[n + j] := by rw [hx] at ho; exact (Option.some.inj ho).symm
    subst ho'
    have hdrop : ops.toList.drop (n + j) = ops[n + j] :: ops.toList.drop (n + j + 1) := by
      rw [List.drop_eq_getElem_cons (by simpa using hlt)]; simp
    rw [hdrop] at h
    have hset : (Array.replicate (n + j) true ++ Array.replicate (r + 1) false).setIfInBounds (n + j) true = Array.replicate (n + (j + 1)) true ++ Array.replicate r false := by
      apply Array.toList_inj.1
      simp only [Array.toList_setIfInBounds, Array.toList_append, Array.toList_replicate]
      rw [List.set_append_right _ _ (by simp)]
      simp only [List.length_replicate, Nat.sub_self, List.replicate_succ, List.set_cons_zero]
      rw [show n + (j + 1) = (n + j) + 1 by omega, List.replicate_succ', List.append_assoc]
      rfl
    rw [hset]
    unfold wpOp
    simp only [hx]
    unfold wpList at h
    have hK : ∀ a w, wpList P ops Q (ops.toList.drop (n + j + 1)) a w → wpAny P .any ops Q r (Array.replicate (n + (j + 1)) true ++ Array.replicate r false) a w := fun a w h => ih (j + 1) a w (by omega) h
    by_cases hwt : Region.wanted ops[n + j] (yielded ops a.tmps) = true
    · rw [if_pos hwt] at h ⊢
      rcases h with h | h
      · exact .inl (Oper.wp_mono hK h)
      · exact .inr h
    · rw [if_neg hwt] at h ⊢
      exact hK _ _ h
theorem wpAny_mono_q {ops : Array Oper} {K K' : Act → World → Prop} (hK : ∀ a w, K a w → K' a w) : ∀ (fuel : Nat) (lst : Array Bool) (a : Act) (w : World), wpAny P .any ops (Kq K Q) fuel lst a w → wpAny P .any ops (Kq K' Q) fuel lst a w := by
  intro fuel
  induction fuel with
  | zero => intro lst a w h; exact ⟨h.1, hK _ _ h.2⟩
  | succ fuel ih =>
    intro lst a w h
    refine ⟨fun hr => hK _ _ (h.1 hr), fun i hi => ?_⟩
    have h2 := h.2 i hi
    unfold wpOp at h2 ⊢
    cases ho : ops[i]? with
    | none => simp only [ho] at h2 ⊢; exact ih _ _ _ h2
    | some o =>
      simp only [ho] at h2 ⊢
      by_cases hw : Region.wanted o (yielded ops a.tmps) = true
      · rw [if_pos hw] at h2 ⊢
        rcases h2 with h2 | ⟨h3, h4⟩
        · refine .inl ?_
          have h5 := Oper.wp_mono (fun a w h => ih _ a w h) h2
          unfold Oper.wp at *
          generalize (execOp a.eval o).run P w = r at *
          cases r with
          | ok n w' => cases n <;> exact h5
          | halt x w' => cases x <;> exact h5
        · exact .inr ⟨h3, h4⟩
      · rw [if_neg hw] at h2 ⊢
        exact ih _ _ _ h2
/-- A law for lists, as a step. -/
theorem wp_of_list {K : Act → World → Prop} {o : Oper} {a : Act} {w : World} (hg : o.guard = none) (h : ∀ Q' : Exit → Act → World → Prop, (∀ a w, K a w → Q' .normal a w) → wpList P #[] Q' [o] a w) : o.wp P a w K Q := by
  have h0 := h (fun e a w => match e with | .normal => K a w | _ => False) (fun _ _ h => h)
  unfold wpList at h0
  have hw : Region.wanted o (yielded #[] a.tmps) = true := by unfold Region.wanted; rw [hg]
  rw [if_pos hw] at h0
  rcases h0 with h0 | ⟨_, _, _, h0⟩
  · unfold Oper.wp at *
    generalize (execOp a.eval o).run P w = r at *
    cases r with
    | ok n w' =>
      cases n
      all_goals first
        | exact h0
        | exact h0.elim
        | (intro cs
           obtain ⟨e, w1, fr, h1, h2⟩ := h0 cs
           refine ⟨e, w1, fr, ?_, h2⟩
           cases e
           all_goals first
             | exact h1
             | exact h1.elim
             | (obtain ⟨_, _, h3⟩ := h1; exact h3.elim))
    | halt x w' =>
      cases x
      all_goals first
        | exact h0
        | exact h0.elim
        | (obtain ⟨_, _, h3⟩ := h0; exact h3.elim)
  · exact h0.elim
theorem finG_end {L : List (Oper × Fact)} {a : Act} {w : World} (hl : L = []) (h : Q .normal a w) : finG Q L a w := by subst hl; exact h
theorem kq_normal {K : Act → World → Prop} {a : Act} {w : World} (h : K a w) : Kq K Q .normal a w := h
/-- The check: from n on each operation waits for all before it. -/
def tailT (l : List Oper) (n : Nat) : Bool :=
  (List.range l.length).all fun i => match l[i]? with
    | some o => o.after.toList.all (fun e => decide (e.on < i)) && (if i < n then (match o.guard with | some (j, _) => decide (j < n) | none => true) else (List.range i).all (fun k => reachT l.toArray l.length i k))
    | none => true
theorem wp_region_factsT {id : Nat} {a : Act} {w : World} {l : List Oper} (n : Nat) (F : List Fact) (hm : P.follows .mixedOrders = true) (hB : (decide (n ≤ l.length) && decide (F.length = n) && factH (l.take n) a.tmps.size && tailT l n) = true)
    (hst : Hid (Below w.heap.size w w.drew) → stepsH P ((l.take n).zip F) a w.drew (Kq (fun a w => wpList P l.toArray (NoPanic Q) (l.drop n) a w) (NoPanic Q)) 0 ((l.take n).zip F))
    (hfin : ∀ w', Below w.heap.size w w' → finG (Kq (fun a w => wpList P l.toArray (NoPanic Q) (l.drop n) a w) (NoPanic Q)) ((l.take n).zip F) a w') : (Code.region id l.toArray true).wp P Q a w := by
  simp only [Bool.and_eq_true, decide_eq_true_eq] at hB
  obtain ⟨⟨⟨hnl, hF⟩, hH⟩, hT⟩ := hB
  have htl : (l.take n).length = n := by rw [List.length_take]; omega
  have hdr : Below w.heap.size w w.drew := (Dr.refl w).drew.below _
  have hfst : ((l.take n).zip F).map (·.1) = l.take n := by rw [List.map_fst_zip]; omega
  have hlen : ((l.take n).zip F).length = n := by simp; omega
  have hget : ∀ i : Nat, i < n → l.toArray[i]? = (l.take n).toArray[i]? := fun i hi => by simp [List.getElem?_take_of_lt hi]
  have hTi : ∀ (i : Nat) (o : Oper), l[i]? = some o → (∀ e ∈ o.after, e.on < i) ∧ (if i < n then (match o.guard with | some (j, _) => decide (j < n) | none => true) else (List.range i).all (fun k => reachT l.toArray l.length i k)) = true := fun i o ho => by
    have h1 := List.all_eq_true.1 hT i (List.mem_range.2 (List.getElem?_eq_some_iff.1 ho).1)
    rw [ho] at h1
    simp only [Bool.and_eq_true] at h1
    exact ⟨fun e he => by simpa using List.all_eq_true.1 h1.1 e (by simpa using he), h1.2⟩
  have hE' : ∀ (j : Nat) (o : Oper), l.toArray[j]? = some o → ∀ e ∈ o.after, e.on < j := fun j o ho => (hTi j o (by simpa using ho)).1
  have hRch : ∀ (i : Nat) (o : Oper), n ≤ i → l[i]? = some o → ∀ k, k < i → reachT l.toArray l.length i k = true := fun i o hi ho k hk => by
    have h1 := (hTi i o ho).2
    rw [if_neg (by omega)] at h1
    exact List.all_eq_true.1 h1 k (List.mem_range.2 hk)
  refine wp_region_noPanic (wp_region_any hm ?_)
  have h := wpAny_factsG (P := P) (L := (l.take n).zip F) (a0 := a) (w0 := w.drew) (Q := Kq (fun a w => wpList P l.toArray (NoPanic Q) (l.drop n) a w) (NoPanic Q)) (by rw [hfst]; exact hH) (hst hdr) (fun w' hb => hfin w' (hdr.trans hb)) n (Array.replicate n false) a w.drew
    ⟨by simp [hlen], rfl, rfl, Below.refl _ _, fun k x hx hk => by
      exfalso
      simp [Array.getD] at hk, fun _ _ => rfl, fun k x d hx hd hk => by
      exfalso
      simp [Array.getD] at hk⟩ (fun k _ => by simp)
  rw [hfst] at h
  have hKK : ∀ (a : Act) (w : World), wpList P l.toArray (NoPanic Q) (l.drop n) a w → wpAny P .any l.toArray (NoPanic Q) (l.length - n) (Array.replicate n true ++ Array.replicate (l.length - n) false) a w := fun a w h =>
    wpAny_seq (n := n) (m := l.length - n) (by simp; omega) (fun j o hj ho => ⟨fun k hk => reach_ge hE' l.length (n + j) k o ho (hRch (n + j) o (by omega) (by simpa using ho) k hk), hE' (n + j) o ho⟩) (l.length - n) 0 a w (by omega) h
  have h2 := wpAny_split (P := P) (Q := NoPanic Q) (ops := (l.take n).toArray) (ops' := l.toArray) (n := n) (m := l.length - n) (by simpa using htl) (by simp; omega) hget
    (fun i o ho => by
      have ho' : (l.take n)[i]? = some o := by simpa using ho
      have hi : i < n := by have := (List.getElem?_eq_some_iff.1 ho').1; omega
      refine ⟨fun e he => (factH_spec hH ho').1 e he, fun j b hg => ?_⟩
      have h1 := (hTi i o (by rw [← ho', List.getElem?_take_of_lt hi])).2
      rw [if_pos hi, hg] at h1
      simpa using h1)
    (fun i o hi ho k hk => ⟨_, hRch i o hi (by simpa using ho) k (by omega)⟩) n (Array.replicate n false) a w.drew (by simp) (fun j o _ hj => by
      exfalso
      simp [Array.getD] at hj) (by simp) (wpAny_mono_q hKK n _ a _ h)
  have e1 : Array.replicate n false ++ Array.replicate (l.length - n) false = Array.replicate l.toArray.size false := by
    apply Array.toList_inj.1
    simp only [Array.toList_append, Array.toList_replicate, List.size_toArray, List.replicate_append_replicate]
    congr 1; omega
  rw [e1, show n + (l.length - n) = l.toArray.size by simp; omega] at h2
  exact h2
end
end Go.Proofs.Ytjaaldandgfkgaa
