/- The facts rule for a region with guarded operations. Conditions: as the theorem has them. -/
import Derived.Test.YtbioanbokbhmgaaFact
namespace Go.Proofs.Ytbioanbokbhmgaa
open Go Go.RowKit

def stepOkG (P : Program) (L : List (Oper × Fact)) (a0 : Act) (w0 : World) (Q : Exit → Act → World → Prop) (i : Nat) (o : Oper) (f : Fact) : Prop :=
  ∀ (a : Act) (w : World), Below w0.heap.size w0 w → (∀ s, freeSlot (L.map (·.1)) i s = true → slot a s = slot a0 s) →
    ∀ K : Act → World → Prop, Hid (∀ v w', Below w.heap.size w w' → f.p v w' → K (a.put o.dst v) w') → okPre L a w o.after.toList (Box (if Region.wanted o (yielded (L.map (·.1)).toArray a.tmps) = true then o.wp P a w K Q else K (a.put o.dst undef) w))
def stepsH (P : Program) (L : List (Oper × Fact)) (a0 : Act) (w0 : World) (Q : Exit → Act → World → Prop) : Nat → List (Oper × Fact) → Prop
  | _, [] => True
  | i, (o, f) :: rest => stepOkG P L a0 w0 Q i o f ∧ stepsH P L a0 w0 Q (i + 1) rest
/-- What is reckoned of the region: waiting only for what stands ahead, every slot laid once, within the frame. -/
def factH (l : List Oper) (n : Nat) : Bool :=
  (List.range l.length).all fun i => match l[i]? with
    | some o => o.after.toList.all (fun e => decide (e.on < i)) && (match o.dst with
      | some d => decide (d < n) && (List.range l.length).all fun k => k == i || (match l[k]? with
        | some o' => o'.dst != some d
        | none => true)
      | none => true)
    | none => true
section
variable {P : Program} {L : List (Oper × Fact)} {a0 : Act} {w0 : World} {Q : Exit → Act → World → Prop}
theorem wanted_yes {ops : Array Oper} {o oj : Oper} {a : Act} {j d : Nat} {b : Bool} (hg : o.guard = some (j, b)) (hj : ops[j]? = some oj) (hd : oj.dst = some d) (hv : a.tmps[d]?.getD undef = .bool b) : Region.wanted o (yielded ops a.tmps) = true := by
  cases h : a.tmps[d]? with
  | none => rw [h] at hv; cases hv
  | some v =>
    rw [h] at hv
    simp only [Option.getD_some] at hv
    subst hv
    simp [Region.wanted, hg, yielded, hj, hd, h]
theorem wanted_no {ops : Array Oper} {o oj : Oper} {a : Act} {j d : Nat} {b : Bool} (hg : o.guard = some (j, b)) (hj : ops[j]? = some oj) (hd : oj.dst = some d) (hv : a.tmps[d]?.getD undef = .bool (!b)) : ¬ Region.wanted o (yielded ops a.tmps) = true := by
  cases h : a.tmps[d]? with
  | none => rw [h] at hv; cases hv
  | some v =>
    rw [h] at hv
    simp only [Option.getD_some] at hv
    subst hv
    cases b <;> simp [Region.wanted, hg, yielded, hj, hd, h]
theorem factH_spec {l : List Oper} {n : Nat} (h : factH l n = true) {i : Nat} {o : Oper} (hi : l[i]? = some o) :
    (∀ e ∈ o.after, e.on < i) ∧ (∀ d, o.dst = some d → d < n ∧ ∀ (k : Nat) (o' : Oper), k ≠ i → l[k]? = some o' → o'.dst ≠ some d) := by
  have hlt := (List.getElem?_eq_some_iff.1 hi).1
  have h1 := List.all_eq_true.1 h i (List.mem_range.2 hlt)
  rw [hi] at h1
  simp only [Bool.and_eq_true] at h1
  obtain ⟨he, hd⟩ := h1
  refine ⟨fun e hx => by simpa using List.all_eq_true.1 he e (by simpa using hx), fun d hdd => ?_⟩
  rw [hdd] at hd
  simp only [Bool.and_eq_true, decide_eq_true_eq] at hd
  refine ⟨hd.1, fun k o' hk hko e => ?_⟩
  have h2 := List.all_eq_true.1 hd.2 k (List.mem_range.2 (List.getElem?_eq_some_iff.1 hko).1)
  rw [hko] at h2
  simp [hk, e] at h2
theorem stepsH_get : ∀ {l : List (Oper × Fact)} {k : Nat}, stepsH P L a0 w0 Q k l → ∀ {i : Nat} {x : Oper × Fact}, l[i]? = some x → stepOkG P L a0 w0 Q (k + i) x.1 x.2
  | [], _, _, i, x, h => by simp at h
  | y :: l, k, hs, 0, x, h => by
    simp at h; subst h; exact hs.1
  | y :: l, k, hs, i + 1, x, h => by
    have := stepsH_get (l := l) hs.2 (i := i) (x := x) (by simpa using h)
    rw [show k + (i + 1) = k + 1 + i by omega]; exact this
theorem finH_done (hB : factH (L.map (·.1)) a0.tmps.size = true) {listed : Array Bool} {a : Act} {w : World} (H : FxInv L a0 w0 listed a w) (hall : ∀ k, k < L.length → listed.getD k false = true) :
    ∀ (l : List (Oper × Fact)) (k : Nat) (b : Act), L.drop k = l → b.tmps.size = a0.tmps.size → b.defers = a0.defers →
      (∀ s, (∀ (j : Nat) (x : Oper × Fact), k ≤ j → L[j]? = some x → x.1.dst ≠ some s) → slot b s = slot a s) → finG Q l b w → Q .normal a w
  | [], k, b, hd, hs, hdf, hsl, h => by
    have hk : L.length ≤ k := by simpa using hd
    have : b = a := act_ext (hs.trans H.tmps.symm) (hdf.trans H.defers.symm) fun s => hsl s fun j x hj hx => by
      have := (List.getElem?_eq_some_iff.1 hx).1; omega
    rw [← this]; exact h
  | (o, f) :: rest, k, b, hd, hs, hdf, hsl, h => by
    have hk : k < L.length := by
      rcases Nat.lt_or_ge k L.length with h1 | h1
      · exact h1
      · rw [List.drop_eq_nil_of_le h1] at hd; cases hd
    have hx : L[k]? = some (o, f) := by
      have : (L.drop k)[0]? = some (o, f) := by rw [hd]; rfl
      simpa using this
    have hrest : L.drop (k + 1) = rest := by
      have : (L.drop k).drop 1 = rest := by rw [hd]; rfl
      simpa [List.drop_drop] using this
    have hsp := factH_spec hB (i := k) (o := o) (by simp [hx])
    cases hdst : o.dst with
    | none =>
      simp only [finG, hdst] at h
      refine finH_done hB H hall rest (k + 1) b hrest hs hdf (fun s hs' => hsl s fun j x hj hx' => ?_) h
      by_cases e : j = k
      · subst e
        rw [hx] at hx'
        injection hx' with hx'
        subst hx'
        simp [hdst]
      · exact hs' j x (by omega) hx'
    | some d =>
      have hp := H.fact k (o, f) d hx hdst (hall k hk)
      simp only [finG, hdst] at h
      have h2 := h (slot a d) hp
      have hdn := (hsp.2 d hdst).1
      refine finH_done hB H hall rest (k + 1) (b.put (some d) (slot a d)) hrest (by rw [size_put]; exact hs) (by rw [defers_put]; exact hdf) (fun s hs' => ?_) h2
      by_cases e : d = s
      · subst e
        exact slot_put_same (Nat.lt_of_lt_of_eq hdn hs.symm)
      · rw [slot_put_other e]
        refine hsl s fun j x hj hx' => ?_
        by_cases e2 : j = k
        · subst e2
          rw [hx] at hx'
          injection hx' with hx'
          subst hx'
          simp [hdst, e]
        · exact hs' j x (by omega) hx'
theorem wpAny_factsG (hB : factH (L.map (·.1)) a0.tmps.size = true) (hst : stepsH P L a0 w0 Q 0 L) (hfin : ∀ w', Below w0.heap.size w0 w' → finG Q L a0 w') :
    ∀ (fuel : Nat) (listed : Array Bool) (a : Act) (w : World), FxInv L a0 w0 listed a w → (∀ k, k < L.length → fuel ≤ (listed.toList.filter (! ·)).length ∧ (listed.toList.filter (! ·)).length ≤ fuel) → wpAny P .any (L.map (·.1)).toArray Q fuel listed a w := by
  have hnil : ∀ {listed : Array Bool} {a : Act} {w : World}, FxInv L a0 w0 listed a w → Region.ready .any (L.map (·.1)).toArray listed = [] → ∀ k, k < L.length → listed.getD k false = true := by
    intro listed a w H hr k
    induction k using Nat.strongRecOn with
    | _ k ih =>
      intro hk
      cases hf : listed.getD k false with
      | true => rfl
      | false =>
        exfalso
        have hx : (L.map (·.1)).toArray[k]? = some (L[k]).1 := by simp [hk]
        have hm : k ∈ Region.ready .any (L.map (·.1)).toArray listed := mem_ready.2 ⟨by rw [getD_tf (by rw [H.size]; exact hk)]; exact hf, _, hx, fun e he _ => ih e.on ((factH_spec hB (i := k) (o := (L[k]).1) (by simp [hk])).1 e he) (by have := (factH_spec hB (i := k) (o := (L[k]).1) (by simp [hk])).1 e he; omega)⟩
        rw [hr] at hm
        cases hm
  have hend : ∀ {listed : Array Bool} {a : Act} {w : World}, FxInv L a0 w0 listed a w → (∀ k, k < L.length → listed.getD k false = true) → Q .normal a w := fun H hall =>
    finH_done hB H hall L 0 a0 rfl rfl rfl (fun s hs => (H.old s fun k x hx hd => absurd hd (hs k x (by omega) hx)).symm) (hfin _ H.below)
  intro fuel
  induction fuel with
  | zero =>
    intro listed a w H hc
    have hall : ∀ k, k < L.length → listed.getD k false = true := by
      intro k hk
      have h0 := (hc k hk).2
      have hlt : k < listed.size := by rw [H.size]; exact hk
      cases hf : listed.getD k false with
      | true => rfl
      | false =>
        exfalso
        have hmem : false ∈ listed.toList := by
          have : listed[k] = false := by simpa [hlt] using hf
          rw [← this]; exact Array.getElem_mem_toList hlt
        have : false ∈ listed.toList.filter (! ·) := List.mem_filter.2 ⟨hmem, rfl⟩
        have := List.length_pos_of_mem this
        omega
    refine ⟨?_, hend H hall⟩
    cases hr : Region.ready .any (L.map (·.1)).toArray listed with
    | nil => rfl
    | cons i _ =>
      exfalso
      have hi : i ∈ Region.ready .any (L.map (·.1)).toArray listed := by rw [hr]; simp
      obtain ⟨h1, o, ho, _⟩ := mem_ready.1 hi
      have hlt : i < L.length := by have := (Array.getElem?_eq_some_iff.1 ho).1; simpa using this
      have := hall i hlt
      rw [← getD_tf (by rw [H.size]; exact hlt)] at this
      rw [h1] at this
      cases this
  | succ fuel ih =>
    intro listed a w H hc
    refine ⟨fun hr => hend H (hnil H hr), fun i hi => ?_⟩
    obtain ⟨h1, o, ho, hpre⟩ := mem_ready.1 hi
    have hlt : i < L.length := by have := (Array.getElem?_eq_some_iff.1 ho).1; simpa using this
    have hL : (L.map (·.1))[i]? = some o := by simpa using ho
    obtain ⟨f, hx⟩ : ∃ f, L[i]? = some (o, f) := by
      refine ⟨(L[i]).2, ?_⟩
      have : (L[i]).1 = o := by simpa [hlt] using hL
      rw [List.getElem?_eq_getElem hlt, ← this]
    have hli : listed.getD i false = false := by rw [← getD_tf (by rw [H.size]; exact hlt)]; exact h1
    have hsp := factH_spec hB hL
    have hset : ∀ k, (listed.setIfInBounds i true).getD k false = if k = i then true else listed.getD k false := by
      intro k
      by_cases e : k = i
      · subst e; rw [if_pos rfl]; simp [H.size, hlt]
      · rw [if_neg e]; exact getD_set_ne false (fun h => e h.symm)
    have hok := stepsH_get hst hx a w H.below (fun s hs => H.old s fun k x hxk hdk => by
      have hkl := (List.getElem?_eq_some_iff.1 hxk).1
      have h2 := List.all_eq_true.1 hs k (List.mem_range.2 (by simpa using hkl))
      have h3 : (L.map (·.1))[k]? = some x.1 := by simp [hxk]
      rw [h3] at h2
      simp only [Bool.or_eq_true, bne_iff_ne, ne_eq, beq_iff_eq] at h2
      cases hf : listed.getD k false with
      | false => rfl
      | true =>
        rcases h2 with (h2 | h2) | h2
        · exact absurd hdk h2
        · rw [h2, Nat.zero_add, hli] at hf; cases hf
        · obtain ⟨ok, hok, e, he, hb, hon⟩ := Region.waitsFor_spec h2
          have : ok = x.1 := by
            have h4 : (L.map (·.1)).toArray[k]? = some x.1 := by simpa using h3
            rw [h4] at hok
            exact (Option.some.inj hok).symm
          subst this
          have := H.closed k x hxk hf e he hb
          rw [hon, Nat.zero_add, hli] at this
          cases this)
    unfold wpOp
    simp only [ho]
    have hbox := (okPre_elim H (fun e he hb => hpre e (by simpa using he) hb) (hok (fun a' w' => wpAny P .any (L.map (·.1)).toArray Q fuel (listed.setIfInBounds i true) a' w') fun v w' hb hv => ih _ _ _ ?_ ?_)).out
    · by_cases hw : Region.wanted o (yielded (L.map (·.1)).toArray a.tmps) = true
      · rw [if_pos hw] at hbox ⊢
        exact .inl hbox
      · rw [if_neg hw] at hbox ⊢
        exact hbox
    · refine ⟨by simpa using H.size, by rw [defers_put]; exact H.defers, by rw [size_put]; exact H.tmps, H.below.trans (hb.mono H.below.size), ?_, ?_, ?_⟩
      · intro k x hxk hk e he hbe
        rw [hset] at hk ⊢
        by_cases e1 : e.on = i
        · rw [if_pos e1]
        · rw [if_neg e1]
          by_cases e2 : k = i
          · subst e2
            rw [hx] at hxk
            injection hxk with hxk
            subst hxk
            exact hpre e he hbe
          · rw [if_neg e2] at hk
            exact H.closed k x hxk hk e he hbe
      · intro s hs
        have hdo : o.dst ≠ some s := fun e => by
          have := hs i (o, f) hx e
          rw [hset, if_pos rfl] at this
          cases this
        have hput : slot (a.put o.dst v) s = slot a s := by
          cases hd : o.dst with
          | none => rfl
          | some d => exact slot_put_other fun e => hdo (by rw [hd, e])
        rw [hput]
        refine H.old s fun k x hxk hdk => ?_
        have := hs k x hxk hdk
        rw [hset] at this
        by_cases e : k = i
        · rw [if_pos e] at this; cases this
        · rw [if_neg e] at this; exact this
      · intro k x d hxk hdk hk
        rw [hset] at hk
        by_cases e : k = i
        · subst e
          rw [hx] at hxk
          injection hxk with hxk
          subst hxk
          show f.p (slot (a.put o.dst v) d) w'
          have hdk : o.dst = some d := hdk
          rw [hdk, slot_put_same (by rw [H.tmps]; exact (hsp.2 d hdk).1)]
          exact hv
        · rw [if_neg e] at hk
          have hne : slot (a.put o.dst v) d = slot a d := by
            cases hd : o.dst with
            | none => rfl
            | some d' =>
              refine slot_put_other fun e2 => ?_
              have := (hsp.2 d' hd).2 k x.1 e (by simp [hxk])
              exact this (by rw [hdk, e2])
          rw [hne]
          exact x.2.st _ _ _ (H.fact k x d hxk hdk hk) hb
    · intro k hk
      have h0 := hc k hk
      have hlt' : i < listed.size := by rw [H.size]; exact hlt
      have hcount : ∀ (l : List Bool) (i : Nat), l[i]? = some false → ((l.set i true).filter (! ·)).length + 1 = (l.filter (! ·)).length := by
        intro l
        induction l with
        | nil => intro i h; simp at h
        | cons x l ihl =>
          intro i h
          cases i with
          | zero => simp at h; subst h; simp
          | succ i =>
            have h2 := ihl i (by simpa using h)
            cases x <;> simp <;> omega
      have h3 := hcount listed.toList i (by
        have : listed[i] = false := by simpa [hlt'] using hli
        simp [hlt', this])
      rw [Array.toList_setIfInBounds]
      omega
/-- THE RULE. -/
theorem wp_region_factsG {id : Nat} {a : Act} {w : World} {l : List Oper} (F : List Fact) (hm : P.follows .mixedOrders = true) (hB : (decide (F.length = l.length) && factH l a.tmps.size) = true)
    (hst : Hid (Below w.heap.size w w.drew) → stepsH P (l.zip F) a w.drew (NoPanic Q) 0 (l.zip F)) (hfin : ∀ w', Below w.heap.size w w' → finG (NoPanic Q) (l.zip F) a w') : (Code.region id l.toArray true).wp P Q a w := by
  simp only [Bool.and_eq_true, decide_eq_true_eq] at hB
  have hdr : Below w.heap.size w w.drew := (Dr.refl w).drew.below _
  have hfst : (l.zip F).map (·.1) = l := by rw [List.map_fst_zip]; omega
  have hlen : (l.zip F).length = l.length := by simp; omega
  refine wp_region_noPanic (wp_region_any hm ?_)
  have h := wpAny_factsG (P := P) (L := l.zip F) (a0 := a) (w0 := w.drew) (Q := NoPanic Q) (by rw [hfst]; exact hB.2) (hst hdr) (fun w' hb => hfin w' (hdr.trans hb)) l.length (Array.replicate l.length false) a w.drew
    ⟨by simp [hlen], rfl, rfl, Below.refl _ _, fun k x hx hk => by
      exfalso
      simp [Array.getD] at hk, fun _ _ => rfl, fun k x d hx hd hk => by
      exfalso
      simp [Array.getD] at hk⟩ (fun k _ => by simp)
  rw [hfst] at h
  simpa using h
end
end Go.Proofs.Ytbioanbokbhmgaa
