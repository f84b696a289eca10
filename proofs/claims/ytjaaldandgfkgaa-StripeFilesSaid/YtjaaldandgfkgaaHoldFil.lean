/- StripeFiles PROVED: for every input that can be read as data the call answers true, and each argument reads behind it as it read before. Conditions: none. -/
import Derived.Test.YtjaaldandgfkgaaOpenSd
import Derived.Test.YtjaaldandgfkgaaLawFil
namespace Go.Proofs.Ytjaaldandgfkgaa
open Go.ChangeShapes Go.WideShapes Go.ChangeAt Go.RowKit Go.Joins Go.Deep

section
variable {H : Type} {P : Program} {enc : TypeId × Value → H} {w : World} {base : Nat} {held : Bool}
theorem open_ivec {t e : TypeId} {fuel : Nat} {v : Value} {x : DataW H × List MemPlace} (ht : P.underlying t = some (.slice e)) (he : P.underlying e = some (.int .i64)) (hc : P.cellsOf e = 1) (h8 : P.bytesOf e = 8)
    (h : DataW.trod enc P w base (fun _ => true) held fuel t [v] = some x) (hw : ∀ n ∈ x.1.weights P t, n ≤ reachBytes) :
    ∃ (A : Option Addr) (n c : Nat) (f : Nat → Int), v = .slice A n c ∧ Rd w A n (fun i => .int .i64 (f i)) ∧ n * 8 ≤ 140737488351232 ∧ ∀ i, i < n → -9223372036854775808 ≤ f i ∧ f i ≤ 9223372036854775807 := by
  rcases open_ints ht he hc h with ⟨h1, _⟩ | ⟨a, len, cap, zs, h1, _, h2, _, h3, rfl, h4, h5⟩
  · simp only [List.cons.injEq, and_true] at h1
    exact ⟨none, 0, 0, fun _ => 0, h1, Rd.zero _ _ _, by omega, fun i hi => by omega⟩
  · simp only [List.cons.injEq, and_true] at h1
    simp only [if_true] at h3
    have hb := (weights_slice ht hw).1
    rw [h8] at hb
    have hr := reach_le
    simp [lits] at hb
    refine ⟨some a, len, cap, fun i => zs.getD i 0, h1, rd_of_add fun i hi => h4 i (by omega), by omega, fun i hi => ?_⟩
    have h7 : ∀ x : Int, (Lit.int .i64 x).wf = true → -9223372036854775808 ≤ x ∧ x ≤ 9223372036854775807 := fun x h => by
      simp [Lit.wf, IntKind.min, IntKind.max, IntKind.signed, IntKind.bits] at h
      omega
    exact h7 _ (h5 _ (getD_mem (Z := zs) (j := i) (by omega)))
end
set_option maxRecDepth 100000 in
theorem stripeFiles_lifted (os : Os) (started : os.Started) (H : Type) (enc : TypeId × Value → H) :
    ReturnsInHanded {} Try.checked os 14 .any (Rows.stripeFilesSpec.pre6 enc Try.prog Try.f14 Rows.stripeFilesRow.domain false) (Rows.stripeFilesSpec.post enc Try.prog Try.f14 false true false false) := by
  refine returnsInHanded_of_change_sized (C := Try.checked) ownKnobs started (by kernel_rfl) Try.func14
    (ChangeSpec.witness6 (enc := enc) (C := Try.checked) false ⟨#[], #[.agg #[.int .i64 0, .int .i64 0, .int .i64 0, .int .u8 0, .int .u8 0, .int .u8 0, .int .u8 0, .int .u8 0, .int .u8 0, .int .u8 0, .int .u8 0, .string ⟨#[]⟩, .int .i64 0, .int .i64 0, .slice none 0 0, .slice none 0 0], .slice none 0 0], []⟩ 8 (by kernel_rfl) (by kernel_rfl) (by kernel_rfl) (by kernel_rfl)) ?_
  intro W base args ds gs before hval0 hW _ hsz0 _
  have hval : ∀ (j : Nat) t v, Try.f14.params[j]? = some t → args[j]? = some v → Value.okWide Try.prog W .any base t v := hval0
  have hW' := hW
  obtain ⟨p, q, hA0, hV, rfl, hfz, hnd⟩ := hW
  have hA : DataW.TrodAll enc Try.prog W 0 (fun _ => true) true Try.f14.params.toList args.toList ds p := hA0
  rw [Try.params14] at hA hval
  obtain ⟨v0, vs0, d0, ds0, p0, q0, hargs, rfl, rfl, h0, r0⟩ := trodAll_cons hA
  obtain ⟨v1, vs1, d1, ds1, p1, q1, rfl, rfl, rfl, h1, r1⟩ := trodAll_cons r0
  obtain ⟨rfl, rfl, rfl⟩ := trodAll_nil r1
  obtain rfl : args = #[v0, v1] := by cases args; simp_all
  obtain ⟨rfl, rfl⟩ := trodVars_none hV
  clear hA0 hval0
  simp only [List.append_nil] at hW'
  have hz : (DataW.weightsEach Try.prog (64 :: 25 :: []) (d0 :: d1 :: [])).all (· ≤ reachBytes) = true := hsz0
  obtain ⟨cs0, rfl, hsz0⟩ := okWide_struct Try.underlying64 (hval 0 _ _ rfl rfl)
  obtain ⟨fuel0, hf0⟩ := h0
  obtain ⟨p0, A0, cd0, l0, Pk0, np0, cp0, pi0, hcs0, hwf0, hRL0, hlc0, hcm0, hl0, hX0, hP0, hnp0⟩ := open_plain hf0 (fun n hn => by
    have := List.all_eq_true.1 hz n (by simp only [DataW.weightsEach, List.mem_append]; exact Or.inl hn)
    simpa using this)
  have hcs' : cs0 = #[.int .i64 p0.K, .int .i64 p0.M, .int .i64 p0.B, .int .u8 p0.s0, .int .u8 p0.s1, .int .u8 p0.s2, .int .u8 p0.s3, .int .u8 p0.s4, .int .u8 p0.s5, .int .u8 p0.s6, .int .u8 p0.s7, .string p0.key, .int .i64 p0.ep, .int .i64 p0.ct, .slice A0 l0.length cd0, .slice Pk0 np0 cp0] := by
    obtain ⟨l⟩ := cs0
    simp only [Value.cells] at hcs0
    rw [hcs0]
  subst hcs'
  obtain ⟨aY1, lY1, cYY1, rfl⟩ := okWide_slice Try.underlying25 (hval 1 _ _ rfl rfl)
  obtain ⟨fuel1, hf1⟩ := h1
  obtain ⟨Y, nY, cY, g1, heY, hR1, hn1, hg1⟩ := open_ivec (v := .slice aY1 lY1 cYY1) Try.underlying25 Try.underlying3 (by kernel_rfl) (by kernel_rfl) hf1 (fun n hn => by
    have := List.all_eq_true.1 hz n (by simp only [DataW.weightsEach, List.mem_append]; exact Or.inr (Or.inl hn))
    simpa using this)
  injection heY with e1 e2 e3
  subst e1 e2 e3
  have hB0 := lawFil p0 A0 cd0 l0 Pk0 np0 cp0 pi0 aY1 lY1 cYY1 g1 W hwf0 hRL0 hlc0 hl0 hX0 hP0 hnp0 hR1 hn1 hg1
  refine hB0.mono fun e W' ⟨he, hb⟩ => ?_
  subst he
  exact ⟨_, rfl, law_post laidOut (by intro t ht; rw [Try.params14] at ht; simp at ht; rcases ht with rfl | rfl <;> exact ⟨by kernel_rfl, of_decide_eq_true (by kernel_rfl)⟩) (by kernel_rfl) Try.underlying4 hW' rfl rfl hb⟩

theorem stripeFiles_holds : Rows.StripeFilesSaid :=
  OpenClaim.holds_of_wide 14 Try.f14 rfl rfl rfl rfl rfl rfl rfl ⟨rfl, rfl, rfl, rfl, rfl⟩ rfl rfl rfl rfl rfl (by kernel_rfl) Try.func14 (by kernel_rfl)
    (of_decide_eq_true (by kernel_rfl)) (by unfold Func.isWrapper; first | (rw [if_pos (by decide +kernel)]; kernel_rfl) | (rw [if_neg (by decide +kernel)]; exact ⟨rfl, rfl⟩))
    (fun os started H enc _ => stripeFiles_lifted os started H enc)
#print axioms stripeFiles_holds
end Go.Proofs.Ytjaaldandgfkgaa
