/- StripeMemory PROVED: for every input that can be read as data the call answers true, and each argument reads behind it as it read before. Conditions: none. -/
import Derived.Test.YtjaaldandgfkgaaOpenSd
import Derived.Test.YtjaaldandgfkgaaLawMem10
namespace Go.Proofs.Ytjaaldandgfkgaa
open Go.ChangeShapes Go.WideShapes Go.ChangeAt Go.RowKit Go.Joins Go.Deep

set_option maxRecDepth 100000 in
theorem stripeMemory_lifted (os : Os) (started : os.Started) (H : Type) (enc : TypeId × Value → H) :
    ReturnsInHanded {} Try.checked os 12 .any (Rows.stripeMemorySpec.pre6 enc Try.prog Try.f12 Rows.stripeMemoryRow.domain false) (Rows.stripeMemorySpec.post enc Try.prog Try.f12 false true false false) := by
  refine returnsInHanded_of_change_sized (C := Try.checked) ownKnobs started (by kernel_rfl) Try.func12
    (ChangeSpec.witness6 (enc := enc) (C := Try.checked) false ⟨#[], #[.agg #[.int .i64 0, .int .i64 0, .int .i64 0, .int .u8 0, .int .u8 0, .int .u8 0, .int .u8 0, .int .u8 0, .int .u8 0, .int .u8 0, .int .u8 0, .string ⟨#[]⟩, .int .i64 0, .int .i64 0, .slice none 0 0, .slice none 0 0], .slice none 0 0], []⟩ 8 (by kernel_rfl) (by kernel_rfl) (by kernel_rfl) (by kernel_rfl)) ?_
  intro W base args ds gs before hval0 hW _ hsz0 _
  have hval : ∀ (j : Nat) t v, Try.f12.params[j]? = some t → args[j]? = some v → Value.okWide Try.prog W .any base t v := hval0
  have hW' := hW
  obtain ⟨p, q, hA0, hV, rfl, hfz, hnd⟩ := hW
  have hA : DataW.TrodAll enc Try.prog W 0 (fun _ => true) true Try.f12.params.toList args.toList ds p := hA0
  rw [Try.params12] at hA hval
  obtain ⟨v0, vs0, d0, ds0, p0, q0, hargs, rfl, rfl, h0, r0⟩ := trodAll_cons hA
  obtain ⟨v1, vs1, d1, ds1, p1, q1, rfl, rfl, rfl, h1, r1⟩ := trodAll_cons r0
  obtain ⟨rfl, rfl, rfl⟩ := trodAll_nil r1
  obtain rfl : args = #[v0, v1] := by cases args; simp_all
  obtain ⟨rfl, rfl⟩ := trodVars_none hV
  clear hA0 hval0
  simp only [List.append_nil] at hW'
  have hz : (DataW.weightsEach Try.prog (64 :: 43 :: []) (d0 :: d1 :: [])).all (· ≤ reachBytes) = true := hsz0
  obtain ⟨cs0, rfl, hsz0⟩ := okWide_struct Try.underlying64 (hval 0 _ _ rfl rfl)
  obtain ⟨fuel0, hf0⟩ := h0
  obtain ⟨p0, A0, cd0, l0, Pk0, np0, cp0, pi0, hcs0, hwf0, hRL0, hlc0, hcm0, hl0, hX0, hP0, hnp0⟩ := open_plain hf0 (fun n hn => by
    have := List.all_eq_true.1 hz n (by simp only [DataW.weightsEach, List.mem_append]; exact Or.inl hn)
    simpa using this)
  have hcs' : cs0 = #[.int .i64 p0.K, .int .i64 p0.M, .int .i64 p0.B, .int .u8 p0.s0, .int .u8 p0.s1, .int .u8 p0.s2, .int .u8 p0.s3, .int .u8 p0.s4, .int .u8 p0.s5, .int .u8 p0.s6, .int .u8 p0.s7, .string p0.key, .int .i64 p0.ep, .int .i64 p0.ct, .slice A0 l0.length cd0, .slice Pk0 np0 cp0] := by
    obtain ⟨l⟩ := cs0
    simp only [Value.cells] at hcs0
    rw [hcs0]
  subst hcs'
  obtain ⟨aY1, lY1, cYY1, rfl⟩ := okWide_slice Try.underlying43 (hval 1 _ _ rfl rfl)
  obtain ⟨fuel1, hf1⟩ := h1
  obtain ⟨Y, nY, cY, g1, heY, hcY1, hcZ1, hR1, hn1, hg1⟩ := open_bvec (v := .slice aY1 lY1 cYY1) Try.underlying43 Try.underlying5 (by kernel_rfl) (by kernel_rfl) hf1 (fun n hn => by
    have := List.all_eq_true.1 hz n (by simp only [DataW.weightsEach, List.mem_append]; exact Or.inr (Or.inl hn))
    simpa using this)
  injection heY with e1 e2 e3
  subst e1 e2 e3
  have hB0 := lawMem10 p0 A0 cd0 l0 Pk0 np0 cp0 pi0 aY1 (mkL lY1 g1) cYY1 W hwf0 hRL0 hlc0 hl0 hX0 hP0 hnp0 (rl_of_rd hR1) (mkL_lt hg1) (by rw [mkL_length]; exact hn1) (by rw [mkL_length]; omega) (by unfold maxLen at *; omega) (by unfold maxLen at *; omega)
  rw [mkL_length] at hB0
  refine hB0.mono fun e W' ⟨he, hb⟩ => ?_
  subst he
  exact ⟨_, rfl, law_post laidOut (by intro t ht; rw [Try.params12] at ht; simp at ht; rcases ht with rfl | rfl <;> exact ⟨by kernel_rfl, of_decide_eq_true (by kernel_rfl)⟩) (by kernel_rfl) Try.underlying4 hW' rfl rfl hb⟩

theorem stripeMemory_holds : Rows.StripeMemorySaid :=
  OpenClaim.holds_of_wide 12 Try.f12 rfl rfl rfl rfl rfl rfl rfl ⟨rfl, rfl, rfl, rfl, rfl⟩ rfl rfl rfl rfl rfl (by kernel_rfl) Try.func12 (by kernel_rfl)
    (of_decide_eq_true (by kernel_rfl)) (by unfold Func.isWrapper; first | (rw [if_pos (by decide +kernel)]; kernel_rfl) | (rw [if_neg (by decide +kernel)]; exact ⟨rfl, rfl⟩))
    (fun os started H enc _ => stripeMemory_lifted os started H enc)
#print axioms stripeMemory_holds
end Go.Proofs.Ytjaaldandgfkgaa
