/- FrameBursts PROVED: for every input that can be read as data the call answers true, and each argument reads behind it as it read before. Conditions: none. -/
import Derived.Test.YtbioanbokbhmgaaOpenSd
import Derived.Test.YtbioanbokbhmgaaLawBu
namespace Go.Proofs.Ytbioanbokbhmgaa
open Go.ChangeShapes Go.WideShapes Go.ChangeAt Go.RowKit Go.Joins Go.Deep

set_option maxRecDepth 100000 in
theorem frameBursts_lifted (os : Os) (started : os.Started) (H : Type) (enc : TypeId × Value → H) :
    ReturnsInHanded {} Try.checked os 10 .any (Rows.frameBurstsSpec.pre6 enc Try.prog Try.f10 Rows.frameBurstsRow.domain false) (Rows.frameBurstsSpec.post enc Try.prog Try.f10 false true false false) := by
  refine returnsInHanded_of_change_sized (C := Try.checked) ownKnobs started (by kernel_rfl) Try.func10
    (ChangeSpec.witness6 (enc := enc) (C := Try.checked) false ⟨#[], #[.agg #[.int .u8 0, .int .u8 0, .int .u8 0, .int .u8 0, .int .u8 0, .int .u8 0, .int .u8 0, .int .u8 0, .int .i64 0, .int .i64 0, .int .i64 0, .string ByteArray.empty, .int .i64 0, .int .i64 0, .int .i64 0, .int .i64 0, .slice none 0 0], .int .i64 0, .int .u32 0], []⟩ 8 (by kernel_rfl) (by kernel_rfl) (by kernel_rfl) (by kernel_rfl)) ?_
  intro W base args ds gs before hval0 hW _ hsz0 _
  have hval : ∀ (j : Nat) t v, Try.f10.params[j]? = some t → args[j]? = some v → Value.okWide Try.prog W .any base t v := hval0
  have hW' := hW
  obtain ⟨p, q, hA0, hV, rfl, hfz, hnd⟩ := hW
  have hA : DataW.TrodAll enc Try.prog W 0 (fun _ => true) true Try.f10.params.toList args.toList ds p := hA0
  rw [Try.params10] at hA hval
  obtain ⟨v0, vs0, d0, ds0, p0, q0, hargs, rfl, rfl, h0, r0⟩ := trodAll_cons hA
  obtain ⟨v1, vs1, d1, ds1, p1, q1, rfl, rfl, rfl, h1, r1⟩ := trodAll_cons r0
  obtain ⟨v2, vs2, d2, ds2, p2, q2, rfl, rfl, rfl, h2, r2⟩ := trodAll_cons r1
  obtain ⟨rfl, rfl, rfl⟩ := trodAll_nil r2
  obtain rfl : args = #[v0, v1, v2] := by cases args; simp_all
  obtain ⟨rfl, rfl⟩ := trodVars_none hV
  clear hA0 hval0
  simp only [List.append_nil] at hW'
  have hz : (DataW.weightsEach Try.prog (46 :: 3 :: 78 :: []) (d0 :: d1 :: d2 :: [])).all (· ≤ reachBytes) = true := hsz0
  obtain ⟨cs0, rfl, hsz0⟩ := okWide_struct Try.underlying46 (hval 0 _ _ rfl rfl)
  obtain ⟨fuel0, hf0⟩ := h0
  obtain ⟨hd0, A0, c0, BL0, hcs0, hwf0, hR0, hn0, hln0, hlx0⟩ := open_shard hf0 (fun n hn => by
    have := List.all_eq_true.1 hz n (by simp only [DataW.weightsEach, List.mem_append]; exact Or.inl hn)
    simpa using this)
  have hcs' : cs0 = #[.int .u8 hd0.s0, .int .u8 hd0.s1, .int .u8 hd0.s2, .int .u8 hd0.s3, .int .u8 hd0.s4, .int .u8 hd0.s5, .int .u8 hd0.s6, .int .u8 hd0.s7, .int .i64 hd0.K, .int .i64 hd0.M, .int .i64 hd0.B, .string hd0.key, .int .i64 hd0.size, .int .i64 hd0.idx, .int .i64 hd0.ep, .int .i64 hd0.ct, .slice A0 BL0.length c0] := by
    obtain ⟨l⟩ := cs0
    simp only [Value.cells] at hcs0
    rw [hcs0]
  subst hcs'
  obtain ⟨x1, rfl, rfl, rfl, wx1⟩ := open_int Try.underlying3 (hval 1 _ _ rfl rfl) h1
  obtain ⟨x2, rfl, rfl, rfl, wx2⟩ := open_int Try.underlying78 (hval 2 _ _ rfl rfl) h2
  obtain ⟨pat, rfl⟩ := Int.eq_ofNat_of_zero_le (show 0 ≤ x2 by have := wx2; simp [Lit.wf, IntKind.min, IntKind.max, IntKind.signed, IntKind.bits] at this; omega)
  refine (lawBu hd0 A0 c0 BL0 x1 pat W hwf0 hwf0.bytes hlx0 (by omega) hln0 hR0 (by have := wx1; simp [Lit.wf, IntKind.min, IntKind.max, IntKind.signed, IntKind.bits] at this; omega) (by have := wx2; simp [Lit.wf, IntKind.min, IntKind.max, IntKind.signed, IntKind.bits] at this; omega)).mono fun e W' ⟨he, hb⟩ => ?_
  subst he
  exact ⟨_, rfl, law_post laidOut (by intro t ht; rw [Try.params10] at ht; simp at ht; rcases ht with rfl | rfl | rfl <;> exact ⟨by kernel_rfl, of_decide_eq_true (by kernel_rfl)⟩) (by kernel_rfl) Try.underlying4 hW' rfl rfl hb⟩

theorem frameBursts_holds : Rows.FrameBurstsSaid :=
  OpenClaim.holds_of_wide 10 Try.f10 rfl rfl rfl rfl rfl rfl rfl ⟨rfl, rfl, rfl, rfl, rfl⟩ rfl rfl rfl rfl rfl (by kernel_rfl) Try.func10 (by kernel_rfl)
    (of_decide_eq_true (by kernel_rfl)) (by unfold Func.isWrapper; first | (rw [if_pos (by decide +kernel)]; kernel_rfl) | (rw [if_neg (by decide +kernel)]; exact ⟨rfl, rfl⟩))
    (fun os started H enc _ => frameBursts_lifted os started H enc)
#print axioms frameBursts_holds
end Go.Proofs.Ytbioanbokbhmgaa
