/- FrameWrites PROVED: for every input that can be read as data the call answers true, and each argument reads behind it as it read before. Conditions: none. -/
import Derived.Test.YtbioanbokbhmgaaOpenSd
import Derived.Test.YtbioanbokbhmgaaLawFW
namespace Go.Proofs.Ytbioanbokbhmgaa
open Go.ChangeShapes Go.WideShapes Go.ChangeAt Go.RowKit Go.Joins Go.Deep

set_option maxRecDepth 100000 in
theorem frameWrites_lifted (os : Os) (started : os.Started) (H : Type) (enc : TypeId × Value → H) :
    ReturnsInHanded {} Try.checked os 4 .any (Rows.frameWritesSpec.pre6 enc Try.prog Try.f4 Rows.frameWritesRow.domain false) (Rows.frameWritesSpec.post enc Try.prog Try.f4 false true false false) := by
  refine returnsInHanded_of_change_sized (C := Try.checked) ownKnobs started (by kernel_rfl) Try.func4
    (ChangeSpec.witness6 (enc := enc) (C := Try.checked) false ⟨#[], #[.agg #[.int .u8 0, .int .u8 0, .int .u8 0, .int .u8 0, .int .u8 0, .int .u8 0, .int .u8 0, .int .u8 0, .int .i64 0, .int .i64 0, .int .i64 0, .string ByteArray.empty, .int .i64 0, .int .i64 0, .int .i64 0, .int .i64 0, .slice none 0 0]], []⟩ 8 (by kernel_rfl) (by kernel_rfl) (by kernel_rfl) (by kernel_rfl)) ?_
  intro W base args ds gs before hval0 hW _ hsz0 _
  have hval : ∀ (j : Nat) t v, Try.f4.params[j]? = some t → args[j]? = some v → Value.okWide Try.prog W .any base t v := hval0
  have hW' := hW
  obtain ⟨p, q, hA0, hV, rfl, hfz, hnd⟩ := hW
  have hA : DataW.TrodAll enc Try.prog W 0 (fun _ => true) true Try.f4.params.toList args.toList ds p := hA0
  rw [Try.params4] at hA hval
  obtain ⟨v0, d0, rfl, rfl, h0⟩ := trodAll_one hA
  obtain ⟨rfl, rfl⟩ := trodVars_none hV
  clear hA0 hval0
  simp only [List.append_nil] at hW'
  obtain ⟨cs, rfl, hsz⟩ := okWide_struct Try.underlying46 (hval 0 _ _ rfl rfl)
  obtain ⟨fuel, hf⟩ := h0
  have hz : (DataW.weightsEach Try.prog (46 :: []) (d0 :: [])).all (· ≤ reachBytes) = true := hsz0
  obtain ⟨hd, A, c, BL, hcs, hwf, hR, hn, hln, hlx⟩ := open_shard hf (fun n hn => by
    have := List.all_eq_true.1 hz n (by simp only [DataW.weightsEach, List.mem_append]; exact Or.inl hn)
    simpa using this)
  have hcs' : cs = #[.int .u8 hd.s0, .int .u8 hd.s1, .int .u8 hd.s2, .int .u8 hd.s3, .int .u8 hd.s4, .int .u8 hd.s5, .int .u8 hd.s6, .int .u8 hd.s7, .int .i64 hd.K, .int .i64 hd.M, .int .i64 hd.B, .string hd.key, .int .i64 hd.size, .int .i64 hd.idx, .int .i64 hd.ep, .int .i64 hd.ct, .slice A BL.length c] := by
    obtain ⟨l⟩ := cs
    simp only [Value.cells] at hcs
    rw [hcs]
  subst hcs'
  refine (lawFW hd A c BL W hwf.bytes hlx hn hln hR).mono fun e W' ⟨he, hb⟩ => ?_
  subst he
  exact ⟨_, rfl, law_post laidOut (by intro t ht; rw [Try.params4] at ht; simp at ht; subst ht; exact ⟨by kernel_rfl, of_decide_eq_true (by kernel_rfl)⟩) (by kernel_rfl) Try.underlying4 hW' rfl rfl hb⟩

theorem frameWrites_holds : Rows.FrameWritesSaid :=
  OpenClaim.holds_of_wide 4 Try.f4 rfl rfl rfl rfl rfl rfl rfl ⟨rfl, rfl, rfl, rfl, rfl⟩ rfl rfl rfl rfl rfl (by kernel_rfl) Try.func4 (by kernel_rfl)
    (of_decide_eq_true (by kernel_rfl)) (by unfold Func.isWrapper; first | (rw [if_pos (by decide +kernel)]; kernel_rfl) | (rw [if_neg (by decide +kernel)]; exact ⟨rfl, rfl⟩))
    (fun os started H enc _ => frameWrites_lifted os started H enc)
#print axioms frameWrites_holds
end Go.Proofs.Ytbioanbokbhmgaa
