/- FrameForm PROVED: for every input that can be read as data the call answers true, and each argument reads behind it as it read before. Conditions: none. -/
import Derived.Test.YtbioanbokbhmgaaOpenSd
import Derived.Test.YtbioanbokbhmgaaLawFF
namespace Go.Proofs.Ytbioanbokbhmgaa
open Go.ChangeShapes Go.WideShapes Go.ChangeAt Go.RowKit Go.Joins Go.Deep

set_option maxRecDepth 100000 in
theorem frameForm_lifted (os : Os) (started : os.Started) (H : Type) (enc : TypeId × Value → H) :
    ReturnsInHanded {} Try.checked os 12 .any (Rows.frameFormSpec.pre6 enc Try.prog Try.f12 Rows.frameFormRow.domain false) (Rows.frameFormSpec.post enc Try.prog Try.f12 false true false false) := by
  refine returnsInHanded_of_change_sized (C := Try.checked) ownKnobs started (by kernel_rfl) Try.func12
    (ChangeSpec.witness6 (enc := enc) (C := Try.checked) false ⟨#[], #[.slice none 0 0], []⟩ 8 (by kernel_rfl) (by kernel_rfl) (by kernel_rfl) (by kernel_rfl)) ?_
  intro W base args ds gs before hval0 hW _ hsz0 _
  have hval : ∀ (j : Nat) t v, Try.f12.params[j]? = some t → args[j]? = some v → Value.okWide Try.prog W .any base t v := hval0
  have hW' := hW
  obtain ⟨p, q, hA0, hV, rfl, hfz, hnd⟩ := hW
  have hA : DataW.TrodAll enc Try.prog W 0 (fun _ => true) true Try.f12.params.toList args.toList ds p := hA0
  rw [Try.params12] at hA hval
  obtain ⟨v0, d0, rfl, rfl, h0⟩ := trodAll_one hA
  obtain ⟨rfl, rfl⟩ := trodVars_none hV
  clear hA0 hval0
  simp only [List.append_nil] at hW'
  obtain ⟨aY, lY, cYY, rfl⟩ := okWide_slice Try.underlying47 (hval 0 _ _ rfl rfl)
  obtain ⟨fuel, hf⟩ := h0
  have hz : (DataW.weightsEach Try.prog (47 :: []) (d0 :: [])).all (· ≤ reachBytes) = true := hsz0
  obtain ⟨Y, n, c, g, heY, hcY, hcY2, hR, hn, hg⟩ := open_bvec (v := .slice aY lY cYY) Try.underlying47 Try.underlying5 (by kernel_rfl) (by kernel_rfl) hf (fun n hn => by
    have := List.all_eq_true.1 hz n (by simp only [DataW.weightsEach, List.mem_append]; exact Or.inl hn)
    simpa using this)
  injection heY with q1 q2 q3
  subst q1 q2 q3
  have hW0 := lawFF aY cYY (mkL lY g) W (mkL_lt hg) (by rw [mkL_length]; exact hn) (by rw [mkL_length]; exact hcY) hcY2 (rl_of_rd hR)
  rw [mkL_length] at hW0
  refine hW0.mono fun e W' ⟨he, hb⟩ => ?_
  subst he
  exact ⟨_, rfl, law_post laidOut (by intro t ht; rw [Try.params12] at ht; simp at ht; subst ht; exact ⟨by kernel_rfl, of_decide_eq_true (by kernel_rfl)⟩) (by kernel_rfl) Try.underlying4 hW' rfl rfl hb⟩

theorem frameForm_holds : Rows.FrameFormSaid :=
  OpenClaim.holds_of_wide 12 Try.f12 rfl rfl rfl rfl rfl rfl rfl ⟨rfl, rfl, rfl, rfl, rfl⟩ rfl rfl rfl rfl rfl (by kernel_rfl) Try.func12 (by kernel_rfl)
    (of_decide_eq_true (by kernel_rfl)) (by unfold Func.isWrapper; first | (rw [if_pos (by decide +kernel)]; kernel_rfl) | (rw [if_neg (by decide +kernel)]; exact ⟨rfl, rfl⟩))
    (fun os started H enc _ => frameForm_lifted os started H enc)
#print axioms frameForm_holds
end Go.Proofs.Ytbioanbokbhmgaa
