/- FrameOwn PROVED: for every input that can be read as data the call answers true, and each argument reads behind it as it read before. Conditions: none. -/
import Derived.Test.YtbioanbokbhmgaaOpenSd
import Derived.Test.YtbioanbokbhmgaaLawFo
namespace Go.Proofs.Ytbioanbokbhmgaa
open Go.ChangeShapes Go.WideShapes Go.ChangeAt Go.RowKit Go.Joins Go.Deep

set_option maxRecDepth 100000 in
theorem frameOwn_lifted (os : Os) (started : os.Started) (H : Type) (enc : TypeId × Value → H) :
    ReturnsInHanded {} Try.checked os 13 .any (Rows.frameOwnSpec.pre6 enc Try.prog Try.f13 Rows.frameOwnRow.domain false) (Rows.frameOwnSpec.post enc Try.prog Try.f13 false true false false) := by
  refine returnsInHanded_of_change_sized (C := Try.checked) ownKnobs started (by kernel_rfl) Try.func13
    (ChangeSpec.witness6 (enc := enc) (C := Try.checked) false ⟨#[], #[.slice none 0 0, .slice none 0 0], []⟩ 8 (by kernel_rfl) (by kernel_rfl) (by kernel_rfl) (by kernel_rfl)) ?_
  intro W base args ds gs before hval0 hW _ hsz0 _
  have hval : ∀ (j : Nat) t v, Try.f13.params[j]? = some t → args[j]? = some v → Value.okWide Try.prog W .any base t v := hval0
  have hW' := hW
  obtain ⟨p, q, hA0, hV, rfl, hfz, hnd⟩ := hW
  have hA : DataW.TrodAll enc Try.prog W 0 (fun _ => true) true Try.f13.params.toList args.toList ds p := hA0
  rw [Try.params13] at hA hval
  obtain ⟨v0, vs0, d0, ds0, p0, q0, hargs, rfl, rfl, h0, r0⟩ := trodAll_cons hA
  obtain ⟨v1, vs1, d1, ds1, p1, q1, rfl, rfl, rfl, h1, r1⟩ := trodAll_cons r0
  obtain ⟨rfl, rfl, rfl⟩ := trodAll_nil r1
  obtain rfl : args = #[v0, v1] := by cases args; simp_all
  obtain ⟨rfl, rfl⟩ := trodVars_none hV
  clear hA0 hval0
  simp only [List.append_nil] at hW'
  have hz : (DataW.weightsEach Try.prog (47 :: 47 :: []) (d0 :: d1 :: [])).all (· ≤ reachBytes) = true := hsz0
  obtain ⟨aY0, lY0, cYY0, rfl⟩ := okWide_slice Try.underlying47 (hval 0 _ _ rfl rfl)
  obtain ⟨fuel0, hf0⟩ := h0
  obtain ⟨Y0, nY0, cY0, g0, heY0, hcY0, hcZ0, hR0, hn0, hg0⟩ := open_bvec (v := .slice aY0 lY0 cYY0) Try.underlying47 Try.underlying5 (by kernel_rfl) (by kernel_rfl) hf0 (fun n hn => by
    have := List.all_eq_true.1 hz n (by simp only [DataW.weightsEach, List.mem_append]; exact Or.inl hn)
    simpa using this)
  injection heY0 with e1 e2 e3
  subst e1 e2 e3
  obtain ⟨aY1, lY1, cYY1, rfl⟩ := okWide_slice Try.underlying47 (hval 1 _ _ rfl rfl)
  obtain ⟨fuel1, hf1⟩ := h1
  obtain ⟨Y1, nY1, cY1, g1, heY1, hcY1, hcZ1, hR1, hn1, hg1⟩ := open_bvec (v := .slice aY1 lY1 cYY1) Try.underlying47 Try.underlying5 (by kernel_rfl) (by kernel_rfl) hf1 (fun n hn => by
    have := List.all_eq_true.1 hz n (by simp only [DataW.weightsEach, List.mem_append]; exact Or.inr (Or.inl hn))
    simpa using this)
  injection heY1 with e1 e2 e3
  subst e1 e2 e3
  have hW0 : Calls Try.prog 13 #[.slice aY0 lY0 cYY0, .slice aY1 lY1 cYY1] W fun e w' => e = .returned (.bool true) ∧ Below W.heap.size W w' := by
    have h := lawFo aY0 cYY0 (mkL lY0 g0) aY1 cYY1 (mkL lY1 g1) W (mkL_lt hg0) (by rw [mkL_length]; exact hn0) (by rw [mkL_length]; exact hcY0) hcZ0 (rl_of_rd hR0) (mkL_lt hg1) (by rw [mkL_length]; exact hn1) (by rw [mkL_length]; exact hcY1) hcZ1 (rl_of_rd hR1) 
    rw [mkL_length, mkL_length] at h
    exact h
  refine hW0.mono fun e W' ⟨he, hb⟩ => ?_
  subst he
  exact ⟨_, rfl, law_post laidOut (by intro t ht; rw [Try.params13] at ht; simp at ht; subst ht; exact ⟨by kernel_rfl, of_decide_eq_true (by kernel_rfl)⟩) (by kernel_rfl) Try.underlying4 hW' rfl rfl hb⟩

theorem frameOwn_holds : Rows.FrameOwnSaid :=
  OpenClaim.holds_of_wide 13 Try.f13 rfl rfl rfl rfl rfl rfl rfl ⟨rfl, rfl, rfl, rfl, rfl⟩ rfl rfl rfl rfl rfl (by kernel_rfl) Try.func13 (by kernel_rfl)
    (of_decide_eq_true (by kernel_rfl)) (by unfold Func.isWrapper; first | (rw [if_pos (by decide +kernel)]; kernel_rfl) | (rw [if_neg (by decide +kernel)]; exact ⟨rfl, rfl⟩))
    (fun os started H enc _ => frameOwn_lifted os started H enc)
#print axioms frameOwn_holds
end Go.Proofs.Ytbioanbokbhmgaa
