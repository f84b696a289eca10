/- MatrixGroups PROVED: for every input that can be read as data the call answers true, and each argument reads behind it as it read before. Conditions: none. -/
import Derived.Test.YtpocjpodeahanaaRow
import Derived.Test.YtpocjpodeahanaaOpenM
import Derived.Test.YtpocjpodeahanaaLawGrp
namespace Go.Proofs.Ytpocjpodeahanaa
open Go.ChangeShapes Go.WideShapes Go.ChangeAt Go.RowKit Go.Joins Go.Deep

set_option maxRecDepth 100000 in
theorem matrixGroups_lifted (os : Os) (started : os.Started) (H : Type) (enc : TypeId × Value → H) :
    ReturnsInHanded {} Try.checked os 11 .any (Rows.matrixGroupsSpec.pre6 enc Try.prog Try.f11 Rows.matrixGroupsRow.domain false) (Rows.matrixGroupsSpec.post enc Try.prog Try.f11 false true false false) := by
  refine returnsInHanded_of_change_sized (C := Try.checked) ownKnobs started (by kernel_rfl) Try.func11
    (ChangeSpec.witness6 (enc := enc) (C := Try.checked) false ⟨#[], #[.agg #[.int .i64 0, .slice none 0 0, .slice none 0 0, .slice none 0 0]], []⟩ 8 (by kernel_rfl) (by kernel_rfl) (by kernel_rfl) (by kernel_rfl)) ?_
  intro W base args ds gs before hval0 hW _ hsz0 _
  have hval : ∀ (j : Nat) t v, Try.f11.params[j]? = some t → args[j]? = some v → Value.okWide Try.prog W .any base t v := hval0
  have hW' := hW
  obtain ⟨p, q, hA0, hV, rfl, hfz, hnd⟩ := hW
  have hA : DataW.TrodAll enc Try.prog W 0 (fun _ => true) true Try.f11.params.toList args.toList ds p := hA0
  rw [Try.params11] at hA hval
  obtain ⟨v0, d0, rfl, rfl, h0⟩ := trodAll_one hA
  obtain ⟨rfl, rfl⟩ := trodVars_none hV
  clear hA0 hval0
  simp only [List.append_nil] at hW'
  obtain ⟨v0, v1, v2, v3, y0, y1, y2, y3, n, rfl, rfl, t0, t1, t2, t3⟩ := open_agg4 Try.underlying100 (by kernel_rfl) (by kernel_rfl) (hval 0 _ _ rfl rfl) h0
  obtain ⟨F, e0, _, _⟩ := DataW.trod_int Try.underlying3 t0
  simp only [List.cons.injEq, and_true] at e0
  subst e0
  have hz : (DataW.weightsEach Try.prog (100 :: []) (DataW.agg [y0.1, y1.1, y2.1, y3.1] :: [])).all (· ≤ reachBytes) = true := hsz0
  obtain ⟨A, nA, cA, La, f, rfl, hRA, hn, hLa⟩ := open_mat Try.underlying22 Try.underlying23 Try.underlying3 (by kernel_rfl) (by kernel_rfl) (by kernel_rfl) (by kernel_rfl) t1 (weights_part hz Try.underlying100 (j := 1) rfl rfl)
  obtain ⟨B, nB, cB, Lb, g, rfl, hRB, hm, hLb⟩ := open_mat Try.underlying22 Try.underlying23 Try.underlying3 (by kernel_rfl) (by kernel_rfl) (by kernel_rfl) (by kernel_rfl) t2 (weights_part hz Try.underlying100 (j := 2) rfl rfl)
  obtain ⟨C, nC, cC, Lc, h, rfl, hRC, hp, hLc⟩ := open_mat Try.underlying22 Try.underlying23 Try.underlying3 (by kernel_rfl) (by kernel_rfl) (by kernel_rfl) (by kernel_rfl) t3 (weights_part hz Try.underlying100 (j := 3) rfl rfl)
  refine (lawGrp F A B C nA cA nB cB nC cC La Lb Lc f g h W hn hLa hm hLb hp hLc hRA hRB hRC).mono fun e W' ⟨he, hb⟩ => ?_
  subst he
  exact ⟨_, rfl, law_post laidOut (by intro t ht; rw [Try.params11] at ht; simp at ht; subst ht; exact ⟨by kernel_rfl, of_decide_eq_true (by kernel_rfl)⟩) (by kernel_rfl) Try.underlying4 hW' rfl rfl hb⟩


theorem matrixGroups_holds : Rows.MatrixGroupsSaid :=
  OpenClaim.holds_of_wide 11 Try.f11 rfl rfl rfl rfl rfl rfl rfl ⟨rfl, rfl, rfl, rfl, rfl⟩ rfl rfl rfl rfl rfl (by kernel_rfl) Try.func11 (by kernel_rfl)
    (of_decide_eq_true (by kernel_rfl)) (by unfold Func.isWrapper; first | (rw [if_pos (by decide +kernel)]; kernel_rfl) | (rw [if_neg (by decide +kernel)]; exact ⟨rfl, rfl⟩))
    (fun os started H enc _ => matrixGroups_lifted os started H enc)
#print axioms matrixGroups_holds
end Go.Proofs.Ytpocjpodeahanaa
