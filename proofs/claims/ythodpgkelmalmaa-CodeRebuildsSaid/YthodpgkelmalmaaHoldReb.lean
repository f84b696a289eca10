/- CodeRebuilds PROVED: for every input that can be read as data the call answers true, and each argument reads behind it as it read before. Conditions: none. -/
import Derived.Test.YthodpgkelmalmaaRow
import Derived.Test.YthodpgkelmalmaaOpenB
import Derived.Test.YthodpgkelmalmaaLawReb
namespace Go.Proofs.Ythodpgkelmalmaa
open Go.ChangeShapes Go.WideShapes Go.ChangeAt Go.RowKit Go.Joins Go.Deep

set_option maxRecDepth 100000 in
theorem codeRebuilds_lifted (os : Os) (started : os.Started) (H : Type) (enc : TypeId × Value → H) :
    ReturnsInHanded {} Try.checked os 9 .any (Rows.codeRebuildsSpec.pre6 enc Try.prog Try.f9 Rows.codeRebuildsRow.domain false) (Rows.codeRebuildsSpec.post enc Try.prog Try.f9 false true false false) := by
  refine returnsInHanded_of_change_sized (C := Try.checked) ownKnobs started (by kernel_rfl) Try.func9
    (ChangeSpec.witness6 (enc := enc) (C := Try.checked) false ⟨#[], #[.agg #[.int .i64 0, .int .i64 0, .slice none 0 0, .int .i64 0, .slice none 0 0]], []⟩ 8 (by kernel_rfl) (by kernel_rfl) (by kernel_rfl) (by kernel_rfl)) ?_
  intro W base args ds gs before hval0 hW _ hsz0 _
  have hval : ∀ (j : Nat) t v, Try.f9.params[j]? = some t → args[j]? = some v → Value.okWide Try.prog W .any base t v := hval0
  have hW' := hW
  obtain ⟨p, q, hA0, hV, rfl, hfz, hnd⟩ := hW
  have hA : DataW.TrodAll enc Try.prog W 0 (fun _ => true) true Try.f9.params.toList args.toList ds p := hA0
  rw [Try.params9] at hA hval
  obtain ⟨v0, d0, rfl, rfl, h0⟩ := trodAll_one hA
  obtain ⟨rfl, rfl⟩ := trodVars_none hV
  clear hA0 hval0
  simp only [List.append_nil] at hW'
  obtain ⟨v0, v1, v2, v3, v4, y0, y1, y2, y3, y4, n, rfl, rfl, t0, t1, t2, t3, t4⟩ := open_agg5 Try.underlying26 (by kernel_rfl) (by kernel_rfl) (hval 0 _ _ rfl rfl) h0
  obtain ⟨K, e0, _, _⟩ := DataW.trod_int Try.underlying3 t0
  obtain ⟨M, e1, _, _⟩ := DataW.trod_int Try.underlying3 t1
  obtain ⟨At, e3, _, _⟩ := DataW.trod_int Try.underlying3 t3
  simp only [List.cons.injEq, and_true] at e0 e1 e3
  subst e0 e1 e3
  have one : ∀ (t e : Nat) (v : Value) (y : DataW H × List MemPlace), Try.prog.underlying t = some (.slice e) → DataW.trod enc Try.prog W 0 (fun _ => true) true n t [v] = some y → v.oneCell' = true := by
    intro t e v y ht h
    rcases open_slice ht h with ⟨h1, _⟩ | ⟨a, len, cap, m, n', D, Pl, h1, _⟩ <;> (simp only [List.cons.injEq, and_true] at h1; subst h1; rfl)
  have hz : (DataW.weightsEach Try.prog (26 :: []) (DataW.agg [y0.1, y1.1, y2.1, y3.1, y4.1] :: [])).all (· ≤ reachBytes) = true := hsz0
  obtain ⟨A, nA, cA, L, g, rfl, hRA, hn, hL, hg⟩ := open_bmat Try.underlying23 Try.underlying24 Try.underlying5 (by kernel_rfl) (by kernel_rfl) (by kernel_rfl) (by kernel_rfl) t2 (weights_part hz Try.underlying26 (j := 2) rfl rfl)
  refine (lawReb K M A nA cA L g (.int .i64 At) v4 rfl (one _ _ _ _ Try.underlying24 t4) W hn hL hg hRA).mono fun e W' ⟨he, hb⟩ => ?_
  subst he
  exact ⟨_, rfl, law_post laidOut (by intro t ht; rw [Try.params9] at ht; simp at ht; subst ht; exact ⟨by kernel_rfl, of_decide_eq_true (by kernel_rfl)⟩) (by kernel_rfl) Try.underlying4 hW' rfl rfl hb⟩


theorem codeRebuilds_holds : Rows.CodeRebuildsSaid :=
  OpenClaim.holds_of_wide 9 Try.f9 rfl rfl rfl rfl rfl rfl rfl ⟨rfl, rfl, rfl, rfl, rfl⟩ rfl rfl rfl rfl rfl (by kernel_rfl) Try.func9 (by kernel_rfl)
    (of_decide_eq_true (by kernel_rfl)) (by unfold Func.isWrapper; first | (rw [if_pos (by decide +kernel)]; kernel_rfl) | (rw [if_neg (by decide +kernel)]; exact ⟨rfl, rfl⟩))
    (fun os started H enc _ => codeRebuilds_lifted os started H enc)
#print axioms codeRebuilds_holds
end Go.Proofs.Ythodpgkelmalmaa
