/- CodeOpen PROVED: for every input that can be read as data the call answers true, and each argument reads behind it as it read before. Conditions: none. -/
import Derived.Test.YthodpgkelmalmaaRow
import Derived.Test.YthodpgkelmalmaaOpenB
import Derived.Test.YthodpgkelmalmaaLawOpn
namespace Go.Proofs.Ythodpgkelmalmaa
open Go.ChangeShapes Go.WideShapes Go.ChangeAt Go.RowKit Go.Joins Go.Deep

set_option maxRecDepth 100000 in
theorem codeOpen_lifted (os : Os) (started : os.Started) (H : Type) (enc : TypeId × Value → H) :
    ReturnsInHanded {} Try.checked os 11 .any (Rows.codeOpenSpec.pre6 enc Try.prog Try.f11 Rows.codeOpenRow.domain false) (Rows.codeOpenSpec.post enc Try.prog Try.f11 false true false false) := by
  refine returnsInHanded_of_change_sized (C := Try.checked) ownKnobs started (by kernel_rfl) Try.func11
    (ChangeSpec.witness6 (enc := enc) (C := Try.checked) false ⟨#[], #[.agg #[.int .i64 0, .int .i64 0, .slice none 0 0, .slice none 0 0], .slice none 0 0], []⟩ 8 (by kernel_rfl) (by kernel_rfl) (by kernel_rfl) (by kernel_rfl)) ?_
  intro W base args ds gs before hval0 hW _ hsz0 _
  have hval : ∀ (j : Nat) t v, Try.f11.params[j]? = some t → args[j]? = some v → Value.okWide Try.prog W .any base t v := hval0
  have hW' := hW
  obtain ⟨p, q, hA0, hV, rfl, hfz, hnd⟩ := hW
  have hA : DataW.TrodAll enc Try.prog W 0 (fun _ => true) true Try.f11.params.toList args.toList ds p := hA0
  rw [Try.params11] at hA hval
  obtain ⟨v0, vs0, d0, ds0, p0, q0, hargs, rfl, rfl, h0, r0⟩ := trodAll_cons hA
  obtain ⟨v1, vs1, d1, ds1, p1, q1, rfl, rfl, rfl, h1, r1⟩ := trodAll_cons r0
  obtain ⟨rfl, rfl, rfl⟩ := trodAll_nil r1
  obtain rfl : args = #[v0, v1] := by cases args; simp_all
  obtain ⟨rfl, rfl⟩ := trodVars_none hV
  clear hA0 hval0
  simp only [List.append_nil] at hW'
  obtain ⟨c0, c1, c2, c3, y0, y1, y2, y3, m, rfl, rfl, t0, t1, t2, t3⟩ := open_agg4 Try.underlying42 (by kernel_rfl) (by kernel_rfl) (hval 0 _ _ rfl rfl) h0
  obtain ⟨K, e0, _, _⟩ := DataW.trod_int Try.underlying3 t0
  obtain ⟨M, e1, _, _⟩ := DataW.trod_int Try.underlying3 t1
  simp only [List.cons.injEq, and_true] at e0 e1
  subst e0 e1
  have hz : (DataW.weightsEach Try.prog (42 :: 24 :: []) (DataW.agg [y0.1, y1.1, y2.1, y3.1] :: d1 :: [])).all (· ≤ reachBytes) = true := hsz0
  obtain ⟨A, nA, cA, f, rfl, hcA, hcA2, hRA, hn, hf⟩ := open_bvec Try.underlying24 Try.underlying5 (by kernel_rfl) (by kernel_rfl) t2 (weights_part hz Try.underlying42 (j := 2) rfl rfl)
  obtain ⟨aY, lY, cYY, rfl⟩ := okWide_slice Try.underlying24 (hval 1 _ _ rfl rfl)
  obtain ⟨fuel1, hf1⟩ := h1
  obtain ⟨Y, nY, cY, g, heY, hcY, hcY2, hRY, hnY, hg⟩ := open_bvec (v := .slice aY lY cYY) Try.underlying24 Try.underlying5 (by kernel_rfl) (by kernel_rfl) hf1 (weights_second hz)
  injection heY with q1 q2 q3
  subst q1 q2 q3
  obtain ⟨P, nP, cP, pi, rfl, hRP, hnp⟩ := open_vec Try.underlying40 Try.underlying3 (by kernel_rfl) (by kernel_rfl) t3 (weights_part hz Try.underlying42 (j := 3) rfl rfl)
  refine (lawOpn K M A P nA cA nP cP f pi aY lY cYY g W hRA hn hcA hf hRP hnp hRY hnY hcY hg).mono fun e W' ⟨he, hb⟩ => ?_
  subst he
  exact ⟨_, rfl, law_post laidOut (by intro t ht; rw [Try.params11] at ht; simp at ht; rcases ht with rfl | rfl <;> exact ⟨by kernel_rfl, of_decide_eq_true (by kernel_rfl)⟩) (by kernel_rfl) Try.underlying4 hW' rfl rfl hb⟩

theorem codeOpen_holds : Rows.CodeOpenSaid :=
  OpenClaim.holds_of_wide 11 Try.f11 rfl rfl rfl rfl rfl rfl rfl ⟨rfl, rfl, rfl, rfl, rfl⟩ rfl rfl rfl rfl rfl (by kernel_rfl) Try.func11 (by kernel_rfl)
    (of_decide_eq_true (by kernel_rfl)) (by unfold Func.isWrapper; first | (rw [if_pos (by decide +kernel)]; kernel_rfl) | (rw [if_neg (by decide +kernel)]; exact ⟨rfl, rfl⟩))
    (fun os started H enc _ => codeOpen_lifted os started H enc)
#print axioms codeOpen_holds
end Go.Proofs.Ythodpgkelmalmaa
