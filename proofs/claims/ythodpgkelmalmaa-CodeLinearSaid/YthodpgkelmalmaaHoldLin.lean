/- CodeLinear PROVED: for every input that can be read as data the call answers true, and each argument reads behind it as it read before. Conditions: none. -/
import Derived.Test.YthodpgkelmalmaaRow
import Derived.Test.YthodpgkelmalmaaOpenB
import Derived.Test.YthodpgkelmalmaaLawLin
namespace Go.Proofs.Ythodpgkelmalmaa
open Go.ChangeShapes Go.WideShapes Go.ChangeAt Go.RowKit Go.Joins Go.Deep

set_option maxRecDepth 100000 in
theorem codeLinear_lifted (os : Os) (started : os.Started) (H : Type) (enc : TypeId × Value → H) :
    ReturnsInHanded {} Try.checked os 8 .any (Rows.codeLinearSpec.pre6 enc Try.prog Try.f8 Rows.codeLinearRow.domain false) (Rows.codeLinearSpec.post enc Try.prog Try.f8 false true false false) := by
  refine returnsInHanded_of_change_sized (C := Try.checked) ownKnobs started (by kernel_rfl) Try.func8
    (ChangeSpec.witness6 (enc := enc) (C := Try.checked) false ⟨#[], #[.agg #[.int .i64 0, .int .i64 0, .slice none 0 0, .slice none 0 0], .slice none 0 0, .int .u8 0], []⟩ 8 (by kernel_rfl) (by kernel_rfl) (by kernel_rfl) (by kernel_rfl)) ?_
  intro W base args ds gs before hval0 hW _ hsz0 _
  have hval : ∀ (j : Nat) t v, Try.f8.params[j]? = some t → args[j]? = some v → Value.okWide Try.prog W .any base t v := hval0
  have hW' := hW
  obtain ⟨p, q, hA0, hV, rfl, hfz, hnd⟩ := hW
  have hA : DataW.TrodAll enc Try.prog W 0 (fun _ => true) true Try.f8.params.toList args.toList ds p := hA0
  rw [Try.params8] at hA hval
  obtain ⟨v0, vs0, d0, ds0, p0, q0, hargs, rfl, rfl, h0, r0⟩ := trodAll_cons hA
  obtain ⟨v1, vs1, d1, ds1, p1, q1, rfl, rfl, rfl, h1, r1⟩ := trodAll_cons r0
  obtain ⟨v2, vs2, d2, ds2, p2, q2, rfl, rfl, rfl, h2, r2⟩ := trodAll_cons r1
  obtain ⟨rfl, rfl, rfl⟩ := trodAll_nil r2
  obtain rfl : args = #[v0, v1, v2] := by cases args; simp_all
  obtain ⟨rfl, rfl⟩ := trodVars_none hV
  clear hA0 hval0
  simp only [List.append_nil] at hW'
  obtain ⟨c0, c1, c2, c3, y0, y1, y2, y3, m, rfl, rfl, t0, t1, t2, t3⟩ := open_agg4 Try.underlying42 (by kernel_rfl) (by kernel_rfl) (hval 0 _ _ rfl rfl) h0
  obtain ⟨K, e0, _, _⟩ := DataW.trod_int Try.underlying3 t0
  obtain ⟨M, e1, _, _⟩ := DataW.trod_int Try.underlying3 t1
  simp only [List.cons.injEq, and_true] at e0 e1
  subst e0 e1
  have one : ∀ (t e : Nat) (v : Value) (y : DataW H × List MemPlace), Try.prog.underlying t = some (.slice e) → DataW.trod enc Try.prog W 0 (fun _ => true) true m t [v] = some y → v.oneCell' = true := by
    intro t e v y ht h
    rcases open_slice ht h with ⟨h1, _⟩ | ⟨a, len, cap, m, n', D, Pl, h1, _⟩ <;> (simp only [List.cons.injEq, and_true] at h1; subst h1; rfl)
  have hz : (DataW.weightsEach Try.prog (42 :: 24 :: 5 :: []) (DataW.agg [y0.1, y1.1, y2.1, y3.1] :: d1 :: d2 :: [])).all (· ≤ reachBytes) = true := hsz0
  obtain ⟨A, nA, cA, f, rfl, hcA, hcA2, hRA, hn, hf⟩ := open_bvec Try.underlying24 Try.underlying5 (by kernel_rfl) (by kernel_rfl) t2 (weights_part hz Try.underlying42 (j := 2) rfl rfl)
  obtain ⟨aY, lY, cYY, rfl⟩ := okWide_slice Try.underlying24 (hval 1 _ _ rfl rfl)
  obtain ⟨fuel1, hf1⟩ := h1
  obtain ⟨Y, nY, cY, g, heY, hcY, hcY2, hRY, hnY, hg⟩ := open_bvec (v := .slice aY lY cYY) Try.underlying24 Try.underlying5 (by kernel_rfl) (by kernel_rfl) hf1 (weights_second hz)
  injection heY with q1 q2 q3
  subst q1 q2 q3
  obtain ⟨P, nP, cP, pi, rfl, hRP, _⟩ := open_vec Try.underlying40 Try.underlying3 (by kernel_rfl) (by kernel_rfl) t3 (weights_part hz Try.underlying42 (j := 3) rfl rfl)
  obtain ⟨x2, rfl, rfl, rfl, wx2⟩ := open_int Try.underlying5 (hval 2 _ _ rfl rfl) h2
  obtain ⟨hx0, hx1⟩ := byte_wf wx2
  obtain ⟨s, rfl⟩ := Int.eq_ofNat_of_zero_le hx0
  refine (lawLin K M A nA cA f P nP cP pi aY lY cYY g s W hRA hn hcA hf hRP hRY hnY hcY hg (by omega)).mono fun e W' ⟨he, hb⟩ => ?_
  subst he
  exact ⟨_, rfl, law_post laidOut (by intro t ht; rw [Try.params8] at ht; simp at ht; rcases ht with rfl | rfl | rfl <;> exact ⟨by kernel_rfl, of_decide_eq_true (by kernel_rfl)⟩) (by kernel_rfl) Try.underlying4 hW' rfl rfl hb⟩

theorem codeLinear_holds : Rows.CodeLinearSaid :=
  OpenClaim.holds_of_wide 8 Try.f8 rfl rfl rfl rfl rfl rfl rfl ⟨rfl, rfl, rfl, rfl, rfl⟩ rfl rfl rfl rfl rfl (by kernel_rfl) Try.func8 (by kernel_rfl)
    (of_decide_eq_true (by kernel_rfl)) (by unfold Func.isWrapper; first | (rw [if_pos (by decide +kernel)]; kernel_rfl) | (rw [if_neg (by decide +kernel)]; exact ⟨rfl, rfl⟩))
    (fun os started H enc _ => codeLinear_lifted os started H enc)
#print axioms codeLinear_holds
end Go.Proofs.Ythodpgkelmalmaa
