/- MatrixApart (UptoSaid) PROVED: for every input that can be read as data and is of bulk at most 1048576 the call answers true, and each argument reads behind it as it read before. Conditions: none. -/
import Derived.Test.YtpocjpodeahanaaRow
import Derived.JoinedCond
import Derived.Deep.CondSized
import Derived.Test.YtpocjpodeahanaaOpenM
import Derived.Test.YtpocjpodeahanaaLawMa
namespace Go.Proofs.Ytpocjpodeahanaa
open Go.ChangeShapes Go.WideShapes Go.ChangeAt Go.RowKit Go.Joins Go.Deep

set_option maxRecDepth 100000 in
theorem matrixApart_lifted (os : Os) (started : os.Started) (H : Type) (enc : TypeId × Value → H) (F : Stop.Interp) :
    ReturnsInHanded {} Try.checked os 13 .any ((Rows.OpenSpec.upto Rows.matrixApartSpec).pre6 enc Try.prog Try.f13 Rows.matrixApartUptoRow.domain false) (((Rows.OpenSpec.upto Rows.matrixApartSpec).at F).post enc Try.prog Try.f13 false true false false) := by
  refine returnsInHanded_of_cond_sized (C := Try.checked) (s := Rows.OpenSpec.upto Rows.matrixApartSpec) (k := Rows.uptoSmall) rfl ownKnobs started (by kernel_rfl) Try.func13
    (OpenSpec.witness (enc := enc) (C := Try.checked) (s := Rows.OpenSpec.upto Rows.matrixApartSpec) (k := Rows.uptoSmall) rfl false ⟨#[], #[.agg #[.int .i64 0, .slice none 0 0, .slice none 0 0, .slice none 0 0, .slice none 0 0, .int .i64 0, .int .i64 0]], []⟩ 8 (by kernel_rfl) (by kernel_rfl) (by kernel_rfl)
      (x := ([.agg [.lit (.int .i64 0), .nil, .nil, .nil, .nil, .lit (.int .i64 0), .lit (.int .i64 0)]], [], [])) (by kernel_rfl) rfl (by kernel_rfl)) ?_
  intro W base args ds gs before hval0 hW _ _ hsz0 _
  have hval : ∀ (j : Nat) t v, Try.f13.params[j]? = some t → args[j]? = some v → Value.okWide Try.prog W .any base t v := hval0
  have hW' := hW
  obtain ⟨p, q, hA0, hV, rfl, hfz, hnd⟩ := hW
  have hA : DataW.TrodAll enc Try.prog W 0 (fun _ => true) true Try.f13.params.toList args.toList ds p := hA0
  rw [Try.params13] at hA hval
  obtain ⟨v0, d0, rfl, rfl, h0⟩ := trodAll_one hA
  obtain ⟨rfl, rfl⟩ := trodVars_none hV
  clear hA0 hval0
  simp only [List.append_nil] at hW'
  obtain ⟨v0, v1, v2, v3, v4, v5, v6, y0, y1, y2, y3, y4, y5, y6, n, rfl, rfl, t0, t1, t2, t3, t4, t5, t6⟩ := open_agg7 Try.underlying25 (by kernel_rfl) (by kernel_rfl) (hval 0 _ _ rfl rfl) h0
  obtain ⟨F, e0, _, _⟩ := DataW.trod_int Try.underlying3 t0
  obtain ⟨N, e5, _, _⟩ := DataW.trod_int Try.underlying3 t5
  obtain ⟨One, e6, _, _⟩ := DataW.trod_int Try.underlying3 t6
  simp only [List.cons.injEq, and_true] at e0 e5 e6
  subst e0 e5 e6
  have one : ∀ (t e : Nat) (v : Value) (y : DataW H × List MemPlace), Try.prog.underlying t = some (.slice e) → DataW.trod enc Try.prog W 0 (fun _ => true) true n t [v] = some y → v.oneCell' = true := by
    intro t e v y ht h
    rcases open_slice ht h with ⟨h1, _⟩ | ⟨a, len, cap, m, n', D, Pl, h1, _⟩ <;> (simp only [List.cons.injEq, and_true] at h1; subst h1; rfl)
  have hz : (DataW.weightsEach Try.prog (25 :: []) (DataW.agg [y0.1, y1.1, y2.1, y3.1, y4.1, y5.1, y6.1] :: [])).all (· ≤ reachBytes) = true := hsz0
  obtain ⟨A, nA, cA, L, f, rfl, hRA, hn, hL⟩ := open_mat Try.underlying22 Try.underlying23 Try.underlying3 (by kernel_rfl) (by kernel_rfl) (by kernel_rfl) (by kernel_rfl) t1 (weights_part hz Try.underlying25 (j := 1) rfl rfl)
  obtain ⟨B, nB, cB, LB, g, rfl, hRB, hnb, hLb⟩ := open_mat Try.underlying22 Try.underlying23 Try.underlying3 (by kernel_rfl) (by kernel_rfl) (by kernel_rfl) (by kernel_rfl) t2 (weights_part hz Try.underlying25 (j := 2) rfl rfl)
  obtain ⟨At, m, cAt, tt, rfl, hRt, hm⟩ := open_vec Try.underlying23 Try.underlying3 (by kernel_rfl) (by kernel_rfl) t3 (weights_part hz Try.underlying25 (j := 3) rfl rfl)
  refine (lawMa F A B At nA cA nB cB m cAt L LB f g tt v4 (.int .i64 N) (.int .i64 One) (one _ _ _ _ Try.underlying23 t4) rfl rfl W hn hL hnb hLb hm hRA hRB hRt).mono fun e W' ⟨he, hb⟩ => ?_
  subst he
  exact ⟨_, rfl, law_post laidOut (by intro t ht; rw [Try.params13] at ht; simp at ht; subst ht; exact ⟨by kernel_rfl, of_decide_eq_true (by kernel_rfl)⟩) (by kernel_rfl) Try.underlying4 hW' rfl rfl hb⟩


theorem matrixApartUpto_holds : Rows.MatrixApartUptoSaid :=
  OpenClaim.holds_of_cond 13 Try.f13 rfl rfl rfl rfl rfl rfl rfl ⟨rfl, rfl, rfl, rfl, rfl⟩ rfl rfl rfl rfl rfl (by kernel_rfl) Try.func13 (by kernel_rfl)
    (of_decide_eq_true (by kernel_rfl)) (by unfold Func.isWrapper; first | (rw [if_pos (by decide +kernel)]; kernel_rfl) | (rw [if_neg (by decide +kernel)]; exact ⟨rfl, rfl⟩))
    (fun os started H enc _ F => matrixApart_lifted os started H enc F)
#print axioms matrixApartUpto_holds
end Go.Proofs.Ytpocjpodeahanaa
