/- FrameForeign PROVED: for every input that can be read as data the call answers true, and each argument reads behind it as it read before. Conditions: none. -/
import Derived.Test.YtbioanbokbhmgaaOpenSd
import Derived.Test.YtbioanbokbhmgaaLawFg
namespace Go.Proofs.Ytbioanbokbhmgaa
open Go.ChangeShapes Go.WideShapes Go.ChangeAt Go.RowKit Go.Joins Go.Deep

section
variable {H : Type} {enc : TypeId × Value → H} {w : World} {base : Nat} {held : Bool}
set_option maxRecDepth 100000 in
theorem open_foreign {fuel : Nat} {cs : List Value} {x : DataW H × List MemPlace} (h : DataW.trod enc Try.prog w base (fun _ => true) held fuel 75 cs = some x) (hw : ∀ n ∈ x.1.weights Try.prog 75, n ≤ reachBytes) :
    ∃ (h : Hd) (A : Option Addr) (c : Nat) (BL : List (List Nat)) (A' : Option Addr) (c' : Nat) (CL : List (List Nat)) (WH BY J : Int), cs = [.int .u8 h.s0, .int .u8 h.s1, .int .u8 h.s2, .int .u8 h.s3, .int .u8 h.s4, .int .u8 h.s5, .int .u8 h.s6, .int .u8 h.s7, .int .i64 h.K, .int .i64 h.M, .int .i64 h.B, .string h.key, .int .i64 h.size, .int .i64 h.idx, .int .i64 h.ep, .int .i64 h.ct, .slice A BL.length c, .slice A' CL.length c', .int .i64 WH, .int .i64 BY, .int .i64 J] ∧ h.Wf ∧ RLL w A BL ∧ BL.length * 24 ≤ 140737488351232 ∧ (∀ l ∈ BL, l.length ≤ 140737488351232) ∧ (∀ l ∈ BL, ∀ x ∈ l, x < 256) ∧ RLL w A' CL ∧ CL.length * 24 ≤ 140737488351232 ∧ (∀ l ∈ CL, l.length ≤ 140737488351232) ∧ (∀ l ∈ CL, ∀ x ∈ l, x < 256) ∧ (Lit.int .i64 BY).wf = true := by
  obtain ⟨xs, n, _, hx, hlen, hxl, hg⟩ := DataW.trod_struct Try.underlying75 h
  have hc : cs.length = 21 := hlen.trans (by kernel_rfl)
  have kS : Try.prog.cellsOf 46 = 17 := by kernel_rfl
  have kB : Try.prog.cellsOf 44 = 1 := by kernel_rfl
  have kI : Try.prog.cellsOf 3 = 1 := by kernel_rfl
  match cs, hc with
  | [c0, c1, c2, c3, c4, c5, c6, c7, c8, c9, c10, c11, c12, c13, c14, c15, c16, c17, c18, c19, c20], _ =>
    have g0 : DataW.trod enc Try.prog w base (fun _ => true) held n 46 (([c0, c1, c2, c3, c4, c5, c6, c7, c8, c9, c10, c11, c12, c13, c14, c15, c16, c17, c18, c19, c20].drop 0).take (Try.prog.cellsOf 46)) = xs[0]? := hg 0 _ rfl
    have g1 : DataW.trod enc Try.prog w base (fun _ => true) held n 44 (([c0, c1, c2, c3, c4, c5, c6, c7, c8, c9, c10, c11, c12, c13, c14, c15, c16, c17, c18, c19, c20].drop 17).take (Try.prog.cellsOf 44)) = xs[1]? := hg 1 _ rfl
    have g2 : DataW.trod enc Try.prog w base (fun _ => true) held n 3 (([c0, c1, c2, c3, c4, c5, c6, c7, c8, c9, c10, c11, c12, c13, c14, c15, c16, c17, c18, c19, c20].drop 18).take (Try.prog.cellsOf 3)) = xs[2]? := hg 2 _ rfl
    have g3 : DataW.trod enc Try.prog w base (fun _ => true) held n 3 (([c0, c1, c2, c3, c4, c5, c6, c7, c8, c9, c10, c11, c12, c13, c14, c15, c16, c17, c18, c19, c20].drop 19).take (Try.prog.cellsOf 3)) = xs[3]? := hg 3 _ rfl
    have g4 : DataW.trod enc Try.prog w base (fun _ => true) held n 3 (([c0, c1, c2, c3, c4, c5, c6, c7, c8, c9, c10, c11, c12, c13, c14, c15, c16, c17, c18, c19, c20].drop 20).take (Try.prog.cellsOf 3)) = xs[4]? := hg 4 _ rfl
    have hxl' : xs.length = 5 := hxl
    obtain ⟨y0, q0⟩ := some_of hxl' (i := 0) (by omega)
    obtain ⟨y1, q1⟩ := some_of hxl' (i := 1) (by omega)
    obtain ⟨y2, q2⟩ := some_of hxl' (i := 2) (by omega)
    obtain ⟨y3, q3⟩ := some_of hxl' (i := 3) (by omega)
    obtain ⟨y4, q4⟩ := some_of hxl' (i := 4) (by omega)
    rw [q0, kS] at g0
    rw [q1, kB] at g1
    rw [q2, kI] at g2
    rw [q3, kI] at g3
    rw [q4, kI] at g4
    simp only [List.drop_succ_cons, List.drop_zero, List.take_succ_cons, List.take_zero] at g0 g1 g2 g3 g4
    have hx1 : x.1 = .agg (xs.map (·.1)) := by rw [hx]
    have hwS : ∀ m ∈ y0.1.weights Try.prog 46, m ≤ reachBytes := fun m hm => hw m (by
      rw [hx1]
      simp only [DataW.weights, Try.underlying75]
      exact DataW.weights_mem_each (j := 0) (t := 46) (d := y0.1) rfl (by rw [List.getElem?_map, q0]; rfl) m hm)
    have hwB : ∀ m ∈ y1.1.weights Try.prog 44, m ≤ reachBytes := fun m hm => hw m (by
      rw [hx1]
      simp only [DataW.weights, Try.underlying75]
      exact DataW.weights_mem_each (j := 1) (t := 44) (d := y1.1) rfl (by rw [List.getElem?_map, q1]; rfl) m hm)
    obtain ⟨hd, A, c, BL, hcs, hwf, hR, hn, hln, hlx⟩ := open_shard g0 hwS
    obtain ⟨A', nb, cA, L, f, e17, hR', hn', hL, hf⟩ := open_bmat Try.underlying44 Try.underlying47 Try.underlying5 (by kernel_rfl) (by kernel_rfl) (by kernel_rfl) (by kernel_rfl) g1 hwB
    obtain ⟨WH, e18, _⟩ := one_int Try.underlying3 g2
    obtain ⟨BY, e19, wby⟩ := one_int Try.underlying3 g3
    obtain ⟨J, e20, _⟩ := one_int Try.underlying3 g4
    simp only [List.cons.injEq, and_true] at hcs
    obtain ⟨e0, e1, e2, e3, e4, e5, e6, e7, e8, e9, e10, e11, e12, e13, e14, e15, e16⟩ := hcs
    subst e0 e1 e2 e3 e4 e5 e6 e7 e8 e9 e10 e11 e12 e13 e14 e15 e16 e17 e18 e19 e20
    refine ⟨hd, A, c, BL, A', cA, mkLL nb L f, WH, BY, J, by rw [mkLL_length], hwf, hR, hn, hln, hlx, rll_of_rdm hR', by rw [mkLL_length]; exact hn', fun l hl => ?_, fun l hl => ?_, wby⟩
    · obtain ⟨i, hi, rfl⟩ := mkLL_mem hl
      rw [mkL_length]; exact hL i hi
    · obtain ⟨i, hi, rfl⟩ := mkLL_mem hl
      exact mkL_lt (hf i hi)
end

set_option maxRecDepth 100000 in
theorem frameForeign_lifted (os : Os) (started : os.Started) (H : Type) (enc : TypeId × Value → H) :
    ReturnsInHanded {} Try.checked os 7 .any (Rows.frameForeignSpec.pre6 enc Try.prog Try.f7 Rows.frameForeignRow.domain false) (Rows.frameForeignSpec.post enc Try.prog Try.f7 false true false false) := by
  refine returnsInHanded_of_change_sized (C := Try.checked) ownKnobs started (by kernel_rfl) Try.func7
    (ChangeSpec.witness6 (enc := enc) (C := Try.checked) false ⟨#[], #[.agg #[.int .u8 0, .int .u8 0, .int .u8 0, .int .u8 0, .int .u8 0, .int .u8 0, .int .u8 0, .int .u8 0, .int .i64 0, .int .i64 0, .int .i64 0, .string ByteArray.empty, .int .i64 0, .int .i64 0, .int .i64 0, .int .i64 0, .slice none 0 0, .slice none 0 0, .int .i64 0, .int .i64 0, .int .i64 0]], []⟩ 8 (by kernel_rfl) (by kernel_rfl) (by kernel_rfl) (by kernel_rfl)) ?_
  intro W base args ds gs before hval0 hW _ hsz0 _
  have hval : ∀ (j : Nat) t v, Try.f7.params[j]? = some t → args[j]? = some v → Value.okWide Try.prog W .any base t v := hval0
  have hW' := hW
  obtain ⟨p, q, hA0, hV, rfl, hfz, hnd⟩ := hW
  have hA : DataW.TrodAll enc Try.prog W 0 (fun _ => true) true Try.f7.params.toList args.toList ds p := hA0
  rw [Try.params7] at hA hval
  obtain ⟨v0, d0, rfl, rfl, h0⟩ := trodAll_one hA
  obtain ⟨rfl, rfl⟩ := trodVars_none hV
  clear hA0 hval0
  simp only [List.append_nil] at hW'
  obtain ⟨cs, rfl, hsz⟩ := okWide_struct Try.underlying75 (hval 0 _ _ rfl rfl)
  obtain ⟨fuel, hf⟩ := h0
  have hz : (DataW.weightsEach Try.prog (75 :: []) (d0 :: [])).all (· ≤ reachBytes) = true := hsz0
  obtain ⟨hd, A, c, BL, A', c', CL, WH, BY, J, hcs, hwf, hR, hn, hln, hlx, hR', hn', hln', hlx', hby⟩ := open_foreign hf (fun n hn => by
    have := List.all_eq_true.1 hz n (by simp only [DataW.weightsEach, List.mem_append]; exact Or.inl hn)
    simpa using this)
  have hcs' : cs = #[.int .u8 hd.s0, .int .u8 hd.s1, .int .u8 hd.s2, .int .u8 hd.s3, .int .u8 hd.s4, .int .u8 hd.s5, .int .u8 hd.s6, .int .u8 hd.s7, .int .i64 hd.K, .int .i64 hd.M, .int .i64 hd.B, .string hd.key, .int .i64 hd.size, .int .i64 hd.idx, .int .i64 hd.ep, .int .i64 hd.ct, .slice A BL.length c, .slice A' CL.length c', .int .i64 WH, .int .i64 BY, .int .i64 J] := by
    obtain ⟨l⟩ := cs
    simp only [Value.cells] at hcs
    rw [hcs]
  subst hcs'
  refine (lawFg hd A A' c c' BL CL WH BY J W hwf hwf.bytes hlx (by omega) hln hR hlx' (by omega) hln' hR' hby).mono fun e W' ⟨he, hb⟩ => ?_
  subst he
  exact ⟨_, rfl, law_post laidOut (by intro t ht; rw [Try.params7] at ht; simp at ht; subst ht; exact ⟨by kernel_rfl, of_decide_eq_true (by kernel_rfl)⟩) (by kernel_rfl) Try.underlying4 hW' rfl rfl hb⟩

theorem frameForeign_holds : Rows.FrameForeignSaid :=
  OpenClaim.holds_of_wide 7 Try.f7 rfl rfl rfl rfl rfl rfl rfl ⟨rfl, rfl, rfl, rfl, rfl⟩ rfl rfl rfl rfl rfl (by kernel_rfl) Try.func7 (by kernel_rfl)
    (of_decide_eq_true (by kernel_rfl)) (by unfold Func.isWrapper; first | (rw [if_pos (by decide +kernel)]; kernel_rfl) | (rw [if_neg (by decide +kernel)]; exact ⟨rfl, rfl⟩))
    (fun os started H enc _ => frameForeign_lifted os started H enc)
#print axioms frameForeign_holds
end Go.Proofs.Ytbioanbokbhmgaa
