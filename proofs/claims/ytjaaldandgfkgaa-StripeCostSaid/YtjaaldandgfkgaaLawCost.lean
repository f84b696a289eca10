/- StripeCost: the law's walk. Conditions: an object that memory bears. -/
import Derived.Test.YtjaaldandgfkgaaAnk0
import Derived.Test.YtjaaldandgfkgaaCsP
namespace Go.Proofs.Ytjaaldandgfkgaa
open Go.RowKit

set_option maxRecDepth 100000 in
set_option maxHeartbeats 8000000 in
theorem lawCost (p : Pln) (A0 : Option Addr) (cd : Nat) (l0 : List Nat) (Pk : Option Addr) (np cp : Nat) (off q : Int) (w : World) (hw : p.Wf) (hA : RL w A0 l0) (hlc : l0.length ≤ cd) (hl : l0.length ≤ 140737488351232) (hX : ∀ x ∈ l0, x < 256) (hP : True) :
    Calls Try.prog 13 #[.agg #[.int .i64 p.K, .int .i64 p.M, .int .i64 p.B, .int .u8 p.s0, .int .u8 p.s1, .int .u8 p.s2, .int .u8 p.s3, .int .u8 p.s4, .int .u8 p.s5, .int .u8 p.s6, .int .u8 p.s7, .string p.key, .int .i64 p.ep, .int .i64 p.ct, .slice A0 l0.length cd, .slice Pk np cp], .int .i64 off, .int .i64 q] w fun e w' => e = .returned (.bool true) ∧ Below w.heap.size w w' := by
  obtain ⟨nd, hnd⟩ : ∃ nd, nd = l0.length := ⟨_, rfl⟩
  have HND := Lib.hid hnd
  have HA := Lib.hid hA; have HX := Lib.hid hX; have HPI := Lib.hid hP; have HWF := Lib.hid hw
  rw [← hnd] at hl hlc ⊢
  clear hA hX hP hw hnd
  have HBX0 : Hid ((w.alloc (.cells #[.int .i64 p.K, .int .i64 p.M, .int .i64 p.B, .int .u8 p.s0, .int .u8 p.s1, .int .u8 p.s2, .int .u8 p.s3, .int .u8 p.s4, .int .u8 p.s5, .int .u8 p.s6, .int .u8 p.s7, .string p.key, .int .i64 p.ep, .int .i64 p.ct, .slice A0 nd cd, .slice Pk np cp] 64)).heap[w.heap.size]? = some (.cells #[.int .i64 p.K, .int .i64 p.M, .int .i64 p.B, .int .u8 p.s0, .int .u8 p.s1, .int .u8 p.s2, .int .u8 p.s3, .int .u8 p.s4, .int .u8 p.s5, .int .u8 p.s6, .int .u8 p.s7, .string p.key, .int .i64 p.ep, .int .i64 p.ct, .slice A0 nd cd, .slice Pk np cp] 64 (0, 0))) := Lib.hid (heap_alloc_new w _)
  have HB0 : Hid (Below w.heap.size w (w.alloc (.cells #[.int .i64 p.K, .int .i64 p.M, .int .i64 p.B, .int .u8 p.s0, .int .u8 p.s1, .int .u8 p.s2, .int .u8 p.s3, .int .u8 p.s4, .int .u8 p.s5, .int .u8 p.s6, .int .u8 p.s7, .string p.key, .int .i64 p.ep, .int .i64 p.ct, .slice A0 nd cd, .slice Pk np cp] 64))) := Lib.hid ((Below.refl _ _).alloc (Nat.le_refl _) _)
  go_enter Try.func13, Try.ntmps13
  go_wp2_with fail
  refine (awake_any _).mono ?_
  rintro e w1 ⟨rfl, hb1⟩
  have HBX1 : Hid (w1.heap[w.heap.size]? = some (.cells #[.int .i64 p.K, .int .i64 p.M, .int .i64 p.B, .int .u8 p.s0, .int .u8 p.s1, .int .u8 p.s2, .int .u8 p.s3, .int .u8 p.s4, .int .u8 p.s5, .int .u8 p.s6, .int .u8 p.s7, .string p.key, .int .i64 p.ep, .int .i64 p.ct, .slice A0 nd cd, .slice Pk np cp] 64 (0, 0))) := Lib.hid ((hb1.block _ (by simp)).trans HBX0.out)
  have HB1 : Hid (Below w.heap.size w w1) := Lib.hid (HB0.out.trans (hb1.mono HB0.out.size))
  have hz1 : w.heap.size < w1.heap.size := (Array.getElem?_eq_some_iff.1 HBX1.out).1
  clear hb1 HBX0 HB0
  obtain ⟨bx, hbx⟩ : ∃ bx, bx = w.heap.size := ⟨_, rfl⟩
  have HBXE := Lib.hid hbx
  rw [← hbx] at HBX1 hz1 ⊢
  clear hbx
  have HFT := Lib.hid (lfit_any p A0 cd l0 (.slice Pk np cp) w1 rfl (by rw [← HND.out]; exact hl) (by rw [← HND.out]; exact hlc) (HA.out.below HB1.out))
  rw [← HND.out] at HFT
  go_wp2_with (refine wpList_loadAt rfl 64 (.tmp 3) rfl ⟨bx, 0, none⟩ rfl #[.int .i64 p.K, .int .i64 p.M, .int .i64 p.B, .int .u8 p.s0, .int .u8 p.s1, .int .u8 p.s2, .int .u8 p.s3, .int .u8 p.s4, .int .u8 p.s5, .int .u8 p.s6, .int .u8 p.s7, .string p.key, .int .i64 p.ep, .int .i64 p.ct, .slice A0 nd cd, .slice Pk np cp] _ (fun j v hv => by rw [add_zero_addr, cell_of_row w1 bx j _ _ (0, 0) HBX1.out]; simpa using hv) Try.underlying64 rfl (by kernel_rfl) ?_)
  refine HFT.out.mono ?_
  rintro e w2 ⟨A1, c1, rfl, hO1, hb2⟩
  obtain ⟨Z0, hZ0⟩ : ∃ Z0, Z0 = fitH p := ⟨_, rfl⟩
  rw [← hZ0]
  obtain ⟨m1, hm1⟩ : ∃ m1, m1 = fitN p nd := ⟨_, rfl⟩
  rw [← hm1] at hO1 ⊢
  obtain ⟨l, hl1⟩ : ∃ l, l = l0.take m1 := ⟨_, rfl⟩
  rw [← hl1] at hO1
  have hml : m1 = l.length := by rw [hl1, List.length_take, ← HND.out, hm1]; have := fitN_le p nd; omega
  have HM1 := Lib.hid hm1
  have HZ0 := Lib.hid hZ0; have HL1 := Lib.hid hl1; have HML := Lib.hid hml
  have HXL : Hid (∀ x ∈ l, x < 256) := Lib.hid fun x hx => HX.out x (by rw [hl1] at hx; exact List.mem_of_mem_take hx)
  have hm1l : m1 ≤ 1048576 := by rw [hm1]; unfold fitN; omega
  have HO1 := Lib.hid hO1
  have HB2 : Hid (Below w.heap.size w w2) := Lib.hid (HB1.out.trans (hb2.mono HB1.out.size))
  have HBX2 : Hid (w2.heap[bx]? = some (.cells #[.int .i64 p.K, .int .i64 p.M, .int .i64 p.B, .int .u8 p.s0, .int .u8 p.s1, .int .u8 p.s2, .int .u8 p.s3, .int .u8 p.s4, .int .u8 p.s5, .int .u8 p.s6, .int .u8 p.s7, .string p.key, .int .i64 p.ep, .int .i64 p.ct, .slice A0 nd cd, .slice Pk np cp] 64 (0, 0))) := Lib.hid ((hb2.block bx hz1).trans HBX1.out)
  have hz2 : bx < w2.heap.size := Nat.lt_of_lt_of_le hz1 hb2.size
  clear hO1 hb2 hZ0 hl1 hm1 hml HFT HBX1 HB1
  have HH3 := Lib.hid (heap_alloc_new w2 (.cells #[.int .u8 Z0.s0, .int .u8 Z0.s1, .int .u8 Z0.s2, .int .u8 Z0.s3, .int .u8 Z0.s4, .int .u8 Z0.s5, .int .u8 Z0.s6, .int .u8 Z0.s7, .int .i64 Z0.K, .int .i64 Z0.M, .int .i64 Z0.B, .string Z0.key, .int .i64 Z0.size, .int .i64 Z0.idx, .int .i64 Z0.ep, .int .i64 Z0.ct] 42))
  have HB23 := Lib.hid ((Below.refl w2.heap.size w2).alloc (Nat.le_refl _) (.cells #[.int .u8 Z0.s0, .int .u8 Z0.s1, .int .u8 Z0.s2, .int .u8 Z0.s3, .int .u8 Z0.s4, .int .u8 Z0.s5, .int .u8 Z0.s6, .int .u8 Z0.s7, .int .i64 Z0.K, .int .i64 Z0.M, .int .i64 Z0.B, .string Z0.key, .int .i64 Z0.size, .int .i64 Z0.idx, .int .i64 Z0.ep, .int .i64 Z0.ct] 42))
  obtain ⟨K1, hK1⟩ : ∃ K1 : Nat, K1 = 1 + fK p := ⟨_, rfl⟩
  obtain ⟨M1, hM1⟩ : ∃ M1 : Nat, M1 = 1 + fM p := ⟨_, rfl⟩
  obtain ⟨B1, hB1⟩ : ∃ B1 : Nat, B1 = 1 + fB p := ⟨_, rfl⟩
  obtain ⟨f1, f2, f3, f4⟩ := fit_nums p
  have hZK : Z0.K = (K1 : Int) := by rw [HZ0.out, hK1]; show (1 + (fK p : Int)) = _; omega
  have hZM : Z0.M = (M1 : Int) := by rw [HZ0.out, hM1]; show (1 + (fM p : Int)) = _; omega
  have hZB : Z0.B = (B1 : Int) := by rw [HZ0.out, hB1]; show (1 + (fB p : Int)) = _; omega
  have k1 : 1 ≤ K1 ∧ K1 ≤ 254 := by omega
  have k2 : 1 ≤ B1 ∧ B1 ≤ 65536 := by omega
  have HE : Hid (sizeE (K1 : Int) (M1 : Int) (B1 : Int) (m1 : Int) = 0) := Lib.hid (by
    have h1 := (check_facts (fit_check p nd 0 (by omega))).2.2.2.1
    have e1 : (1 + (fK p : Int)) = (K1 : Int) := by omega
    have e2 : (1 + (fM p : Int)) = (M1 : Int) := by omega
    have e3 : (1 + (fB p : Int)) = (B1 : Int) := by omega
    rw [← e1, ← e2, ← e3, HM1.out]
    exact h1)
  have ZK := Lib.hid hZK; have ZM := Lib.hid hZM; have ZB := Lib.hid hZB
  have c8 : (w2.alloc (.cells #[.int .u8 Z0.s0, .int .u8 Z0.s1, .int .u8 Z0.s2, .int .u8 Z0.s3, .int .u8 Z0.s4, .int .u8 Z0.s5, .int .u8 Z0.s6, .int .u8 Z0.s7, .int .i64 Z0.K, .int .i64 Z0.M, .int .i64 Z0.B, .string Z0.key, .int .i64 Z0.size, .int .i64 Z0.idx, .int .i64 Z0.ep, .int .i64 Z0.ct] 42)).cell? ⟨w2.heap.size, 8, none⟩ = some (.int .i64 (K1 : Int)) := by rw [cell_of_row _ _ 8 _ _ (0, 0) HH3.out, ← hZK]; rfl
  have HSHP := Lib.hid (show ∀ w', Below (w2.heap.size + 1) (w2.alloc (.cells #[.int .u8 Z0.s0, .int .u8 Z0.s1, .int .u8 Z0.s2, .int .u8 Z0.s3, .int .u8 Z0.s4, .int .u8 Z0.s5, .int .u8 Z0.s6, .int .u8 Z0.s7, .int .i64 Z0.K, .int .i64 Z0.M, .int .i64 Z0.B, .string Z0.key, .int .i64 Z0.size, .int .i64 Z0.idx, .int .i64 Z0.ep, .int .i64 Z0.ct] 42)) w' → ∀ j v, (#[.int .i64 (K1 : Int), .int .i64 (M1 : Int), .int .i64 (B1 : Int)] : Array Value).toList[j]? = some v → w'.cell? ((⟨w2.heap.size, 8, none⟩ : Addr).add j) = some v from fun w' hb j v hv => by
    rw [add_addr, hb.cell (p := ⟨w2.heap.size, 8 + j, none⟩) (by show w2.heap.size < _; omega), cell_of_row _ _ (8 + j) _ _ (0, 0) HH3.out, ← hv, ← hZK, ← hZM, ← hZB]
    have hj : j < 3 := (List.getElem?_eq_some_iff.1 hv).1
    rcases j with _ | _ | _ | j <;> first | rfl | omega)
  clear hZK hZM hZB hK1 hM1 hB1 f1 f2 f3 f4
  have HBL := Lib.hid (fun w' => blocks_all (K1 : Int) (M1 : Int) (B1 : Int) (m1 : Int) w')
  go_wp2_with (first | (refine wpList_storeNewH rfl (.tmp 7) (.tmp 24) rfl #[.int .u8 Z0.s0, .int .u8 Z0.s1, .int .u8 Z0.s2, .int .u8 Z0.s3, .int .u8 Z0.s4, .int .u8 Z0.s5, .int .u8 Z0.s6, .int .u8 Z0.s7, .int .i64 Z0.K, .int .i64 Z0.M, .int .i64 Z0.B, .string Z0.key, .int .i64 Z0.size, .int .i64 Z0.idx, .int .i64 Z0.ep, .int .i64 Z0.ct] rfl rfl rfl rfl rfl ?_) | (refine wpList_loadAt rfl 24 (.tmp 30) rfl ⟨w2.heap.size, 8, none⟩ rfl #[.int .i64 (K1 : Int), .int .i64 (M1 : Int), .int .i64 (B1 : Int)] _ (HSHP.out _ (Below.refl _ _)) Try.underlying24 rfl (by kernel_rfl) ?_))
  refine (HBL.out _).mono ?_
  rintro e w4 ⟨v, rfl, hO4, hb4⟩
  obtain ⟨nb, hnb⟩ : ∃ nb, nb = nblk (K1 * B1) m1 := ⟨_, rfl⟩
  have hN : sizeN (K1 : Int) (M1 : Int) (B1 : Int) (m1 : Int) = nb := by unfold sizeN; rw [if_pos HE.out, hnb]; rfl
  rw [HE.out]
  rw [hN] at hO4
  obtain ⟨Al, cl, rfl, _, _, hRl, _⟩ := hO4.rd
  have HRl : Hid (Rd w4 Al nb (fun j => .int .i64 ((blen K1 B1 m1 j : Nat) : Int))) := Lib.hid hRl
  have hz4 : w2.heap.size + 1 ≤ w4.heap.size := by have := hb4.size; simpa using this
  have HSH4 : Hid (∀ w', Below w4.heap.size w4 w' → ∀ j v, (#[.int .i64 (K1 : Int), .int .i64 (M1 : Int), .int .i64 (B1 : Int)] : Array Value).toList[j]? = some v → w'.cell? ((⟨w2.heap.size, 8, none⟩ : Addr).add j) = some v) := Lib.hid fun w' hb => HSHP.out w' ((hb4.mono (by simp)).trans (hb.mono hz4))
  have HB4 : Hid (Below w.heap.size w w4) := Lib.hid (HB2.out.trans ((HB23.out.trans (hb4.mono (by simp))).mono HB2.out.size))
  have HO14 : Hid (RL w4 A1 l) := Lib.hid ((own_rl' HO1.out).below (HB23.out.trans (hb4.mono (by simp))))
  obtain ⟨gh, hgh⟩ : ∃ gh, gh = w2.heap.size := ⟨_, rfl⟩
  rw [← hgh] at HSH4 hz4 ⊢
  have HNB := Lib.hid hnb
  have hnb4 : nb ≤ 4096 := by
    have := sizeN_le (K1 : Int) (M1 : Int) (B1 : Int) (m1 : Int)
    omega
  have hcm1 : l.length ≤ c1 := by
    obtain ⟨A', c', e', h4, _⟩ := HO1.out.own.rd
    injection e' with _ _ e3
    omega
  have HTOT : Hid (∀ k, k ≤ nb → sumN (blen K1 B1 m1) k ≤ 2000000) := Lib.hid fun k hk => by
    have h1 := sumN_mono (blen K1 B1 m1) hk
    rw [hnb, sum_cost k1.1 k2.1] at h1
    have h2 := Nat.div_le_self (m1 + K1 - 1) K1
    omega
  clear hO4 hb4 hnb hN hRl hgh HBL HSHP HH3 HB23 c8
  go_wp2
  go_loopg [12, 13] nb (fun gk s i wr => ∃ k : Nat, k ≤ nb ∧ gk = nb - k ∧ i = .int .i64 k ∧ s = .int .i64 ((sumN (blen K1 B1 m1) k : Nat) : Int) ∧ Below w4.heap.size w4 wr)
  case atStart => exact ⟨0, Nat.zero_le _, rfl, rfl, rfl, Below.refl _ _⟩
  case round =>
    obtain ⟨k, hk, rfl, rfl, rfl, hb⟩ := hrel
    have HB := Lib.hid hb
    have hsz := hb.size
    clear hb
    by_cases hlt : k < nb
    · obtain ⟨bl, ol, rfl, hbl, hcl⟩ := HRl.out k hlt
      obtain ⟨x, hx⟩ : ∃ x, x = blen K1 B1 m1 k := ⟨_, rfl⟩
      obtain ⟨b1, b2, _⟩ := blen_facts (K := K1) (B := B1) (s := m1) k1.1 k2.1 (show k < nblk (K1 * B1) m1 by rw [← HNB.out]; exact hlt)
      have HLC : Hid (∀ w', Below wr.heap.size wr w' → w'.cell? ⟨bl, ol + k, none⟩ = some (.int .i64 (x : Int))) := Lib.hid fun w' hb' => by
        rw [(HB.out.trans (hb'.mono hsz)).cell (p := ⟨bl, ol + k, none⟩) hbl, hx]
        exact hcl
      have HBC : Hid (∀ w', Below wr.heap.size wr w' → w'.cell? ⟨gh, 10, none⟩ = some (.int .i64 (B1 : Int))) := Lib.hid fun w' hb' => HSH4.out w' (HB.out.trans (hb'.mono hsz)) 2 _ rfl
      have hS0 := HTOT.out k hk
      have hSn : sumN (blen K1 B1 m1) (k + 1) = sumN (blen K1 B1 m1) k + x := by rw [hx]; rfl
      rw [← hx] at b1 b2
      have HSN := Lib.hid hSn
      have hmid : k + 1 < nb → x = B1 := fun h => by rw [hx]; exact blen_mid (by rw [← HNB.out]; exact h)
      have hcx := HLC.out wr (Below.refl _ _)
      clear hx hcl hSn
      obtain ⟨S1, hS1⟩ : ∃ S1, S1 = sumN (blen K1 B1 m1) k := ⟨_, rfl⟩
      rw [← hS1] at hS0 HSN ⊢
      have HS1 := Lib.hid hS1
      clear hS1
      have hkn : (k : Int) < (nb : Int) := by omega
      have hw1 : IntKind.i64.wrap ((k : Int) + 1) = (k : Int) + 1 := by rw [IntKind.wrap_i64]; omega
      by_cases hmore : k + 1 < nb
      · obtain rfl : x = B1 := hmid hmore
        have hm1' : (k : Int) + 1 < (nb : Int) := by omega
        have hx1 : ¬ (x : Int) < 1 := by omega
        clear hmid
        go_wp2_with fail
        clear hcx
        refine wp_region_factsG [.is (.slice (some ⟨bl, ol, none⟩) nb cl), .is (.int .i64 (k : Int)), .is (.pointer (some ⟨bl, ol + k, none⟩)), .is (.int .i64 (x : Int)), .is (.bool false), .is (.bool false), .is (.slice (some ⟨bl, ol, none⟩) nb cl), .is (.int .i64 (k : Int)), .is (.pointer (some ⟨bl, ol + k, none⟩)), .is (.int .i64 (x : Int)), .is (.pointer (some ⟨gh, 8, none⟩)), .is (.pointer (some ⟨gh, 10, none⟩)), .is (.int .i64 (x : Int)), .is (.bool false), .is (.bool false), .is (.bool false), .is (.int .i64 (k : Int)), .is (.int .i64 ((k : Int) + 1)), .is (.slice (some ⟨bl, ol, none⟩) nb cl), .is (.int .i64 (nb : Int)), .is (.bool true), .is (.bool true), .is (.slice (some ⟨bl, ol, none⟩) nb cl), .is (.int .i64 (k : Int)), .is (.pointer (some ⟨bl, ol + k, none⟩)), .is (.int .i64 (x : Int)), .is (.pointer (some ⟨gh, 8, none⟩)), .is (.pointer (some ⟨gh, 10, none⟩)), .is (.int .i64 (x : Int)), .is (.bool false), .is (.bool false), .is (.bool false)] mixed (by kernel_rfl) (fun hdr => ⟨?_, ?_, ?_, ?_, ?_, ?_, ?_, ?_, ?_, ?_, ?_, ?_, ?_, ?_, ?_, ?_, ?_, ?_, ?_, ?_, ?_, ?_, ?_, ?_, ?_, ?_, ?_, ?_, ?_, ?_, ?_, ?_, trivial⟩) (fun wE hbE => ?_)
        · intro a1 w2 hb hs K hK
          repeat (intro _)
          refine ⟨?_⟩
          have h10 : a1.tmps[10]?.getD undef = .slice (some ⟨bl, ol, none⟩) nb cl := hs 10 (by kernel_rfl)
          rw [if_pos (by rfl)]
          go_simp
          exact hK.out _ _ (Below.refl _ _) rfl
        · intro a1 w2 hb hs K hK
          repeat (intro _)
          refine ⟨?_⟩
          have h13 : a1.tmps[13]?.getD undef = .int .i64 (k : Int) := hs 13 (by kernel_rfl)
          rw [if_pos (by rfl)]
          go_simp
          exact hK.out _ _ (Below.refl _ _) rfl
        · intro a1 w2 hb hs K hK
          repeat (intro _)
          refine ⟨?_⟩
          have h49 : a1.tmps[49]?.getD undef = .slice (some ⟨bl, ol, none⟩) nb cl := by assumption
          have h50 : a1.tmps[50]?.getD undef = .int .i64 (k : Int) := by assumption
          rw [if_pos (by rfl)]
          go_simp
          exact hK.out _ _ (Below.refl _ _) rfl
        · intro a1 w2 hb hs K hK
          repeat (intro _)
          refine ⟨?_⟩
          have h51 : a1.tmps[51]?.getD undef = .pointer (some ⟨bl, ol + k, none⟩) := by assumption
          rw [if_pos (by rfl)]
          have hcc : w2.cell? ⟨bl, ol + k, none⟩ = some (.int .i64 (x : Int)) := HLC.out w2 (hdr.out.trans (hb.mono hdr.out.size))
          go_simp
          exact hK.out _ _ (Below.refl _ _) rfl
        · intro a1 w2 hb hs K hK
          repeat (intro _)
          refine ⟨?_⟩
          have h52 : a1.tmps[52]?.getD undef = .int .i64 (x : Int) := by assumption
          rw [if_pos (by rfl)]
          go_simp
          exact hK.out _ _ (Below.refl _ _) (by first | rfl | exact congrArg Value.bool (decide_eq_false (by omega)))
        · intro a1 w2 hb hs K hK
          repeat (intro _)
          refine ⟨?_⟩
          have h53 : a1.tmps[53]?.getD undef = .bool false := by assumption
          rw [if_pos (by rfl)]
          go_simp
          exact hK.out _ _ (Below.refl _ _) rfl
        · intro a1 w2 hb hs K hK
          repeat (intro _)
          refine ⟨?_⟩
          have h10 : a1.tmps[10]?.getD undef = .slice (some ⟨bl, ol, none⟩) nb cl := hs 10 (by kernel_rfl)
          have hgd : a1.tmps[54]?.getD undef = .bool false := by assumption
          rw [if_pos (wanted_yes (j := 5) (b := false) rfl rfl rfl hgd)]
          go_simp
          exact hK.out _ _ (Below.refl _ _) rfl
        · intro a1 w2 hb hs K hK
          repeat (intro _)
          refine ⟨?_⟩
          have h13 : a1.tmps[13]?.getD undef = .int .i64 (k : Int) := hs 13 (by kernel_rfl)
          have hgd : a1.tmps[54]?.getD undef = .bool false := by assumption
          rw [if_pos (wanted_yes (j := 5) (b := false) rfl rfl rfl hgd)]
          go_simp
          exact hK.out _ _ (Below.refl _ _) rfl
        · intro a1 w2 hb hs K hK
          repeat (intro _)
          refine ⟨?_⟩
          have h55 : a1.tmps[55]?.getD undef = .slice (some ⟨bl, ol, none⟩) nb cl := by assumption
          have h56 : a1.tmps[56]?.getD undef = .int .i64 (k : Int) := by assumption
          have hgd : a1.tmps[54]?.getD undef = .bool false := by assumption
          rw [if_pos (wanted_yes (j := 5) (b := false) rfl rfl rfl hgd)]
          go_simp
          exact hK.out _ _ (Below.refl _ _) rfl
        · intro a1 w2 hb hs K hK
          repeat (intro _)
          refine ⟨?_⟩
          have h57 : a1.tmps[57]?.getD undef = .pointer (some ⟨bl, ol + k, none⟩) := by assumption
          have hgd : a1.tmps[54]?.getD undef = .bool false := by assumption
          rw [if_pos (wanted_yes (j := 5) (b := false) rfl rfl rfl hgd)]
          have hcc : w2.cell? ⟨bl, ol + k, none⟩ = some (.int .i64 (x : Int)) := HLC.out w2 (hdr.out.trans (hb.mono hdr.out.size))
          go_simp
          exact hK.out _ _ (Below.refl _ _) rfl
        · intro a1 w2 hb hs K hK
          repeat (intro _)
          refine ⟨?_⟩
          have h7 : a1.tmps[7]?.getD undef = .pointer (some ⟨gh, 0, none⟩) := hs 7 (by kernel_rfl)
          have hgd : a1.tmps[54]?.getD undef = .bool false := by assumption
          rw [if_pos (wanted_yes (j := 5) (b := false) rfl rfl rfl hgd)]
          go_simp
          exact hK.out _ _ (Below.refl _ _) rfl
        · intro a1 w2 hb hs K hK
          repeat (intro _)
          refine ⟨?_⟩
          have h59 : a1.tmps[59]?.getD undef = .pointer (some ⟨gh, 8, none⟩) := by assumption
          have hgd : a1.tmps[54]?.getD undef = .bool false := by assumption
          rw [if_pos (wanted_yes (j := 5) (b := false) rfl rfl rfl hgd)]
          go_simp
          exact hK.out _ _ (Below.refl _ _) rfl
        · intro a1 w2 hb hs K hK
          repeat (intro _)
          refine ⟨?_⟩
          have h60 : a1.tmps[60]?.getD undef = .pointer (some ⟨gh, 10, none⟩) := by assumption
          have hgd : a1.tmps[54]?.getD undef = .bool false := by assumption
          rw [if_pos (wanted_yes (j := 5) (b := false) rfl rfl rfl hgd)]
          have hcc : w2.cell? ⟨gh, 10, none⟩ = some (.int .i64 (x : Int)) := HBC.out w2 (hdr.out.trans (hb.mono hdr.out.size))
          go_simp
          exact hK.out _ _ (Below.refl _ _) rfl
        · intro a1 w2 hb hs K hK
          repeat (intro _)
          refine ⟨?_⟩
          have h58 : a1.tmps[58]?.getD undef = .int .i64 (x : Int) := by assumption
          have h61 : a1.tmps[61]?.getD undef = .int .i64 (x : Int) := by assumption
          have hgd : a1.tmps[54]?.getD undef = .bool false := by assumption
          rw [if_pos (wanted_yes (j := 5) (b := false) rfl rfl rfl hgd)]
          go_simp
          exact hK.out _ _ (Below.refl _ _) (by first | rfl | exact congrArg Value.bool (decide_eq_false (by omega)))
        · intro a1 w2 hb hs K hK
          repeat (intro _)
          refine ⟨?_⟩
          have h54 : a1.tmps[54]?.getD undef = .bool false := by assumption
          have h62 : a1.tmps[62]?.getD undef = .bool false := by assumption
          rw [if_pos (by rfl)]
          go_simp
          exact hK.out _ _ (Below.refl _ _) rfl
        · intro a1 w2 hb hs K hK
          repeat (intro _)
          refine ⟨?_⟩
          have h63 : a1.tmps[63]?.getD undef = .bool false := by assumption
          rw [if_pos (by rfl)]
          go_simp
          exact hK.out _ _ (Below.refl _ _) rfl
        · intro a1 w2 hb hs K hK
          repeat (intro _)
          refine ⟨?_⟩
          have h13 : a1.tmps[13]?.getD undef = .int .i64 (k : Int) := hs 13 (by kernel_rfl)
          have hgd : a1.tmps[64]?.getD undef = .bool false := by assumption
          rw [if_pos (wanted_yes (j := 15) (b := false) rfl rfl rfl hgd)]
          go_simp
          exact hK.out _ _ (Below.refl _ _) rfl
        · intro a1 w2 hb hs K hK
          repeat (intro _)
          refine ⟨?_⟩
          have h65 : a1.tmps[65]?.getD undef = .int .i64 (k : Int) := by assumption
          have hgd : a1.tmps[64]?.getD undef = .bool false := by assumption
          rw [if_pos (wanted_yes (j := 15) (b := false) rfl rfl rfl hgd)]
          go_simp
          exact hK.out _ _ (Below.refl _ _) rfl
        · intro a1 w2 hb hs K hK
          repeat (intro _)
          refine ⟨?_⟩
          have h10 : a1.tmps[10]?.getD undef = .slice (some ⟨bl, ol, none⟩) nb cl := hs 10 (by kernel_rfl)
          have hgd : a1.tmps[64]?.getD undef = .bool false := by assumption
          rw [if_pos (wanted_yes (j := 15) (b := false) rfl rfl rfl hgd)]
          go_simp
          exact hK.out _ _ (Below.refl _ _) rfl
        · intro a1 w2 hb hs K hK
          repeat (intro _)
          refine ⟨?_⟩
          have h67 : a1.tmps[67]?.getD undef = .slice (some ⟨bl, ol, none⟩) nb cl := by assumption
          have hgd : a1.tmps[64]?.getD undef = .bool false := by assumption
          rw [if_pos (wanted_yes (j := 15) (b := false) rfl rfl rfl hgd)]
          go_simp
          exact hK.out _ _ (Below.refl _ _) rfl
        · intro a1 w2 hb hs K hK
          repeat (intro _)
          refine ⟨?_⟩
          have h66 : a1.tmps[66]?.getD undef = .int .i64 ((k : Int) + 1) := by assumption
          have h68 : a1.tmps[68]?.getD undef = .int .i64 (nb : Int) := by assumption
          have hgd : a1.tmps[64]?.getD undef = .bool false := by assumption
          rw [if_pos (wanted_yes (j := 15) (b := false) rfl rfl rfl hgd)]
          go_simp
          exact hK.out _ _ (Below.refl _ _) (by first | rfl | exact congrArg Value.bool (decide_eq_true (by omega)))
        · intro a1 w2 hb hs K hK
          repeat (intro _)
          refine ⟨?_⟩
          have h69 : a1.tmps[69]?.getD undef = .bool true := by assumption
          have hgd : a1.tmps[64]?.getD undef = .bool false := by assumption
          rw [if_pos (wanted_yes (j := 15) (b := false) rfl rfl rfl hgd)]
          go_simp
          exact hK.out _ _ (Below.refl _ _) rfl
        · intro a1 w2 hb hs K hK
          repeat (intro _)
          refine ⟨?_⟩
          have h10 : a1.tmps[10]?.getD undef = .slice (some ⟨bl, ol, none⟩) nb cl := hs 10 (by kernel_rfl)
          have hgd : a1.tmps[70]?.getD undef = .bool true := by assumption
          rw [if_pos (wanted_yes (j := 21) (b := true) rfl rfl rfl hgd)]
          go_simp
          exact hK.out _ _ (Below.refl _ _) rfl
        · intro a1 w2 hb hs K hK
          repeat (intro _)
          refine ⟨?_⟩
          have h13 : a1.tmps[13]?.getD undef = .int .i64 (k : Int) := hs 13 (by kernel_rfl)
          have hgd : a1.tmps[70]?.getD undef = .bool true := by assumption
          rw [if_pos (wanted_yes (j := 21) (b := true) rfl rfl rfl hgd)]
          go_simp
          exact hK.out _ _ (Below.refl _ _) rfl
        · intro a1 w2 hb hs K hK
          repeat (intro _)
          refine ⟨?_⟩
          have h71 : a1.tmps[71]?.getD undef = .slice (some ⟨bl, ol, none⟩) nb cl := by assumption
          have h72 : a1.tmps[72]?.getD undef = .int .i64 (k : Int) := by assumption
          have hgd : a1.tmps[70]?.getD undef = .bool true := by assumption
          rw [if_pos (wanted_yes (j := 21) (b := true) rfl rfl rfl hgd)]
          go_simp
          exact hK.out _ _ (Below.refl _ _) rfl
        · intro a1 w2 hb hs K hK
          repeat (intro _)
          refine ⟨?_⟩
          have h73 : a1.tmps[73]?.getD undef = .pointer (some ⟨bl, ol + k, none⟩) := by assumption
          have hgd : a1.tmps[70]?.getD undef = .bool true := by assumption
          rw [if_pos (wanted_yes (j := 21) (b := true) rfl rfl rfl hgd)]
          have hcc : w2.cell? ⟨bl, ol + k, none⟩ = some (.int .i64 (x : Int)) := HLC.out w2 (hdr.out.trans (hb.mono hdr.out.size))
          go_simp
          exact hK.out _ _ (Below.refl _ _) rfl
        · intro a1 w2 hb hs K hK
          repeat (intro _)
          refine ⟨?_⟩
          have h7 : a1.tmps[7]?.getD undef = .pointer (some ⟨gh, 0, none⟩) := hs 7 (by kernel_rfl)
          have hgd : a1.tmps[70]?.getD undef = .bool true := by assumption
          rw [if_pos (wanted_yes (j := 21) (b := true) rfl rfl rfl hgd)]
          go_simp
          exact hK.out _ _ (Below.refl _ _) rfl
        · intro a1 w2 hb hs K hK
          repeat (intro _)
          refine ⟨?_⟩
          have h75 : a1.tmps[75]?.getD undef = .pointer (some ⟨gh, 8, none⟩) := by assumption
          have hgd : a1.tmps[70]?.getD undef = .bool true := by assumption
          rw [if_pos (wanted_yes (j := 21) (b := true) rfl rfl rfl hgd)]
          go_simp
          exact hK.out _ _ (Below.refl _ _) rfl
        · intro a1 w2 hb hs K hK
          repeat (intro _)
          refine ⟨?_⟩
          have h76 : a1.tmps[76]?.getD undef = .pointer (some ⟨gh, 10, none⟩) := by assumption
          have hgd : a1.tmps[70]?.getD undef = .bool true := by assumption
          rw [if_pos (wanted_yes (j := 21) (b := true) rfl rfl rfl hgd)]
          have hcc : w2.cell? ⟨gh, 10, none⟩ = some (.int .i64 (x : Int)) := HBC.out w2 (hdr.out.trans (hb.mono hdr.out.size))
          go_simp
          exact hK.out _ _ (Below.refl _ _) rfl
        · intro a1 w2 hb hs K hK
          repeat (intro _)
          refine ⟨?_⟩
          have h74 : a1.tmps[74]?.getD undef = .int .i64 (x : Int) := by assumption
          have h77 : a1.tmps[77]?.getD undef = .int .i64 (x : Int) := by assumption
          have hgd : a1.tmps[70]?.getD undef = .bool true := by assumption
          rw [if_pos (wanted_yes (j := 21) (b := true) rfl rfl rfl hgd)]
          go_simp
          exact hK.out _ _ (Below.refl _ _) rfl
        · intro a1 w2 hb hs K hK
          repeat (intro _)
          refine ⟨?_⟩
          have h70 : a1.tmps[70]?.getD undef = .bool true := by assumption
          have h78 : a1.tmps[78]?.getD undef = .bool false := by assumption
          have hgd : a1.tmps[64]?.getD undef = .bool false := by assumption
          rw [if_pos (wanted_yes (j := 15) (b := false) rfl rfl rfl hgd)]
          go_simp
          exact hK.out _ _ (Below.refl _ _) rfl
        · intro a1 w2 hb hs K hK
          repeat (intro _)
          refine ⟨?_⟩
          have h64 : a1.tmps[64]?.getD undef = .bool false := by assumption
          have h79 : a1.tmps[79]?.getD undef = .bool false := by assumption
          rw [if_pos (by rfl)]
          go_simp
          exact hK.out _ _ (Below.refl _ _) rfl
        intro v0 f0 v1 f1 v2 f2 v3 f3 v4 f4 v5 f5 v6 f6 v7 f7 v8 f8 v9 f9 v10 f10 v11 f11 v12 f12 v13 f13 v14 f14 v15 f15 v16 f16 v17 f17 v18 f18 v19 f19 v20 f20 v21 f21 v22 f22 v23 f23 v24 f24 v25 f25 v26 f26 v27 f27 v28 f28 v29 f29 v30 f30 v31 f31
        refine NoPanic.normal ?_
        simp only [Act.put, List.setIfInBounds_toArray, List.set_cons_zero, List.set_cons_succ]
        obtain rfl : v31 = .bool false := f31
        clear f0 f1 f2 f3 f4 f5 f6 f7 f8 f9 f10 f11 f12 f13 f14 f15 f16 f17 f18 f19 f20 f21 f22 f23 f24 f25 f26 f27 f28 f29 f30
        have HBE := Lib.hid (HB.out.trans (hbE.mono hsz))
        clear hbE
        go_wp2
        go_roundg (nb - (k + 1))
        case measure => omega
        case rel => exact ⟨k + 1, by omega, rfl, by go_num, by rw [HSN.out]; go_num, HBE.out⟩
      · have hm1' : ¬ (k : Int) + 1 < (nb : Int) := by omega
        have hx1 : ¬ (x : Int) < 1 := by omega
        have hx2 : ¬ (B1 : Int) < (x : Int) := by omega
        clear hmid
        go_wp2_with fail
        clear hcx
        refine wp_region_factsG [.is (.slice (some ⟨bl, ol, none⟩) nb cl), .is (.int .i64 (k : Int)), .is (.pointer (some ⟨bl, ol + k, none⟩)), .is (.int .i64 (x : Int)), .is (.bool false), .is (.bool false), .is (.slice (some ⟨bl, ol, none⟩) nb cl), .is (.int .i64 (k : Int)), .is (.pointer (some ⟨bl, ol + k, none⟩)), .is (.int .i64 (x : Int)), .is (.pointer (some ⟨gh, 8, none⟩)), .is (.pointer (some ⟨gh, 10, none⟩)), .is (.int .i64 (B1 : Int)), .is (.bool false), .is (.bool false), .is (.bool false), .is (.int .i64 (k : Int)), .is (.int .i64 ((k : Int) + 1)), .is (.slice (some ⟨bl, ol, none⟩) nb cl), .is (.int .i64 (nb : Int)), .is (.bool false), .is (.bool false), .is (undef), .is (undef), .is (undef), .is (undef), .is (undef), .is (undef), .is (undef), .is (undef), .is (.bool false), .is (.bool false)] mixed (by kernel_rfl) (fun hdr => ⟨?_, ?_, ?_, ?_, ?_, ?_, ?_, ?_, ?_, ?_, ?_, ?_, ?_, ?_, ?_, ?_, ?_, ?_, ?_, ?_, ?_, ?_, ?_, ?_, ?_, ?_, ?_, ?_, ?_, ?_, ?_, ?_, trivial⟩) (fun wE hbE => ?_)
        · intro a1 w2 hb hs K hK
          repeat (intro _)
          refine ⟨?_⟩
          have h10 : a1.tmps[10]?.getD undef = .slice (some ⟨bl, ol, none⟩) nb cl := hs 10 (by kernel_rfl)
          rw [if_pos (by rfl)]
          go_simp
          exact hK.out _ _ (Below.refl _ _) rfl
        · intro a1 w2 hb hs K hK
          repeat (intro _)
          refine ⟨?_⟩
          have h13 : a1.tmps[13]?.getD undef = .int .i64 (k : Int) := hs 13 (by kernel_rfl)
          rw [if_pos (by rfl)]
          go_simp
          exact hK.out _ _ (Below.refl _ _) rfl
        · intro a1 w2 hb hs K hK
          repeat (intro _)
          refine ⟨?_⟩
          have h49 : a1.tmps[49]?.getD undef = .slice (some ⟨bl, ol, none⟩) nb cl := by assumption
          have h50 : a1.tmps[50]?.getD undef = .int .i64 (k : Int) := by assumption
          rw [if_pos (by rfl)]
          go_simp
          exact hK.out _ _ (Below.refl _ _) rfl
        · intro a1 w2 hb hs K hK
          repeat (intro _)
          refine ⟨?_⟩
          have h51 : a1.tmps[51]?.getD undef = .pointer (some ⟨bl, ol + k, none⟩) := by assumption
          rw [if_pos (by rfl)]
          have hcc : w2.cell? ⟨bl, ol + k, none⟩ = some (.int .i64 (x : Int)) := HLC.out w2 (hdr.out.trans (hb.mono hdr.out.size))
          go_simp
          exact hK.out _ _ (Below.refl _ _) rfl
        · intro a1 w2 hb hs K hK
          repeat (intro _)
          refine ⟨?_⟩
          have h52 : a1.tmps[52]?.getD undef = .int .i64 (x : Int) := by assumption
          rw [if_pos (by rfl)]
          go_simp
          exact hK.out _ _ (Below.refl _ _) (by first | rfl | exact congrArg Value.bool (decide_eq_false (by omega)))
        · intro a1 w2 hb hs K hK
          repeat (intro _)
          refine ⟨?_⟩
          have h53 : a1.tmps[53]?.getD undef = .bool false := by assumption
          rw [if_pos (by rfl)]
          go_simp
          exact hK.out _ _ (Below.refl _ _) rfl
        · intro a1 w2 hb hs K hK
          repeat (intro _)
          refine ⟨?_⟩
          have h10 : a1.tmps[10]?.getD undef = .slice (some ⟨bl, ol, none⟩) nb cl := hs 10 (by kernel_rfl)
          have hgd : a1.tmps[54]?.getD undef = .bool false := by assumption
          rw [if_pos (wanted_yes (j := 5) (b := false) rfl rfl rfl hgd)]
          go_simp
          exact hK.out _ _ (Below.refl _ _) rfl
        · intro a1 w2 hb hs K hK
          repeat (intro _)
          refine ⟨?_⟩
          have h13 : a1.tmps[13]?.getD undef = .int .i64 (k : Int) := hs 13 (by kernel_rfl)
          have hgd : a1.tmps[54]?.getD undef = .bool false := by assumption
          rw [if_pos (wanted_yes (j := 5) (b := false) rfl rfl rfl hgd)]
          go_simp
          exact hK.out _ _ (Below.refl _ _) rfl
        · intro a1 w2 hb hs K hK
          repeat (intro _)
          refine ⟨?_⟩
          have h55 : a1.tmps[55]?.getD undef = .slice (some ⟨bl, ol, none⟩) nb cl := by assumption
          have h56 : a1.tmps[56]?.getD undef = .int .i64 (k : Int) := by assumption
          have hgd : a1.tmps[54]?.getD undef = .bool false := by assumption
          rw [if_pos (wanted_yes (j := 5) (b := false) rfl rfl rfl hgd)]
          go_simp
          exact hK.out _ _ (Below.refl _ _) rfl
        · intro a1 w2 hb hs K hK
          repeat (intro _)
          refine ⟨?_⟩
          have h57 : a1.tmps[57]?.getD undef = .pointer (some ⟨bl, ol + k, none⟩) := by assumption
          have hgd : a1.tmps[54]?.getD undef = .bool false := by assumption
          rw [if_pos (wanted_yes (j := 5) (b := false) rfl rfl rfl hgd)]
          have hcc : w2.cell? ⟨bl, ol + k, none⟩ = some (.int .i64 (x : Int)) := HLC.out w2 (hdr.out.trans (hb.mono hdr.out.size))
          go_simp
          exact hK.out _ _ (Below.refl _ _) rfl
        · intro a1 w2 hb hs K hK
          repeat (intro _)
          refine ⟨?_⟩
          have h7 : a1.tmps[7]?.getD undef = .pointer (some ⟨gh, 0, none⟩) := hs 7 (by kernel_rfl)
          have hgd : a1.tmps[54]?.getD undef = .bool false := by assumption
          rw [if_pos (wanted_yes (j := 5) (b := false) rfl rfl rfl hgd)]
          go_simp
          exact hK.out _ _ (Below.refl _ _) rfl
        · intro a1 w2 hb hs K hK
          repeat (intro _)
          refine ⟨?_⟩
          have h59 : a1.tmps[59]?.getD undef = .pointer (some ⟨gh, 8, none⟩) := by assumption
          have hgd : a1.tmps[54]?.getD undef = .bool false := by assumption
          rw [if_pos (wanted_yes (j := 5) (b := false) rfl rfl rfl hgd)]
          go_simp
          exact hK.out _ _ (Below.refl _ _) rfl
        · intro a1 w2 hb hs K hK
          repeat (intro _)
          refine ⟨?_⟩
          have h60 : a1.tmps[60]?.getD undef = .pointer (some ⟨gh, 10, none⟩) := by assumption
          have hgd : a1.tmps[54]?.getD undef = .bool false := by assumption
          rw [if_pos (wanted_yes (j := 5) (b := false) rfl rfl rfl hgd)]
          have hcc : w2.cell? ⟨gh, 10, none⟩ = some (.int .i64 (B1 : Int)) := HBC.out w2 (hdr.out.trans (hb.mono hdr.out.size))
          go_simp
          exact hK.out _ _ (Below.refl _ _) rfl
        · intro a1 w2 hb hs K hK
          repeat (intro _)
          refine ⟨?_⟩
          have h58 : a1.tmps[58]?.getD undef = .int .i64 (x : Int) := by assumption
          have h61 : a1.tmps[61]?.getD undef = .int .i64 (B1 : Int) := by assumption
          have hgd : a1.tmps[54]?.getD undef = .bool false := by assumption
          rw [if_pos (wanted_yes (j := 5) (b := false) rfl rfl rfl hgd)]
          go_simp
          exact hK.out _ _ (Below.refl _ _) (by first | rfl | exact congrArg Value.bool (decide_eq_false (by omega)))
        · intro a1 w2 hb hs K hK
          repeat (intro _)
          refine ⟨?_⟩
          have h54 : a1.tmps[54]?.getD undef = .bool false := by assumption
          have h62 : a1.tmps[62]?.getD undef = .bool false := by assumption
          rw [if_pos (by rfl)]
          go_simp
          exact hK.out _ _ (Below.refl _ _) rfl
        · intro a1 w2 hb hs K hK
          repeat (intro _)
          refine ⟨?_⟩
          have h63 : a1.tmps[63]?.getD undef = .bool false := by assumption
          rw [if_pos (by rfl)]
          go_simp
          exact hK.out _ _ (Below.refl _ _) rfl
        · intro a1 w2 hb hs K hK
          repeat (intro _)
          refine ⟨?_⟩
          have h13 : a1.tmps[13]?.getD undef = .int .i64 (k : Int) := hs 13 (by kernel_rfl)
          have hgd : a1.tmps[64]?.getD undef = .bool false := by assumption
          rw [if_pos (wanted_yes (j := 15) (b := false) rfl rfl rfl hgd)]
          go_simp
          exact hK.out _ _ (Below.refl _ _) rfl
        · intro a1 w2 hb hs K hK
          repeat (intro _)
          refine ⟨?_⟩
          have h65 : a1.tmps[65]?.getD undef = .int .i64 (k : Int) := by assumption
          have hgd : a1.tmps[64]?.getD undef = .bool false := by assumption
          rw [if_pos (wanted_yes (j := 15) (b := false) rfl rfl rfl hgd)]
          go_simp
          exact hK.out _ _ (Below.refl _ _) rfl
        · intro a1 w2 hb hs K hK
          repeat (intro _)
          refine ⟨?_⟩
          have h10 : a1.tmps[10]?.getD undef = .slice (some ⟨bl, ol, none⟩) nb cl := hs 10 (by kernel_rfl)
          have hgd : a1.tmps[64]?.getD undef = .bool false := by assumption
          rw [if_pos (wanted_yes (j := 15) (b := false) rfl rfl rfl hgd)]
          go_simp
          exact hK.out _ _ (Below.refl _ _) rfl
        · intro a1 w2 hb hs K hK
          repeat (intro _)
          refine ⟨?_⟩
          have h67 : a1.tmps[67]?.getD undef = .slice (some ⟨bl, ol, none⟩) nb cl := by assumption
          have hgd : a1.tmps[64]?.getD undef = .bool false := by assumption
          rw [if_pos (wanted_yes (j := 15) (b := false) rfl rfl rfl hgd)]
          go_simp
          exact hK.out _ _ (Below.refl _ _) rfl
        · intro a1 w2 hb hs K hK
          repeat (intro _)
          refine ⟨?_⟩
          have h66 : a1.tmps[66]?.getD undef = .int .i64 ((k : Int) + 1) := by assumption
          have h68 : a1.tmps[68]?.getD undef = .int .i64 (nb : Int) := by assumption
          have hgd : a1.tmps[64]?.getD undef = .bool false := by assumption
          rw [if_pos (wanted_yes (j := 15) (b := false) rfl rfl rfl hgd)]
          go_simp
          exact hK.out _ _ (Below.refl _ _) (by first | rfl | exact congrArg Value.bool (decide_eq_false (by omega)))
        · intro a1 w2 hb hs K hK
          repeat (intro _)
          refine ⟨?_⟩
          have h69 : a1.tmps[69]?.getD undef = .bool false := by assumption
          have hgd : a1.tmps[64]?.getD undef = .bool false := by assumption
          rw [if_pos (wanted_yes (j := 15) (b := false) rfl rfl rfl hgd)]
          go_simp
          exact hK.out _ _ (Below.refl _ _) rfl
        · intro a1 w2 hb hs K hK
          repeat (intro _)
          refine ⟨?_⟩
          have hgd : a1.tmps[70]?.getD undef = .bool (!true) := by assumption
          rw [if_neg (wanted_no (j := 21) (b := true) rfl rfl rfl hgd)]
          exact hK.out _ _ (Below.refl _ _) rfl
        · intro a1 w2 hb hs K hK
          repeat (intro _)
          refine ⟨?_⟩
          have hgd : a1.tmps[70]?.getD undef = .bool (!true) := by assumption
          rw [if_neg (wanted_no (j := 21) (b := true) rfl rfl rfl hgd)]
          exact hK.out _ _ (Below.refl _ _) rfl
        · intro a1 w2 hb hs K hK
          repeat (intro _)
          refine ⟨?_⟩
          have hgd : a1.tmps[70]?.getD undef = .bool (!true) := by assumption
          rw [if_neg (wanted_no (j := 21) (b := true) rfl rfl rfl hgd)]
          exact hK.out _ _ (Below.refl _ _) rfl
        · intro a1 w2 hb hs K hK
          repeat (intro _)
          refine ⟨?_⟩
          have hgd : a1.tmps[70]?.getD undef = .bool (!true) := by assumption
          rw [if_neg (wanted_no (j := 21) (b := true) rfl rfl rfl hgd)]
          exact hK.out _ _ (Below.refl _ _) rfl
        · intro a1 w2 hb hs K hK
          repeat (intro _)
          refine ⟨?_⟩
          have hgd : a1.tmps[70]?.getD undef = .bool (!true) := by assumption
          rw [if_neg (wanted_no (j := 21) (b := true) rfl rfl rfl hgd)]
          exact hK.out _ _ (Below.refl _ _) rfl
        · intro a1 w2 hb hs K hK
          repeat (intro _)
          refine ⟨?_⟩
          have hgd : a1.tmps[70]?.getD undef = .bool (!true) := by assumption
          rw [if_neg (wanted_no (j := 21) (b := true) rfl rfl rfl hgd)]
          exact hK.out _ _ (Below.refl _ _) rfl
        · intro a1 w2 hb hs K hK
          repeat (intro _)
          refine ⟨?_⟩
          have hgd : a1.tmps[70]?.getD undef = .bool (!true) := by assumption
          rw [if_neg (wanted_no (j := 21) (b := true) rfl rfl rfl hgd)]
          exact hK.out _ _ (Below.refl _ _) rfl
        · intro a1 w2 hb hs K hK
          repeat (intro _)
          refine ⟨?_⟩
          have hgd : a1.tmps[70]?.getD undef = .bool (!true) := by assumption
          rw [if_neg (wanted_no (j := 21) (b := true) rfl rfl rfl hgd)]
          exact hK.out _ _ (Below.refl _ _) rfl
        · intro a1 w2 hb hs K hK
          repeat (intro _)
          refine ⟨?_⟩
          have h70 : a1.tmps[70]?.getD undef = .bool false := by assumption
          have h78 : a1.tmps[78]?.getD undef = undef := by assumption
          have hgd : a1.tmps[64]?.getD undef = .bool false := by assumption
          rw [if_pos (wanted_yes (j := 15) (b := false) rfl rfl rfl hgd)]
          go_simp
          exact hK.out _ _ (Below.refl _ _) rfl
        · intro a1 w2 hb hs K hK
          repeat (intro _)
          refine ⟨?_⟩
          have h64 : a1.tmps[64]?.getD undef = .bool false := by assumption
          have h79 : a1.tmps[79]?.getD undef = .bool false := by assumption
          rw [if_pos (by rfl)]
          go_simp
          exact hK.out _ _ (Below.refl _ _) rfl
        intro v0 f0 v1 f1 v2 f2 v3 f3 v4 f4 v5 f5 v6 f6 v7 f7 v8 f8 v9 f9 v10 f10 v11 f11 v12 f12 v13 f13 v14 f14 v15 f15 v16 f16 v17 f17 v18 f18 v19 f19 v20 f20 v21 f21 v22 f22 v23 f23 v24 f24 v25 f25 v26 f26 v27 f27 v28 f28 v29 f29 v30 f30 v31 f31
        refine NoPanic.normal ?_
        simp only [Act.put, List.setIfInBounds_toArray, List.set_cons_zero, List.set_cons_succ]
        obtain rfl : v31 = .bool false := f31
        clear f0 f1 f2 f3 f4 f5 f6 f7 f8 f9 f10 f11 f12 f13 f14 f15 f16 f17 f18 f19 f20 f21 f22 f23 f24 f25 f26 f27 f28 f29 f30
        have HBE := Lib.hid (HB.out.trans (hbE.mono hsz))
        clear hbE
        go_wp2
        go_roundg (nb - (k + 1))
        case measure => omega
        case rel => exact ⟨k + 1, by omega, rfl, by go_num, by rw [HSN.out]; go_num, HBE.out⟩
    · obtain rfl : nb = k := by omega
      have hsum : sumN (blen K1 B1 m1) nb = (m1 + K1 - 1) / K1 := by rw [HNB.out]; exact sum_cost k1.1 k2.1
      obtain ⟨Tq, hT⟩ : ∃ Tq, Tq = (m1 + K1 - 1) / K1 := ⟨_, rfl⟩
      rw [hsum, ← hT]
      have hTl : Tq ≤ 2000000 := by rw [hT]; have := Nat.div_le_self (m1 + K1 - 1) K1; omega
      have hq1 : IntKind.i64.wrap ((m1 : Int) + (K1 : Int)) = (m1 : Int) + (K1 : Int) := by rw [IntKind.wrap_i64]; omega
      have hq2 : IntKind.i64.wrap ((m1 : Int) + (K1 : Int) - 1) = (m1 : Int) + (K1 : Int) - 1 := by rw [IntKind.wrap_i64]; omega
      have hqc : ((m1 : Int) + (K1 : Int) - 1) = ((m1 + K1 - 1 : Nat) : Int) := by omega
      have hq3 : ((m1 : Int) + (K1 : Int) - 1).tdiv (K1 : Int) = (Tq : Int) := by rw [hqc, hT]; rfl
      have hq4 : ((m1 : Int) + (K1 : Int) - 1) / (K1 : Int) = (Tq : Int) := by rw [hqc, hT]; rfl
      have hK0 : ¬ (K1 : Int) = 0 := by omega
      have hw2 : IntKind.i64.wrap ((m1 : Int) + 2) = (m1 : Int) + 2 := by rw [IntKind.wrap_i64]; omega
      clear hqc hsum hT HTOT hlt hk HRl
      have HBL2 := Lib.hid (HB4.out.trans (HB.out.mono HB4.out.size))
      go_wp2_with fail
      rw [show (m1 : Int) + 2 = ((m1 + 2 : Nat) : Int) from by omega]
      refine (pick_any off (m1 + 2) wr (by omega) (by omega)).mono ?_
      rintro e w5 ⟨rfl, rfl⟩
      have ho := pickN_lt (k := off) (n := m1 + 2) (by omega)
      generalize pickN off (m1 + 2) = o at *
      go_wp2_with fail
      rw [show (m1 : Int) + 2 = ((m1 + 2 : Nat) : Int) from by omega]
      refine (pick_any q (m1 + 2) wr (by omega) (by omega)).mono ?_
      rintro e w5 ⟨rfl, rfl⟩
      have hn' := pickN_lt (k := q) (n := m1 + 2) (by omega)
      generalize pickN q (m1 + 2) = n' at *
      clear hq1 hq2 hq3 hq4 hK0 hw2
      obtain ⟨a, b, c, hwh, hcs⟩ := where_cost K1 M1 B1 m1 o n' HE.out (by omega)
      have HWH := Lib.hid hwh; have HCS := Lib.hid hcs
      clear hwh hcs
      have HSr := Lib.hid (HSH4.out wr HB.out)
      go_wp2_with (refine wpList_loadAt rfl 24 (.tmp 105) rfl ⟨gh, 8, none⟩ rfl #[.int .i64 (K1 : Int), .int .i64 (M1 : Int), .int .i64 (B1 : Int)] _ HSr.out Try.underlying24 rfl (by kernel_rfl) ?_)
      refine (HWH.out wr).mono ?_
      rintro e w6 ⟨rfl, hb6⟩
      have HB6 := Lib.hid hb6
      have HBL3 := Lib.hid (HBL2.out.trans (hb6.mono HBL2.out.size))
      have hc10 : w6.cell? ⟨gh, 10, none⟩ = some (.int .i64 (B1 : Int)) := HSH4.out w6 (HB.out.trans (hb6.mono hsz)) 2 _ rfl
      clear hb6
      have HCUT := Lib.hid (cutp_any A1 c1 o n' l w6 (by rw [← HML.out]; omega) hcm1 (by omega) (by omega) (HO14.out.below (HB.out.trans (HB6.out.mono hsz))))
      have hcl := cutL_length l o n'
      rw [← HML.out] at HCUT hcl
      obtain ⟨e1, he1⟩ : ∃ e1, e1 = min n' (m1 - o) := ⟨_, rfl⟩
      rw [← he1] at hcl HCS
      rw [hcl] at HCUT
      clear hcl
      go_wp2_with fail
      refine HCUT.out.mono ?_
      rintro e w7 ⟨⟨A7, c7, rfl, _⟩, rfl⟩
      have hee : IntKind.i64.wrap ((o : Int) + (e1 : Int)) = (o : Int) + (e1 : Int) := by rw [IntKind.wrap_i64]; omega
      rcases HCS.out with ⟨rfl, rfl, rfl, rfl⟩ | ⟨hp, hos, r1, r2, r3, r4, r5, r6⟩
      · clear he1
        go_wp2
        go_ret
        exact ⟨rfl, HBL3.out⟩
      · obtain ⟨S, hS⟩ : ∃ S, S = K1 * B1 := ⟨_, rfl⟩
        obtain ⟨x1, hx1⟩ : ∃ x1, x1 = a * S := ⟨_, rfl⟩
        obtain ⟨b1, hb1⟩ : ∃ b1, b1 = b - 1 := ⟨_, rfl⟩
        obtain ⟨x2, hx2⟩ : ∃ x2, x2 = b1 * S := ⟨_, rfl⟩
        obtain ⟨x3, hx3⟩ : ∃ x3, x3 = b * S := ⟨_, rfl⟩
        have hSl : S ≤ 254 * 65536 := by rw [hS]; exact Nat.mul_le_mul k1.2 k2.2
        have h23 : x3 = x2 + S := by rw [hx3, hx2, show b = b1 + 1 by omega, Nat.add_mul, Nat.one_mul]
        rw [← hS, ← hb1] at r4
        rw [← hS] at r1 r2 r5
        rw [← hx1] at r1; rw [← hx2] at r4; rw [← hx3] at r5
        have hne : ((o : Int) + (e1 : Int) == (o : Int)) = false := by rw [beq_eq_false_iff_ne]; omega
        have m0 : (K1 : Int) * (B1 : Int) = (S : Int) := by rw [hS]; simp
        have m1' : (a : Int) * (S : Int) = (x1 : Int) := by rw [hx1]; simp
        have m2 : (b1 : Int) * (S : Int) = (x2 : Int) := by rw [hx2]; simp
        have m3 : (b : Int) * (S : Int) = (x3 : Int) := by rw [hx3]; simp
        have v0 : IntKind.i64.wrap (S : Int) = (S : Int) := by rw [IntKind.wrap_i64]; omega
        have v1 : IntKind.i64.wrap (x1 : Int) = (x1 : Int) := by rw [IntKind.wrap_i64]; omega
        have v2 : IntKind.i64.wrap ((x1 : Int) + (c : Int)) = (o : Int) := by rw [IntKind.wrap_i64]; omega
        have v3 : IntKind.i64.wrap ((b : Int) - 1) = (b1 : Int) := by have := HNB.out; rw [IntKind.wrap_i64]; omega
        have v4 : IntKind.i64.wrap (x2 : Int) = (x2 : Int) := by rw [IntKind.wrap_i64]; omega
        have v5 : IntKind.i64.wrap (x3 : Int) = (x3 : Int) := by rw [IntKind.wrap_i64]; omega
        have g1 : (0 : Int) ≤ (c : Int) := by omega
        have g2 : (c : Int) < (S : Int) := by omega
        have g3 : (x2 : Int) < (o : Int) + (e1 : Int) := by omega
        have g4 : (o : Int) + (e1 : Int) ≤ (x3 : Int) := by omega
        have g5 : (b : Int) ≤ (nb : Int) := by have := HNB.out; omega
        clear he1 hS hx1 hb1 hx2 hx3 h23 r1 r2 r3 r4 r5 r6 hp hos hSl
        go_wp2
        go_ret
        exact ⟨rfl, HBL3.out⟩
end Go.Proofs.Ytjaaldandgfkgaa
