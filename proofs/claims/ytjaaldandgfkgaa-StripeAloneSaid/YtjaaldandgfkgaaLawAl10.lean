/- StripeAlone: the law's walk. Conditions: an object that memory bears. -/
import Derived.Test.YtjaaldandgfkgaaAl10
namespace Go.Proofs.Ytjaaldandgfkgaa
open Go.RowKit

set_option maxRecDepth 100000 in
set_option maxHeartbeats 16000000 in
theorem lawAl10 (p : Pln) (A0 : Option Addr) (cd : Nat) (l0 : List Nat) (Pk : Option Addr) (np cp : Nat) (pi : Nat → Int) (xat : Int) (Y : Option Addr) (ly : List Nat) (cY : Nat) (w : World) (hw : p.Wf) (hA : RL w A0 l0) (hlc : l0.length ≤ cd) (hl : l0.length ≤ 140737488351232) (hX : ∀ x ∈ l0, x < 256) (hP : Rd w Pk np (fun i => .int .i64 (pi i))) (_hnp : np * 8 ≤ 140737488351232)
    (hY : RL w Y ly) (hYX : ∀ x ∈ ly, x < 256) (hyl : ly.length ≤ 140737488351232) :
    Calls Try.prog 9 #[.agg #[.int .i64 p.K, .int .i64 p.M, .int .i64 p.B, .int .u8 p.s0, .int .u8 p.s1, .int .u8 p.s2, .int .u8 p.s3, .int .u8 p.s4, .int .u8 p.s5, .int .u8 p.s6, .int .u8 p.s7, .string p.key, .int .i64 p.ep, .int .i64 p.ct, .slice A0 l0.length cd, .slice Pk np cp], .int .i64 xat, .slice Y ly.length cY] w fun e w' => e = .returned (.bool true) ∧ Below w.heap.size w w' := by
  have HY := Lib.hid hY; have HYX := Lib.hid hYX
  obtain ⟨ny, hny⟩ : ∃ ny, ny = ly.length := ⟨_, rfl⟩
  have HNY := Lib.hid hny
  rw [← hny] at hyl ⊢
  clear hY hYX hny
  obtain ⟨nd, hnd⟩ : ∃ nd, nd = l0.length := ⟨_, rfl⟩
  have HND := Lib.hid hnd
  have HA := Lib.hid hA; have HX := Lib.hid hX; have HPI := Lib.hid hP; have HWF := Lib.hid hw
  rw [← hnd] at hl hlc ⊢
  clear hA hX hP hw hnd
  have HBX0 : Hid ((w.alloc (.cells #[.int .i64 p.K, .int .i64 p.M, .int .i64 p.B, .int .u8 p.s0, .int .u8 p.s1, .int .u8 p.s2, .int .u8 p.s3, .int .u8 p.s4, .int .u8 p.s5, .int .u8 p.s6, .int .u8 p.s7, .string p.key, .int .i64 p.ep, .int .i64 p.ct, .slice A0 nd cd, .slice Pk np cp] 64)).heap[w.heap.size]? = some (.cells #[.int .i64 p.K, .int .i64 p.M, .int .i64 p.B, .int .u8 p.s0, .int .u8 p.s1, .int .u8 p.s2, .int .u8 p.s3, .int .u8 p.s4, .int .u8 p.s5, .int .u8 p.s6, .int .u8 p.s7, .string p.key, .int .i64 p.ep, .int .i64 p.ct, .slice A0 nd cd, .slice Pk np cp] 64 (0, 0))) := Lib.hid (heap_alloc_new w _)
  have HB0 : Hid (Below w.heap.size w (w.alloc (.cells #[.int .i64 p.K, .int .i64 p.M, .int .i64 p.B, .int .u8 p.s0, .int .u8 p.s1, .int .u8 p.s2, .int .u8 p.s3, .int .u8 p.s4, .int .u8 p.s5, .int .u8 p.s6, .int .u8 p.s7, .string p.key, .int .i64 p.ep, .int .i64 p.ct, .slice A0 nd cd, .slice Pk np cp] 64))) := Lib.hid ((Below.refl _ _).alloc (Nat.le_refl _) _)
  go_enter Try.func9, Try.ntmps9
  go_wp2_with fail
  refine (awake_any _).mono ?_
  rintro e w1 ⟨rfl, hb1⟩
  have HBX1 : Hid (w1.heap[w.heap.size]? = some (.cells #[.int .i64 p.K, .int .i64 p.M, .int .i64 p.B, .int .u8 p.s0, .int .u8 p.s1, .int .u8 p.s2, .int .u8 p.s3, .int .u8 p.s4, .int .u8 p.s5, .int .u8 p.s6, .int .u8 p.s7, .string p.key, .int .i64 p.ep, .int .i64 p.ct, .slice A0 nd cd, .slice Pk np cp] 64 (0, 0))) := Lib.hid ((hb1.block _ (by simp)).trans HBX0.out)
  have HB1 : Hid (Below w.heap.size w w1) := Lib.hid (HB0.out.trans (hb1.mono HB0.out.size))
  have hz1 : w.heap.size < w1.heap.size := (Array.getElem?_eq_some_iff.1 HBX1.out).1
  clear hb1 HBX0 HB0
  obtain ⟨bx, hbx⟩ : ∃ bx, bx = w.heap.size := ⟨_, rfl⟩
  have HBXE := Lib.hid hbx
  rw [← hbx] at HBX1 hz1 ⊢
  clear hbx
  have HFT := Lib.hid (lfit_any p A0 cd l0 (.slice Pk np cp) w1 rfl (by rw [← HND.out]; exact hl) (by rw [← HND.out]; exact hlc) (HA.out.below HB1.out))
  rw [← HND.out] at HFT
  go_wp2_with (refine wpList_loadAt rfl 64 (.tmp 3) rfl ⟨bx, 0, none⟩ rfl #[.int .i64 p.K, .int .i64 p.M, .int .i64 p.B, .int .u8 p.s0, .int .u8 p.s1, .int .u8 p.s2, .int .u8 p.s3, .int .u8 p.s4, .int .u8 p.s5, .int .u8 p.s6, .int .u8 p.s7, .string p.key, .int .i64 p.ep, .int .i64 p.ct, .slice A0 nd cd, .slice Pk np cp] _ (fun j v hv => by rw [add_zero_addr, cell_of_row w1 bx j _ _ (0, 0) HBX1.out]; simpa using hv) Try.underlying64 rfl (by kernel_rfl) ?_)
  refine HFT.out.mono ?_
  rintro e w2 ⟨A1, c1, rfl, hO1, hb2⟩
  obtain ⟨Z0, hZ0⟩ : ∃ Z0, Z0 = fitH p := ⟨_, rfl⟩
  rw [← hZ0]
  obtain ⟨m1, hm1⟩ : ∃ m1, m1 = fitN p nd := ⟨_, rfl⟩
  rw [← hm1] at hO1 ⊢
  obtain ⟨l, hl1⟩ : ∃ l, l = l0.take m1 := ⟨_, rfl⟩
  rw [← hl1] at hO1
  have hml : m1 = l.length := by rw [hl1, List.length_take, ← HND.out, hm1]; have := fitN_le p nd; omega
  have HM1 := Lib.hid hm1
  have HZ0 := Lib.hid hZ0; have HL1 := Lib.hid hl1; have HML := Lib.hid hml
  have HXL : Hid (∀ x ∈ l, x < 256) := Lib.hid fun x hx => HX.out x (by rw [hl1] at hx; exact List.mem_of_mem_take hx)
  have hm1l : m1 ≤ 1048576 := by rw [hm1]; unfold fitN; omega
  have HO1 := Lib.hid hO1
  have HB2 : Hid (Below w.heap.size w w2) := Lib.hid (HB1.out.trans (hb2.mono HB1.out.size))
  have HBX2 : Hid (w2.heap[bx]? = some (.cells #[.int .i64 p.K, .int .i64 p.M, .int .i64 p.B, .int .u8 p.s0, .int .u8 p.s1, .int .u8 p.s2, .int .u8 p.s3, .int .u8 p.s4, .int .u8 p.s5, .int .u8 p.s6, .int .u8 p.s7, .string p.key, .int .i64 p.ep, .int .i64 p.ct, .slice A0 nd cd, .slice Pk np cp] 64 (0, 0))) := Lib.hid ((hb2.block bx hz1).trans HBX1.out)
  have hz2 : bx < w2.heap.size := Nat.lt_of_lt_of_le hz1 hb2.size
  clear hO1 hb2 hZ0 hl1 hm1 hml HFT HBX1 HB1
  have hcm1 : c1 ≤ maxLen := by
    obtain ⟨A', c', e', _, h4, _⟩ := HO1.out.own.rd
    injection e' with _ _ e3
    omega
  have hlc1 : l.length ≤ c1 := by
    obtain ⟨A', c', e', h4, _⟩ := HO1.out.own.rd
    injection e' with _ _ e3
    omega
  have HH3 := Lib.hid (heap_alloc_new w2 (.cells #[.int .u8 Z0.s0, .int .u8 Z0.s1, .int .u8 Z0.s2, .int .u8 Z0.s3, .int .u8 Z0.s4, .int .u8 Z0.s5, .int .u8 Z0.s6, .int .u8 Z0.s7, .int .i64 Z0.K, .int .i64 Z0.M, .int .i64 Z0.B, .string Z0.key, .int .i64 Z0.size, .int .i64 Z0.idx, .int .i64 Z0.ep, .int .i64 Z0.ct] 42))
  have HB23 := Lib.hid ((Below.refl w2.heap.size w2).alloc (Nat.le_refl _) (.cells #[.int .u8 Z0.s0, .int .u8 Z0.s1, .int .u8 Z0.s2, .int .u8 Z0.s3, .int .u8 Z0.s4, .int .u8 Z0.s5, .int .u8 Z0.s6, .int .u8 Z0.s7, .int .i64 Z0.K, .int .i64 Z0.M, .int .i64 Z0.B, .string Z0.key, .int .i64 Z0.size, .int .i64 Z0.idx, .int .i64 Z0.ep, .int .i64 Z0.ct] 42))
  go_wp2_with (first | (refine wpList_storeNewH rfl (.tmp 7) (.tmp 28) rfl #[.int .u8 Z0.s0, .int .u8 Z0.s1, .int .u8 Z0.s2, .int .u8 Z0.s3, .int .u8 Z0.s4, .int .u8 Z0.s5, .int .u8 Z0.s6, .int .u8 Z0.s7, .int .i64 Z0.K, .int .i64 Z0.M, .int .i64 Z0.B, .string Z0.key, .int .i64 Z0.size, .int .i64 Z0.idx, .int .i64 Z0.ep, .int .i64 Z0.ct] rfl rfl rfl rfl rfl ?_) | (refine wpList_loadH rfl (.tmp 7) rfl w2.heap.size rfl #[.int .u8 Z0.s0, .int .u8 Z0.s1, .int .u8 Z0.s2, .int .u8 Z0.s3, .int .u8 Z0.s4, .int .u8 Z0.s5, .int .u8 Z0.s6, .int .u8 Z0.s7, .int .i64 Z0.K, .int .i64 Z0.M, .int .i64 Z0.B, .string Z0.key, .int .i64 Z0.size, .int .i64 Z0.idx, .int .i64 Z0.ep, .int .i64 Z0.ct] rfl HH3.out ?_))
  obtain ⟨w3, hw3⟩ : ∃ w3, w3 = w2.alloc (.cells #[.int .u8 Z0.s0, .int .u8 Z0.s1, .int .u8 Z0.s2, .int .u8 Z0.s3, .int .u8 Z0.s4, .int .u8 Z0.s5, .int .u8 Z0.s6, .int .u8 Z0.s7, .int .i64 Z0.K, .int .i64 Z0.M, .int .i64 Z0.B, .string Z0.key, .int .i64 Z0.size, .int .i64 Z0.idx, .int .i64 Z0.ep, .int .i64 Z0.ct] 42) := ⟨_, rfl⟩
  rw [← hw3] at HH3 HB23 ⊢
  clear hw3
  obtain ⟨gh, hgh⟩ : ∃ gh, gh = w2.heap.size := ⟨_, rfl⟩
  rw [← hgh] at HH3 HB23 hz2 ⊢
  have HGH := Lib.hid hgh
  clear hgh
  obtain ⟨Z, hZ⟩ : ∃ Z : Hd, Z = { Z0 with size := (l.length : Int), idx := 0 } := ⟨_, rfl⟩
  have HSP := Lib.hid (split_any Z0 A1 c1 l w3 HXL.out (by rw [← HML.out]; omega) hlc1 hcm1 ((own_rl' HO1.out).below (by rw [← HGH.out]; exact HB23.out)))
  rw [← HML.out] at HSP hZ
  rw [← hZ] at HSP
  have HZ := Lib.hid hZ
  refine HSP.out.mono ?_
  rintro e w4 ⟨hb4, _, h4⟩
  obtain ⟨n, hnE⟩ : ∃ n, n = (1 + fK p) + (1 + fM p) := ⟨_, rfl⟩
  obtain ⟨f1, f2, f3, f4⟩ := fit_nums p
  have hn0 : 0 < n := by omega
  have hn2 : n ≤ 255 := by omega
  have hsN : n = shN Z := by
    rw [hZ, HZ0.out, hnE]
    show _ = (1 + (fK p : Int)).toNat + (1 + (fM p : Int)).toNat
    omega
  have HCK : Hid (∀ t : Nat, t < n → checkE { Z with idx := (t : Int) } = 0) := Lib.hid fun t ht => by
    have h1 := fit_check p nd t (by rw [← hnE]; exact ht)
    rw [← HM1.out, ← HZ0.out] at h1
    rw [HZ.out]
    exact h1
  obtain ⟨g, V, T, rfl, hgl, hO⟩ := h4 (by have h5 := HCK.out 0 hn0; rw [hZ] at h5 ⊢; exact h5)
  rw [← hsN] at hO ⊢
  obtain ⟨K1, hK1⟩ : ∃ K1 : Nat, K1 = 1 + fK p := ⟨_, rfl⟩
  obtain ⟨M1, hM1⟩ : ∃ M1 : Nat, M1 = 1 + fM p := ⟨_, rfl⟩
  obtain ⟨B1, hB1⟩ : ∃ B1 : Nat, B1 = 1 + fB p := ⟨_, rfl⟩
  have hZK : Z0.K = (K1 : Int) := by rw [HZ0.out, hK1]; show (1 + (fK p : Int)) = _; omega
  have hZM : Z0.M = (M1 : Int) := by rw [HZ0.out, hM1]; show (1 + (fM p : Int)) = _; omega
  have hZB : Z0.B = (B1 : Int) := by rw [HZ0.out, hB1]; show (1 + (fB p : Int)) = _; omega
  have hKM : (K1 : Int) + (M1 : Int) = (n : Int) := by omega
  have hKn : K1 ≤ n := by omega
  have hKp : 0 < K1 := by omega
  have hBp : 0 < B1 := by omega
  have hK255 : K1 ≤ 254 := by omega
  have hB65 : B1 ≤ 65536 := by omega
  have HSN := Lib.hid hsN
  have HZKT : Hid (Z.K.toNat = K1) := Lib.hid (by rw [hZ]; show Z0.K.toNat = K1; rw [hZK]; rfl)
  have HZBT : Hid (Z.B.toNat = B1) := Lib.hid (by rw [hZ]; show Z0.B.toNat = B1; rw [hZB]; rfl)
  have HCK0 : Hid (checkE Z = 0) := Lib.hid (by
    have h5 := HCK.out 0 hn0
    rw [hZ] at h5 ⊢
    exact h5)
  have hz3 : gh < w3.heap.size := (Array.getElem?_eq_some_iff.1 HH3.out).1
  have HH4 : Hid (w4.heap[gh]? = some (.cells #[.int .u8 Z0.s0, .int .u8 Z0.s1, .int .u8 Z0.s2, .int .u8 Z0.s3, .int .u8 Z0.s4, .int .u8 Z0.s5, .int .u8 Z0.s6, .int .u8 Z0.s7, .int .i64 Z0.K, .int .i64 Z0.M, .int .i64 Z0.B, .string Z0.key, .int .i64 Z0.size, .int .i64 Z0.idx, .int .i64 Z0.ep, .int .i64 Z0.ct] 42 (0, 0))) := Lib.hid ((hb4.block gh hz3).trans HH3.out)
  have HB24 : Hid (Below gh w2 w4) := Lib.hid (HB23.out.trans (hb4.mono (by omega)))
  have hz4 : w3.heap.size ≤ w4.heap.size := hb4.size
  have HBW4 : Hid (Below w.heap.size w w4) := Lib.hid (HB2.out.trans (HB24.out.mono (by rw [HGH.out]; exact HB2.out.size)))
  have HR4 : Hid (RL w4 A1 l) := Lib.hid ((own_rl' HO1.out).below (by rw [← HGH.out]; exact HB24.out))
  have HHC : Hid (∀ w', Below w4.heap.size w4 w' → w'.cell? ⟨gh, 8, none⟩ = some (.int .i64 (K1 : Int)) ∧ w'.cell? ⟨gh, 9, none⟩ = some (.int .i64 (M1 : Int)) ∧ w'.cell? ⟨gh, 10, none⟩ = some (.int .i64 (B1 : Int)) ∧ w'.heap[gh]? = some (.cells #[.int .u8 Z0.s0, .int .u8 Z0.s1, .int .u8 Z0.s2, .int .u8 Z0.s3, .int .u8 Z0.s4, .int .u8 Z0.s5, .int .u8 Z0.s6, .int .u8 Z0.s7, .int .i64 Z0.K, .int .i64 Z0.M, .int .i64 Z0.B, .string Z0.key, .int .i64 Z0.size, .int .i64 Z0.idx, .int .i64 Z0.ep, .int .i64 Z0.ct] 42 (0, 0))) := Lib.hid fun w' hb => by
    have h1 := (hb.block gh (by omega)).trans HH4.out
    refine ⟨?_, ?_, ?_, h1⟩
    · rw [cell_of_row w' gh 8 _ _ (0, 0) h1, ← hZK]; rfl
    · rw [cell_of_row w' gh 9 _ _ (0, 0) h1, ← hZM]; rfl
    · rw [cell_of_row w' gh 10 _ _ (0, 0) h1, ← hZB]; rfl
  obtain ⟨c8, c9, c10, _⟩ := HHC.out w4 (Below.refl _ _)
  rw [HZKT.out, HZBT.out] at hO
  have HO := Lib.hid hO
  obtain ⟨LA, ld, hlc⟩ := hO.listc hn0
  rw [Nat.zero_mul, Nat.zero_add, spL_len, ← HML.out] at hlc
  clear h4 hb4 hO hZ hnE hsN hK1 hM1 hB1 hZK hZM hZB HSP HB23 HH3 HO1 HL1 HH4 HB24 HB2 HBX2 HPI HWF f1 f2 f3 f4
  by_cases hm0 : m1 = 0
  · subst hm0
    have hnb : nblk (K1 * B1) 0 = 0 := by
      rcases Nat.eq_zero_or_pos (nblk (K1 * B1) 0) with h | h
      · exact h
      · have := (lt_nblk (Nat.mul_pos hKp hBp)).1 h
        omega
    rw [hnb] at hlc
    have HBF := HBW4.out
    clear hnb
    go_wp2
    go_ret
    exact ⟨rfl, HBF⟩
  · obtain ⟨S1, hS1⟩ : ∃ S1, S1 = K1 * B1 := ⟨_, rfl⟩
    have hSp : 0 < S1 := by rw [hS1]; exact Nat.mul_pos hKp hBp
    have hSb : S1 ≤ 16646144 := by rw [hS1]; exact Nat.mul_le_mul hK255 hB65
    have hmul : (K1 : Int) * (B1 : Int) = (S1 : Int) := by rw [hS1]; exact (Int.natCast_mul _ _).symm
    have hm1p : 0 < m1 := by omega
    have hm1ne : ((m1 : Int) == 0) = false := by rw [beq_eq_false_iff_ne]; omega
    have HSS := Lib.hid hS1
    have HPK := Lib.hid (pick_any xat m1 w4 hm1p (by omega))
    clear hS1 hlc hm0
    go_wp2_with fail
    refine HPK.out.mono ?_
    rintro e w5 ⟨rfl, rfl⟩
    have hal := pickN_lt (k := xat) hm1p
    obtain ⟨a, hae⟩ : ∃ a, a = pickN xat m1 := ⟨_, rfl⟩
    rw [← hae] at hal ⊢
    clear HPK hae
    obtain ⟨j, hj⟩ : ∃ j, j = a / S1 := ⟨_, rfl⟩
    obtain ⟨J1, hJ1⟩ : ∃ J1, J1 = j * S1 := ⟨_, rfl⟩
    obtain ⟨E1, hE1⟩ : ∃ E1, E1 = (j + 1) * S1 := ⟨_, rfl⟩
    obtain ⟨en, hen⟩ : ∃ en, en = min m1 E1 := ⟨_, rfl⟩
    have hJE : E1 = J1 + S1 := by rw [hE1, hJ1, Nat.add_mul, Nat.one_mul]
    have hJa : J1 ≤ a := by rw [hJ1, hj]; exact Nat.div_mul_le_self a S1
    have haE : a < E1 := by
      have h1 := Nat.mod_lt a hSp
      have h2 := Nat.div_add_mod a S1
      rw [← hj, Nat.mul_comm, ← hJ1] at h2
      omega
    have hjb : j ≤ 1048576 := by rw [hj]; exact Nat.le_trans (Nat.div_le_self _ _) (by omega)
    have hq1 : (a : Int).tdiv (S1 : Int) = (j : Int) := by rw [hj]; exact Int.ofNat_tdiv a S1 |>.symm
    have hS0 : (S1 : Int) ≠ 0 := by omega
    have hj1 : IntKind.i64.wrap ((j : Int) + 1) = ((j : Int) + 1) := i64_small _ (by omega) (by omega)
    have hmul2 : ((j : Int) + 1) * (S1 : Int) = (E1 : Int) := by rw [hE1, Int.natCast_mul]; rfl
    have hmul3 : (j : Int) * (S1 : Int) = (J1 : Int) := by rw [hJ1, Int.natCast_mul]
    have hmin : min (m1 : Int) (E1 : Int) = (en : Int) := by rw [hen]; omega
    have haen : a < en := by omega
    have henm : en ≤ m1 := by omega
    have hEb : E1 ≤ 20000000 := by omega
    have hw2 : IntKind.i64.wrap (E1 : Int) = (E1 : Int) := i64_small _ (by omega) (by omega)
    have HJ := Lib.hid hj; have HJ1 := Lib.hid hJ1
    have HEN := Lib.hid hen; have HJE := Lib.hid hJE
    obtain ⟨bA, oA, hA1⟩ : ∃ b o, A1 = some ⟨b, o, none⟩ := rl_some HR4.out (by rw [← HML.out]; exact hm1p)
    subst hA1
    have HSRC : Hid (Rd w4 (some ⟨bA, oA, none⟩) m1 (fun i => .int .u8 ((l.getD i 0 : Nat) : Int))) := Lib.hid (by rw [HML.out]; exact HR4.out)
    clear hj hJ1 hE1 hen hJE
    have hs2 : (m1 : Int) ≤ (c1 : Int) := by have := HML.out; omega
    go_wp2_with (at_builtin; refine wpList_appendRd rfl (.const (.slice none 0 0)) (.tmp 80) 43 rfl w4.heap.size 5 1 (.int .u8 0) Try.underlying43 byteInfo rfl rfl (Nat.le_refl _) (some ⟨bA, oA, none⟩) m1 c1 (fun i => .int .u8 ((l.getD i 0 : Nat) : Int)) rfl HSRC.out (fun _ _ => rfl) (by omega) (by omega) ?_)
    intro v5 w5 hown5 hb5
    obtain ⟨ob, co, rfl, hobB, hobl, hmco, _⟩ := hown5.form hm1p
    obtain ⟨cn, hcn⟩ : ∃ cn, cn = min ny (en - a) := ⟨_, rfl⟩
    have hcn1 : cn ≤ ny := by omega
    have hcn2 : a + cn ≤ en := by omega
    have HT5 : Hid (Own w5 w4.heap.size 5 1 (.slice (some ⟨ob, 0, none⟩) m1 co) m1 (fun p => [.int .u8 ((tuF (fun p => l.getD p 0) (fun i => ly.getD i 0) a 0 p : Nat) : Int)])) := Lib.hid (hown5.congr fun p _ => by rw [tuF_zero]; rfl)
    have HB5 : Hid (Below w4.heap.size w4 w5) := Lib.hid hb5
    have HCN := Lib.hid hcn
    clear hown5 hb5 hcn
    go_wp2
    go_loopg [15] cn (fun gk vi wr => ∃ i : Nat, i ≤ cn ∧ gk = cn - i ∧ vi = .int .i64 i ∧ Own wr w4.heap.size 5 1 (.slice (some ⟨ob, 0, none⟩) m1 co) m1 (fun p => [.int .u8 ((tuF (fun p => l.getD p 0) (fun i => ly.getD i 0) a i p : Nat) : Int)]) ∧ Below w4.heap.size w4 wr)
    case atStart => exact ⟨0, Nat.zero_le _, rfl, rfl, HT5.out, HB5.out⟩
    case round =>
      clear HT5 HB5
      obtain ⟨i, hi, rfl, rfl, hT, hb⟩ := hrel
      by_cases hlt : i < cn
      · have hin : i < ny := by omega
        have hie : a + i < en := by omega
        have haim : a + i < m1 := by omega
        obtain ⟨bY, oY, hYe, hbY, hyc⟩ := HY.out i (by rw [← HNY.out]; exact hin)
        subst hYe
        obtain ⟨y, hy⟩ : ∃ y, y = ly.getD i 0 := ⟨_, rfl⟩
        obtain ⟨x, hx⟩ : ∃ x, x = l.getD (a + i) 0 := ⟨_, rfl⟩
        have hy2 : y < 256 := by rw [hy]; exact getD_lt HYX.out (by rw [← HNY.out]; exact hin)
        have hx2 : x < 256 := by rw [hx]; exact getD_lt HXL.out (by rw [← HML.out]; exact haim)
        have hcy : wr.cell? ⟨bY, oY + i, none⟩ = some (.int .u8 (y : Nat)) := by
          rw [hy]
          exact ((HBW4.out.trans (hb.mono HBW4.out.size)).cell hbY).trans hyc
        have hcx : wr.cell? ⟨ob, a + i, none⟩ = some (.int .u8 (x : Nat)) := by
          rw [hT.cell1 haim, tuF_at, hx]
        have hfz : wr.frozen? ⟨ob, a + i, none⟩ = false := own_free hT _
        obtain ⟨z, hz⟩ : ∃ z, z = x ^^^ y := ⟨_, rfl⟩
        have hxor : bits .xor .u8 (x : Int) (y : Int) = ((z : Nat) : Int) := by rw [hz]; exact u8_xor_nat x y hx2 hy2
        have HT2 := Lib.hid ((hT.set1 haim (.int .u8 ((z : Nat) : Int))).congr (g := fun p => [.int .u8 ((tuF (fun p => l.getD p 0) (fun i => ly.getD i 0) a (i + 1) p : Nat) : Int)]) fun p _ => by
          rw [tuF_next]
          by_cases e : p = a + i
          · rw [if_pos e, if_pos e, hz, hx, hy]
          · rw [if_neg e, if_neg e])
        have HB2' := Lib.hid (hb.setCell (p := ⟨ob, a + i, none⟩) hobB (.int .u8 ((z : Nat) : Int)))
        obtain ⟨ai, hai⟩ : ∃ ai, ai = a + i := ⟨_, rfl⟩
        have hadd : (a : Int) + (i : Int) = (ai : Int) := by omega
        have hwai : IntKind.i64.wrap (ai : Int) = (ai : Int) := i64_small _ (by omega) (by omega)
        have haim : ai < m1 := by omega
        have hai0 : (0 : Int) ≤ (ai : Int) := by omega
        have hai1 : (ai : Int) < (m1 : Int) := by omega
        have haie : ai < en := by omega
        rw [← hai] at hcx hfz HT2 HB2'
        have KS : Hid (wr.cell? ⟨ob, ai, none⟩ = some (.int .u8 (x : Nat)) ∧ wr.cell? ⟨bY, oY + i, none⟩ = some (.int .u8 (y : Nat))) := Lib.hid ⟨hcx, hcy⟩
        have HAI := Lib.hid hai
        clear hT hb hyc hx hy hz hai hie
        go_wp2_with fail
        clear hcy hcx
        refine wp_region_mix [(true, true, false), (true, true, false), (true, true, false), (true, true, false), (true, true, false), (true, true, false), (true, true, false), (true, true, false), (true, true, false), (true, true, true), (true, true, false), (true, true, false), (true, true, false), (true, true, true), (true, true, false), (true, true, false), (false, false, true)] mixed (by kernel_rfl) (fun w4 => w4.cell? ⟨ob, ai, none⟩ = some (.int .u8 (x : Nat)) ∧ w4.cell? ⟨bY, oY + i, none⟩ = some (.int .u8 (y : Nat))) (KS.out) ?_
        intro hSw0
        simp only [hdM, tlM, List.cons_append, List.nil_append]
        repeat (first
          | (refine mix_look hSw0.out ?_ (by rfl) (fun w4 hSw => ?_) ?_; rotate_left; (focus (obtain ⟨s1, s2⟩ := hSw; go_simp; try with_reducible rfl)); simp only [Act.put, List.setIfInBounds_toArray, List.set_cons_zero, List.set_cons_succ])
          | (refine mix_pure ?_ (by rfl) (fun w4 => ?_) ?_; rotate_left; (focus (go_simp; try with_reducible rfl)); simp only [Act.put, List.setIfInBounds_toArray, List.set_cons_zero, List.set_cons_succ]))
        have hy5 := KS.out.1
        refine mix_step (fun K hK => ?_)
        go_simp
        refine hK.out _ _ (fun h => absurd h (by decide)) ?_
        clear hK K
        try simp only [Act.put, List.setIfInBounds_toArray, List.set_cons_zero, List.set_cons_succ]
        refine mix_nil ?_
        clear hy5
        go_wp2
        go_roundg (cn - (i + 1))
        case measure => omega
        case rel => exact ⟨i + 1, by omega, rfl, by go_num, (HT2.out.kept (Below.refl _ _).drew), HB2'.out.drew⟩
      · obtain rfl : cn = i := by omega
        have hend : ny ≤ cn ∨ (cn < ny ∧ en ≤ a + cn) := by have := HCN.out; omega
        have HT := Lib.hid hT; have HB := Lib.hid hb
        clear hT hb
        obtain ⟨xx, hxx⟩ : ∃ xx, xx = a - J1 := ⟨_, rfl⟩
        obtain ⟨lg, hlg⟩ : ∃ lg, lg = en - J1 := ⟨_, rfl⟩
        obtain ⟨lk, hlk⟩ : ∃ lk, lk = lg + K1 := ⟨_, rfl⟩
        obtain ⟨lm, hlm⟩ : ∃ lm, lm = lk - 1 := ⟨_, rfl⟩
        obtain ⟨bl, hbl⟩ : ∃ bl, bl = lm / K1 := ⟨_, rfl⟩
        obtain ⟨row, hrow⟩ : ∃ row, row = xx / bl := ⟨_, rfl⟩
        have hlg1 : 0 < lg := by omega
        have hbl1 : 0 < bl := by rw [hbl]; exact Nat.div_pos (by omega) hKp
        have hblm : bl ≤ lm := by rw [hbl]; exact Nat.div_le_self _ _
        have hrx : row ≤ xx := by rw [hrow]; exact Nat.div_le_self _ _
        have hlgb : lg ≤ 1048576 := by omega
        have hI1 : (a : Int) - (J1 : Int) = (xx : Int) := by omega
        have hI2 : (en : Int) - (J1 : Int) = (lg : Int) := by omega
        have hI3 : (lg : Int) + (K1 : Int) = (lk : Int) := by omega
        have hI4 : (lk : Int) - 1 = (lm : Int) := by omega
        have hI5 : (lm : Int).tdiv (K1 : Int) = (bl : Int) := by rw [hbl]; exact (Int.ofNat_tdiv lm K1).symm
        have hI6 : (xx : Int).tdiv (bl : Int) = (row : Int) := by rw [hrow]; exact (Int.ofNat_tdiv xx bl).symm
        have hN1 : (K1 : Int) ≠ 0 := by omega
        have hN2 : (bl : Int) ≠ 0 := by omega
        have hxxb : xx ≤ 1048576 := by omega
        have hlkb : lk ≤ 2000000 := by omega
        have hlmb : lm ≤ 2000000 := by omega
        have hblb : bl ≤ 2000000 := by omega
        have hrwb : row ≤ 2000000 := by omega
        have hW0 : IntKind.i64.wrap (J1 : Int) = (J1 : Int) := i64_small _ (by omega) (by omega)
        have hW1 : IntKind.i64.wrap (xx : Int) = (xx : Int) := i64_small _ (by omega) (by omega)
        have hW2 : IntKind.i64.wrap (lg : Int) = (lg : Int) := i64_small _ (by omega) (by omega)
        have hW3 : IntKind.i64.wrap (lk : Int) = (lk : Int) := i64_small _ (by omega) (by omega)
        have hW4 : IntKind.i64.wrap (lm : Int) = (lm : Int) := i64_small _ (by omega) (by omega)
        have hW5 : IntKind.i64.wrap (bl : Int) = (bl : Int) := i64_small _ (by omega) (by omega)
        have hW6 : IntKind.i64.wrap (row : Int) = (row : Int) := i64_small _ (by omega) (by omega)
        obtain ⟨NB, hNB⟩ : ∃ NB, NB = nblk (K1 * B1) m1 := ⟨_, rfl⟩
        have hjn0 : j < nblk (K1 * B1) m1 := (lt_nblk (Nat.mul_pos hKp hBp)).2 (by rw [← HSS.out, ← HJ1.out]; omega)
        have HJN : Hid (j < NB) := Lib.hid (by rw [hNB]; exact hjn0)
        have hblE : blen K1 B1 m1 j = bl := by
          rw [blen_lng hKp hBp hjn0, hbl, hlm, hlk, hlg]
          unfold lng
          rw [← HSS.out, ← HJ1.out]
          congr 2
          have := HEN.out
          have := HJE.out
          omega
        have HROW : Hid (row = (a - a / (K1 * B1) * (K1 * B1)) / blen K1 B1 m1 (a / (K1 * B1))) := Lib.hid (by
          have h1 := HJ.out
          rw [HSS.out] at h1
          rw [← h1, hblE, ← HSS.out, ← HJ1.out, ← hxx]
          exact hrow)
        have hco : m1 ≤ co ∧ co ≤ maxLen := by
          obtain ⟨A', c', e', h4, h5, _⟩ := HT.out.rd
          injection e' with _ _ e3
          omega
        obtain ⟨l', hl'⟩ : ∃ l', l' = mkL m1 (tuF (fun p => l.getD p 0) (fun i => ly.getD i 0) a cn) := ⟨_, rfl⟩
        have hll' : l'.length = m1 := by rw [hl']; exact mkL_length _ _
        have hlE : l'.length = l.length := hll'.trans HML.out
        have hXl' : ∀ x ∈ l', x < 256 := by
          rw [hl']
          refine mkL_lt fun p hp => tuF_lt (getD_lt HXL.out (by rw [← HML.out]; exact hp)) fun q hq => getD_lt HYX.out (by rw [← HNY.out]; omega)
        have hRl' : RL wr (some ⟨ob, 0, none⟩) l' := by
          rw [hl']
          obtain ⟨A', c', e', _, _, h6, _⟩ := HT.out.rd
          injection e' with e1 _ _
          rw [e1]
          exact rl_of_rd h6
        have HSP2 := Lib.hid (split_any Z0 (some ⟨ob, 0, none⟩) co l' wr hXl' (by omega) (by omega) hco.2 hRl')
        rw [hll', ← HZ.out] at HSP2
        have HHr := Lib.hid (HHC.out wr HB.out).2.2.2
        have HZS : Hid (Z.size = (l.length : Int)) := Lib.hid (by rw [HZ.out]; show ((m1 : Nat) : Int) = _; rw [HML.out])
        have HLN : Hid (∀ i, i < n → (spL K1 B1 l i).length = NB) := Lib.hid fun i _ => by rw [spL_len, ← HML.out, hNB]
        have HL1 : Hid (∀ i, i < n → (spL K1 B1 l i).length ≤ 4097) := Lib.hid fun i _ => by
          have h1 := spl_len l HCK0.out HZS.out i
          rw [HZKT.out, HZBT.out] at h1
          omega
        have hNBb : NB ≤ 4097 := by rw [← HLN.out 0 hn0]; exact HL1.out 0 hn0
        have HL2 : Hid (∀ i, i < n → ∀ y ∈ spL K1 B1 l i, y.length ≤ 65536) := Lib.hid fun i _ y hy => by
          refine spl_row l HCK0.out i y ?_
          rw [HZKT.out, HZBT.out]
          exact hy
        have HL3 : Hid (∀ i, i < n → (spL K1 B1 l' i).length = (spL K1 B1 l i).length ∧ ∀ j, j < (spL K1 B1 l i).length → ((spL K1 B1 l' i).getD j []).length = ((spL K1 B1 l i).getD j []).length) := Lib.hid fun i _ => by
          refine ⟨by rw [spL_len, spL_len, hlE], fun j hj => ?_⟩
          rw [spL_len] at hj
          rw [spL_get hj, spL_get (by rw [hlE]; exact hj), spB_length, spB_length, hlE]
        have HGD : Hid (∀ p, p < a ∨ a + cn ≤ p → l'.getD p 0 = l.getD p 0) := Lib.hid fun p hp => by
          by_cases h1 : p < m1
          · rw [hl', mkL_get h1, tuF_off hp]
          · rw [getD_none (by omega), getD_none (by have := HML.out; omega)]
        have HUN : Hid (∀ i c, c < NB → c ≠ j → unD (fun t => spL K1 B1 l t) (fun t => spL K1 B1 l' t) i c = 0) := Lib.hid fun i c hc hcj => by
          refine unD_off hKp hBp hlE (by rw [← HML.out, ← hNB]; exact hc) hcj fun p hp => HGD.out p ?_
          rw [← HSS.out] at hp
          rcases Nat.lt_or_ge p a with h1 | h1
          · exact .inl h1
          · right
            rcases Nat.lt_or_ge p E1 with h2 | h2
            · exfalso
              refine hp ?_
              have h3 := HJE.out
              have h4 := HJ1.out
              have h5 : p = j * S1 + (p - J1) := by omega
              rw [h5, pos_div (by omega)]
            · omega
        have HL9 := Lib.hid hl'
        have HLE := Lib.hid hlE; have HXL' := Lib.hid hXl'
        clear hxx hlg hlk hlm hbl hrow hNB hjn0 hblE hco hl' hll' hlE hXl' hRl' hblm hrx
        rcases hend with hend | ⟨hend1, hend2⟩
        · obtain rfl : cn = ny := by omega
          have hcny : ¬ (cn : Int) < (cn : Int) := by omega
          by_cases hn1 : cn = 1
          · have hn1I : ((cn : Int) == 1) = true := by rw [beq_iff_eq]; omega
            obtain ⟨bY, oY, hYe, hbY, hyc⟩ := HY.out 0 (by rw [← HNY.out]; omega)
            subst hYe
            obtain ⟨y, hy⟩ : ∃ y, y = ly.getD 0 0 := ⟨_, rfl⟩
            have hcy : wr.cell? ⟨bY, oY, none⟩ = some (.int .u8 (y : Nat)) := by
              rw [hy]
              exact ((HBW4.out.trans (HB.out.mono HBW4.out.size)).cell (p := ⟨bY, oY + 0, none⟩) hbY).trans hyc
            have hcnp : (0 : Int) < (cn : Int) := by omega
            by_cases hy0 : y = 0
            · have hy0I : ((y : Int) != 0) = false := by rw [hy0]; rfl
              clear hy0 hy hyc hbY hn1 hend HCN
              have c8r := (HHC.out wr HB.out).1
              go_wp2_with (refine wpList_loadH rfl (.tmp 7) rfl gh rfl #[.int .u8 Z0.s0, .int .u8 Z0.s1, .int .u8 Z0.s2, .int .u8 Z0.s3, .int .u8 Z0.s4, .int .u8 Z0.s5, .int .u8 Z0.s6, .int .u8 Z0.s7, .int .i64 Z0.K, .int .i64 Z0.M, .int .i64 Z0.B, .string Z0.key, .int .i64 Z0.size, .int .i64 Z0.idx, .int .i64 Z0.ep, .int .i64 Z0.ct] rfl HHr.out ?_)
              refine HSP2.out.mono ?_
              rintro e w6 ⟨hb6, _, h6⟩
              obtain ⟨g2, V2, T2, rfl, hg2l, hO6⟩ := h6 HCK0.out
              rw [← HSN.out] at hO6 ⊢
              rw [HZKT.out, HZBT.out] at hO6
              have HB6 := Lib.hid (HB.out.trans (hb6.mono HB.out.size))
              have HU6 := Lib.hid (unlikeS_any (some ⟨g, 0, none⟩) (some ⟨g2, 0, none⟩) n n n _ _ _ _ w6 (by omega) HL1.out HL2.out HL3.out (HO.out.rsd.below HB6.out) hO6.rsd)
              clear hb6 h6 hO6 HSP2 HHr c8r
              go_wp2_with fail
              refine HU6.out.mono ?_
              rintro e w7 ⟨AD, cD, rfl, hRD, hb7⟩
              obtain ⟨SD, CD, hD1, hD2⟩ := hRD
              have HD1 : Hid (Rd w7 AD n (fun i => .slice (SD i) NB (CD i))) := Lib.hid (hD1.congr fun i hi => by dsimp only; rw [HLN.out i hi])
              have HD2 : Hid (∀ i, i < n → ∀ c, c < NB → ∃ b o, SD i = some ⟨b, o, none⟩ ∧ b < w7.heap.size ∧ w7.cell? ⟨b, o + c, none⟩ = some (.int .i64 ((unD (fun t => spL K1 B1 l t) (fun t => spL K1 B1 l' t) i c : Nat) : Int))) := Lib.hid fun i hi c hc => hD2 i hi c (by dsimp only; rw [HLN.out i hi]; exact hc)
              have HB7 := Lib.hid (HB6.out.trans (hb7.mono HB6.out.size))
              clear hD1 hD2 hb7 HU6
              go_wp2
              go_loopg [21, 22] n (fun gk vi _ wr => ∃ i : Nat, i ≤ n ∧ gk = n - i ∧ vi = .int .i64 i ∧ Below w7.heap.size w7 wr)
              case atStart => exact ⟨0, Nat.zero_le _, rfl, rfl, Below.refl _ _⟩
              case round =>
                obtain ⟨i, hi, rfl, rfl, hb⟩ := hrel
                by_cases hlt : i < n
                · obtain ⟨bD, oD, hAD, hbD, hcD⟩ := HD1.out i hlt
                  subst hAD
                  have hcd : wr.cell? ⟨bD, oD + i, none⟩ = some (.slice (SD i) NB (CD i)) := (hb.cell hbD).trans hcD
                  obtain ⟨S9, hS9⟩ : ∃ S9, S9 = SD i := ⟨_, rfl⟩
                  obtain ⟨C9, hC9⟩ : ∃ C9, C9 = CD i := ⟨_, rfl⟩
                  rw [← hS9, ← hC9] at hcd
                  have HS9 := Lib.hid hS9
                  have HCD : Hid (∀ w', Below wr.heap.size wr w' → w'.cell? ⟨bD, oD + i, none⟩ = some (.slice S9 NB C9)) := Lib.hid fun w' hb' => by
                    rw [hS9, hC9]
                    exact ((hb.trans (hb'.mono hb.size)).cell hbD).trans hcD
                  have HBr := Lib.hid hb
                  clear hb hbD hcD hS9 hC9
                  go_wp2
                  go_loopg [22] NB (fun gk vc wr' => ∃ c : Nat, c ≤ NB ∧ gk = NB - c ∧ vc = .int .i64 c ∧ Below wr.heap.size wr wr')
                  case atStart => exact ⟨0, Nat.zero_le _, rfl, rfl, Below.refl _ _⟩
                  case round =>
                    clear hcd
                    obtain ⟨c, hc, rfl, rfl, hb⟩ := hrel
                    have hcd := HCD.out _ hb
                    replace HBr := Lib.hid (HBr.out.trans (hb.mono HBr.out.size))
                    by_cases hlc : c < NB
                    · obtain ⟨br, or, hS, hbr, hcr⟩ := HD2.out i hlt c hlc
                      rw [← HS9.out] at hS
                      subst hS
                      replace hcr := (HBr.out.cell hbr).trans hcr
                      have HBn := Lib.hid hb
                      by_cases hcj : c = j
                      · have hcjI : ((c : Int) != (j : Int)) = false := by rw [hcj]; simp
                        clear hcj hb hbr hcr
                        go_wp2
                        go_roundg (NB - (c + 1))
                        case measure => omega
                        case rel => exact ⟨c + 1, by omega, rfl, by go_num, HBn.out⟩
                      · have hcjI : ((c : Int) != (j : Int)) = true := by rw [bne_iff_ne]; omega
                        rw [HUN.out i c hlc hcj] at hcr
                        have t1 : ((((0 : Nat) : Int)) != 0) = false := by decide
                        clear hcj hb hbr
                        go_wp2
                        go_roundg (NB - (c + 1))
                        case measure => omega
                        case rel => exact ⟨c + 1, by omega, rfl, by go_num, HBn.out⟩
                    · obtain rfl : NB = c := by omega
                      clear hb
                      go_wp2
                      go_roundg (n - (i + 1))
                      case measure => omega
                      case rel => exact ⟨i + 1, by omega, rfl, by go_num, HBr.out⟩

                · obtain rfl : n = i := by omega
                  have HBF := Lib.hid (HBW4.out.trans ((HB7.out.trans (hb.mono HB7.out.size)).mono HBW4.out.size))
                  clear hb
                  go_wp2
                  go_ret
                  exact ⟨rfl, HBF.out⟩
            · have hy0I : ((y : Int) != 0) = true := by rw [bne_iff_ne]; omega
              have HY0 : Hid (ly.getD 0 0 ≠ 0) := Lib.hid (by rw [← hy]; exact hy0)
              have HON : Hid (∀ i, i < n → unD (fun t => spL K1 B1 l t) (fun t => spL K1 B1 l' t) i j = (if i = row ∨ K1 ≤ i then 1 else 0)) := Lib.hid fun i hi => by
                have h0 := HJ.out
                rw [HSS.out] at h0
                have h1 := unD_one (i := i) (a := a) (l := l) (l' := l') hn2 hKp hKn hBp HLE.out (by rw [← HML.out]; exact hal) HXL.out HXL'.out (fun p hp => HGD.out p (by omega)) (by
                  rw [HL9.out, mkL_get hal]
                  unfold tuF
                  rw [if_pos (by omega), Nat.sub_self]
                  intro e
                  have h2 : l.getD a 0 ^^^ (l.getD a 0 ^^^ ly.getD 0 0) = 0 := by rw [e, Nat.xor_self]
                  rw [← Nat.xor_assoc, Nat.xor_self, Nat.zero_xor] at h2
                  exact HY0.out h2) hi
                rw [← HML.out, ← HROW.out, ← h0] at h1
                exact h1
              clear hy0 hy hyc hbY hn1 hend HCN
              have c8r := (HHC.out wr HB.out).1
              go_wp2_with (refine wpList_loadH rfl (.tmp 7) rfl gh rfl #[.int .u8 Z0.s0, .int .u8 Z0.s1, .int .u8 Z0.s2, .int .u8 Z0.s3, .int .u8 Z0.s4, .int .u8 Z0.s5, .int .u8 Z0.s6, .int .u8 Z0.s7, .int .i64 Z0.K, .int .i64 Z0.M, .int .i64 Z0.B, .string Z0.key, .int .i64 Z0.size, .int .i64 Z0.idx, .int .i64 Z0.ep, .int .i64 Z0.ct] rfl HHr.out ?_)
              refine HSP2.out.mono ?_
              rintro e w6 ⟨hb6, _, h6⟩
              obtain ⟨g2, V2, T2, rfl, hg2l, hO6⟩ := h6 HCK0.out
              rw [← HSN.out] at hO6 ⊢
              rw [HZKT.out, HZBT.out] at hO6
              have HB6 := Lib.hid (HB.out.trans (hb6.mono HB.out.size))
              have HU6 := Lib.hid (unlikeS_any (some ⟨g, 0, none⟩) (some ⟨g2, 0, none⟩) n n n _ _ _ _ w6 (by omega) HL1.out HL2.out HL3.out (HO.out.rsd.below HB6.out) hO6.rsd)
              clear hb6 h6 hO6 HSP2 HHr c8r
              go_wp2_with fail
              refine HU6.out.mono ?_
              rintro e w7 ⟨AD, cD, rfl, hRD, hb7⟩
              obtain ⟨SD, CD, hD1, hD2⟩ := hRD
              have HD1 : Hid (Rd w7 AD n (fun i => .slice (SD i) NB (CD i))) := Lib.hid (hD1.congr fun i hi => by dsimp only; rw [HLN.out i hi])
              have HD2 : Hid (∀ i, i < n → ∀ c, c < NB → ∃ b o, SD i = some ⟨b, o, none⟩ ∧ b < w7.heap.size ∧ w7.cell? ⟨b, o + c, none⟩ = some (.int .i64 ((unD (fun t => spL K1 B1 l t) (fun t => spL K1 B1 l' t) i c : Nat) : Int))) := Lib.hid fun i hi c hc => hD2 i hi c (by dsimp only; rw [HLN.out i hi]; exact hc)
              have HB7 := Lib.hid (HB6.out.trans (hb7.mono HB6.out.size))
              clear hD1 hD2 hb7 HU6
              go_wp2
              go_loopg [21, 22] n (fun gk vi _ wr => ∃ i : Nat, i ≤ n ∧ gk = n - i ∧ vi = .int .i64 i ∧ Below w7.heap.size w7 wr)
              case atStart => exact ⟨0, Nat.zero_le _, rfl, rfl, Below.refl _ _⟩
              case round =>
                obtain ⟨i, hi, rfl, rfl, hb⟩ := hrel
                by_cases hlt : i < n
                · obtain ⟨bD, oD, hAD, hbD, hcD⟩ := HD1.out i hlt
                  subst hAD
                  have hcd : wr.cell? ⟨bD, oD + i, none⟩ = some (.slice (SD i) NB (CD i)) := (hb.cell hbD).trans hcD
                  obtain ⟨S9, hS9⟩ : ∃ S9, S9 = SD i := ⟨_, rfl⟩
                  obtain ⟨C9, hC9⟩ : ∃ C9, C9 = CD i := ⟨_, rfl⟩
                  rw [← hS9, ← hC9] at hcd
                  have HS9 := Lib.hid hS9
                  have HCD : Hid (∀ w', Below wr.heap.size wr w' → w'.cell? ⟨bD, oD + i, none⟩ = some (.slice S9 NB C9)) := Lib.hid fun w' hb' => by
                    rw [hS9, hC9]
                    exact ((hb.trans (hb'.mono hb.size)).cell hbD).trans hcD
                  have HBr := Lib.hid hb
                  clear hb hbD hcD hS9 hC9
                  go_wp2
                  go_loopg [22] NB (fun gk vc wr' => ∃ c : Nat, c ≤ NB ∧ gk = NB - c ∧ vc = .int .i64 c ∧ Below wr.heap.size wr wr')
                  case atStart => exact ⟨0, Nat.zero_le _, rfl, rfl, Below.refl _ _⟩
                  case round =>
                    clear hcd
                    obtain ⟨c, hc, rfl, rfl, hb⟩ := hrel
                    have hcd := HCD.out _ hb
                    replace HBr := Lib.hid (HBr.out.trans (hb.mono HBr.out.size))
                    by_cases hlc : c < NB
                    · obtain ⟨br, or, hS, hbr, hcr⟩ := HD2.out i hlt c hlc
                      rw [← HS9.out] at hS
                      subst hS
                      replace hcr := (HBr.out.cell hbr).trans hcr
                      have HBn := Lib.hid hb
                      by_cases hcj : c = j
                      · have hcjI : ((c : Int) != (j : Int)) = false := by rw [hcj]; simp
                        clear hcj hb hbr hcr
                        go_wp2
                        go_roundg (NB - (c + 1))
                        case measure => omega
                        case rel => exact ⟨c + 1, by omega, rfl, by go_num, HBn.out⟩
                      · have hcjI : ((c : Int) != (j : Int)) = true := by rw [bne_iff_ne]; omega
                        rw [HUN.out i c hlc hcj] at hcr
                        have t1 : ((((0 : Nat) : Int)) != 0) = false := by decide
                        clear hcj hb hbr
                        go_wp2
                        go_roundg (NB - (c + 1))
                        case measure => omega
                        case rel => exact ⟨c + 1, by omega, rfl, by go_num, HBn.out⟩
                    · obtain rfl : NB = c := by omega
                      clear hb
                      have hjN : j < NB := HJN.out
                      obtain ⟨br, or, hS, hbr, hcr⟩ := HD2.out i hlt j hjN
                      rw [← HS9.out] at hS
                      subst hS
                      replace hcr := (HBr.out.cell hbr).trans hcr
                      have hval := HON.out i hlt
                      have c8 := (HHC.out wr (HB7.out.trans (HBr.out.mono HB7.out.size))).1
                      have hNj : ¬ (NB : Int) ≤ (j : Int) := by omega
                      by_cases hir : i = row
                      · rw [if_pos (.inl hir)] at hval
                        rw [hval] at hcr
                        have hirI : (i : Int) = (row : Int) := by omega
                        have t1 : ((((1 : Nat) : Int)) != 1) = false := by decide
                        clear hval hbr
                        subst hir
                        go_wp2
                        go_roundg (n - (i + 1))
                        case measure => omega
                        case rel => exact ⟨i + 1, by omega, rfl, by go_num, HBr.out⟩
                      · have hirI : ((i : Int) == (row : Int)) = false := by rw [beq_eq_false_iff_ne]; omega
                        have hirJ : ((i : Int) != (row : Int)) = true := by rw [bne_iff_ne]; omega
                        by_cases hiK : K1 ≤ i
                        · rw [if_pos (.inr hiK)] at hval
                          rw [hval] at hcr
                          have hiKI : ¬ (i : Int) < (K1 : Int) := by omega
                          clear hval hbr hir
                          go_wp2
                          go_roundg (n - (i + 1))
                          case measure => omega
                          case rel => exact ⟨i + 1, by omega, rfl, by go_num, HBr.out⟩
                        · rw [if_neg (by omega)] at hval
                          rw [hval] at hcr
                          have hiKI : (i : Int) < (K1 : Int) := by omega
                          have hiKJ : ¬ (K1 : Int) ≤ (i : Int) := by omega
                          clear hval hbr hir
                          go_wp2
                          go_roundg (n - (i + 1))
                          case measure => omega
                          case rel => exact ⟨i + 1, by omega, rfl, by go_num, HBr.out⟩

                · obtain rfl : n = i := by omega
                  have HBF := Lib.hid (HBW4.out.trans ((HB7.out.trans (hb.mono HB7.out.size)).mono HBW4.out.size))
                  clear hb
                  go_wp2
                  go_ret
                  exact ⟨rfl, HBF.out⟩
          · have hn1I : ((cn : Int) == 1) = false := by rw [beq_eq_false_iff_ne]; omega
            clear hn1 hend HCN
            have c8r := (HHC.out wr HB.out).1
            go_wp2_with (refine wpList_loadH rfl (.tmp 7) rfl gh rfl #[.int .u8 Z0.s0, .int .u8 Z0.s1, .int .u8 Z0.s2, .int .u8 Z0.s3, .int .u8 Z0.s4, .int .u8 Z0.s5, .int .u8 Z0.s6, .int .u8 Z0.s7, .int .i64 Z0.K, .int .i64 Z0.M, .int .i64 Z0.B, .string Z0.key, .int .i64 Z0.size, .int .i64 Z0.idx, .int .i64 Z0.ep, .int .i64 Z0.ct] rfl HHr.out ?_)
            refine HSP2.out.mono ?_
            rintro e w6 ⟨hb6, _, h6⟩
            obtain ⟨g2, V2, T2, rfl, hg2l, hO6⟩ := h6 HCK0.out
            rw [← HSN.out] at hO6 ⊢
            rw [HZKT.out, HZBT.out] at hO6
            have HB6 := Lib.hid (HB.out.trans (hb6.mono HB.out.size))
            have HU6 := Lib.hid (unlikeS_any (some ⟨g, 0, none⟩) (some ⟨g2, 0, none⟩) n n n _ _ _ _ w6 (by omega) HL1.out HL2.out HL3.out (HO.out.rsd.below HB6.out) hO6.rsd)
            clear hb6 h6 hO6 HSP2 HHr c8r
            go_wp2_with fail
            refine HU6.out.mono ?_
            rintro e w7 ⟨AD, cD, rfl, hRD, hb7⟩
            obtain ⟨SD, CD, hD1, hD2⟩ := hRD
            have HD1 : Hid (Rd w7 AD n (fun i => .slice (SD i) NB (CD i))) := Lib.hid (hD1.congr fun i hi => by dsimp only; rw [HLN.out i hi])
            have HD2 : Hid (∀ i, i < n → ∀ c, c < NB → ∃ b o, SD i = some ⟨b, o, none⟩ ∧ b < w7.heap.size ∧ w7.cell? ⟨b, o + c, none⟩ = some (.int .i64 ((unD (fun t => spL K1 B1 l t) (fun t => spL K1 B1 l' t) i c : Nat) : Int))) := Lib.hid fun i hi c hc => hD2 i hi c (by dsimp only; rw [HLN.out i hi]; exact hc)
            have HB7 := Lib.hid (HB6.out.trans (hb7.mono HB6.out.size))
            clear hD1 hD2 hb7 HU6
            go_wp2
            go_loopg [21, 22] n (fun gk vi _ wr => ∃ i : Nat, i ≤ n ∧ gk = n - i ∧ vi = .int .i64 i ∧ Below w7.heap.size w7 wr)
            case atStart => exact ⟨0, Nat.zero_le _, rfl, rfl, Below.refl _ _⟩
            case round =>
              obtain ⟨i, hi, rfl, rfl, hb⟩ := hrel
              by_cases hlt : i < n
              · obtain ⟨bD, oD, hAD, hbD, hcD⟩ := HD1.out i hlt
                subst hAD
                have hcd : wr.cell? ⟨bD, oD + i, none⟩ = some (.slice (SD i) NB (CD i)) := (hb.cell hbD).trans hcD
                obtain ⟨S9, hS9⟩ : ∃ S9, S9 = SD i := ⟨_, rfl⟩
                obtain ⟨C9, hC9⟩ : ∃ C9, C9 = CD i := ⟨_, rfl⟩
                rw [← hS9, ← hC9] at hcd
                have HS9 := Lib.hid hS9
                have HCD : Hid (∀ w', Below wr.heap.size wr w' → w'.cell? ⟨bD, oD + i, none⟩ = some (.slice S9 NB C9)) := Lib.hid fun w' hb' => by
                  rw [hS9, hC9]
                  exact ((hb.trans (hb'.mono hb.size)).cell hbD).trans hcD
                have HBr := Lib.hid hb
                clear hb hbD hcD hS9 hC9
                go_wp2
                go_loopg [22] NB (fun gk vc wr' => ∃ c : Nat, c ≤ NB ∧ gk = NB - c ∧ vc = .int .i64 c ∧ Below wr.heap.size wr wr')
                case atStart => exact ⟨0, Nat.zero_le _, rfl, rfl, Below.refl _ _⟩
                case round =>
                  clear hcd
                  obtain ⟨c, hc, rfl, rfl, hb⟩ := hrel
                  have hcd := HCD.out _ hb
                  replace HBr := Lib.hid (HBr.out.trans (hb.mono HBr.out.size))
                  by_cases hlc : c < NB
                  · obtain ⟨br, or, hS, hbr, hcr⟩ := HD2.out i hlt c hlc
                    rw [← HS9.out] at hS
                    subst hS
                    replace hcr := (HBr.out.cell hbr).trans hcr
                    have HBn := Lib.hid hb
                    by_cases hcj : c = j
                    · have hcjI : ((c : Int) != (j : Int)) = false := by rw [hcj]; simp
                      clear hcj hb hbr hcr
                      go_wp2
                      go_roundg (NB - (c + 1))
                      case measure => omega
                      case rel => exact ⟨c + 1, by omega, rfl, by go_num, HBn.out⟩
                    · have hcjI : ((c : Int) != (j : Int)) = true := by rw [bne_iff_ne]; omega
                      rw [HUN.out i c hlc hcj] at hcr
                      have t1 : ((((0 : Nat) : Int)) != 0) = false := by decide
                      clear hcj hb hbr
                      go_wp2
                      go_roundg (NB - (c + 1))
                      case measure => omega
                      case rel => exact ⟨c + 1, by omega, rfl, by go_num, HBn.out⟩
                  · obtain rfl : NB = c := by omega
                    clear hb
                    go_wp2
                    go_roundg (n - (i + 1))
                    case measure => omega
                    case rel => exact ⟨i + 1, by omega, rfl, by go_num, HBr.out⟩

              · obtain rfl : n = i := by omega
                have HBF := Lib.hid (HBW4.out.trans ((HB7.out.trans (hb.mono HB7.out.size)).mono HBW4.out.size))
                clear hb
                go_wp2
                go_ret
                exact ⟨rfl, HBF.out⟩
        · obtain ⟨ac, hac⟩ : ∃ ac, ac = a + cn := ⟨_, rfl⟩
          have hacI : (a : Int) + (cn : Int) = (ac : Int) := by omega
          have hacw : IntKind.i64.wrap (ac : Int) = (ac : Int) := i64_small _ (by omega) (by omega)
          have hacn : ¬ (ac : Int) < (en : Int) := by omega
          have hend3 : (cn : Int) < (ny : Int) := by omega
          have hn1I : ((ny : Int) == 1) = false := by rw [beq_eq_false_iff_ne]; omega
          clear hac hend1 hend2 HCN
          have c8r := (HHC.out wr HB.out).1
          go_wp2_with (refine wpList_loadH rfl (.tmp 7) rfl gh rfl #[.int .u8 Z0.s0, .int .u8 Z0.s1, .int .u8 Z0.s2, .int .u8 Z0.s3, .int .u8 Z0.s4, .int .u8 Z0.s5, .int .u8 Z0.s6, .int .u8 Z0.s7, .int .i64 Z0.K, .int .i64 Z0.M, .int .i64 Z0.B, .string Z0.key, .int .i64 Z0.size, .int .i64 Z0.idx, .int .i64 Z0.ep, .int .i64 Z0.ct] rfl HHr.out ?_)
          refine HSP2.out.mono ?_
          rintro e w6 ⟨hb6, _, h6⟩
          obtain ⟨g2, V2, T2, rfl, hg2l, hO6⟩ := h6 HCK0.out
          rw [← HSN.out] at hO6 ⊢
          rw [HZKT.out, HZBT.out] at hO6
          have HB6 := Lib.hid (HB.out.trans (hb6.mono HB.out.size))
          have HU6 := Lib.hid (unlikeS_any (some ⟨g, 0, none⟩) (some ⟨g2, 0, none⟩) n n n _ _ _ _ w6 (by omega) HL1.out HL2.out HL3.out (HO.out.rsd.below HB6.out) hO6.rsd)
          clear hb6 h6 hO6 HSP2 HHr c8r
          go_wp2_with fail
          refine HU6.out.mono ?_
          rintro e w7 ⟨AD, cD, rfl, hRD, hb7⟩
          obtain ⟨SD, CD, hD1, hD2⟩ := hRD
          have HD1 : Hid (Rd w7 AD n (fun i => .slice (SD i) NB (CD i))) := Lib.hid (hD1.congr fun i hi => by dsimp only; rw [HLN.out i hi])
          have HD2 : Hid (∀ i, i < n → ∀ c, c < NB → ∃ b o, SD i = some ⟨b, o, none⟩ ∧ b < w7.heap.size ∧ w7.cell? ⟨b, o + c, none⟩ = some (.int .i64 ((unD (fun t => spL K1 B1 l t) (fun t => spL K1 B1 l' t) i c : Nat) : Int))) := Lib.hid fun i hi c hc => hD2 i hi c (by dsimp only; rw [HLN.out i hi]; exact hc)
          have HB7 := Lib.hid (HB6.out.trans (hb7.mono HB6.out.size))
          clear hD1 hD2 hb7 HU6
          go_wp2
          go_loopg [21, 22] n (fun gk vi _ wr => ∃ i : Nat, i ≤ n ∧ gk = n - i ∧ vi = .int .i64 i ∧ Below w7.heap.size w7 wr)
          case atStart => exact ⟨0, Nat.zero_le _, rfl, rfl, Below.refl _ _⟩
          case round =>
            obtain ⟨i, hi, rfl, rfl, hb⟩ := hrel
            by_cases hlt : i < n
            · obtain ⟨bD, oD, hAD, hbD, hcD⟩ := HD1.out i hlt
              subst hAD
              have hcd : wr.cell? ⟨bD, oD + i, none⟩ = some (.slice (SD i) NB (CD i)) := (hb.cell hbD).trans hcD
              obtain ⟨S9, hS9⟩ : ∃ S9, S9 = SD i := ⟨_, rfl⟩
              obtain ⟨C9, hC9⟩ : ∃ C9, C9 = CD i := ⟨_, rfl⟩
              rw [← hS9, ← hC9] at hcd
              have HS9 := Lib.hid hS9
              have HCD : Hid (∀ w', Below wr.heap.size wr w' → w'.cell? ⟨bD, oD + i, none⟩ = some (.slice S9 NB C9)) := Lib.hid fun w' hb' => by
                rw [hS9, hC9]
                exact ((hb.trans (hb'.mono hb.size)).cell hbD).trans hcD
              have HBr := Lib.hid hb
              clear hb hbD hcD hS9 hC9
              go_wp2
              go_loopg [22] NB (fun gk vc wr' => ∃ c : Nat, c ≤ NB ∧ gk = NB - c ∧ vc = .int .i64 c ∧ Below wr.heap.size wr wr')
              case atStart => exact ⟨0, Nat.zero_le _, rfl, rfl, Below.refl _ _⟩
              case round =>
                clear hcd
                obtain ⟨c, hc, rfl, rfl, hb⟩ := hrel
                have hcd := HCD.out _ hb
                replace HBr := Lib.hid (HBr.out.trans (hb.mono HBr.out.size))
                by_cases hlc : c < NB
                · obtain ⟨br, or, hS, hbr, hcr⟩ := HD2.out i hlt c hlc
                  rw [← HS9.out] at hS
                  subst hS
                  replace hcr := (HBr.out.cell hbr).trans hcr
                  have HBn := Lib.hid hb
                  by_cases hcj : c = j
                  · have hcjI : ((c : Int) != (j : Int)) = false := by rw [hcj]; simp
                    clear hcj hb hbr hcr
                    go_wp2
                    go_roundg (NB - (c + 1))
                    case measure => omega
                    case rel => exact ⟨c + 1, by omega, rfl, by go_num, HBn.out⟩
                  · have hcjI : ((c : Int) != (j : Int)) = true := by rw [bne_iff_ne]; omega
                    rw [HUN.out i c hlc hcj] at hcr
                    have t1 : ((((0 : Nat) : Int)) != 0) = false := by decide
                    clear hcj hb hbr
                    go_wp2
                    go_roundg (NB - (c + 1))
                    case measure => omega
                    case rel => exact ⟨c + 1, by omega, rfl, by go_num, HBn.out⟩
                · obtain rfl : NB = c := by omega
                  clear hb
                  go_wp2
                  go_roundg (n - (i + 1))
                  case measure => omega
                  case rel => exact ⟨i + 1, by omega, rfl, by go_num, HBr.out⟩

            · obtain rfl : n = i := by omega
              have HBF := Lib.hid (HBW4.out.trans ((HB7.out.trans (hb.mono HB7.out.size)).mono HBW4.out.size))
              clear hb
              go_wp2
              go_ret
              exact ⟨rfl, HBF.out⟩
end Go.Proofs.Ytjaaldandgfkgaa
