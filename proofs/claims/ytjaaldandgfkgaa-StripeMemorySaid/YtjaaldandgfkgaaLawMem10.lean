/- StripeMemory: the law's walk. Conditions: an object that memory bears. -/
import Derived.Test.YtjaaldandgfkgaaMr10
import Derived.Test.YtjaaldandgfkgaaAnk0
import Derived.Test.YtjaaldandgfkgaaApN10
import Derived.Test.YtjaaldandgfkgaaApS10
import Derived.Test.YtjaaldandgfkgaaApR10
import Derived.Test.YtjaaldandgfkgaaFt10
import Derived.Test.YtjaaldandgfkgaaSsh
import Derived.Test.YtjaaldandgfkgaaSizQ
namespace Go.Proofs.Ytjaaldandgfkgaa
open Go.RowKit

set_option maxRecDepth 100000 in
set_option maxHeartbeats 32000000 in
theorem lawMem10 (p : Pln) (A0 : Option Addr) (cd : Nat) (l0 : List Nat) (Pk : Option Addr) (np cp : Nat) (pi : Nat → Int) (Y : Option Addr) (ly : List Nat) (cY : Nat) (w : World) (hw : p.Wf) (hA : RL w A0 l0) (hlc : l0.length ≤ cd) (hl : l0.length ≤ 140737488351232) (hX : ∀ x ∈ l0, x < 256) (hP : Rd w Pk np (fun i => .int .i64 (pi i))) (hnp : np * 8 ≤ 140737488351232)
 (hY : RL w Y ly) (hYX : ∀ x ∈ ly, x < 256) (hyl : ly.length ≤ 140737488351232) (hyc : ly.length ≤ cY) (hym : cY ≤ maxLen) (hcm : cd ≤ maxLen) :
 Calls Try.prog 12 #[.agg #[.int .i64 p.K, .int .i64 p.M, .int .i64 p.B, .int .u8 p.s0, .int .u8 p.s1, .int .u8 p.s2, .int .u8 p.s3, .int .u8 p.s4, .int .u8 p.s5, .int .u8 p.s6, .int .u8 p.s7, .string p.key, .int .i64 p.ep, .int .i64 p.ct, .slice A0 l0.length cd, .slice Pk np cp], .slice Y ly.length cY] w fun e w' => e = .returned (.bool true) ∧ Below w.heap.size w w' := by
 have HY := Lib.hid hY; have HYX := Lib.hid hYX
 obtain ⟨ny, hny⟩ : ∃ ny, ny = ly.length := ⟨_, rfl⟩
 have HNY := Lib.hid hny
 rw [← hny] at hyl hyc ⊢
 clear hY hYX hny
 obtain ⟨nd, hnd⟩ : ∃ nd, nd = l0.length := ⟨_, rfl⟩
 have HND := Lib.hid hnd
 have HA := Lib.hid hA; have HX := Lib.hid hX; have HWF := Lib.hid hw
 rw [← hnd] at hl hlc ⊢
 clear hA hX hP hw hnd
 have HBX0 : Hid ((w.alloc (.cells #[.int .i64 p.K, .int .i64 p.M, .int .i64 p.B, .int .u8 p.s0, .int .u8 p.s1, .int .u8 p.s2, .int .u8 p.s3, .int .u8 p.s4, .int .u8 p.s5, .int .u8 p.s6, .int .u8 p.s7, .string p.key, .int .i64 p.ep, .int .i64 p.ct, .slice A0 nd cd, .slice Pk np cp] 64)).heap[w.heap.size]? = some (.cells #[.int .i64 p.K, .int .i64 p.M, .int .i64 p.B, .int .u8 p.s0, .int .u8 p.s1, .int .u8 p.s2, .int .u8 p.s3, .int .u8 p.s4, .int .u8 p.s5, .int .u8 p.s6, .int .u8 p.s7, .string p.key, .int .i64 p.ep, .int .i64 p.ct, .slice A0 nd cd, .slice Pk np cp] 64 (0, 0))) := Lib.hid (heap_alloc_new w _)
 have HB0 : Hid (Below w.heap.size w (w.alloc (.cells #[.int .i64 p.K, .int .i64 p.M, .int .i64 p.B, .int .u8 p.s0, .int .u8 p.s1, .int .u8 p.s2, .int .u8 p.s3, .int .u8 p.s4, .int .u8 p.s5, .int .u8 p.s6, .int .u8 p.s7, .string p.key, .int .i64 p.ep, .int .i64 p.ct, .slice A0 nd cd, .slice Pk np cp] 64))) := Lib.hid ((Below.refl _ _).alloc (Nat.le_refl _) _)
 go_enter Try.func12, Try.ntmps12
 go_wp2_with fail
 refine (awake_any _).mono ?_
 rintro e w1 ⟨rfl, hb1⟩
 have HBX1 : Hid (w1.heap[w.heap.size]? = some (.cells #[.int .i64 p.K, .int .i64 p.M, .int .i64 p.B, .int .u8 p.s0, .int .u8 p.s1, .int .u8 p.s2, .int .u8 p.s3, .int .u8 p.s4, .int .u8 p.s5, .int .u8 p.s6, .int .u8 p.s7, .string p.key, .int .i64 p.ep, .int .i64 p.ct, .slice A0 nd cd, .slice Pk np cp] 64 (0, 0))) := Lib.hid ((hb1.block _ (by simp)).trans HBX0.out)
 have HB1 : Hid (Below w.heap.size w w1) := Lib.hid (HB0.out.trans (hb1.mono HB0.out.size))
 have hz1 : w.heap.size < w1.heap.size := (Array.getElem?_eq_some_iff.1 HBX1.out).1
 clear hb1 HBX0 HB0
 obtain ⟨bx, hbx⟩ : ∃ bx, bx = w.heap.size := ⟨_, rfl⟩
 have HBXE := Lib.hid hbx
 rw [← hbx] at HBX1 hz1 ⊢
 clear hbx
 obtain ⟨kk, hkk⟩ : ∃ kk, kk = pickN p.K 4 := ⟨_, rfl⟩
 obtain ⟨bb, hbb⟩ : ∃ bb, bb = pickN p.B 9 := ⟨_, rfl⟩
 have hk4 : kk < 4 := by rw [hkk]; exact pickN_lt (by decide)
 have hb9 : bb < 9 := by rw [hbb]; exact pickN_lt (by decide)
 have HPK : Hid (∀ w', Calls Try.prog 35 #[.int .i64 p.K, .int .i64 4] w' fun e w'' => e = .returned (.int .i64 (kk : Nat)) ∧ w' = w'') := Lib.hid fun w' => by rw [hkk]; exact pick_any p.K 4 w' (by decide) (by decide)
 have HPB : Hid (∀ w', Calls Try.prog 35 #[.int .i64 p.B, .int .i64 9] w' fun e w'' => e = .returned (.int .i64 (bb : Nat)) ∧ w' = w'') := Lib.hid fun w' => by rw [hbb]; exact pick_any p.B 9 w' (by decide) (by decide)
 clear hkk hbb
 have c0 : w1.cell? ⟨bx, 0, none⟩ = some (.int .i64 p.K) := by rw [cell_of_row w1 bx 0 _ _ (0, 0) HBX1.out]; rfl
 have c2 : w1.cell? ⟨bx, 2, none⟩ = some (.int .i64 p.B) := by rw [cell_of_row w1 bx 2 _ _ (0, 0) HBX1.out]; rfl
 have c14 : w1.cell? ⟨bx, 14, none⟩ = some (.slice A0 nd cd) := by rw [cell_of_row w1 bx 14 _ _ (0, 0) HBX1.out]; rfl
 have hfz : ∀ i, w1.frozen? ⟨bx, i, none⟩ = false := fun i => by have := HBX1.out; simp [World.frozen?, this]
 go_wp2_with fail
 refine (HPK.out _).mono ?_
 rintro e w' ⟨rfl, he⟩
 subst he
 go_wp2_with fail
 refine (HPB.out _).mono ?_
 rintro e w' ⟨rfl, he⟩
 subst he
 obtain ⟨q3, hq3⟩ : ∃ q3 : Nat, q3 = 3 * (kk + 1) * (bb + 1) := ⟨_, rfl⟩
 obtain ⟨mD, hmD⟩ : ∃ mD : Nat, mD = min nd q3 := ⟨_, rfl⟩
 have hq3b : q3 ≤ 108 := by
  rw [hq3]
  exact Nat.le_trans (Nat.mul_le_mul (Nat.mul_le_mul_left 3 (show kk + 1 ≤ 4 by omega)) (show bb + 1 ≤ 9 by omega)) (by decide)
 have hk1 : (kk : Int) + 1 = ((kk + 1 : Nat) : Int) := by omega
 have hb1 : (bb : Int) + 1 = ((bb + 1 : Nat) : Int) := by omega
 obtain ⟨k1, hk1e⟩ : ∃ k1, k1 = kk + 1 := ⟨_, rfl⟩
 obtain ⟨b1, hb1e⟩ : ∃ b1, b1 = bb + 1 := ⟨_, rfl⟩
 rw [← hk1e] at hk1 hq3
 rw [← hb1e] at hb1 hq3
 have hm3 : (3 : Int) * (k1 : Int) = ((3 * k1 : Nat) : Int) := by omega
 obtain ⟨k3, hk3e⟩ : ∃ k3, k3 = 3 * k1 := ⟨_, rfl⟩
 rw [← hk3e] at hm3 hq3
 have hm4 : (k3 : Int) * (b1 : Int) = (q3 : Int) := by rw [hq3]; exact (Int.natCast_mul k3 b1).symm
 have hmin : min (nd : Int) (q3 : Int) = (mD : Int) := by rw [hmD]; omega
 have hw1 : IntKind.i64.wrap (k1 : Int) = (k1 : Int) := i64_small _ (by omega) (by omega)
 have hw2 : IntKind.i64.wrap (b1 : Int) = (b1 : Int) := i64_small _ (by omega) (by omega)
 have hw3 : IntKind.i64.wrap (k3 : Int) = (k3 : Int) := i64_small _ (by omega) (by omega)
 have hw4 : IntKind.i64.wrap (q3 : Int) = (q3 : Int) := i64_small _ (by omega) (by omega)
 have hs1 : (0 : Int) ≤ (mD : Int) := by omega
 have hs2 : (mD : Int) ≤ (cd : Int) := by omega
 have HQ3 : Hid (q3 = 3 * (kk + 1) * (bb + 1)) := Lib.hid (by rw [hq3, hk3e, hk1e, hb1e])
 have HMD := Lib.hid hmD
 have hmDn : mD ≤ nd := by omega
 have hmDq : mD ≤ q3 := by omega
 clear hq3 hmD hk1e hb1e hk3e
 obtain ⟨wB, hwB⟩ : ∃ wB, wB = (((w1.setCell ⟨bx, 0, none⟩ (.int .i64 (kk : Nat))).setCell ⟨bx, 2, none⟩ (.int .i64 (bb : Nat))).setCell ⟨bx, 14, none⟩ (.slice A0 mD cd)) := ⟨_, rfl⟩
 obtain ⟨p2, hp2⟩ : ∃ p2 : Pln, p2 = { p with K := (kk : Int), B := (bb : Int) } := ⟨_, rfl⟩
 have HBXB : Hid (wB.heap[bx]? = some (.cells #[.int .i64 p2.K, .int .i64 p2.M, .int .i64 p2.B, .int .u8 p2.s0, .int .u8 p2.s1, .int .u8 p2.s2, .int .u8 p2.s3, .int .u8 p2.s4, .int .u8 p2.s5, .int .u8 p2.s6, .int .u8 p2.s7, .string p2.key, .int .i64 p2.ep, .int .i64 p2.ct, .slice A0 mD cd, .slice Pk np cp] 64 (0, 0))) := Lib.hid (by rw [hwB, hp2]; have := HBX1.out; simp [World.setCell, this, Array.getElem?_modify])
 have hbxw := HBXE.out
 have HB1B : Hid (Below w.heap.size w wB) := Lib.hid (by rw [hwB]; exact Below.setC (Below.setC (Below.setC HB1.out (by show _ ≤ bx; omega) _) (by show _ ≤ bx; omega) _) (by show _ ≤ bx; omega) _)
 have hwf2 : p2.Wf := by rw [hp2]; exact HWF.out
 have hK2 : fK p2 = kk := by
  rw [hp2]; show ((kk : Int) % 254).toNat = kk
  omega
 have hB2 : fB p2 = bb := by
  rw [hp2]; show ((bb : Int) % 65536).toNat = bb
  omega
 have HWF2 := Lib.hid hwf2; have HK2 := Lib.hid hK2; have HB2' := Lib.hid hB2
 have hsB : bx < wB.heap.size := (Array.getElem?_eq_some_iff.1 HBXB.out).1
 have HWB := Lib.hid hwB
 have HLD : Hid (∀ (j : Nat) (v : Value), (#[.int .i64 p2.K, .int .i64 p2.M, .int .i64 p2.B, .int .u8 p2.s0, .int .u8 p2.s1, .int .u8 p2.s2, .int .u8 p2.s3, .int .u8 p2.s4, .int .u8 p2.s5, .int .u8 p2.s6, .int .u8 p2.s7, .string p2.key, .int .i64 p2.ep, .int .i64 p2.ct, .slice A0 mD cd, .slice Pk np cp] : Array Value).toList[j]? = some v → (((w1.setCell ⟨bx, 0, none⟩ (.int .i64 (kk : Nat))).setCell ⟨bx, 2, none⟩ (.int .i64 (bb : Nat))).setCell ⟨bx, 14, none⟩ (.slice A0 mD cd)).cell? ((⟨bx, 0, none⟩ : Addr).add j) = some v) := Lib.hid fun j v hv => by
  rw [add_zero_addr, ← hwB, cell_of_row wB bx j _ _ (0, 0) HBXB.out]
  simpa using hv
 clear hwB hp2 hwf2 hK2 hB2 hbxw
 go_wp2_with (refine wpList_loadAt rfl 64 (.tmp 2) rfl ⟨bx, 0, none⟩ rfl #[.int .i64 p2.K, .int .i64 p2.M, .int .i64 p2.B, .int .u8 p2.s0, .int .u8 p2.s1, .int .u8 p2.s2, .int .u8 p2.s3, .int .u8 p2.s4, .int .u8 p2.s5, .int .u8 p2.s6, .int .u8 p2.s7, .string p2.key, .int .i64 p2.ep, .int .i64 p2.ct, .slice A0 mD cd, .slice Pk np cp] _ HLD.out Try.underlying64 rfl (by kernel_rfl) ?_)
 rw [← HWB.out]
 clear HWB HLD c0 c2 c14 hfz HBX1 HB1 HPK HPB HWF
 clear hk1 hb1 hm3 hm4 hmin hw1 hw2 hw3 hw4 hs1 hs2
 obtain ⟨l, hl1⟩ : ∃ l, l = l0.take mD := ⟨_, rfl⟩
 have hml : mD = l.length := by rw [hl1, List.length_take, ← HND.out]; omega
 have HXL : Hid (∀ x ∈ l, x < 256) := Lib.hid fun x hx => HX.out x (by rw [hl1] at hx; exact List.mem_of_mem_take hx)
 have HRl : Hid (∀ w', Below w.heap.size w w' → RL w' A0 l) := Lib.hid fun w' hb i hi => by
  obtain ⟨b, o, e, h1, h2⟩ := HA.out.below hb i (by rw [hl1, List.length_take] at hi; omega)
  refine ⟨b, o, e, h1, ?_⟩
  rw [h2]
  show some (Value.int .u8 _) = some (Value.int .u8 _)
  rw [hl1]
  rw [hl1, List.length_take] at hi
  simp [List.getD_eq_getElem?_getD, List.getElem?_take, show i < mD by omega]
 have HML := Lib.hid hml
 have hmf : fitN p2 mD = mD := by
  unfold fitN
  rw [HK2.out, HB2'.out]
  have h1 : 3 * (kk + 1) * (bb + 1) ≤ 4096 * (1 + kk) * (1 + bb) := by
   rw [show kk + 1 = 1 + kk from by omega, show bb + 1 = 1 + bb from by omega]
   exact Nat.mul_le_mul_right _ (Nat.mul_le_mul_right _ (by decide))
  rw [← HQ3.out] at h1
  omega
 have HMF := Lib.hid hmf
 have HFT := Lib.hid (lfit_any p2 A0 cd l (.slice Pk np cp) wB rfl (by rw [← hml]; omega) (by rw [← hml]; omega) (HRl.out _ HB1B.out))
 rw [← hml, hmf, show l.take mD = l from by rw [hml]; exact List.take_length] at HFT
 clear hl1 hml hmf HX HA
 refine HFT.out.mono ?_
 rintro e w2 ⟨A1, c1, rfl, hO1, hb2⟩
 obtain ⟨Z0, hZ0⟩ : ∃ Z0, Z0 = fitH p2 := ⟨_, rfl⟩
 rw [← hZ0]
 have HZ0 := Lib.hid hZ0
 have HO1 := Lib.hid hO1
 have HBw2 : Hid (Below w.heap.size w w2) := Lib.hid (HB1B.out.trans (hb2.mono HB1B.out.size))
 clear hO1 hb2 hZ0 HFT HBXB HB1B
 have hcm1 : c1 ≤ maxLen := by
  obtain ⟨A', c', e', _, h4, _⟩ := HO1.out.own.rd
  injection e' with _ _ e3
  omega
 have hlc1 : mD ≤ c1 := by
  obtain ⟨A', c', e', h4, _⟩ := HO1.out.own.rd
  injection e' with _ _ e3
  have := HML.out
  omega
 have hsw2 := HBw2.out.size
 have HH3 := Lib.hid (heap_alloc_new w2 (.cells #[.int .u8 Z0.s0, .int .u8 Z0.s1, .int .u8 Z0.s2, .int .u8 Z0.s3, .int .u8 Z0.s4, .int .u8 Z0.s5, .int .u8 Z0.s6, .int .u8 Z0.s7, .int .i64 Z0.K, .int .i64 Z0.M, .int .i64 Z0.B, .string Z0.key, .int .i64 Z0.size, .int .i64 Z0.idx, .int .i64 Z0.ep, .int .i64 Z0.ct] 42))
 have HB23 := Lib.hid ((Below.refl w2.heap.size w2).alloc (Nat.le_refl _) (.cells #[.int .u8 Z0.s0, .int .u8 Z0.s1, .int .u8 Z0.s2, .int .u8 Z0.s3, .int .u8 Z0.s4, .int .u8 Z0.s5, .int .u8 Z0.s6, .int .u8 Z0.s7, .int .i64 Z0.K, .int .i64 Z0.M, .int .i64 Z0.B, .string Z0.key, .int .i64 Z0.size, .int .i64 Z0.idx, .int .i64 Z0.ep, .int .i64 Z0.ct] 42))
 obtain ⟨K1, hK1⟩ : ∃ K1 : Nat, K1 = kk + 1 := ⟨_, rfl⟩
 obtain ⟨M1, hM1⟩ : ∃ M1 : Nat, M1 = 1 + fM p2 := ⟨_, rfl⟩
 have hM1K : M1 ≤ K1 := by
  obtain ⟨_, f2, _, _⟩ := fit_nums p2
  rw [HK2.out] at f2
  omega
 have hM1p : 0 < M1 := by omega
 have hZK : Z0.K = (K1 : Int) := by rw [HZ0.out, hK1]; show (1 + (fK p2 : Int)) = _; rw [HK2.out]; omega
 have hZM : Z0.M = (M1 : Int) := by rw [HZ0.out, hM1]; show (1 + (fM p2 : Int)) = _; omega
 have hZB : Z0.B = ((bb + 1 : Nat) : Int) := by rw [HZ0.out]; show (1 + (fB p2 : Int)) = _; rw [HB2'.out]; omega
 have hK14 : K1 ≤ 4 := by omega
 have hKp : 0 < K1 := by omega
 have HZK0 := Lib.hid hZK; have HZM0 := Lib.hid hZM; have HZB0 := Lib.hid hZB
 have HK1 := Lib.hid hK1; have HMM1 := Lib.hid hM1
 have HSRC : Hid (Rd (w2.alloc (.cells #[.int .u8 Z0.s0, .int .u8 Z0.s1, .int .u8 Z0.s2, .int .u8 Z0.s3, .int .u8 Z0.s4, .int .u8 Z0.s5, .int .u8 Z0.s6, .int .u8 Z0.s7, .int .i64 Z0.K, .int .i64 Z0.M, .int .i64 Z0.B, .string Z0.key, .int .i64 Z0.size, .int .i64 Z0.idx, .int .i64 Z0.ep, .int .i64 Z0.ct] 42)) A1 mD (fun i => .int .u8 ((l.getD i 0 : Nat) : Int))) := Lib.hid (by rw [HML.out]; have h1 := (own_rl' HO1.out); exact h1.below HB23.out)
 clear hK1 hM1 hZK hZM hZB
 go_wp2_with (first | (refine wpList_storeNewH rfl (.tmp 5) (.tmp 64) rfl #[.int .u8 Z0.s0, .int .u8 Z0.s1, .int .u8 Z0.s2, .int .u8 Z0.s3, .int .u8 Z0.s4, .int .u8 Z0.s5, .int .u8 Z0.s6, .int .u8 Z0.s7, .int .i64 Z0.K, .int .i64 Z0.M, .int .i64 Z0.B, .string Z0.key, .int .i64 Z0.size, .int .i64 Z0.idx, .int .i64 Z0.ep, .int .i64 Z0.ct] rfl rfl rfl rfl rfl ?_) | (at_builtin; refine wpList_appendRd rfl (.const (.slice none 0 0)) (.tmp 66) 43 rfl (w2.alloc (.cells #[.int .u8 Z0.s0, .int .u8 Z0.s1, .int .u8 Z0.s2, .int .u8 Z0.s3, .int .u8 Z0.s4, .int .u8 Z0.s5, .int .u8 Z0.s6, .int .u8 Z0.s7, .int .i64 Z0.K, .int .i64 Z0.M, .int .i64 Z0.B, .string Z0.key, .int .i64 Z0.size, .int .i64 Z0.idx, .int .i64 Z0.ep, .int .i64 Z0.ct] 42)).heap.size 5 1 (.int .u8 0) Try.underlying43 byteInfo rfl rfl (Nat.le_refl _) A1 mD c1 (fun i => .int .u8 ((l.getD i 0 : Nat) : Int)) rfl HSRC.out (fun _ _ => rfl) (by omega) (by omega) ?_))
 obtain ⟨wh, hwh⟩ : ∃ wh, wh = w2.alloc (.cells #[.int .u8 Z0.s0, .int .u8 Z0.s1, .int .u8 Z0.s2, .int .u8 Z0.s3, .int .u8 Z0.s4, .int .u8 Z0.s5, .int .u8 Z0.s6, .int .u8 Z0.s7, .int .i64 Z0.K, .int .i64 Z0.M, .int .i64 Z0.B, .string Z0.key, .int .i64 Z0.size, .int .i64 Z0.idx, .int .i64 Z0.ep, .int .i64 Z0.ct] 42) := ⟨_, rfl⟩
 rw [← hwh] at HH3 HB23 ⊢
 have hwhs : wh.heap.size = w2.heap.size + 1 := by rw [hwh]; simp
 have HWHS := Lib.hid hwhs
 clear hwh hwhs HSRC
 intro vO w3 hO3 hb3
 have hO3' : OwnB w3 w2.heap.size vO l := OwnB.of (by rw [← HML.out]; exact (hO3.mono (by omega)).congr fun j _ => by rw [List.getD_eq_getElem?_getD])
 obtain ⟨AO, cO, rfl, hcO1, hcO2, hrO, _⟩ := hO3'.rd
 have HOO := Lib.hid hO3'
 rw [← HML.out] at HOO hcO1 ⊢
 have HBh3 : Hid (Below wh.heap.size wh w3) := Lib.hid (by rw [HWHS.out]; exact hb3)
 have HB23' : Hid (Below w2.heap.size w2 w3) := Lib.hid (HB23.out.trans (HBh3.out.mono HB23.out.size))
 obtain ⟨gh, hgh⟩ : ∃ gh, gh = w2.heap.size := ⟨_, rfl⟩
 rw [← hgh] at HH3 ⊢
 have HGH := Lib.hid hgh
 have hg3 : gh < wh.heap.size := by rw [HWHS.out]; omega
 have HHW : Hid (∀ w', Below w3.heap.size w3 w' → w'.heap[gh]? = some (.cells #[.int .u8 Z0.s0, .int .u8 Z0.s1, .int .u8 Z0.s2, .int .u8 Z0.s3, .int .u8 Z0.s4, .int .u8 Z0.s5, .int .u8 Z0.s6, .int .u8 Z0.s7, .int .i64 Z0.K, .int .i64 Z0.M, .int .i64 Z0.B, .string Z0.key, .int .i64 Z0.size, .int .i64 Z0.idx, .int .i64 Z0.ep, .int .i64 Z0.ct] 42 (0, 0))) := Lib.hid fun w' hb => by
  have h1 := (HBh3.out.block gh hg3).trans HH3.out
  rw [hb.block gh (Array.getElem?_eq_some_iff.1 h1).1]
  exact h1
 have HRA : Hid (∀ w', Below w3.heap.size w3 w' → RL w' A1 l) := Lib.hid fun w' hb => (own_rl' HO1.out).below (HB23'.out.trans (hb.mono HB23'.out.size))
 have HRO : Hid (∀ w', Below w3.heap.size w3 w' → RL w' AO l) := Lib.hid fun w' hb => by
  have h1 := HOO.out
  exact (own_rl' h1).below hb
 have HBw3 : Hid (Below w.heap.size w w3) := Lib.hid (HBw2.out.trans (HB23'.out.mono HBw2.out.size))
 clear hO3 hb3 hO3' hrO hgh hg3 HH3 HB23 HBh3 HWHS HOO HO1 HBw2
 obtain ⟨Z, hZ⟩ : ∃ Z : Hd, Z = { Z0 with size := (l.length : Int), idx := 0 } := ⟨_, rfl⟩
 have HZ := Lib.hid hZ
 obtain ⟨n, hnE⟩ : ∃ n, n = (1 + fK p2) + (1 + fM p2) := ⟨_, rfl⟩
 have hsN : n = shN Z := by
  rw [hZ, HZ0.out, hnE]
  show _ = (1 + (fK p2 : Int)).toNat + (1 + (fM p2 : Int)).toNat
  omega
 have hnKM : n = K1 + M1 := by rw [HK1.out, HMM1.out, hnE, HK2.out]; omega
 have hn8 : n ≤ 8 := by omega
 have hn0 : 0 < n := by omega
 have HCK : Hid (∀ t : Nat, t < n → checkE { Z with idx := (t : Int) } = 0) := Lib.hid fun t ht => by
  have h1 := fit_checkS p2 mD mD t (by rw [HMF.out]; exact Nat.le_refl _) (by rw [← hnE]; exact ht)
  rw [← HZ0.out, HML.out] at h1
  rw [hZ]
  exact h1
 have HZW : Hid (HdW Z0) := Lib.hid (by rw [HZ0.out]; exact fit_wf HWF2.out)
 have HZKT : Hid (Z.K.toNat = K1) := Lib.hid (by rw [hZ]; show Z0.K.toNat = K1; rw [HZK0.out]; rfl)
 have HZBT : Hid (Z.B.toNat = bb + 1) := Lib.hid (by rw [hZ]; show Z0.B.toNat = bb + 1; rw [HZB0.out]; rfl)
 have hKM : (K1 : Int) + (M1 : Int) = (n : Int) := by omega
 have HSN := Lib.hid hsN; have HNKM := Lib.hid hnKM
 obtain ⟨Hs, hHs⟩ : ∃ Hs : Nat → Hd, Hs = fun t => { Z with idx := (t : Int) } := ⟨_, rfl⟩
 obtain ⟨Bs, hBs⟩ : ∃ Bs : Nat → List (List Nat), Bs = fun t => spL Z.K.toNat Z.B.toNat l t := ⟨_, rfl⟩
 obtain ⟨NB, hNB⟩ : ∃ NB, NB = nblk (K1 * (bb + 1)) mD := ⟨_, rfl⟩
 have hNB3 : NB ≤ 3 := by
  have hS : 0 < K1 * (bb + 1) := Nat.mul_pos hKp (by omega)
  have h1 : mD ≤ 3 * (K1 * (bb + 1)) := by rw [← Nat.mul_assoc, HK1.out, ← HQ3.out]; exact hmDq
  have h2 : nblk (K1 * (bb + 1)) mD < 4 := by
   unfold nblk
   rw [Nat.div_lt_iff_lt_mul hS]
   omega
  omega
 have HNB := Lib.hid hNB
 have HBL : Hid (∀ i, (Bs i).length = NB) := Lib.hid fun i => by
  rw [hBs, hNB]
  show (spL Z.K.toNat Z.B.toNat l i).length = _
  unfold spL
  rw [spT_length, HZKT.out, HZBT.out, HML.out]
 have HBM : Hid (∀ i, ∀ q ∈ Bs i, q.length ≤ 9) := Lib.hid fun i q hq => by
  rw [hBs] at hq
  obtain ⟨j, _, rfl⟩ := List.mem_map.1 hq
  rw [spB_length]
  have h1 := blen_le (K := Z.K.toNat) (B := Z.B.toNat) (s := l.length) (j := j) (by rw [HZKT.out]; exact hKp)
  rw [HZBT.out] at h1 ⊢
  omega
 have HBX : Hid (∀ i, ∀ q ∈ Bs i, ∀ x ∈ q, x < 256) := Lib.hid fun i q hq => by
  rw [hBs] at hq
  obtain ⟨j, _, rfl⟩ := List.mem_map.1 hq
  exact spB_lt i j
 have HW : Hid (∀ i, i < n → HdW (Hs i)) := Lib.hid fun i hi => by
  rw [hHs]
  show HdW { Z with idx := (i : Int) }
  rw [hZ]
  exact hdw_spl HZW.out l.length i (by rw [← HML.out]; omega) (by omega)
 have HJN : Hid (∀ er l', JoinR n Hs Bs er l' → er = 0 ∧ l' = l) := Lib.hid fun er l' h => by
  have e1 : erH (fun _ => false) Hs = Hs := by funext t; unfold erH; simp
  have e2 : erB (fun _ => false) Bs = Bs := by funext t; unfold erB; simp
  have e3 : ∀ m, cntB (fun _ => false) m = 0 := fun m => by
   induction m with
   | zero => rfl
   | succ m ih => unfold cntB; rw [ih]; rfl
  exact er_join (P := fun _ => false) (H := Hs) (BL := Bs) hsN HCK.out (by rw [hZ]) HXL.out (fun t _ => by rw [hHs]) (fun t _ => by rw [hBs]) (by rw [HZKT.out, e3]; omega) (by rw [HZKT.out]; exact hKp) (by rw [e1, e2]; exact h)
 have HSPL : Hid (∀ w', Below w3.heap.size w3 w' → Calls Try.prog 22 #[.agg #[.int .u8 Z0.s0, .int .u8 Z0.s1, .int .u8 Z0.s2, .int .u8 Z0.s3, .int .u8 Z0.s4, .int .u8 Z0.s5, .int .u8 Z0.s6, .int .u8 Z0.s7, .int .i64 Z0.K, .int .i64 Z0.M, .int .i64 Z0.B, .string Z0.key, .int .i64 Z0.size, .int .i64 Z0.idx, .int .i64 Z0.ep, .int .i64 Z0.ct], .slice A1 mD c1] w' fun e w'' => ∃ g V T, e = .returned (.tuple #[.slice (some ⟨g, 0, none⟩) n n, .int .i64 0]) ∧ OwnSd w'' w'.heap.size g n n Hs V Bs T ∧ Below w'.heap.size w' w'') := Lib.hid fun w' hb => by
  have h1 := split_any Z0 A1 c1 l w' HXL.out (by rw [← HML.out]; omega) (by rw [← HML.out]; exact hlc1) hcm1 (HRA.out w' hb)
  rw [← hZ, ← HML.out] at h1
  refine h1.mono ?_
  rintro e w'' ⟨hb4, _, h4⟩
  obtain ⟨g, V, T, rfl, _, hO⟩ := h4 (by have h5 := HCK.out 0 hn0; rw [hZ] at h5 ⊢; exact h5)
  rw [← hsN] at hO ⊢
  exact ⟨g, V, T, rfl, by rw [hHs, hBs]; exact hO, hb4⟩
 have HSPY : Hid (∀ w', Below w3.heap.size w3 w' → Calls Try.prog 22 #[.agg #[.int .u8 Z0.s0, .int .u8 Z0.s1, .int .u8 Z0.s2, .int .u8 Z0.s3, .int .u8 Z0.s4, .int .u8 Z0.s5, .int .u8 Z0.s6, .int .u8 Z0.s7, .int .i64 Z0.K, .int .i64 Z0.M, .int .i64 Z0.B, .string Z0.key, .int .i64 Z0.size, .int .i64 Z0.idx, .int .i64 Z0.ep, .int .i64 Z0.ct], .slice Y ny cY] w' fun e w'' => (∃ a b, e = .returned (.tuple #[a, b])) ∧ Below w'.heap.size w' w'') := Lib.hid fun w' hb => by
  have h1 := split_any Z0 Y cY ly w' HYX.out (by rw [← HNY.out]; exact hyl) (by rw [← HNY.out]; exact hyc) hym (HY.out.below (HBw3.out.trans (hb.mono HBw3.out.size)))
  rw [← HNY.out] at h1
  refine h1.mono ?_
  rintro e w'' ⟨hb4, h5, h4⟩
  by_cases hc : checkE { Z0 with size := (ny : Int), idx := 0 } = 0
  · obtain ⟨g, V, T, rfl, _⟩ := h4 hc
    exact ⟨⟨_, _, rfl⟩, hb4⟩
  · exact ⟨⟨_, _, h5 hc⟩, hb4⟩
 clear hHs hBs hZ hsN hnE hnKM hNB
 have HH3c := Lib.hid (HHW.out w3 (Below.refl _ _))
 go_wp2_with (refine wpList_loadH rfl (.tmp 5) rfl gh rfl #[.int .u8 Z0.s0, .int .u8 Z0.s1, .int .u8 Z0.s2, .int .u8 Z0.s3, .int .u8 Z0.s4, .int .u8 Z0.s5, .int .u8 Z0.s6, .int .u8 Z0.s7, .int .i64 Z0.K, .int .i64 Z0.M, .int .i64 Z0.B, .string Z0.key, .int .i64 Z0.size, .int .i64 Z0.idx, .int .i64 Z0.ep, .int .i64 Z0.ct] rfl HH3c.out ?_)
 refine (HSPL.out w3 (Below.refl _ _)).mono ?_
 rintro e w4 ⟨g1, V1, T1, rfl, hS1, hb4⟩
 have HS1 := Lib.hid hS1
 have HX4 := Lib.hid hb4
 have HB34 := Lib.hid hb4
 have hs4 := hb4.size
 have HH4 := Lib.hid (HHW.out w4 hb4)
 clear HH3c hS1 hb4
 have c8 : w4.cell? ⟨gh, 8, none⟩ = some (.int .i64 (K1 : Int)) := by rw [cell_of_row w4 gh 8 _ _ (0, 0) HH4.out, ← HZK0.out]; rfl
 have c9 : w4.cell? ⟨gh, 9, none⟩ = some (.int .i64 (M1 : Int)) := by rw [cell_of_row w4 gh 9 _ _ (0, 0) HH4.out, ← HZM0.out]; rfl
 have hwn : IntKind.i64.wrap (n : Int) = (n : Int) := i64_small _ (by omega) (by omega)
 go_wp2_with fail
 refine (copied_any (some ⟨g1, 0, none⟩) n n Hs Bs w4 (by omega) HS1.out.rsd (fun i _ => by rw [HBL.out]; omega) (fun i _ q hq => Nat.le_trans (HBM.out i q hq) (by decide))).mono ?_
 rintro e w5 ⟨vW, VW, TW, UW, rfl, hC, hb5⟩
 obtain ⟨aW, cW, rfl, _, _, _⟩ := hC.rsd
 have HCW := Lib.hid hC
 clear hC
 have HX5 := Lib.hid (HX4.out.trans (hb5.mono HX4.out.size))
 have HB45 := Lib.hid hb5
 have hs5 := hb5.size
 clear hb5
 have HH5 := Lib.hid (HHW.out w5 HX5.out)
 clear c8 c9 hKM hwn
 go_wp2_with (refine wpList_loadH rfl (.tmp 5) rfl gh rfl #[.int .u8 Z0.s0, .int .u8 Z0.s1, .int .u8 Z0.s2, .int .u8 Z0.s3, .int .u8 Z0.s4, .int .u8 Z0.s5, .int .u8 Z0.s6, .int .u8 Z0.s7, .int .i64 Z0.K, .int .i64 Z0.M, .int .i64 Z0.B, .string Z0.key, .int .i64 Z0.size, .int .i64 Z0.idx, .int .i64 Z0.ep, .int .i64 Z0.ct] rfl HH5.out ?_)
 refine (HSPL.out w5 HX5.out).mono ?_
 rintro e w6 ⟨g2, V2, T2, rfl, hS, hb6⟩
 have HS2 := Lib.hid hS
 clear hS HH5
 have HX6 := Lib.hid (HX5.out.trans (hb6.mono HX5.out.size))
 have HB56 := Lib.hid hb6
 have hs6 := hb6.size
 clear hb6
 have HH6 := Lib.hid (HHW.out w6 HX6.out)
 go_wp2_with (refine wpList_loadH rfl (.tmp 5) rfl gh rfl #[.int .u8 Z0.s0, .int .u8 Z0.s1, .int .u8 Z0.s2, .int .u8 Z0.s3, .int .u8 Z0.s4, .int .u8 Z0.s5, .int .u8 Z0.s6, .int .u8 Z0.s7, .int .i64 Z0.K, .int .i64 Z0.M, .int .i64 Z0.B, .string Z0.key, .int .i64 Z0.size, .int .i64 Z0.idx, .int .i64 Z0.ep, .int .i64 Z0.ct] rfl HH6.out ?_)
 refine (HSPY.out w6 HX6.out).mono ?_
 rintro e w7 ⟨⟨ya, yb, rfl⟩, hb7⟩
 clear HH6
 have HX7 := Lib.hid (HX6.out.trans (hb7.mono HX6.out.size))
 have HB67 := Lib.hid hb7
 have hs7 := hb7.size
 clear hb7
 have HH7 := Lib.hid (HHW.out w7 HX7.out)
 go_wp2_with (refine wpList_loadH rfl (.tmp 5) rfl gh rfl #[.int .u8 Z0.s0, .int .u8 Z0.s1, .int .u8 Z0.s2, .int .u8 Z0.s3, .int .u8 Z0.s4, .int .u8 Z0.s5, .int .u8 Z0.s6, .int .u8 Z0.s7, .int .i64 Z0.K, .int .i64 Z0.M, .int .i64 Z0.B, .string Z0.key, .int .i64 Z0.size, .int .i64 Z0.idx, .int .i64 Z0.ep, .int .i64 Z0.ct] rfl HH7.out ?_)
 refine (HSPL.out w7 HX7.out).mono ?_
 rintro e w8 ⟨g3, V3, T3, rfl, hS, hb8⟩
 have HS3 := Lib.hid hS
 clear hS HH7
 have HX8 := Lib.hid (HX7.out.trans (hb8.mono HX7.out.size))
 have HB78 := Lib.hid hb8
 have hs8 := hb8.size
 clear hb8
 go_wp2_with fail
 refine (copied_any (some ⟨g1, 0, none⟩) n n Hs Bs w8 (by omega) (HS1.out.rsd.below (HB45.out.trans ((HB56.out.trans ((HB67.out.trans (HB78.out.mono hs7)).mono hs6)).mono hs5))) (fun i _ => by rw [HBL.out]; omega) (fun i _ q hq => Nat.le_trans (HBM.out i q hq) (by decide))).mono ?_
 rintro e w9 ⟨vM, VM, TM, UM, rfl, hC, hb9⟩
 obtain ⟨aM, cM, rfl, _, _, _⟩ := hC.rsd
 have HCM := Lib.hid hC
 clear hC
 have HX9 := Lib.hid (HX8.out.trans (hb9.mono HX8.out.size))
 have HB89 := Lib.hid hb9
 have hs9 := hb9.size
 clear hb9
 have HRM : Hid (∀ w', Below w9.heap.size w9 w' → RSd w' aM n Hs Bs) := Lib.hid fun w' hb => by
  obtain ⟨A', c', e', _, _, h4⟩ := HCM.out.rsd
  injection e' with e1 _ _
  rw [e1]
  exact h4.below hb
 have HY9 := Lib.hid (Below.refl w9.heap.size w9)
 go_wp2_with fail
 refine (join_all aM n cM Hs Bs w9 (by omega) HW.out (HRM.out w9 HY9.out) (fun i _ => by rw [HBL.out]; omega) (fun i _ q hq => Nat.le_trans (HBM.out i q hq) (by decide)) (fun i _ => HBX.out i)).mono ?_
 rintro e w10 ⟨er, l', aJ, cJ, rfl, hJ, hO, hb10⟩
 obtain ⟨e1, e2⟩ := HJN.out er l' hJ
 subst e1
 subst l'
 rw [← HML.out] at hO ⊢
 have HOJ := Lib.hid hO
 clear hJ hO
 have HX10 := Lib.hid (HX9.out.trans (hb10.mono HX9.out.size))
 have HB910 := Lib.hid hb10
 have hs10 := hb10.size
 have HY10 := Lib.hid (HY9.out.trans (hb10.mono HY9.out.size))
 clear hb10
 go_wp2_with fail
 refine (join_all aM n cM Hs Bs w10 (by omega) HW.out (HRM.out w10 HY10.out) (fun i _ => by rw [HBL.out]; omega) (fun i _ q hq => Nat.le_trans (HBM.out i q hq) (by decide)) (fun i _ => HBX.out i)).mono ?_
 rintro e w11 ⟨er, l', aK, cK, rfl, hJ, hO, hb11⟩
 obtain ⟨e1, e2⟩ := HJN.out er l' hJ
 subst e1
 subst l'
 rw [← HML.out] at hO ⊢
 have HOK := Lib.hid hO
 clear hJ hO
 have HX11 := Lib.hid (HX10.out.trans (hb11.mono HX10.out.size))
 have HB1011 := Lib.hid hb11
 have hs11 := hb11.size
 have HY11 := Lib.hid (HY10.out.trans (hb11.mono HY10.out.size))
 clear hb11
 go_wp2_with fail
 have HPC := Lib.hid (piece_own aM n cM Hs Bs l w11 (by omega) HW.out (HRM.out w11 HY11.out) (fun i _ => by rw [HBL.out]; omega) (fun i _ q hq => Nat.le_trans (HBM.out i q hq) (by decide)) (fun i _ => HBX.out i) HJN.out)
 rw [← HML.out] at HPC
 refine HPC.out.mono ?_
 rintro e w12 ⟨aP, cP, rfl, hO, hb12⟩
 have HOP := Lib.hid hO
 clear hO HPC
 have HX12 := Lib.hid (HX11.out.trans (hb12.mono HX11.out.size))
 have HB1112 := Lib.hid hb12
 have hs12 := hb12.size
 have HY12 := Lib.hid (HY11.out.trans (hb12.mono HY11.out.size))
 clear hb12
 go_wp2_with fail
 have HPC := Lib.hid (piece_own aM n cM Hs Bs l w12 (by omega) HW.out (HRM.out w12 HY12.out) (fun i _ => by rw [HBL.out]; omega) (fun i _ q hq => Nat.le_trans (HBM.out i q hq) (by decide)) (fun i _ => HBX.out i) HJN.out)
 rw [← HML.out] at HPC
 refine HPC.out.mono ?_
 rintro e w13 ⟨aQ, cQ, rfl, hO, hb13⟩
 have HOQ := Lib.hid hO
 clear hO HPC
 have HX13 := Lib.hid (HX12.out.trans (hb13.mono HX12.out.size))
 have HB1213 := Lib.hid hb13
 have hs13 := hb13.size
 have HY13 := Lib.hid (HY12.out.trans (hb13.mono HY12.out.size))
 clear hb13
 have HH13 := Lib.hid (HHW.out w13 HX13.out)
 obtain ⟨sn, hsn⟩ : ∃ sn, sn = sizeN Z0.K Z0.M Z0.B (mD : Int) := ⟨_, rfl⟩
 have hsnb : sn ≤ 3 := by
  rw [hsn]
  unfold sizeN
  split
  · have e1 : Z0.K.toNat = K1 := by rw [HZK0.out]; rfl
    have e2 : Z0.B.toNat = bb + 1 := by rw [HZB0.out]; rfl
    rw [e1, e2]
    show nblk (K1 * (bb + 1)) mD ≤ 3
    rw [← HNB.out]; exact hNB3
  · omega
 have HSH : Hid (∀ (j : Nat) (v : Value), (#[.int .i64 Z0.K, .int .i64 Z0.M, .int .i64 Z0.B] : Array Value).toList[j]? = some v → w13.cell? ((⟨gh, 8, none⟩ : Addr).add j) = some v) := Lib.hid fun j v hv => by
  rw [add_addr, cell_of_row w13 gh (8 + j) _ _ (0, 0) HH13.out, ← hv]
  rcases j with _ | _ | _ | j <;> first | rfl | (exact absurd (List.getElem?_eq_some_iff.1 hv).1 (by simp))
 have HSN0 := Lib.hid hsn
 clear hsn
 go_wp2_with (refine wpList_loadAt rfl 24 (.tmp 132) rfl ⟨gh, 8, none⟩ rfl #[.int .i64 Z0.K, .int .i64 Z0.M, .int .i64 Z0.B] _ HSH.out Try.underlying24 rfl (by kernel_rfl) ?_)
 have hsn := HSN0.out
 refine (blocks_all Z0.K Z0.M Z0.B (mD : Int) w13).mono ?_
 rintro e w14 ⟨vS, rfl, hO, hb14⟩
 rw [← hsn] at hO
 obtain ⟨aS, cS, rfl, _, _, _, _⟩ := hO.rd
 have HOS := Lib.hid hO
 clear hO hsn HSH HH13
 have HX14 := Lib.hid (HX13.out.trans (hb14.mono HX13.out.size))
 have HB1314 := Lib.hid hb14
 have hs14 := hb14.size
 clear hb14
 have HH14 := Lib.hid (HHW.out w14 HX14.out)
 have HSH : Hid (∀ (j : Nat) (v : Value), (#[.int .i64 Z0.K, .int .i64 Z0.M, .int .i64 Z0.B] : Array Value).toList[j]? = some v → w14.cell? ((⟨gh, 8, none⟩ : Addr).add j) = some v) := Lib.hid fun j v hv => by
  rw [add_addr, cell_of_row w14 gh (8 + j) _ _ (0, 0) HH14.out, ← hv]
  rcases j with _ | _ | _ | j <;> first | rfl | (exact absurd (List.getElem?_eq_some_iff.1 hv).1 (by simp))
 go_wp2_with (refine wpList_loadAt rfl 24 (.tmp 140) rfl ⟨gh, 8, none⟩ rfl #[.int .i64 Z0.K, .int .i64 Z0.M, .int .i64 Z0.B] _ HSH.out Try.underlying24 rfl (by kernel_rfl) ?_)
 have hsn := HSN0.out
 refine (blocks_all Z0.K Z0.M Z0.B (mD : Int) w14).mono ?_
 rintro e w15 ⟨vN, rfl, hO, hb15⟩
 rw [← hsn] at hO
 obtain ⟨aN, cN, rfl, _, _, _, _⟩ := hO.rd
 have HON := Lib.hid hO
 clear hO hsn HSH HH14
 have HX15 := Lib.hid (HX14.out.trans (hb15.mono HX14.out.size))
 have HB1415 := Lib.hid hb15
 have hs15 := hb15.size
 clear hb15
 go_wp2_with fail
 have HRW : Hid (∀ w', Below w5.heap.size w5 w' → RSd w' aW n Hs Bs) := Lib.hid fun w' hb => by
  obtain ⟨A', c', e', _, _, h4⟩ := HCW.out.rsd
  injection e' with e1 _ _
  rw [e1]
  exact h4.below hb
 refine (sameShards_any (some ⟨g2, 0, none⟩) aW n n cW Hs Bs w15 (by omega) HW.out (fun i _ => HBX.out i) (fun i _ => by rw [HBL.out]; omega) (HS2.out.rsd.below (HB67.out.trans ((HB78.out.trans ((HB89.out.trans ((HB910.out.trans ((HB1011.out.trans ((HB1112.out.trans ((HB1213.out.trans ((HB1314.out.trans (HB1415.out.mono hs14)).mono hs13)).mono hs12)).mono hs11)).mono hs10)).mono hs9)).mono hs8)).mono hs7))) (HRW.out w15 (HB56.out.trans ((HB67.out.trans ((HB78.out.trans ((HB89.out.trans ((HB910.out.trans ((HB1011.out.trans ((HB1112.out.trans ((HB1213.out.trans ((HB1314.out.trans (HB1415.out.mono hs14)).mono hs13)).mono hs12)).mono hs11)).mono hs10)).mono hs9)).mono hs8)).mono hs7)).mono hs6)))).mono ?_
 rintro e w16 ⟨rfl, hb16⟩
 have HX16 := Lib.hid (HX15.out.trans (hb16.mono HX15.out.size))
 have HB1516 := Lib.hid hb16
 have hs16 := hb16.size
 clear hb16
 go_wp2_with fail
 refine (sameShards_any (some ⟨g3, 0, none⟩) aW n n cW Hs Bs w16 (by omega) HW.out (fun i _ => HBX.out i) (fun i _ => by rw [HBL.out]; omega) (HS3.out.rsd.below (HB89.out.trans ((HB910.out.trans ((HB1011.out.trans ((HB1112.out.trans ((HB1213.out.trans ((HB1314.out.trans ((HB1415.out.trans (HB1516.out.mono hs15)).mono hs14)).mono hs13)).mono hs12)).mono hs11)).mono hs10)).mono hs9))) (HRW.out w16 (HB56.out.trans ((HB67.out.trans ((HB78.out.trans ((HB89.out.trans ((HB910.out.trans ((HB1011.out.trans ((HB1112.out.trans ((HB1213.out.trans ((HB1314.out.trans ((HB1415.out.trans (HB1516.out.mono hs15)).mono hs14)).mono hs13)).mono hs12)).mono hs11)).mono hs10)).mono hs9)).mono hs8)).mono hs7)).mono hs6)))).mono ?_
 rintro e w17 ⟨rfl, hb17⟩
 have HX17 := Lib.hid (HX16.out.trans (hb17.mono HX16.out.size))
 have HB1617 := Lib.hid hb17
 have hs17 := hb17.size
 clear hb17
 have hcvJ := conv_strL cJ HXL.out ((own_rl' HOJ.out).below (HB1011.out.trans ((HB1112.out.trans ((HB1213.out.trans ((HB1314.out.trans ((HB1415.out.trans ((HB1516.out.trans (HB1617.out.mono hs16)).mono hs15)).mono hs14)).mono hs13)).mono hs12)).mono hs11)))
 have hcvK := conv_strL cK HXL.out ((own_rl' HOK.out).below (HB1112.out.trans ((HB1213.out.trans ((HB1314.out.trans ((HB1415.out.trans ((HB1516.out.trans (HB1617.out.mono hs16)).mono hs15)).mono hs14)).mono hs13)).mono hs12)))
 have hcvP := conv_strL cP HXL.out ((own_rl' HOP.out).below (HB1213.out.trans ((HB1314.out.trans ((HB1415.out.trans ((HB1516.out.trans (HB1617.out.mono hs16)).mono hs15)).mono hs14)).mono hs13)))
 have hcvQ := conv_strL cQ HXL.out ((own_rl' HOQ.out).below (HB1314.out.trans ((HB1415.out.trans ((HB1516.out.trans (HB1617.out.mono hs16)).mono hs15)).mono hs14)))
 have hcvO := conv_strL cO HXL.out (HRO.out w17 HX17.out)
 rw [← HML.out] at hcvJ hcvK hcvP hcvQ hcvO
 have HSNm := Lib.hid (sameNumbers_any aS aN sn cS cN (fun j => ((blen Z0.K.toNat Z0.B.toNat (mD : Int).toNat j : Nat) : Int)) w17 (by omega) (by
  obtain ⟨A', c', e', _, _, h4, _⟩ := HOS.out.rd
  injection e' with e1 _ _
  rw [e1]
  exact h4.below (HB1415.out.trans ((HB1516.out.trans (HB1617.out.mono hs16)).mono hs15))) (by
  obtain ⟨A', c', e', _, _, h4, _⟩ := HON.out.rd
  injection e' with e1 _ _
  rw [e1]
  exact h4.below (HB1516.out.trans (HB1617.out.mono hs16))))
 go_wp2_with fail
 refine HSNm.out.mono ?_
 rintro e w18 ⟨rfl, hdr⟩
 have hb18 : Below w17.heap.size w17 w18 := hdr.below _
 have HX18 := Lib.hid (HX17.out.trans (hb18.mono HX17.out.size))
 have HB1718 := Lib.hid hb18
 have hs18 := hb18.size
 clear hb18
 clear hdr HSNm hcvJ hcvK hcvP hcvQ hcvO
 have HRJ : Hid (AR w18 w3.heap.size 5 (fun k => w9.heap.size ≤ k ∧ k < w10.heap.size) [⟨aJ, mD, cJ, fun q => .int .u8 ((l.getD q 0 : Nat) : Int)⟩]) := Lib.hid (by
  have h1 := HOJ.out.own
  rw [← HML.out] at h1
  exact ((AR.one (U := fun k => w9.heap.size ≤ k ∧ k < w10.heap.size) h1 (fun k hk => h1.lt k hk)).kept (HB1011.out.trans ((HB1112.out.trans ((HB1213.out.trans ((HB1314.out.trans ((HB1415.out.trans ((HB1516.out.trans ((HB1617.out.trans (HB1718.out.mono hs17)).mono hs16)).mono hs15)).mono hs14)).mono hs13)).mono hs12)).mono hs11))).monoB (by omega))
 have HRK : Hid (AR w18 w3.heap.size 5 (fun k => w10.heap.size ≤ k ∧ k < w11.heap.size) [⟨aK, mD, cK, fun q => .int .u8 ((l.getD q 0 : Nat) : Int)⟩]) := Lib.hid (by
  have h1 := HOK.out.own
  rw [← HML.out] at h1
  exact ((AR.one (U := fun k => w10.heap.size ≤ k ∧ k < w11.heap.size) h1 (fun k hk => h1.lt k hk)).kept (HB1112.out.trans ((HB1213.out.trans ((HB1314.out.trans ((HB1415.out.trans ((HB1516.out.trans ((HB1617.out.trans (HB1718.out.mono hs17)).mono hs16)).mono hs15)).mono hs14)).mono hs13)).mono hs12))).monoB (by omega))
 have HRP : Hid (AR w18 w3.heap.size 5 (fun k => w11.heap.size ≤ k ∧ k < w12.heap.size) [⟨aP, mD, cP, fun q => .int .u8 ((l.getD q 0 : Nat) : Int)⟩]) := Lib.hid (by
  have h1 := HOP.out.own
  rw [← HML.out] at h1
  exact ((AR.one (U := fun k => w11.heap.size ≤ k ∧ k < w12.heap.size) h1 (fun k hk => h1.lt k hk)).kept (HB1213.out.trans ((HB1314.out.trans ((HB1415.out.trans ((HB1516.out.trans ((HB1617.out.trans (HB1718.out.mono hs17)).mono hs16)).mono hs15)).mono hs14)).mono hs13))).monoB (by omega))
 have HRQ : Hid (AR w18 w3.heap.size 5 (fun k => w12.heap.size ≤ k ∧ k < w13.heap.size) [⟨aQ, mD, cQ, fun q => .int .u8 ((l.getD q 0 : Nat) : Int)⟩]) := Lib.hid (by
  have h1 := HOQ.out.own
  rw [← HML.out] at h1
  exact ((AR.one (U := fun k => w12.heap.size ≤ k ∧ k < w13.heap.size) h1 (fun k hk => h1.lt k hk)).kept (HB1314.out.trans ((HB1415.out.trans ((HB1516.out.trans ((HB1617.out.trans (HB1718.out.mono hs17)).mono hs16)).mono hs15)).mono hs14))).monoB (by omega))
 have HR4 : Hid (AR w18 w3.heap.size 5 (Ua w9.heap.size w13.heap.size w3.heap.size w4.heap.size w5.heap.size w6.heap.size w7.heap.size w8.heap.size (T1 0) (T2 0) (T3 0)) ([⟨aJ, mD, cJ, fun q => .int .u8 ((l.getD q 0 : Nat) : Int)⟩] ++ [⟨aK, mD, cK, fun q => .int .u8 ((l.getD q 0 : Nat) : Int)⟩] ++ [⟨aP, mD, cP, fun q => .int .u8 ((l.getD q 0 : Nat) : Int)⟩] ++ [⟨aQ, mD, cQ, fun q => .int .u8 ((l.getD q 0 : Nat) : Int)⟩])) := Lib.hid (by
  have h1 : AR w18 w3.heap.size 5 (fun k => w9.heap.size ≤ k ∧ k < w11.heap.size) _ := AR.pair HRJ.out HRK.out (fun k h1 h2 => ⟨h1, h2⟩) (by omega) (by omega)
  have h2 : AR w18 w3.heap.size 5 (fun k => w9.heap.size ≤ k ∧ k < w12.heap.size) _ := AR.pair h1 HRP.out (fun k h1 h2 => ⟨h1, h2⟩) (by omega) (by omega)
  exact AR.pair h2 HRQ.out (fun k h1 h2 => .inl ⟨h1, h2⟩) (by omega) (by omega))
 obtain ⟨fb, hfb⟩ : ∃ fb : Nat → Value, fb = fun q => .int .u8 ((l.getD q 0 : Nat) : Int) := ⟨_, rfl⟩
 rw [← hfb] at HR4
 clear hfb HRJ HRK HRP HRQ
 have HV0 : Hid (OwnR (w18.alloc (.cells #[.slice aJ mD cJ, .slice aK mD cK, .slice aP mD cP, .slice aQ mD cQ] 43)) w18.heap.size 43 (.slice (some ⟨w18.heap.size, 0, none⟩) 4 4) ([⟨aJ, mD, cJ, fb⟩] ++ [⟨aK, mD, cK, fb⟩] ++ [⟨aP, mD, cP, fb⟩] ++ [⟨aQ, mD, cQ, fb⟩])) := Lib.hid (OwnR.made w18 43 _ 4 _ rfl rfl (by show 4 ≤ maxLen; unfold maxLen; decide))
 go_wp2
 go_loopg [28, 29, 30] n (fun gk va vr vi wr => ∃ (i : Nat) (R R2 : List Rw), i ≤ n ∧ gk = n - i ∧ vi = .int .i64 i ∧ AR w18 w3.heap.size 5 (Ua w9.heap.size w13.heap.size w3.heap.size w4.heap.size w5.heap.size w6.heap.size w7.heap.size w8.heap.size (T1 i) (T2 i) (T3 i)) R ∧ R.length = 4 + 3 * NB * i ∧ (∀ r ∈ R, r.n ≤ 108) ∧ OwnR wr w18.heap.size 43 va R ∧
  AR w18 w3.heap.size 43 (Ua w9.heap.size w9.heap.size w3.heap.size w4.heap.size w5.heap.size w6.heap.size w7.heap.size w8.heap.size (T1 i) (T2 i) (T3 i)) R2 ∧ R2.length = 3 * i ∧ (∀ r ∈ R2, r.n ≤ 3) ∧ OwnR wr w18.heap.size 67 vr R2 ∧ Below w18.heap.size w18 wr)
 case atStart =>
  exact ⟨0, _, [], Nat.zero_le _, rfl, rfl, HR4.out, by simp, fun r hr => by
   simp only [List.cons_append, List.nil_append, List.mem_cons, List.not_mem_nil, or_false] at hr
   rcases hr with rfl | rfl | rfl | rfl <;> (show mD ≤ 108; omega), HV0.out, AR.nil _ _ _ _, rfl, fun r hr => by (cases hr), OwnR.nil _ _ _, (Below.refl _ _).alloc (Nat.le_refl _) _⟩
 case round =>
  clear HR4 HV0
  obtain ⟨i, R, R2, hi, rfl, rfl, hR, hlR, hnR, hva, hR2, hlR2, hnR2, hvr, hb⟩ := hrel
  by_cases hlt : i < n
  · skip
    obtain ⟨R1, X1, d1, f1, eV1, hl1, hrd1, hA1, hn1, hB1⟩ := sd_rows HS1.out hlt
    rw [HBL.out] at hl1
    have HRD1 : Hid (∀ w', Below w18.heap.size w18 w' → Rd w' X1 NB (fun j => (R1.getD j rw0).v)) := Lib.hid fun w' hb' => by rw [← hl1]; exact hrd1.below ((HB45.out.trans ((HB56.out.trans ((HB67.out.trans ((HB78.out.trans ((HB89.out.trans ((HB910.out.trans ((HB1011.out.trans ((HB1112.out.trans ((HB1213.out.trans ((HB1314.out.trans ((HB1415.out.trans ((HB1516.out.trans ((HB1617.out.trans (HB1718.out.mono hs17)).mono hs16)).mono hs15)).mono hs14)).mono hs13)).mono hs12)).mono hs11)).mono hs10)).mono hs9)).mono hs8)).mono hs7)).mono hs6)).mono hs5)).trans (hb'.mono (by omega)))
    have hcl1 : ∀ w', Below w18.heap.size w18 w' → w'.cell? ⟨g1, i * 17 + 16, none⟩ = some (.slice X1 NB d1) := fun w' hb' => by
     have h1 := (HS1.out.top.kept ((HB45.out.trans ((HB56.out.trans ((HB67.out.trans ((HB78.out.trans ((HB89.out.trans ((HB910.out.trans ((HB1011.out.trans ((HB1112.out.trans ((HB1213.out.trans ((HB1314.out.trans ((HB1415.out.trans ((HB1516.out.trans ((HB1617.out.trans (HB1718.out.mono hs17)).mono hs16)).mono hs15)).mono hs14)).mono hs13)).mono hs12)).mono hs11)).mono hs10)).mono hs9)).mono hs8)).mono hs7)).mono hs6)).mono hs5)).trans (hb'.mono (by omega)))).cellN (fun _ _ => sdC_len _ _) hlt (show 16 < 17 by decide)
     rw [h1, ← hl1, ← eV1]
     rfl
    obtain ⟨R2', X2, d2, f2, eV2, hl2, hrd2, hA2, hn2, hB2⟩ := sd_rows HS2.out hlt
    rw [HBL.out] at hl2
    have HRD2 : Hid (∀ w', Below w18.heap.size w18 w' → Rd w' X2 NB (fun j => (R2'.getD j rw0).v)) := Lib.hid fun w' hb' => by rw [← hl2]; exact hrd2.below ((HB67.out.trans ((HB78.out.trans ((HB89.out.trans ((HB910.out.trans ((HB1011.out.trans ((HB1112.out.trans ((HB1213.out.trans ((HB1314.out.trans ((HB1415.out.trans ((HB1516.out.trans ((HB1617.out.trans (HB1718.out.mono hs17)).mono hs16)).mono hs15)).mono hs14)).mono hs13)).mono hs12)).mono hs11)).mono hs10)).mono hs9)).mono hs8)).mono hs7)).trans (hb'.mono (by omega)))
    have hcl2 : ∀ w', Below w18.heap.size w18 w' → w'.cell? ⟨g2, i * 17 + 16, none⟩ = some (.slice X2 NB d2) := fun w' hb' => by
     have h1 := (HS2.out.top.kept ((HB67.out.trans ((HB78.out.trans ((HB89.out.trans ((HB910.out.trans ((HB1011.out.trans ((HB1112.out.trans ((HB1213.out.trans ((HB1314.out.trans ((HB1415.out.trans ((HB1516.out.trans ((HB1617.out.trans (HB1718.out.mono hs17)).mono hs16)).mono hs15)).mono hs14)).mono hs13)).mono hs12)).mono hs11)).mono hs10)).mono hs9)).mono hs8)).mono hs7)).trans (hb'.mono (by omega)))).cellN (fun _ _ => sdC_len _ _) hlt (show 16 < 17 by decide)
     rw [h1, ← hl2, ← eV2]
     rfl
    obtain ⟨R3, X3, d3, f3, eV3, hl3, hrd3, hA3, hn3, hB3⟩ := sd_rows HS3.out hlt
    rw [HBL.out] at hl3
    have HRD3 : Hid (∀ w', Below w18.heap.size w18 w' → Rd w' X3 NB (fun j => (R3.getD j rw0).v)) := Lib.hid fun w' hb' => by rw [← hl3]; exact hrd3.below ((HB89.out.trans ((HB910.out.trans ((HB1011.out.trans ((HB1112.out.trans ((HB1213.out.trans ((HB1314.out.trans ((HB1415.out.trans ((HB1516.out.trans ((HB1617.out.trans (HB1718.out.mono hs17)).mono hs16)).mono hs15)).mono hs14)).mono hs13)).mono hs12)).mono hs11)).mono hs10)).mono hs9)).trans (hb'.mono (by omega)))
    have hcl3 : ∀ w', Below w18.heap.size w18 w' → w'.cell? ⟨g3, i * 17 + 16, none⟩ = some (.slice X3 NB d3) := fun w' hb' => by
     have h1 := (HS3.out.top.kept ((HB89.out.trans ((HB910.out.trans ((HB1011.out.trans ((HB1112.out.trans ((HB1213.out.trans ((HB1314.out.trans ((HB1415.out.trans ((HB1516.out.trans ((HB1617.out.trans (HB1718.out.mono hs17)).mono hs16)).mono hs15)).mono hs14)).mono hs13)).mono hs12)).mono hs11)).mono hs10)).mono hs9)).trans (hb'.mono (by omega)))).cellN (fun _ _ => sdC_len _ _) hlt (show 16 < 17 by decide)
     rw [h1, ← hl3, ← eV3]
     rfl
    have hRn := hR.app3 (s1 := T1 (i + 1)) (s2 := T2 (i + 1)) (s3 := T3 (i + 1)) (by omega) (by omega) (by omega) (by omega) (by omega) (HS1.out.mono i hlt) (HS2.out.mono i hlt) (HS3.out.mono i hlt) ((hA1.kept (HB45.out.trans ((HB56.out.trans ((HB67.out.trans ((HB78.out.trans ((HB89.out.trans ((HB910.out.trans ((HB1011.out.trans ((HB1112.out.trans ((HB1213.out.trans ((HB1314.out.trans ((HB1415.out.trans ((HB1516.out.trans ((HB1617.out.trans (HB1718.out.mono hs17)).mono hs16)).mono hs15)).mono hs14)).mono hs13)).mono hs12)).mono hs11)).mono hs10)).mono hs9)).mono hs8)).mono hs7)).mono hs6)).mono hs5)))) ((hA2.kept (HB67.out.trans ((HB78.out.trans ((HB89.out.trans ((HB910.out.trans ((HB1011.out.trans ((HB1112.out.trans ((HB1213.out.trans ((HB1314.out.trans ((HB1415.out.trans ((HB1516.out.trans ((HB1617.out.trans (HB1718.out.mono hs17)).mono hs16)).mono hs15)).mono hs14)).mono hs13)).mono hs12)).mono hs11)).mono hs10)).mono hs9)).mono hs8)).mono hs7))).monoB (by omega)) ((hA3.kept (HB89.out.trans ((HB910.out.trans ((HB1011.out.trans ((HB1112.out.trans ((HB1213.out.trans ((HB1314.out.trans ((HB1415.out.trans ((HB1516.out.trans ((HB1617.out.trans (HB1718.out.mono hs17)).mono hs16)).mono hs15)).mono hs14)).mono hs13)).mono hs12)).mono hs11)).mono hs10)).mono hs9))).monoB (by omega))
    have hR2n := hR2.app3 (s1 := T1 (i + 1)) (s2 := T2 (i + 1)) (s3 := T3 (i + 1)) (by omega) (by omega) (by omega) (by omega) (by omega) (HS1.out.mono i hlt) (HS2.out.mono i hlt) (HS3.out.mono i hlt) ((hB1.kept (HB45.out.trans ((HB56.out.trans ((HB67.out.trans ((HB78.out.trans ((HB89.out.trans ((HB910.out.trans ((HB1011.out.trans ((HB1112.out.trans ((HB1213.out.trans ((HB1314.out.trans ((HB1415.out.trans ((HB1516.out.trans ((HB1617.out.trans (HB1718.out.mono hs17)).mono hs16)).mono hs15)).mono hs14)).mono hs13)).mono hs12)).mono hs11)).mono hs10)).mono hs9)).mono hs8)).mono hs7)).mono hs6)).mono hs5)))) ((hB2.kept (HB67.out.trans ((HB78.out.trans ((HB89.out.trans ((HB910.out.trans ((HB1011.out.trans ((HB1112.out.trans ((HB1213.out.trans ((HB1314.out.trans ((HB1415.out.trans ((HB1516.out.trans ((HB1617.out.trans (HB1718.out.mono hs17)).mono hs16)).mono hs15)).mono hs14)).mono hs13)).mono hs12)).mono hs11)).mono hs10)).mono hs9)).mono hs8)).mono hs7))).monoB (by omega)) ((hB3.kept (HB89.out.trans ((HB910.out.trans ((HB1011.out.trans ((HB1112.out.trans ((HB1213.out.trans ((HB1314.out.trans ((HB1415.out.trans ((HB1516.out.trans ((HB1617.out.trans (HB1718.out.mono hs17)).mono hs16)).mono hs15)).mono hs14)).mono hs13)).mono hs12)).mono hs11)).mono hs10)).mono hs9))).monoB (by omega))
    rw [hl1, hl2, hl3] at hR2n
    have HRn := Lib.hid hRn
    have HR2n := Lib.hid hR2n
    have HNR : Hid (∀ r ∈ R ++ R1 ++ R2' ++ R3, r.n ≤ 108) := Lib.hid fun r hr => by
     simp only [List.mem_append] at hr
     rcases hr with ((hr | hr) | hr) | hr
     · exact hnR r hr
     · obtain ⟨q, hq, e⟩ := hn1 r hr; have := HBM.out i q hq; omega
     · obtain ⟨q, hq, e⟩ := hn2 r hr; have := HBM.out i q hq; omega
     · obtain ⟨q, hq, e⟩ := hn3 r hr; have := HBM.out i q hq; omega
    have HLN : Hid ((R ++ R1 ++ R2' ++ R3).length = 4 + 3 * NB * (i + 1)) := Lib.hid (by
     simp only [List.length_append, hl1, hl2, hl3, hlR]
     rw [Nat.mul_add]
     omega)
    have HNR2 : Hid (∀ r ∈ R2 ++ [⟨X1, NB, d1, f1⟩] ++ [⟨X2, NB, d2, f2⟩] ++ [⟨X3, NB, d3, f3⟩], r.n ≤ 3) := Lib.hid fun r hr => by
     simp only [List.mem_append, List.mem_singleton] at hr
     rcases hr with ((hr | rfl) | rfl) | rfl
     · exact hnR2 r hr
     all_goals exact hNB3
    have KS : Hid (∀ w', Below w18.heap.size w18 w' → w'.cell? ⟨g1, i * 17 + 16, none⟩ = some (.slice X1 NB d1) ∧ w'.cell? ⟨g2, i * 17 + 16, none⟩ = some (.slice X2 NB d2) ∧ w'.cell? ⟨g3, i * 17 + 16, none⟩ = some (.slice X3 NB d3)) := Lib.hid fun w' hb' => ⟨hcl1 w' hb', hcl2 w' hb', hcl3 w' hb'⟩
    have HVA := Lib.hid (hva.kept (Below.refl _ _).drew)
    have HVR := Lib.hid (hvr.kept (Below.refl _ _).drew)
    have HBd := Lib.hid (hb.drew)
    have hNBi : 3 * NB * i ≤ 72 := Nat.le_trans (Nat.mul_le_mul (show 3 * NB ≤ 9 by omega) (show i ≤ 8 by omega)) (by decide)
    clear hcl1 hcl2 hcl3 hrd1 hrd2 hrd3 hA1 hA2 hA3 hB1 hB2 hB3 hn1 hn2 hn3 eV1 eV2 eV3 hR hR2 hRn hR2n hnR hnR2 hva hvr hb
    go_wp2_with fail
    refine wp_region_mix [(true, true, false), (true, true, false), (true, true, false), (true, true, false), (true, true, false), (true, true, true), (false, false, false), (true, true, false), (true, true, false), (true, true, false), (true, true, false), (true, true, true), (false, false, false), (true, true, false), (true, true, false), (true, true, false), (true, true, false), (true, true, true), (false, false, false), (false, true, false)] mixed (by kernel_rfl) (fun w4 => w4.cell? ⟨g1, i * 17 + 16, none⟩ = some (.slice X1 NB d1) ∧ w4.cell? ⟨g2, i * 17 + 16, none⟩ = some (.slice X2 NB d2) ∧ w4.cell? ⟨g3, i * 17 + 16, none⟩ = some (.slice X3 NB d3)) (KS.out _ HBd.out) ?_
    intro hSw0
    simp only [hdM, tlM, List.cons_append, List.nil_append]
    repeat (first
     | (refine mix_look hSw0.out ?_ (by rfl) (fun w4 hSw => ?_) ?_; rotate_left; (focus (obtain ⟨s1, s2, s3⟩ := hSw; go_simp; try with_reducible rfl)); simp only [Act.put, List.setIfInBounds_toArray, List.set_cons_zero, List.set_cons_succ])
     | (refine mix_pure ?_ (by rfl) (fun w4 => ?_) ?_; rotate_left; (focus (go_simp; try with_reducible rfl)); simp only [Act.put, List.setIfInBounds_toArray, List.set_cons_zero, List.set_cons_succ]))
    refine mix_list (fun K hK => ?_)
    refine wpList_appR (w := wr.drew) (A := X1) (c := d1) rfl (.tmp 202) (.tmp 207) 67 rfl w18.heap.size 43 Try.underlying67 bytesInfo _ (R) R1 rfl HVA.out HBd.out.size (by rw [hl1]; rfl) (by rw [hl1]; exact HRD1.out _ HBd.out) (by simp only [List.length_append, hl1, hl2, hl3, hlR]; omega) ?_
    intro vn1 u1 hO1x hb1x hat1x
    have HVA1 := Lib.hid hO1x
    have HVR1 := Lib.hid (HVR.out.grown HVA.out (by decide) hat1x)
    have HBu1 := Lib.hid (HBd.out.trans hb1x)
    clear hO1x hb1x hat1x
    refine hK.out _ _ (fun _ _ => KS.out _ HBu1.out) ?_
    clear hK K
    try simp only [Act.put, List.setIfInBounds_toArray, List.set_cons_zero, List.set_cons_succ]
    refine mix_list (fun K hK => ?_)
    refine wpList_appR (w := u1) (A := X2) (c := d2) rfl (.tmp 208) (.tmp 213) 67 rfl w18.heap.size 43 Try.underlying67 bytesInfo vn1 (R ++ R1) R2' rfl HVA1.out HBu1.out.size (by rw [hl2]; rfl) (by rw [hl2]; exact HRD2.out _ HBu1.out) (by simp only [List.length_append, hl1, hl2, hl3, hlR]; omega) ?_
    intro vn2 u2 hO2x hb2x hat2x
    have HVA2 := Lib.hid hO2x
    have HVR2 := Lib.hid (HVR1.out.grown HVA1.out (by decide) hat2x)
    have HBu2 := Lib.hid (HBu1.out.trans hb2x)
    clear hO2x hb2x hat2x
    refine hK.out _ _ (fun _ _ => KS.out _ HBu2.out) ?_
    clear hK K
    try simp only [Act.put, List.setIfInBounds_toArray, List.set_cons_zero, List.set_cons_succ]
    refine mix_list (fun K hK => ?_)
    refine wpList_appR (w := u2) (A := X3) (c := d3) rfl (.tmp 214) (.tmp 219) 67 rfl w18.heap.size 43 Try.underlying67 bytesInfo vn2 (R ++ R1 ++ R2') R3 rfl HVA2.out HBu2.out.size (by rw [hl3]; rfl) (by rw [hl3]; exact HRD3.out _ HBu2.out) (by simp only [List.length_append, hl1, hl2, hl3, hlR]; omega) ?_
    intro vn3 u3 hO3x hb3x hat3x
    have HVA3 := Lib.hid hO3x
    have HVR3 := Lib.hid (HVR2.out.grown HVA2.out (by decide) hat3x)
    have HBu3 := Lib.hid (HBu2.out.trans hb3x)
    clear hO3x hb3x hat3x
    refine hK.out _ _ (fun _ _ => KS.out _ HBu3.out) ?_
    clear hK K
    try simp only [Act.put, List.setIfInBounds_toArray, List.set_cons_zero, List.set_cons_succ]
    repeat (refine mix_pure ?_ (by rfl) (fun w4 => ?_) ?_; rotate_left; (focus (go_simp; try with_reducible rfl)); simp only [Act.put, List.setIfInBounds_toArray, List.set_cons_zero, List.set_cons_succ])
    refine mix_nil ?_
    have HVAd := Lib.hid (HVA3.out.kept (Below.refl _ _).drew)
    have HVRd := Lib.hid (HVR3.out.kept (Below.refl _ _).drew)
    have HBu3d := Lib.hid (HBu3.out.drew)
    clear HVA HVA1 HVA2 HVA3 HVR HVR1 HVR2 HVR3 HBd HBu1 HBu2
    go_wp2_with fail
    refine wp_region_mix [(true, true, false), (true, true, false), (true, true, false), (true, true, false), (true, true, false), (true, true, true), (true, true, false), (true, true, false), (true, true, false), (true, true, false), (true, true, true), (true, true, false), (true, true, false), (true, true, false), (true, true, false), (true, true, true), (false, false, false), (false, false, false), (false, true, false)] mixed (by kernel_rfl) (fun w4 => w4.cell? ⟨g1, i * 17 + 16, none⟩ = some (.slice X1 NB d1) ∧ w4.cell? ⟨g2, i * 17 + 16, none⟩ = some (.slice X2 NB d2) ∧ w4.cell? ⟨g3, i * 17 + 16, none⟩ = some (.slice X3 NB d3)) (KS.out _ HBu3d.out) ?_
    intro hSx0
    simp only [hdM, tlM, List.cons_append, List.nil_append]
    repeat (first
     | (refine mix_look hSx0.out ?_ (by rfl) (fun w4 hSw => ?_) ?_; rotate_left; (focus (obtain ⟨s1, s2, s3⟩ := hSw; go_simp; try with_reducible rfl)); simp only [Act.put, List.setIfInBounds_toArray, List.set_cons_zero, List.set_cons_succ])
     | (refine mix_pure ?_ (by rfl) (fun w4 => ?_) ?_; rotate_left; (focus (go_simp; try with_reducible rfl)); simp only [Act.put, List.setIfInBounds_toArray, List.set_cons_zero, List.set_cons_succ]))
    refine mix_step (fun K hK => ?_)
    go_simp
    refine hK.out _ _ (fun _ _ => KS.out _ (HBu3d.out.alloc HBu3d.out.size _)) ?_
    clear hK K
    try simp only [Act.put, List.setIfInBounds_toArray, List.set_cons_zero, List.set_cons_succ]
    refine mix_list (fun K hK => ?_)
    change wpList _ _ _ _ _ (World.alloc u3.drew _)
    refine wpList_appC u3.drew rfl (.tmp 221) (.tmp 237) 80 rfl w18.heap.size 67 Try.underlying80 bytesInfoU _ R2 ([⟨X1, NB, d1, f1⟩] ++ [⟨X2, NB, d2, f2⟩] ++ [⟨X3, NB, d3, f3⟩]) #[.slice X1 NB d1, .slice X2 NB d2, .slice X3 NB d3] 3 rfl rfl rfl HVRd.out HBu3d.out.size _ rfl rfl (by simp only [List.length_append, List.length_singleton, hlR2]; omega) ?_
    intro vr5 u5 hO5 hb5 hat5
    have HVR5 := Lib.hid hO5
    have HVA5 := Lib.hid (HVAd.out.grw HVRd.out (by decide) hat5)
    have HBu5 := Lib.hid (HBu3d.out.trans hb5)
    clear hO5 hb5 hat5
    refine hK.out _ _ (fun _ _ => KS.out _ HBu5.out) ?_
    clear hK K
    try simp only [Act.put, List.setIfInBounds_toArray, List.set_cons_zero, List.set_cons_succ]
    repeat (refine mix_pure ?_ (by rfl) (fun w4 => ?_) ?_; rotate_left; (focus (go_simp; try with_reducible rfl)); simp only [Act.put, List.setIfInBounds_toArray, List.set_cons_zero, List.set_cons_succ])
    refine mix_nil ?_
    have HLN2 : Hid ((R2 ++ [(⟨X1, NB, d1, f1⟩ : Rw)] ++ [(⟨X2, NB, d2, f2⟩ : Rw)] ++ [(⟨X3, NB, d3, f3⟩ : Rw)]).length = 3 * (i + 1)) := Lib.hid (by simp only [List.length_append, List.length_singleton, hlR2]; omega)
    rw [← List.append_assoc, ← List.append_assoc] at HVR5
    clear KS HRD1 HRD2 HRD3 HVAd HVRd HBu3d HBu3 hlR hlR2 hl1 hl2 hl3
    go_wp2
    go_roundg (n - (i + 1))
    case measure => omega
    case rel => exact ⟨i + 1, _, _, by omega, rfl, by go_num, HRn.out, HLN.out, HNR.out, HVA5.out, HR2n.out, HLN2.out, HNR2.out, HVR5.out, HBu5.out⟩
  · obtain rfl : n = i := by omega
    have HRa := Lib.hid hR; have HRb := Lib.hid hR2; have HVA := Lib.hid hva; have HVR := Lib.hid hvr; have HBL18 := Lib.hid hb
    have HNRa := Lib.hid hnR; have HNRb := Lib.hid hnR2
    have hRn : R.length ≤ 140 := by
     have : 3 * NB * n ≤ 72 := Nat.le_trans (Nat.mul_le_mul (show 3 * NB ≤ 9 by omega) (show n ≤ 8 by omega)) (by decide)
     omega
    have hR2n : R2.length ≤ 120 := by omega
    obtain ⟨Av, cv, rfl, _, _, _, _⟩ := hva.own.rd
    obtain ⟨Ar, cr, rfl, _, _, _, _⟩ := hvr.own.rd
    clear hR hR2 hva hvr hb hnR hnR2 hlR hlR2
    go_wp2_with fail
    have hswr := HBL18.out.size
    have HRwr := Lib.hid (HRa.out.kept HBL18.out)
    have HRwb := Lib.hid (HRb.out.kept HBL18.out)
    refine (apart_any Av R.length cv (fun t => (R.getD t rw0).A) (fun t => (R.getD t rw0).n) (fun t => (R.getD t rw0).c) (fun t q => (R.getD t rw0).f q) w18.heap.size w3.heap.size wr hRn (fun t ht => Nat.le_trans (HNRa.out _ (rget ht)) (by decide)) HVA.out.own HRwr.out.own HRwr.out.apt (by omega)).mono ?_
    rintro e w19 ⟨rfl, ho19⟩
    have HQ19 : Hid (Only (fun k => (w3.heap.size ≤ k ∧ k < w4.heap.size) ∨ (w5.heap.size ≤ k ∧ k < w6.heap.size) ∨ (w7.heap.size ≤ k ∧ k < w8.heap.size) ∨ (w9.heap.size ≤ k ∧ k < w15.heap.size)) wr w19) := Lib.hid (ho19.mono fun k hk => by
     have h1 := HRa.out.rb hk
     unfold Ua at h1
     omega)
    have HR2n := Lib.hid (HRwb.out.past HRwr.out.own (by decide) ho19)
    have HVRn := Lib.hid (HVR.out.past HRwr.out.own (by decide) ho19)
    have HT1 : Hid (∀ (B' e' sz m : Nat) (v : Value) (F : Nat → List Value), Own wr B' e' sz v m F → e' ≠ 5 → Own w19 B' e' sz v m F) := Lib.hid fun B' e' sz m v F h hne => h.past HRwr.out.own hne ho19
    have hs19 := ho19.size
    clear ho19 HVA HVR HRwb HNRa
    go_wp2_with fail
    refine (apartR_any Ar R2.length cr (fun t => (R2.getD t rw0).A) (fun t => (R2.getD t rw0).n) (fun t => (R2.getD t rw0).c) (fun t q => (R2.getD t rw0).f q) w18.heap.size w3.heap.size w19 hR2n (fun t ht => Nat.le_trans (HNRb.out _ (rget ht)) (by decide)) HVRn.out.own HR2n.out.own HR2n.out.apt (by omega)).mono ?_
    rintro e w20 ⟨rfl, ho20⟩
    have HQ20 : Hid (Only (fun k => (w3.heap.size ≤ k ∧ k < w4.heap.size) ∨ (w5.heap.size ≤ k ∧ k < w6.heap.size) ∨ (w7.heap.size ≤ k ∧ k < w8.heap.size) ∨ (w9.heap.size ≤ k ∧ k < w15.heap.size)) wr w20) := Lib.hid (HQ19.out.trans' ho20 fun k hk => by
     have h1 := HR2n.out.rb hk
     unfold Ua at h1
     omega)
    have HT2 : Hid (∀ (B' e' sz m : Nat) (v : Value) (F : Nat → List Value), Own wr B' e' sz v m F → e' ≠ 5 → e' ≠ 43 → Own w20 B' e' sz v m F) := Lib.hid fun B' e' sz m v F h hne hne2 => (HT1.out B' e' sz m v F h hne).past HR2n.out.own hne2 ho20
    have hs20 := ho20.size
    clear ho20 HQ19 HT1 HR2n HVRn HNRb HRwr HRa HRb
    obtain ⟨RS, hRS⟩ : ∃ RS : List Rw, RS = [⟨some ⟨g1, 0, none⟩, n, n, fun _ => undef⟩, ⟨some ⟨g2, 0, none⟩, n, n, fun _ => undef⟩, ⟨some ⟨g3, 0, none⟩, n, n, fun _ => undef⟩] := ⟨_, rfl⟩
    have hRS3 : RS.length = 3 := by rw [hRS]; rfl
    have HSHR : Hid (∀ t, t < RS.length → Own (w20.alloc (.cells #[.slice (some ⟨g1, 0, none⟩) n n, .slice (some ⟨g2, 0, none⟩) n n, .slice (some ⟨g3, 0, none⟩) n n] 45)) w3.heap.size 69 17 (.slice (RS.getD t rw0).A (RS.getD t rw0).n (RS.getD t rw0).c) (RS.getD t rw0).n ((fun t q => sdC (Hs q) (if t = 0 then V1 q else if t = 1 then V2 q else V3 q)) t)) := Lib.hid fun t ht => by
     rw [hRS3] at ht
     rw [hRS]
     rcases (show t = 0 ∨ t = 1 ∨ t = 2 by omega) with rfl | rfl | rfl
     · exact (HT2.out _ _ _ _ _ _ ((HS1.out.top.kept (HB45.out.trans ((HB56.out.trans ((HB67.out.trans ((HB78.out.trans ((HB89.out.trans ((HB910.out.trans ((HB1011.out.trans ((HB1112.out.trans ((HB1213.out.trans ((HB1314.out.trans ((HB1415.out.trans ((HB1516.out.trans ((HB1617.out.trans (HB1718.out.mono hs17)).mono hs16)).mono hs15)).mono hs14)).mono hs13)).mono hs12)).mono hs11)).mono hs10)).mono hs9)).mono hs8)).mono hs7)).mono hs6)).mono hs5))).kept HBL18.out) (by decide) (by decide)).alloc _
     · exact ((HT2.out _ _ _ _ _ _ ((HS2.out.top.kept (HB67.out.trans ((HB78.out.trans ((HB89.out.trans ((HB910.out.trans ((HB1011.out.trans ((HB1112.out.trans ((HB1213.out.trans ((HB1314.out.trans ((HB1415.out.trans ((HB1516.out.trans ((HB1617.out.trans (HB1718.out.mono hs17)).mono hs16)).mono hs15)).mono hs14)).mono hs13)).mono hs12)).mono hs11)).mono hs10)).mono hs9)).mono hs8)).mono hs7))).kept HBL18.out) (by decide) (by decide)).alloc _).mono (by omega)
     · exact ((HT2.out _ _ _ _ _ _ ((HS3.out.top.kept (HB89.out.trans ((HB910.out.trans ((HB1011.out.trans ((HB1112.out.trans ((HB1213.out.trans ((HB1314.out.trans ((HB1415.out.trans ((HB1516.out.trans ((HB1617.out.trans (HB1718.out.mono hs17)).mono hs16)).mono hs15)).mono hs14)).mono hs13)).mono hs12)).mono hs11)).mono hs10)).mono hs9))).kept HBL18.out) (by decide) (by decide)).alloc _).mono (by omega)
    have HTOPS : Hid (OwnR (w20.alloc (.cells #[.slice (some ⟨g1, 0, none⟩) n n, .slice (some ⟨g2, 0, none⟩) n n, .slice (some ⟨g3, 0, none⟩) n n] 45)) w20.heap.size 45 (.slice (some ⟨w20.heap.size, 0, none⟩) 3 3) RS) := Lib.hid (OwnR.made w20 45 _ 3 _ (by rw [hRS]; rfl) hRS3.symm (by rw [hRS3]; unfold maxLen; decide))
    have hgs1 := HS1.out.marks.1
    have hgs2 := HS2.out.marks.1
    have hgs3 := HS3.out.marks.1
    have hgt1 := (HS1.out.top.lt g1 rfl).2
    have hgt2 := (HS2.out.top.lt g2 rfl).2
    have hgt3 := (HS3.out.top.lt g3 rfl).2
    have HAPS : Hid (Apt RS.length (fun t => (RS.getD t rw0).A)) := Lib.hid fun s t hs ht k o o' es et => by
     rw [hRS3] at hs ht
     rw [hRS] at es et
     rcases (show s = 0 ∨ s = 1 ∨ s = 2 by omega) with rfl | rfl | rfl <;> rcases (show t = 0 ∨ t = 1 ∨ t = 2 by omega) with rfl | rfl | rfl <;> first | rfl | (exfalso; injection es with es; injection es with es _; injection et with et; injection et with et _; omega)
    have HSLN : Hid (∀ t, t < RS.length → (RS.getD t rw0).n = n) := Lib.hid fun t ht => by
     rw [hRS3] at ht
     rw [hRS]
     rcases (show t = 0 ∨ t = 1 ∨ t = 2 by omega) with rfl | rfl | rfl <;> rfl
    have HRBS : Hid (∀ k, RB RS.length (fun t => (RS.getD t rw0).A) k → (w3.heap.size ≤ k ∧ k < w4.heap.size) ∨ (w5.heap.size ≤ k ∧ k < w6.heap.size) ∨ (w7.heap.size ≤ k ∧ k < w8.heap.size) ∨ (w9.heap.size ≤ k ∧ k < w15.heap.size)) := Lib.hid fun k ⟨t, o, ht, es⟩ => by
     rw [hRS3] at ht
     rw [hRS] at es
     rcases (show t = 0 ∨ t = 1 ∨ t = 2 by omega) with rfl | rfl | rfl <;> (injection es with es; injection es with es _; omega)
    have HRS3 := Lib.hid hRS3
    clear hRS hRS3
    go_wp2_with fail
    refine (apartS_any (some ⟨w20.heap.size, 0, none⟩) 3 3 (fun t => (RS.getD t rw0).A) (fun t => (RS.getD t rw0).n) (fun t => (RS.getD t rw0).c) (fun t q => sdC (Hs q) (if t = 0 then V1 q else if t = 1 then V2 q else V3 q)) (fun _ _ => sdC_len _ _) w20.heap.size w3.heap.size _ (by omega) (fun t ht => by have := HSLN.out t (by rw [HRS3.out]; exact ht); omega) (by have := HTOPS.out.own; rw [HRS3.out] at this; exact this) (fun t ht => HSHR.out t (by rw [HRS3.out]; exact ht)) (by have := HAPS.out; rw [HRS3.out] at this; exact this) (Nat.le_trans (show w3.heap.size ≤ w20.heap.size by omega) (by simp))).mono ?_
    rintro e w21 ⟨rfl, ho21⟩
    have ho21' : Only (RB RS.length (fun t => (RS.getD t rw0).A)) (w20.alloc (.cells #[.slice (some ⟨g1, 0, none⟩) n n, .slice (some ⟨g2, 0, none⟩) n n, .slice (some ⟨g3, 0, none⟩) n n] 45)) w21 := by rw [HRS3.out]; exact ho21
    have hal : Below w20.heap.size w20 (w20.alloc (.cells #[.slice (some ⟨g1, 0, none⟩) n n, .slice (some ⟨g2, 0, none⟩) n n, .slice (some ⟨g3, 0, none⟩) n n] 45)) := (Below.refl _ _).alloc (Nat.le_refl _) _
    have HQ21 : Hid (Only (fun k => (w3.heap.size ≤ k ∧ k < w4.heap.size) ∨ (w5.heap.size ≤ k ∧ k < w6.heap.size) ∨ (w7.heap.size ≤ k ∧ k < w8.heap.size) ∨ (w9.heap.size ≤ k ∧ k < w15.heap.size)) wr w21) := Lib.hid ((HQ20.out.below hal).trans' ho21' HRBS.out)
    have HT3 : Hid (∀ (B' e' sz m : Nat) (v : Value) (F : Nat → List Value), Own wr B' e' sz v m F → e' ≠ 5 → e' ≠ 43 → e' ≠ 69 → Own w21 B' e' sz v m F) := Lib.hid fun B' e' sz m v F h hne hne2 hne3 => ((HT2.out B' e' sz m v F h hne hne2).kept hal).past HSHR.out hne3 ho21'
    have hs21 : w20.heap.size ≤ w21.heap.size := Nat.le_trans hal.size ho21.size
    clear ho21 ho21' hal HQ20 HT2 HSHR HTOPS HAPS HSLN HRBS HRS3
    obtain ⟨RN, hRN⟩ : ∃ RN : List Rw, RN = [⟨aS, sn, cS, fun j => .int .i64 ((blen Z0.K.toNat Z0.B.toNat (mD : Int).toNat j : Nat) : Int)⟩, ⟨aN, sn, cN, fun j => .int .i64 ((blen Z0.K.toNat Z0.B.toNat (mD : Int).toNat j : Nat) : Int)⟩] := ⟨_, rfl⟩
    have hRN2 : RN.length = 2 := by rw [hRN]; rfl
    have HNA : Hid (AR w21 w3.heap.size 3 (fun k => w13.heap.size ≤ k ∧ k < w15.heap.size) RN) := Lib.hid (by
     rw [hRN]
     have h1 : AR w18 w3.heap.size 3 (fun k => w13.heap.size ≤ k ∧ k < w14.heap.size) [⟨aS, sn, cS, (fun j => .int .i64 ((blen Z0.K.toNat Z0.B.toNat (mD : Int).toNat j : Nat) : Int))⟩] := ((AR.one (U := fun k => w13.heap.size ≤ k ∧ k < w14.heap.size) HOS.out (fun k hk => HOS.out.lt k hk)).kept (HB1415.out.trans ((HB1516.out.trans ((HB1617.out.trans (HB1718.out.mono hs17)).mono hs16)).mono hs15))).monoB (by omega)
     have h2 : AR w18 w3.heap.size 3 (fun k => w14.heap.size ≤ k ∧ k < w15.heap.size) [⟨aN, sn, cN, (fun j => .int .i64 ((blen Z0.K.toNat Z0.B.toNat (mD : Int).toNat j : Nat) : Int))⟩] := ((AR.one (U := fun k => w14.heap.size ≤ k ∧ k < w15.heap.size) HON.out (fun k hk => HON.out.lt k hk)).kept (HB1516.out.trans ((HB1617.out.trans (HB1718.out.mono hs17)).mono hs16))).monoB (by omega)
     have h3 := (AR.pair (U := fun k => w13.heap.size ≤ k ∧ k < w15.heap.size) h1 h2 (fun k a b => ⟨a, b⟩) (by omega) (by omega)).kept HBL18.out
     exact ⟨fun r hr => HT3.out _ _ _ _ _ _ (h3.row r hr) (by decide) (by decide) (by decide), h3.apart, h3.inU⟩)
    have HNAa := Lib.hid (HNA.out.kept ((Below.refl _ _).alloc (Nat.le_refl _) (.cells #[.slice aS sn cS, .slice aN sn cN] 25)))
    have HTOPN : Hid (OwnR (w21.alloc (.cells #[.slice aS sn cS, .slice aN sn cN] 25)) w21.heap.size 25 (.slice (some ⟨w21.heap.size, 0, none⟩) 2 2) RN) := Lib.hid (OwnR.made w21 25 _ 2 _ (by rw [hRN]; rfl) hRN2.symm (by rw [hRN2]; unfold maxLen; decide))
    have HNLN : Hid (∀ t, t < RN.length → (RN.getD t rw0).n ≤ 3) := Lib.hid fun t ht => by
     rw [hRN2] at ht
     rw [hRN]
     rcases (show t = 0 ∨ t = 1 by omega) with rfl | rfl <;> exact hsnb
    have HRN2 := Lib.hid hRN2
    clear hRN hRN2 HT3 HNA
    go_wp2_with fail
    refine (apartN_any (some ⟨w21.heap.size, 0, none⟩) 2 2 (fun t => (RN.getD t rw0).A) (fun t => (RN.getD t rw0).n) (fun t => (RN.getD t rw0).c) (fun t q => (RN.getD t rw0).f q) w21.heap.size w3.heap.size _ (by omega) (fun t ht => by have := HNLN.out t (by rw [HRN2.out]; exact ht); omega) (by have := HTOPN.out.own; rw [HRN2.out] at this; exact this) (fun t ht => HNAa.out.own t (by rw [HRN2.out]; exact ht)) (by have := HNAa.out.apt; rw [HRN2.out] at this; exact this) (Nat.le_trans (show w3.heap.size ≤ w21.heap.size by omega) (by simp))).mono ?_
    rintro e w22 ⟨rfl, ho22⟩
    have HQ22 : Hid (Only (fun k => (w3.heap.size ≤ k ∧ k < w4.heap.size) ∨ (w5.heap.size ≤ k ∧ k < w6.heap.size) ∨ (w7.heap.size ≤ k ∧ k < w8.heap.size) ∨ (w9.heap.size ≤ k ∧ k < w15.heap.size)) wr w22) := Lib.hid (((HQ21.out.below ((Below.refl _ _).alloc (Nat.le_refl _) _)).trans' ho22 fun k hk => by
     have h1 := HNAa.out.rb (k := k) (by rw [HRN2.out]; exact hk)
     omega))
    have hs22 := HQ22.out.size
    have HCW2 : Hid (CopSd w22 w4.heap.size (.slice aW n cW) n n Hs VW TW UW Bs) := Lib.hid (HCW.out.blocks (by omega) fun k h1 h2 => (HQ22.out.block k (by omega) (by omega)).trans (((HB56.out.trans ((HB67.out.trans ((HB78.out.trans ((HB89.out.trans ((HB910.out.trans ((HB1011.out.trans ((HB1112.out.trans ((HB1213.out.trans ((HB1314.out.trans ((HB1415.out.trans ((HB1516.out.trans ((HB1617.out.trans (HB1718.out.mono hs17)).mono hs16)).mono hs15)).mono hs14)).mono hs13)).mono hs12)).mono hs11)).mono hs10)).mono hs9)).mono hs8)).mono hs7)).mono hs6)).trans (HBL18.out.mono (by omega))).block k h2))
    have HCM2 : Hid (CopSd w22 w8.heap.size (.slice aM n cM) n n Hs VM TM UM Bs) := Lib.hid (HCM.out.blocks (by omega) fun k h1 h2 => (HQ22.out.block k (by omega) (by omega)).trans (((HB910.out.trans ((HB1011.out.trans ((HB1112.out.trans ((HB1213.out.trans ((HB1314.out.trans ((HB1415.out.trans ((HB1516.out.trans ((HB1617.out.trans (HB1718.out.mono hs17)).mono hs16)).mono hs15)).mono hs14)).mono hs13)).mono hs12)).mono hs11)).mono hs10)).trans (HBL18.out.mono (by omega))).block k h2))
    have HX22 : Hid (Below w3.heap.size w3 w22) := Lib.hid ((HX18.out.trans (HBL18.out.mono (by omega))).trans (HQ22.out.toBelow (fun k hk => by omega) (by omega)))
    have HRW2 : Hid (∀ w', Below w22.heap.size w22 w' → RSd w' aW n Hs Bs) := Lib.hid fun w' hb => by
     obtain ⟨A', c', e', _, _, h4⟩ := HCW2.out.rsd
     injection e' with e1 _ _
     rw [e1]
     exact h4.below hb
    have HRM2 : Hid (∀ w', Below w22.heap.size w22 w' → RSd w' aM n Hs Bs) := Lib.hid fun w' hb => by
     obtain ⟨A', c', e', _, _, h4⟩ := HCM2.out.rsd
     injection e' with e1 _ _
     rw [e1]
     exact h4.below hb
    have HH22 := Lib.hid (HHW.out w22 HX22.out)
    clear ho22 HQ21 HQ22 HCW2 HCM2 HNAa HTOPN HNLN HRN2 HRM HRW HBL18
    go_wp2_with (refine wpList_loadH rfl (.tmp 5) rfl gh rfl #[.int .u8 Z0.s0, .int .u8 Z0.s1, .int .u8 Z0.s2, .int .u8 Z0.s3, .int .u8 Z0.s4, .int .u8 Z0.s5, .int .u8 Z0.s6, .int .u8 Z0.s7, .int .i64 Z0.K, .int .i64 Z0.M, .int .i64 Z0.B, .string Z0.key, .int .i64 Z0.size, .int .i64 Z0.idx, .int .i64 Z0.ep, .int .i64 Z0.ct] rfl HH22.out ?_)
    refine (HSPL.out w22 HX22.out).mono ?_
    rintro e w23 ⟨g4, V4, T4, rfl, hS4, hb23⟩
    have HS4 := Lib.hid hS4
    have HY23 := Lib.hid hb23
    have hs23 := hb23.size
    clear hS4 hb23
    go_wp2_with fail
    refine (join_all aM n cM Hs Bs w23 (by omega) HW.out (HRM2.out w23 HY23.out) (fun i _ => by rw [HBL.out]; omega) (fun i _ q hq => Nat.le_trans (HBM.out i q hq) (by decide)) (fun i _ => HBX.out i)).mono ?_
    rintro e w24 ⟨er, l', aE, cE, rfl, hJ, hO, hb24⟩
    obtain ⟨e1, e2⟩ := HJN.out er l' hJ
    subst e1
    subst l'
    have HY24 := Lib.hid (HY23.out.trans (hb24.mono hs23))
    have HB2324 := Lib.hid hb24
    have hs24 := hb24.size
    rw [← HML.out] at hO ⊢
    have HOE := Lib.hid hO
    clear hJ hO hb24
    go_wp2_with fail
    refine (sameShards_any (some ⟨g4, 0, none⟩) aW n n cW Hs Bs w24 (by omega) HW.out (fun i _ => HBX.out i) (fun i _ => by rw [HBL.out]; omega) (HS4.out.rsd.below HB2324.out) (HRW2.out w24 HY24.out)).mono ?_
    rintro e w25 ⟨rfl, hb25⟩
    have HY25 := Lib.hid (HY24.out.trans (hb25.mono (by omega)))
    have HB2425 := Lib.hid hb25
    have hs25 := hb25.size
    clear hb25
    go_wp2_with fail
    refine (sameShards_any aM aW n cM cW Hs Bs w25 (by omega) HW.out (fun i _ => HBX.out i) (fun i _ => by rw [HBL.out]; omega) (HRM2.out w25 HY25.out) (HRW2.out w25 HY25.out)).mono ?_
    rintro e w26 ⟨rfl, hb26⟩
    have HY26 := Lib.hid (HY25.out.trans (hb26.mono (by omega)))
    have HB2426 := Lib.hid (HB2425.out.trans (hb26.mono (by omega)))
    clear hb26
    have HX26 : Hid (Below w3.heap.size w3 w26) := Lib.hid (HX22.out.trans (HY26.out.mono HX22.out.size))
    have hcvE := conv_strL cE HXL.out ((own_rl' HOE.out).below HB2426.out)
    have hcvO := conv_strL cO HXL.out (HRO.out w26 HX26.out)
    have hcvD := conv_strL c1 HXL.out (HRA.out w26 HX26.out)
    rw [← HML.out] at hcvE hcvO hcvD
    go_wp2
    go_ret
    exact ⟨rfl, HBw3.out.trans (HX26.out.mono HBw3.out.size)⟩
end Go.Proofs.Ytjaaldandgfkgaa
