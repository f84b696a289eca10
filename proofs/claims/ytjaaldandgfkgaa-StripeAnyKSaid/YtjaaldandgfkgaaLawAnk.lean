/- StripeAnyK: the law's walk. Conditions: an object that memory bears. -/
import Derived.Test.YtjaaldandgfkgaaAnk0
namespace Go.Proofs.Ytjaaldandgfkgaa
open Go.RowKit

def Fact.rdL (l : List Nat) : Fact := ⟨fun v w => ∃ A c, v = .slice A l.length c ∧ RL w A l, fun v w w' h hb => by
  obtain ⟨A, c, e, h1⟩ := h
  exact ⟨A, c, e, h1.below hb⟩⟩
set_option maxRecDepth 100000 in
set_option maxHeartbeats 8000000 in
theorem lawAnk (p : Pln) (A0 : Option Addr) (cd : Nat) (l0 : List Nat) (Pk : Option Addr) (np cp : Nat) (pi : Nat → Int) (off q : Int) (w : World) (ho : -9223372036854775808 ≤ off ∧ off ≤ 9223372036854775807) (hq : -9223372036854775808 ≤ q ∧ q ≤ 9223372036854775807) (hw : p.Wf) (hA : RL w A0 l0) (hlc : l0.length ≤ cd) (hl : l0.length ≤ 140737488351232) (hX : ∀ x ∈ l0, x < 256) (hP : Rd w Pk np (fun i => .int .i64 (pi i))) (hnp : np * 8 ≤ 140737488351232) :
    Calls Try.prog 11 #[.agg #[.int .i64 p.K, .int .i64 p.M, .int .i64 p.B, .int .u8 p.s0, .int .u8 p.s1, .int .u8 p.s2, .int .u8 p.s3, .int .u8 p.s4, .int .u8 p.s5, .int .u8 p.s6, .int .u8 p.s7, .string p.key, .int .i64 p.ep, .int .i64 p.ct, .slice A0 l0.length cd, .slice Pk np cp], .int .i64 off, .int .i64 q] w fun e w' => e = .returned (.bool true) ∧ Below w.heap.size w w' := by
  obtain ⟨nd, hnd⟩ : ∃ nd, nd = l0.length := ⟨_, rfl⟩
  have HND := Lib.hid hnd
  have HA := Lib.hid hA; have HX := Lib.hid hX; have HPI := Lib.hid hP; have HWF := Lib.hid hw
  rw [← hnd] at hl hlc ⊢
  clear hA hX hP hw hnd
  have HBX0 : Hid ((w.alloc (.cells #[.int .i64 p.K, .int .i64 p.M, .int .i64 p.B, .int .u8 p.s0, .int .u8 p.s1, .int .u8 p.s2, .int .u8 p.s3, .int .u8 p.s4, .int .u8 p.s5, .int .u8 p.s6, .int .u8 p.s7, .string p.key, .int .i64 p.ep, .int .i64 p.ct, .slice A0 nd cd, .slice Pk np cp] 64)).heap[w.heap.size]? = some (.cells #[.int .i64 p.K, .int .i64 p.M, .int .i64 p.B, .int .u8 p.s0, .int .u8 p.s1, .int .u8 p.s2, .int .u8 p.s3, .int .u8 p.s4, .int .u8 p.s5, .int .u8 p.s6, .int .u8 p.s7, .string p.key, .int .i64 p.ep, .int .i64 p.ct, .slice A0 nd cd, .slice Pk np cp] 64 (0, 0))) := Lib.hid (heap_alloc_new w _)
  have HB0 : Hid (Below w.heap.size w (w.alloc (.cells #[.int .i64 p.K, .int .i64 p.M, .int .i64 p.B, .int .u8 p.s0, .int .u8 p.s1, .int .u8 p.s2, .int .u8 p.s3, .int .u8 p.s4, .int .u8 p.s5, .int .u8 p.s6, .int .u8 p.s7, .string p.key, .int .i64 p.ep, .int .i64 p.ct, .slice A0 nd cd, .slice Pk np cp] 64))) := Lib.hid ((Below.refl _ _).alloc (Nat.le_refl _) _)
  go_enter Try.func11, Try.ntmps11
  go_wp2_with fail
  refine (awake_any _).mono ?_
  rintro e w1 ⟨rfl, hb1⟩
  have HBX1 : Hid (w1.heap[w.heap.size]? = some (.cells #[.int .i64 p.K, .int .i64 p.M, .int .i64 p.B, .int .u8 p.s0, .int .u8 p.s1, .int .u8 p.s2, .int .u8 p.s3, .int .u8 p.s4, .int .u8 p.s5, .int .u8 p.s6, .int .u8 p.s7, .string p.key, .int .i64 p.ep, .int .i64 p.ct, .slice A0 nd cd, .slice Pk np cp] 64 (0, 0))) := Lib.hid ((hb1.block _ (by simp)).trans HBX0.out)
  have HB1 : Hid (Below w.heap.size w w1) := Lib.hid (HB0.out.trans (hb1.mono HB0.out.size))
  have hz1 : w.heap.size < w1.heap.size := (Array.getElem?_eq_some_iff.1 HBX1.out).1
  clear hb1 HBX0 HB0
  obtain ⟨bx, hbx⟩ : ∃ bx, bx = w.heap.size := ⟨_, rfl⟩
  have HBXE := Lib.hid hbx
  rw [← hbx] at HBX1 hz1 ⊢
  clear hbx
  have HFT := Lib.hid (lfit_any p A0 cd l0 (.slice Pk np cp) w1 rfl (by rw [← HND.out]; exact hl) (by rw [← HND.out]; exact hlc) (HA.out.below HB1.out))
  rw [← HND.out] at HFT
  go_wp2_with (refine wpList_loadAt rfl 64 (.tmp 3) rfl ⟨bx, 0, none⟩ rfl #[.int .i64 p.K, .int .i64 p.M, .int .i64 p.B, .int .u8 p.s0, .int .u8 p.s1, .int .u8 p.s2, .int .u8 p.s3, .int .u8 p.s4, .int .u8 p.s5, .int .u8 p.s6, .int .u8 p.s7, .string p.key, .int .i64 p.ep, .int .i64 p.ct, .slice A0 nd cd, .slice Pk np cp] _ (fun j v hv => by rw [add_zero_addr, cell_of_row w1 bx j _ _ (0, 0) HBX1.out]; simpa using hv) Try.underlying64 rfl (by kernel_rfl) ?_)
  refine HFT.out.mono ?_
  rintro e w2 ⟨A1, c1, rfl, hO1, hb2⟩
  obtain ⟨Z0, hZ0⟩ : ∃ Z0, Z0 = fitH p := ⟨_, rfl⟩
  rw [← hZ0]
  obtain ⟨m1, hm1⟩ : ∃ m1, m1 = fitN p nd := ⟨_, rfl⟩
  rw [← hm1] at hO1 ⊢
  obtain ⟨l, hl1⟩ : ∃ l, l = l0.take m1 := ⟨_, rfl⟩
  rw [← hl1] at hO1
  have hml : m1 = l.length := by rw [hl1, List.length_take, ← HND.out, hm1]; have := fitN_le p nd; omega
  have HM1 := Lib.hid hm1
  have HZ0 := Lib.hid hZ0; have HL1 := Lib.hid hl1; have HML := Lib.hid hml
  have HXL : Hid (∀ x ∈ l, x < 256) := Lib.hid fun x hx => HX.out x (by rw [hl1] at hx; exact List.mem_of_mem_take hx)
  have hm1l : m1 ≤ 1048576 := by rw [hm1]; unfold fitN; omega
  have HO1 := Lib.hid hO1
  have HB2 : Hid (Below w.heap.size w w2) := Lib.hid (HB1.out.trans (hb2.mono HB1.out.size))
  have HBX2 : Hid (w2.heap[bx]? = some (.cells #[.int .i64 p.K, .int .i64 p.M, .int .i64 p.B, .int .u8 p.s0, .int .u8 p.s1, .int .u8 p.s2, .int .u8 p.s3, .int .u8 p.s4, .int .u8 p.s5, .int .u8 p.s6, .int .u8 p.s7, .string p.key, .int .i64 p.ep, .int .i64 p.ct, .slice A0 nd cd, .slice Pk np cp] 64 (0, 0))) := Lib.hid ((hb2.block bx hz1).trans HBX1.out)
  have hz2 : bx < w2.heap.size := Nat.lt_of_lt_of_le hz1 hb2.size
  clear hO1 hb2 hZ0 hl1 hm1 hml HFT HBX1 HB1
  have hcm1 : c1 ≤ maxLen := by
    obtain ⟨A', c', e', _, h4, _⟩ := HO1.out.own.rd
    injection e' with _ _ e3
    omega
  have hlc1 : l.length ≤ c1 := by
    obtain ⟨A', c', e', h4, _⟩ := HO1.out.own.rd
    injection e' with _ _ e3
    omega
  have HH3 := Lib.hid (heap_alloc_new w2 (.cells #[.int .u8 Z0.s0, .int .u8 Z0.s1, .int .u8 Z0.s2, .int .u8 Z0.s3, .int .u8 Z0.s4, .int .u8 Z0.s5, .int .u8 Z0.s6, .int .u8 Z0.s7, .int .i64 Z0.K, .int .i64 Z0.M, .int .i64 Z0.B, .string Z0.key, .int .i64 Z0.size, .int .i64 Z0.idx, .int .i64 Z0.ep, .int .i64 Z0.ct] 42))
  have HB23 := Lib.hid ((Below.refl w2.heap.size w2).alloc (Nat.le_refl _) (.cells #[.int .u8 Z0.s0, .int .u8 Z0.s1, .int .u8 Z0.s2, .int .u8 Z0.s3, .int .u8 Z0.s4, .int .u8 Z0.s5, .int .u8 Z0.s6, .int .u8 Z0.s7, .int .i64 Z0.K, .int .i64 Z0.M, .int .i64 Z0.B, .string Z0.key, .int .i64 Z0.size, .int .i64 Z0.idx, .int .i64 Z0.ep, .int .i64 Z0.ct] 42))
  go_wp2_with (first | (refine wpList_storeNewH rfl (.tmp 7) (.tmp 21) rfl #[.int .u8 Z0.s0, .int .u8 Z0.s1, .int .u8 Z0.s2, .int .u8 Z0.s3, .int .u8 Z0.s4, .int .u8 Z0.s5, .int .u8 Z0.s6, .int .u8 Z0.s7, .int .i64 Z0.K, .int .i64 Z0.M, .int .i64 Z0.B, .string Z0.key, .int .i64 Z0.size, .int .i64 Z0.idx, .int .i64 Z0.ep, .int .i64 Z0.ct] rfl rfl rfl rfl rfl ?_) | (refine wpList_loadH rfl (.tmp 7) rfl w2.heap.size rfl #[.int .u8 Z0.s0, .int .u8 Z0.s1, .int .u8 Z0.s2, .int .u8 Z0.s3, .int .u8 Z0.s4, .int .u8 Z0.s5, .int .u8 Z0.s6, .int .u8 Z0.s7, .int .i64 Z0.K, .int .i64 Z0.M, .int .i64 Z0.B, .string Z0.key, .int .i64 Z0.size, .int .i64 Z0.idx, .int .i64 Z0.ep, .int .i64 Z0.ct] rfl HH3.out ?_))
  obtain ⟨w3, hw3⟩ : ∃ w3, w3 = w2.alloc (.cells #[.int .u8 Z0.s0, .int .u8 Z0.s1, .int .u8 Z0.s2, .int .u8 Z0.s3, .int .u8 Z0.s4, .int .u8 Z0.s5, .int .u8 Z0.s6, .int .u8 Z0.s7, .int .i64 Z0.K, .int .i64 Z0.M, .int .i64 Z0.B, .string Z0.key, .int .i64 Z0.size, .int .i64 Z0.idx, .int .i64 Z0.ep, .int .i64 Z0.ct] 42) := ⟨_, rfl⟩
  rw [← hw3] at HH3 HB23 ⊢
  clear hw3
  obtain ⟨gh, hgh⟩ : ∃ gh, gh = w2.heap.size := ⟨_, rfl⟩
  rw [← hgh] at HH3 HB23 hz2 ⊢
  have HGH := Lib.hid hgh
  clear hgh
  obtain ⟨Z, hZ⟩ : ∃ Z : Hd, Z = { Z0 with size := (l.length : Int), idx := 0 } := ⟨_, rfl⟩
  have HSP := Lib.hid (split_any Z0 A1 c1 l w3 HXL.out (by rw [← HML.out]; omega) hlc1 hcm1 ((own_rl' HO1.out).below (by rw [← HGH.out]; exact HB23.out)))
  rw [← HML.out] at HSP hZ
  rw [← hZ] at HSP
  have HZ := Lib.hid hZ
  refine HSP.out.mono ?_
  rintro e w4 ⟨hb4, _, h4⟩
  obtain ⟨n, hnE⟩ : ∃ n, n = (1 + fK p) + (1 + fM p) := ⟨_, rfl⟩
  obtain ⟨f1, f2, f3, f4⟩ := fit_nums p
  have hn0 : 0 < n := by omega
  have hn2 : n ≤ 255 := by omega
  have hsN : n = shN Z := by
    rw [hZ, HZ0.out, hnE]
    show _ = (1 + (fK p : Int)).toNat + (1 + (fM p : Int)).toNat
    omega
  have HCK : Hid (∀ t : Nat, t < n → checkE { Z with idx := (t : Int) } = 0) := Lib.hid fun t ht => by
    have h1 := fit_check p nd t (by rw [← hnE]; exact ht)
    rw [← HM1.out, ← HZ0.out] at h1
    rw [HZ.out]
    exact h1
  obtain ⟨g, V, T, rfl, hgl, hO⟩ := h4 (by have h5 := HCK.out 0 hn0; rw [hZ] at h5 ⊢; exact h5)
  rw [← hsN] at hO ⊢
  obtain ⟨K1, hK1⟩ : ∃ K1 : Nat, K1 = 1 + fK p := ⟨_, rfl⟩
  obtain ⟨M1, hM1⟩ : ∃ M1 : Nat, M1 = 1 + fM p := ⟨_, rfl⟩
  have hZK : Z0.K = (K1 : Int) := by rw [HZ0.out, hK1]; show (1 + (fK p : Int)) = _; omega
  have hZM : Z0.M = (M1 : Int) := by rw [HZ0.out, hM1]; show (1 + (fM p : Int)) = _; omega
  have hKM : (K1 : Int) + (M1 : Int) = (n : Int) := by omega
  have hnKM : n = K1 + M1 := by omega
  have hKp : 0 < K1 := by omega
  have HSN := Lib.hid hsN; have HNE := Lib.hid hnE; have HNKM := Lib.hid hnKM
  have HZW : Hid (HdW Z0) := Lib.hid (by rw [HZ0.out]; exact fit_wf HWF.out)
  have HZKT : Hid (Z.K.toNat = K1) := Lib.hid (by rw [hZ]; show Z0.K.toNat = K1; rw [hZK]; rfl)
  have HB34 := Lib.hid hb4
  have HO := Lib.hid hO
  have HH4 : Hid (w4.heap[gh]? = some (.cells #[.int .u8 Z0.s0, .int .u8 Z0.s1, .int .u8 Z0.s2, .int .u8 Z0.s3, .int .u8 Z0.s4, .int .u8 Z0.s5, .int .u8 Z0.s6, .int .u8 Z0.s7, .int .i64 Z0.K, .int .i64 Z0.M, .int .i64 Z0.B, .string Z0.key, .int .i64 Z0.size, .int .i64 Z0.idx, .int .i64 Z0.ep, .int .i64 Z0.ct] 42 (0, 0))) := Lib.hid ((hb4.block gh (Array.getElem?_eq_some_iff.1 HH3.out).1).trans HH3.out)
  have hz3 : gh < w3.heap.size := (Array.getElem?_eq_some_iff.1 HH3.out).1
  have HB24 : Hid (Below gh w2 w4) := Lib.hid (HB23.out.trans (hb4.mono (by omega)))
  have hz4 : w3.heap.size ≤ w4.heap.size := hb4.size
  have HBX4 : Hid (w4.heap[bx]? = some (.cells #[.int .i64 p.K, .int .i64 p.M, .int .i64 p.B, .int .u8 p.s0, .int .u8 p.s1, .int .u8 p.s2, .int .u8 p.s3, .int .u8 p.s4, .int .u8 p.s5, .int .u8 p.s6, .int .u8 p.s7, .string p.key, .int .i64 p.ep, .int .i64 p.ct, .slice A0 nd cd, .slice Pk np cp] 64 (0, 0))) := Lib.hid ((HB24.out.block bx hz2).trans HBX2.out)
  have c8 : w4.cell? ⟨gh, 8, none⟩ = some (.int .i64 (K1 : Int)) := by rw [cell_of_row w4 gh 8 _ _ (0, 0) HH4.out, ← hZK]; rfl
  have c9 : w4.cell? ⟨gh, 9, none⟩ = some (.int .i64 (M1 : Int)) := by rw [cell_of_row w4 gh 9 _ _ (0, 0) HH4.out, ← hZM]; rfl
  have c15 : w4.cell? ⟨bx, 15, none⟩ = some (.slice Pk np cp) := by rw [cell_of_row w4 bx 15 _ _ (0, 0) HBX4.out]; rfl
  have hM1l : M1 ≤ 1000 := by omega
  have HPL := Lib.hid (places_any Pk np cp n M1 pi w4 hn0 (by omega) hM1l hnp (HPI.out.below (HB2.out.trans (HB24.out.mono (by have := HBXE.out; omega)))))
  clear h4 hb4 hO hZ hnE hsN hK1 hM1 hZK hZM hnKM HSP HB23 HH3
  go_wp2_with fail
  refine HPL.out.mono ?_
  rintro e w5 ⟨pb, P, rfl, hP5, hc5, hpb, hb5⟩
  have HP5 := Lib.hid hP5; have HC5 := Lib.hid hc5; have HB45 := Lib.hid hb5
  have HH5 : Hid (w5.heap[gh]? = some (.cells #[.int .u8 Z0.s0, .int .u8 Z0.s1, .int .u8 Z0.s2, .int .u8 Z0.s3, .int .u8 Z0.s4, .int .u8 Z0.s5, .int .u8 Z0.s6, .int .u8 Z0.s7, .int .i64 Z0.K, .int .i64 Z0.M, .int .i64 Z0.B, .string Z0.key, .int .i64 Z0.size, .int .i64 Z0.idx, .int .i64 Z0.ep, .int .i64 Z0.ct] 42 (0, 0))) := Lib.hid ((hb5.block gh (by omega)).trans HH4.out)
  have hz5 : w4.heap.size ≤ w5.heap.size := hb5.size
  have hpb5 : pb < w5.heap.size := hP5.lt
  have hg4 : g < w4.heap.size := (HO.out.top.lt g rfl).2
  obtain ⟨Hs, hHs⟩ : ∃ Hs : Nat → Hd, Hs = fun t => { Z with idx := (t : Int) } := ⟨_, rfl⟩
  obtain ⟨Bs, hBs⟩ : ∃ Bs : Nat → List (List Nat), Bs = fun t => spL Z.K.toNat Z.B.toNat l t := ⟨_, rfl⟩
  rw [← hHs, ← hBs] at HO
  have HHS := Lib.hid hHs; have HBS := Lib.hid hBs
  have HE5 : Hid (ErSd w5 w3.heap.size g n n Hs V Bs T (fun t => decide (t < 0) && P t)) := Lib.hid (((HO.out.er).kept hb5).congr fun t _ => by simp)
  clear hP5 hc5 hb5 HPL c8 c9 c15 hHs hBs HO
  go_wp2
  go_loopg [12] n (fun gk i wr => ∃ k : Nat, k ≤ n ∧ gk = n - k ∧ i = .int .i64 k ∧ ErSd wr w3.heap.size g n n Hs V Bs T (fun t => decide (t < k) && P t) ∧ Bt w5 wr g g)
  case atStart => exact ⟨0, Nat.zero_le _, rfl, rfl, HE5.out, Bt.refl _ _ _⟩
  case round =>
    clear HE5
    obtain ⟨k, hk, rfl, rfl, hE, hbt⟩ := hrel
    have HE := Lib.hid hE; have HBT := Lib.hid hbt
    clear hE hbt
    by_cases hlt : k < n
    · have hgr : g < wr.heap.size := (HE.out.top.lt g rfl).2
      have hghr : gh < wr.heap.size := by have := HBT.out.size; omega
      have HHr : Hid (wr.heap[gh]? = some (.cells #[.int .u8 Z0.s0, .int .u8 Z0.s1, .int .u8 Z0.s2, .int .u8 Z0.s3, .int .u8 Z0.s4, .int .u8 Z0.s5, .int .u8 Z0.s6, .int .u8 Z0.s7, .int .i64 Z0.K, .int .i64 Z0.M, .int .i64 Z0.B, .string Z0.key, .int .i64 Z0.size, .int .i64 Z0.idx, .int .i64 Z0.ep, .int .i64 Z0.ct] 42 (0, 0))) := Lib.hid ((HBT.out.block gh (by omega) (by omega) (by omega)).trans HH5.out)
      have HHC : Hid (∀ w', Below wr.heap.size wr w' → ∀ j v, (#[.int .u8 Z0.s0, .int .u8 Z0.s1, .int .u8 Z0.s2, .int .u8 Z0.s3, .int .u8 Z0.s4, .int .u8 Z0.s5, .int .u8 Z0.s6, .int .u8 Z0.s7, .int .i64 Z0.K, .int .i64 Z0.M, .int .i64 Z0.B, .string Z0.key, .int .i64 Z0.size, .int .i64 Z0.idx, .int .i64 Z0.ep, .int .i64 Z0.ct] : Array Value).toList[j]? = some v → w'.cell? ⟨gh, j, none⟩ = some v) := Lib.hid fun w' hb j v hv => by
        rw [hb.cell (p := ⟨gh, j, none⟩) hghr, cell_of_row wr gh j _ _ (0, 0) HHr.out]
        simpa using hv
      have HCL : Hid (∀ w', Below wr.heap.size wr w' → ∀ j v, (sdC { Z0 with size := (m1 : Int), idx := (k : Int) } (V k))[j]? = some v → w'.cell? ⟨g, k * 17 + j, none⟩ = some v) := Lib.hid fun w' hb j v hv => by
        have hj : j < 17 := (List.getElem?_eq_some_iff.1 hv).1
        rw [hb.cell (p := ⟨g, k * 17 + j, none⟩) hgr, HE.out.top.cellN (fun _ _ => sdC_len _ _) hlt hj, ← hv]
        show (sdC (erH (fun t => decide (t < k) && P t) Hs k) _)[j]? = _
        unfold erH
        simp only [Nat.lt_irrefl, decide_false, Bool.false_and, Bool.false_eq_true, if_false]
        rw [HHS.out, HZ.out]
      have hpk : wr.cell? ⟨pb, k, none⟩ = some (.bool (P k)) := (HBT.out.row HP5.out (by omega) (by omega)).cell hlt
      have HPK := Lib.hid hpk
      clear hpk
      go_wp2_with fail
      refine wp_region_factsG [.is (.slice (some ⟨g, 0, none⟩) n n), .is (.int .i64 (k : Int)), .is (.pointer (some ⟨g, k * 17, none⟩)), .is (.pointer (some ⟨g, k * 17, none⟩)), .is (.pointer (some ⟨g, k * 17 + 13, none⟩)), .is (.int .i64 (k : Int)), .is (.int .i64 (k : Int)), .is (.bool false), .is (.bool false), .is (.slice (some ⟨g, 0, none⟩) n n), .is (.int .i64 (k : Int)), .is (.pointer (some ⟨g, k * 17, none⟩)), .is (.pointer (some ⟨g, k * 17, none⟩)), .is (.pointer (some ⟨g, k * 17 + 11, none⟩)), .is (.string Z0.key), .is (.pointer (some ⟨gh, 11, none⟩)), .is (.string Z0.key), .is (.bool false), .is (.bool false), .is (.bool false), .is (.slice (some ⟨g, 0, none⟩) n n), .is (.int .i64 (k : Int)), .is (.pointer (some ⟨g, k * 17, none⟩)), .is (.pointer (some ⟨g, k * 17, none⟩)), .is (.pointer (some ⟨g, k * 17 + 12, none⟩)), .is (.int .i64 (m1 : Int)), .is (.slice A1 m1 c1), .is (.int .i64 (m1 : Int)), .is (.bool false), .is (.bool false), .is (.bool false), .is (.slice (some ⟨g, 0, none⟩) n n), .is (.int .i64 (k : Int)), .is (.pointer (some ⟨g, k * 17, none⟩)), .is (.pointer (some ⟨g, k * 17, none⟩)), .is (.pointer (some ⟨g, k * 17 + 14, none⟩)), .is (.agg #[.int .i64 Z0.ep, .int .i64 Z0.ct]), .is (.pointer (some ⟨gh, 14, none⟩)), .is (.agg #[.int .i64 Z0.ep, .int .i64 Z0.ct]), .is (.bool false), .is (.bool false), .is (.bool false), .is (.slice (some ⟨g, 0, none⟩) n n), .is (.int .i64 (k : Int)), .is (.pointer (some ⟨g, k * 17, none⟩)), .is (.pointer (some ⟨g, k * 17, none⟩)), .is (.pointer (some ⟨g, k * 17 + 8, none⟩)), .is (.agg #[.int .i64 Z0.K, .int .i64 Z0.M, .int .i64 Z0.B]), .is (.pointer (some ⟨gh, 8, none⟩)), .is (.agg #[.int .i64 Z0.K, .int .i64 Z0.M, .int .i64 Z0.B]), .is (.bool false), .is (.bool false), .is (.bool false), .is (.slice (some ⟨g, 0, none⟩) n n), .is (.int .i64 (k : Int)), .is (.pointer (some ⟨g, k * 17, none⟩)), .is (.pointer (some ⟨g, k * 17, none⟩)), .is (.pointer (some ⟨g, k * 17, none⟩)), .is (.agg #[.int .u8 Z0.s0, .int .u8 Z0.s1, .int .u8 Z0.s2, .int .u8 Z0.s3, .int .u8 Z0.s4, .int .u8 Z0.s5, .int .u8 Z0.s6, .int .u8 Z0.s7]), .is (.pointer (some ⟨gh, 0, none⟩)), .is (.agg #[.int .u8 Z0.s0, .int .u8 Z0.s1, .int .u8 Z0.s2, .int .u8 Z0.s3, .int .u8 Z0.s4, .int .u8 Z0.s5, .int .u8 Z0.s6, .int .u8 Z0.s7]), .is (.bool false), .is (.bool false)] mixed (by kernel_rfl) (fun hdr => ⟨?_, ?_, ?_, ?_, ?_, ?_, ?_, ?_, ?_, ?_, ?_, ?_, ?_, ?_, ?_, ?_, ?_, ?_, ?_, ?_, ?_, ?_, ?_, ?_, ?_, ?_, ?_, ?_, ?_, ?_, ?_, ?_, ?_, ?_, ?_, ?_, ?_, ?_, ?_, ?_, ?_, ?_, ?_, ?_, ?_, ?_, ?_, ?_, ?_, ?_, ?_, ?_, ?_, ?_, ?_, ?_, ?_, ?_, ?_, ?_, ?_, ?_, ?_, trivial⟩) (fun wE hbE => ?_)
      · intro a1 w2 hb hs K hK
        repeat (intro _)
        refine ⟨?_⟩
        have h9 : a1.tmps[9]?.getD undef = .slice (some ⟨g, 0, none⟩) n n := hs 9 (by kernel_rfl)
        rw [if_pos (by rfl)]
        go_simp
        exact hK.out _ _ (Below.refl _ _) rfl
      · intro a1 w2 hb hs K hK
        repeat (intro _)
        refine ⟨?_⟩
        have h12 : a1.tmps[12]?.getD undef = .int .i64 (k : Int) := hs 12 (by kernel_rfl)
        rw [if_pos (by rfl)]
        go_simp
        exact hK.out _ _ (Below.refl _ _) rfl
      · intro a1 w2 hb hs K hK
        repeat (intro _)
        refine ⟨?_⟩
        have h57 : a1.tmps[57]?.getD undef = .slice (some ⟨g, 0, none⟩) n n := by assumption
        have h58 : a1.tmps[58]?.getD undef = .int .i64 (k : Int) := by assumption
        rw [if_pos (by rfl)]
        go_simp
        exact hK.out _ _ (Below.refl _ _) rfl
      · intro a1 w2 hb hs K hK
        repeat (intro _)
        refine ⟨?_⟩
        have h59 : a1.tmps[59]?.getD undef = .pointer (some ⟨g, k * 17, none⟩) := by assumption
        rw [if_pos (by rfl)]
        go_simp
        exact hK.out _ _ (Below.refl _ _) rfl
      · intro a1 w2 hb hs K hK
        repeat (intro _)
        refine ⟨?_⟩
        have h60 : a1.tmps[60]?.getD undef = .pointer (some ⟨g, k * 17, none⟩) := by assumption
        rw [if_pos (by rfl)]
        go_simp
        exact hK.out _ _ (Below.refl _ _) rfl
      · intro a1 w2 hb hs K hK
        repeat (intro _)
        refine ⟨?_⟩
        have h61 : a1.tmps[61]?.getD undef = .pointer (some ⟨g, k * 17 + 13, none⟩) := by assumption
        rw [if_pos (by rfl)]
        have hcc : w2.cell? ⟨g, k * 17 + 13, none⟩ = some (.int .i64 (k : Int)) := HCL.out w2 (hdr.out.trans (hb.mono hdr.out.size)) 13 _ rfl
        go_simp
        exact hK.out _ _ (Below.refl _ _) rfl
      · intro a1 w2 hb hs K hK
        repeat (intro _)
        refine ⟨?_⟩
        have h12 : a1.tmps[12]?.getD undef = .int .i64 (k : Int) := hs 12 (by kernel_rfl)
        rw [if_pos (by rfl)]
        go_simp
        exact hK.out _ _ (Below.refl _ _) rfl
      · intro a1 w2 hb hs K hK
        repeat (intro _)
        refine ⟨?_⟩
        have h62 : a1.tmps[62]?.getD undef = .int .i64 (k : Int) := by assumption
        have h63 : a1.tmps[63]?.getD undef = .int .i64 (k : Int) := by assumption
        rw [if_pos (by rfl)]
        go_simp
        exact hK.out _ _ (Below.refl _ _) rfl
      · intro a1 w2 hb hs K hK
        repeat (intro _)
        refine ⟨?_⟩
        have h64 : a1.tmps[64]?.getD undef = .bool false := by assumption
        rw [if_pos (by rfl)]
        go_simp
        exact hK.out _ _ (Below.refl _ _) rfl
      · intro a1 w2 hb hs K hK
        repeat (intro _)
        refine ⟨?_⟩
        have h9 : a1.tmps[9]?.getD undef = .slice (some ⟨g, 0, none⟩) n n := hs 9 (by kernel_rfl)
        have hgd : a1.tmps[65]?.getD undef = .bool false := by assumption
        rw [if_pos (wanted_yes (j := 8) (b := false) rfl rfl rfl hgd)]
        go_simp
        exact hK.out _ _ (Below.refl _ _) rfl
      · intro a1 w2 hb hs K hK
        repeat (intro _)
        refine ⟨?_⟩
        have h12 : a1.tmps[12]?.getD undef = .int .i64 (k : Int) := hs 12 (by kernel_rfl)
        have hgd : a1.tmps[65]?.getD undef = .bool false := by assumption
        rw [if_pos (wanted_yes (j := 8) (b := false) rfl rfl rfl hgd)]
        go_simp
        exact hK.out _ _ (Below.refl _ _) rfl
      · intro a1 w2 hb hs K hK
        repeat (intro _)
        refine ⟨?_⟩
        have h66 : a1.tmps[66]?.getD undef = .slice (some ⟨g, 0, none⟩) n n := by assumption
        have h67 : a1.tmps[67]?.getD undef = .int .i64 (k : Int) := by assumption
        have hgd : a1.tmps[65]?.getD undef = .bool false := by assumption
        rw [if_pos (wanted_yes (j := 8) (b := false) rfl rfl rfl hgd)]
        go_simp
        exact hK.out _ _ (Below.refl _ _) rfl
      · intro a1 w2 hb hs K hK
        repeat (intro _)
        refine ⟨?_⟩
        have h68 : a1.tmps[68]?.getD undef = .pointer (some ⟨g, k * 17, none⟩) := by assumption
        have hgd : a1.tmps[65]?.getD undef = .bool false := by assumption
        rw [if_pos (wanted_yes (j := 8) (b := false) rfl rfl rfl hgd)]
        go_simp
        exact hK.out _ _ (Below.refl _ _) rfl
      · intro a1 w2 hb hs K hK
        repeat (intro _)
        refine ⟨?_⟩
        have h69 : a1.tmps[69]?.getD undef = .pointer (some ⟨g, k * 17, none⟩) := by assumption
        have hgd : a1.tmps[65]?.getD undef = .bool false := by assumption
        rw [if_pos (wanted_yes (j := 8) (b := false) rfl rfl rfl hgd)]
        go_simp
        exact hK.out _ _ (Below.refl _ _) rfl
      · intro a1 w2 hb hs K hK
        repeat (intro _)
        refine ⟨?_⟩
        have h70 : a1.tmps[70]?.getD undef = .pointer (some ⟨g, k * 17 + 11, none⟩) := by assumption
        have hgd : a1.tmps[65]?.getD undef = .bool false := by assumption
        rw [if_pos (wanted_yes (j := 8) (b := false) rfl rfl rfl hgd)]
        have hcc : w2.cell? ⟨g, k * 17 + 11, none⟩ = some (.string Z0.key) := HCL.out w2 (hdr.out.trans (hb.mono hdr.out.size)) 11 _ rfl
        go_simp
        exact hK.out _ _ (Below.refl _ _) rfl
      · intro a1 w2 hb hs K hK
        repeat (intro _)
        refine ⟨?_⟩
        have h7 : a1.tmps[7]?.getD undef = .pointer (some ⟨gh, 0, none⟩) := hs 7 (by kernel_rfl)
        have hgd : a1.tmps[65]?.getD undef = .bool false := by assumption
        rw [if_pos (wanted_yes (j := 8) (b := false) rfl rfl rfl hgd)]
        go_simp
        exact hK.out _ _ (Below.refl _ _) rfl
      · intro a1 w2 hb hs K hK
        repeat (intro _)
        refine ⟨?_⟩
        have h72 : a1.tmps[72]?.getD undef = .pointer (some ⟨gh, 11, none⟩) := by assumption
        have hgd : a1.tmps[65]?.getD undef = .bool false := by assumption
        rw [if_pos (wanted_yes (j := 8) (b := false) rfl rfl rfl hgd)]
        have hcc : w2.cell? ⟨gh, 11, none⟩ = some (.string Z0.key) := HHC.out w2 (hdr.out.trans (hb.mono hdr.out.size)) 11 _ rfl
        go_simp
        exact hK.out _ _ (Below.refl _ _) rfl
      · intro a1 w2 hb hs K hK
        repeat (intro _)
        refine ⟨?_⟩
        have h71 : a1.tmps[71]?.getD undef = .string Z0.key := by assumption
        have h73 : a1.tmps[73]?.getD undef = .string Z0.key := by assumption
        have hgd : a1.tmps[65]?.getD undef = .bool false := by assumption
        rw [if_pos (wanted_yes (j := 8) (b := false) rfl rfl rfl hgd)]
        go_simp
        exact hK.out _ _ (Below.refl _ _) rfl
      · intro a1 w2 hb hs K hK
        repeat (intro _)
        refine ⟨?_⟩
        have h65 : a1.tmps[65]?.getD undef = .bool false := by assumption
        have h74 : a1.tmps[74]?.getD undef = .bool false := by assumption
        rw [if_pos (by rfl)]
        go_simp
        exact hK.out _ _ (Below.refl _ _) rfl
      · intro a1 w2 hb hs K hK
        repeat (intro _)
        refine ⟨?_⟩
        have h75 : a1.tmps[75]?.getD undef = .bool false := by assumption
        rw [if_pos (by rfl)]
        go_simp
        exact hK.out _ _ (Below.refl _ _) rfl
      · intro a1 w2 hb hs K hK
        repeat (intro _)
        refine ⟨?_⟩
        have h9 : a1.tmps[9]?.getD undef = .slice (some ⟨g, 0, none⟩) n n := hs 9 (by kernel_rfl)
        have hgd : a1.tmps[76]?.getD undef = .bool false := by assumption
        rw [if_pos (wanted_yes (j := 19) (b := false) rfl rfl rfl hgd)]
        go_simp
        exact hK.out _ _ (Below.refl _ _) rfl
      · intro a1 w2 hb hs K hK
        repeat (intro _)
        refine ⟨?_⟩
        have h12 : a1.tmps[12]?.getD undef = .int .i64 (k : Int) := hs 12 (by kernel_rfl)
        have hgd : a1.tmps[76]?.getD undef = .bool false := by assumption
        rw [if_pos (wanted_yes (j := 19) (b := false) rfl rfl rfl hgd)]
        go_simp
        exact hK.out _ _ (Below.refl _ _) rfl
      · intro a1 w2 hb hs K hK
        repeat (intro _)
        refine ⟨?_⟩
        have h77 : a1.tmps[77]?.getD undef = .slice (some ⟨g, 0, none⟩) n n := by assumption
        have h78 : a1.tmps[78]?.getD undef = .int .i64 (k : Int) := by assumption
        have hgd : a1.tmps[76]?.getD undef = .bool false := by assumption
        rw [if_pos (wanted_yes (j := 19) (b := false) rfl rfl rfl hgd)]
        go_simp
        exact hK.out _ _ (Below.refl _ _) rfl
      · intro a1 w2 hb hs K hK
        repeat (intro _)
        refine ⟨?_⟩
        have h79 : a1.tmps[79]?.getD undef = .pointer (some ⟨g, k * 17, none⟩) := by assumption
        have hgd : a1.tmps[76]?.getD undef = .bool false := by assumption
        rw [if_pos (wanted_yes (j := 19) (b := false) rfl rfl rfl hgd)]
        go_simp
        exact hK.out _ _ (Below.refl _ _) rfl
      · intro a1 w2 hb hs K hK
        repeat (intro _)
        refine ⟨?_⟩
        have h80 : a1.tmps[80]?.getD undef = .pointer (some ⟨g, k * 17, none⟩) := by assumption
        have hgd : a1.tmps[76]?.getD undef = .bool false := by assumption
        rw [if_pos (wanted_yes (j := 19) (b := false) rfl rfl rfl hgd)]
        go_simp
        exact hK.out _ _ (Below.refl _ _) rfl
      · intro a1 w2 hb hs K hK
        repeat (intro _)
        refine ⟨?_⟩
        have h81 : a1.tmps[81]?.getD undef = .pointer (some ⟨g, k * 17 + 12, none⟩) := by assumption
        have hgd : a1.tmps[76]?.getD undef = .bool false := by assumption
        rw [if_pos (wanted_yes (j := 19) (b := false) rfl rfl rfl hgd)]
        have hcc : w2.cell? ⟨g, k * 17 + 12, none⟩ = some (.int .i64 (m1 : Int)) := HCL.out w2 (hdr.out.trans (hb.mono hdr.out.size)) 12 _ rfl
        go_simp
        exact hK.out _ _ (Below.refl _ _) rfl
      · intro a1 w2 hb hs K hK
        repeat (intro _)
        refine ⟨?_⟩
        have h8 : a1.tmps[8]?.getD undef = .slice A1 m1 c1 := hs 8 (by kernel_rfl)
        have hgd : a1.tmps[76]?.getD undef = .bool false := by assumption
        rw [if_pos (wanted_yes (j := 19) (b := false) rfl rfl rfl hgd)]
        go_simp
        exact hK.out _ _ (Below.refl _ _) rfl
      · intro a1 w2 hb hs K hK
        repeat (intro _)
        refine ⟨?_⟩
        have h83 : a1.tmps[83]?.getD undef = .slice A1 m1 c1 := by assumption
        have hgd : a1.tmps[76]?.getD undef = .bool false := by assumption
        rw [if_pos (wanted_yes (j := 19) (b := false) rfl rfl rfl hgd)]
        go_simp
        exact hK.out _ _ (Below.refl _ _) rfl
      · intro a1 w2 hb hs K hK
        repeat (intro _)
        refine ⟨?_⟩
        have h82 : a1.tmps[82]?.getD undef = .int .i64 (m1 : Int) := by assumption
        have h84 : a1.tmps[84]?.getD undef = .int .i64 (m1 : Int) := by assumption
        have hgd : a1.tmps[76]?.getD undef = .bool false := by assumption
        rw [if_pos (wanted_yes (j := 19) (b := false) rfl rfl rfl hgd)]
        go_simp
        exact hK.out _ _ (Below.refl _ _) rfl
      · intro a1 w2 hb hs K hK
        repeat (intro _)
        refine ⟨?_⟩
        have h76 : a1.tmps[76]?.getD undef = .bool false := by assumption
        have h85 : a1.tmps[85]?.getD undef = .bool false := by assumption
        rw [if_pos (by rfl)]
        go_simp
        exact hK.out _ _ (Below.refl _ _) rfl
      · intro a1 w2 hb hs K hK
        repeat (intro _)
        refine ⟨?_⟩
        have h86 : a1.tmps[86]?.getD undef = .bool false := by assumption
        rw [if_pos (by rfl)]
        go_simp
        exact hK.out _ _ (Below.refl _ _) rfl
      · intro a1 w2 hb hs K hK
        repeat (intro _)
        refine ⟨?_⟩
        have h9 : a1.tmps[9]?.getD undef = .slice (some ⟨g, 0, none⟩) n n := hs 9 (by kernel_rfl)
        have hgd : a1.tmps[87]?.getD undef = .bool false := by assumption
        rw [if_pos (wanted_yes (j := 30) (b := false) rfl rfl rfl hgd)]
        go_simp
        exact hK.out _ _ (Below.refl _ _) rfl
      · intro a1 w2 hb hs K hK
        repeat (intro _)
        refine ⟨?_⟩
        have h12 : a1.tmps[12]?.getD undef = .int .i64 (k : Int) := hs 12 (by kernel_rfl)
        have hgd : a1.tmps[87]?.getD undef = .bool false := by assumption
        rw [if_pos (wanted_yes (j := 30) (b := false) rfl rfl rfl hgd)]
        go_simp
        exact hK.out _ _ (Below.refl _ _) rfl
      · intro a1 w2 hb hs K hK
        repeat (intro _)
        refine ⟨?_⟩
        have h88 : a1.tmps[88]?.getD undef = .slice (some ⟨g, 0, none⟩) n n := by assumption
        have h89 : a1.tmps[89]?.getD undef = .int .i64 (k : Int) := by assumption
        have hgd : a1.tmps[87]?.getD undef = .bool false := by assumption
        rw [if_pos (wanted_yes (j := 30) (b := false) rfl rfl rfl hgd)]
        go_simp
        exact hK.out _ _ (Below.refl _ _) rfl
      · intro a1 w2 hb hs K hK
        repeat (intro _)
        refine ⟨?_⟩
        have h90 : a1.tmps[90]?.getD undef = .pointer (some ⟨g, k * 17, none⟩) := by assumption
        have hgd : a1.tmps[87]?.getD undef = .bool false := by assumption
        rw [if_pos (wanted_yes (j := 30) (b := false) rfl rfl rfl hgd)]
        go_simp
        exact hK.out _ _ (Below.refl _ _) rfl
      · intro a1 w2 hb hs K hK
        repeat (intro _)
        refine ⟨?_⟩
        have h91 : a1.tmps[91]?.getD undef = .pointer (some ⟨g, k * 17, none⟩) := by assumption
        have hgd : a1.tmps[87]?.getD undef = .bool false := by assumption
        rw [if_pos (wanted_yes (j := 30) (b := false) rfl rfl rfl hgd)]
        go_simp
        exact hK.out _ _ (Below.refl _ _) rfl
      · intro a1 w2 hb hs K hK
        repeat (intro _)
        refine ⟨?_⟩
        have h92 : a1.tmps[92]?.getD undef = .pointer (some ⟨g, k * 17 + 14, none⟩) := by assumption
        have hgd : a1.tmps[87]?.getD undef = .bool false := by assumption
        rw [if_pos (wanted_yes (j := 30) (b := false) rfl rfl rfl hgd)]
        exact wp_loadAgg 40 (.tmp 92) rfl ⟨g, k * 17 + 14, none⟩ ((slot_eval a1 92).trans h92) #[.int .i64 Z0.ep, .int .i64 Z0.ct] _ (fun j v hj => by rw [add_addr]; have hj2 : j < 2 := (List.getElem?_eq_some_iff.1 hj).1; rw [Nat.add_assoc]; exact HCL.out w2 (hdr.out.trans (hb.mono hdr.out.size)) (14 + j) v (by rw [← hj]; rcases j with _ | _ | j <;> first | rfl | omega)) Try.underlying40 rfl (by kernel_rfl) (hK.out _ _ (Below.refl _ _) rfl)
      · intro a1 w2 hb hs K hK
        repeat (intro _)
        refine ⟨?_⟩
        have h7 : a1.tmps[7]?.getD undef = .pointer (some ⟨gh, 0, none⟩) := hs 7 (by kernel_rfl)
        have hgd : a1.tmps[87]?.getD undef = .bool false := by assumption
        rw [if_pos (wanted_yes (j := 30) (b := false) rfl rfl rfl hgd)]
        go_simp
        exact hK.out _ _ (Below.refl _ _) rfl
      · intro a1 w2 hb hs K hK
        repeat (intro _)
        refine ⟨?_⟩
        have h94 : a1.tmps[94]?.getD undef = .pointer (some ⟨gh, 14, none⟩) := by assumption
        have hgd : a1.tmps[87]?.getD undef = .bool false := by assumption
        rw [if_pos (wanted_yes (j := 30) (b := false) rfl rfl rfl hgd)]
        exact wp_loadAgg 40 (.tmp 94) rfl ⟨gh, 14, none⟩ ((slot_eval a1 94).trans h94) #[.int .i64 Z0.ep, .int .i64 Z0.ct] _ (fun j v hj => by rw [add_addr]; have hj2 : j < 2 := (List.getElem?_eq_some_iff.1 hj).1; exact HHC.out w2 (hdr.out.trans (hb.mono hdr.out.size)) (14 + j) v (by rw [← hj]; rcases j with _ | _ | j <;> first | rfl | omega)) Try.underlying40 rfl (by kernel_rfl) (hK.out _ _ (Below.refl _ _) rfl)
      · intro a1 w2 hb hs K hK
        repeat (intro _)
        refine ⟨?_⟩
        have h93 : a1.tmps[93]?.getD undef = .agg #[.int .i64 Z0.ep, .int .i64 Z0.ct] := by assumption
        have h95 : a1.tmps[95]?.getD undef = .agg #[.int .i64 Z0.ep, .int .i64 Z0.ct] := by assumption
        have hgd : a1.tmps[87]?.getD undef = .bool false := by assumption
        rw [if_pos (wanted_yes (j := 30) (b := false) rfl rfl rfl hgd)]
        exact wp_neqAgg 40 (.tmp 93) (.tmp 95) rfl #[.int .i64 Z0.ep, .int .i64 Z0.ct] #[.int .i64 Z0.ep, .int .i64 Z0.ct] ((slot_eval a1 93).trans h93) ((slot_eval a1 95).trans h95) guard_G true (gen_same HZW.out.2.2.2.2.2.2.2.2.2.2.2.2.2.1 HZW.out.2.2.2.2.2.2.2.2.2.2.2.2.2.2.1 w2) (hK.out _ _ (Below.refl _ _) rfl)
      · intro a1 w2 hb hs K hK
        repeat (intro _)
        refine ⟨?_⟩
        have h87 : a1.tmps[87]?.getD undef = .bool false := by assumption
        have h96 : a1.tmps[96]?.getD undef = .bool false := by assumption
        rw [if_pos (by rfl)]
        go_simp
        exact hK.out _ _ (Below.refl _ _) rfl
      · intro a1 w2 hb hs K hK
        repeat (intro _)
        refine ⟨?_⟩
        have h97 : a1.tmps[97]?.getD undef = .bool false := by assumption
        rw [if_pos (by rfl)]
        go_simp
        exact hK.out _ _ (Below.refl _ _) rfl
      · intro a1 w2 hb hs K hK
        repeat (intro _)
        refine ⟨?_⟩
        have h9 : a1.tmps[9]?.getD undef = .slice (some ⟨g, 0, none⟩) n n := hs 9 (by kernel_rfl)
        have hgd : a1.tmps[98]?.getD undef = .bool false := by assumption
        rw [if_pos (wanted_yes (j := 41) (b := false) rfl rfl rfl hgd)]
        go_simp
        exact hK.out _ _ (Below.refl _ _) rfl
      · intro a1 w2 hb hs K hK
        repeat (intro _)
        refine ⟨?_⟩
        have h12 : a1.tmps[12]?.getD undef = .int .i64 (k : Int) := hs 12 (by kernel_rfl)
        have hgd : a1.tmps[98]?.getD undef = .bool false := by assumption
        rw [if_pos (wanted_yes (j := 41) (b := false) rfl rfl rfl hgd)]
        go_simp
        exact hK.out _ _ (Below.refl _ _) rfl
      · intro a1 w2 hb hs K hK
        repeat (intro _)
        refine ⟨?_⟩
        have h99 : a1.tmps[99]?.getD undef = .slice (some ⟨g, 0, none⟩) n n := by assumption
        have h100 : a1.tmps[100]?.getD undef = .int .i64 (k : Int) := by assumption
        have hgd : a1.tmps[98]?.getD undef = .bool false := by assumption
        rw [if_pos (wanted_yes (j := 41) (b := false) rfl rfl rfl hgd)]
        go_simp
        exact hK.out _ _ (Below.refl _ _) rfl
      · intro a1 w2 hb hs K hK
        repeat (intro _)
        refine ⟨?_⟩
        have h101 : a1.tmps[101]?.getD undef = .pointer (some ⟨g, k * 17, none⟩) := by assumption
        have hgd : a1.tmps[98]?.getD undef = .bool false := by assumption
        rw [if_pos (wanted_yes (j := 41) (b := false) rfl rfl rfl hgd)]
        go_simp
        exact hK.out _ _ (Below.refl _ _) rfl
      · intro a1 w2 hb hs K hK
        repeat (intro _)
        refine ⟨?_⟩
        have h102 : a1.tmps[102]?.getD undef = .pointer (some ⟨g, k * 17, none⟩) := by assumption
        have hgd : a1.tmps[98]?.getD undef = .bool false := by assumption
        rw [if_pos (wanted_yes (j := 41) (b := false) rfl rfl rfl hgd)]
        go_simp
        exact hK.out _ _ (Below.refl _ _) rfl
      · intro a1 w2 hb hs K hK
        repeat (intro _)
        refine ⟨?_⟩
        have h103 : a1.tmps[103]?.getD undef = .pointer (some ⟨g, k * 17 + 8, none⟩) := by assumption
        have hgd : a1.tmps[98]?.getD undef = .bool false := by assumption
        rw [if_pos (wanted_yes (j := 41) (b := false) rfl rfl rfl hgd)]
        exact wp_loadAgg 24 (.tmp 103) rfl ⟨g, k * 17 + 8, none⟩ ((slot_eval a1 103).trans h103) #[.int .i64 Z0.K, .int .i64 Z0.M, .int .i64 Z0.B] _ (fun j v hj => by rw [add_addr]; have hj2 : j < 3 := (List.getElem?_eq_some_iff.1 hj).1; rw [Nat.add_assoc]; exact HCL.out w2 (hdr.out.trans (hb.mono hdr.out.size)) (8 + j) v (by rw [← hj]; rcases j with _ | _ | _ | j <;> first | rfl | omega)) Try.underlying24 rfl (by kernel_rfl) (hK.out _ _ (Below.refl _ _) rfl)
      · intro a1 w2 hb hs K hK
        repeat (intro _)
        refine ⟨?_⟩
        have h7 : a1.tmps[7]?.getD undef = .pointer (some ⟨gh, 0, none⟩) := hs 7 (by kernel_rfl)
        have hgd : a1.tmps[98]?.getD undef = .bool false := by assumption
        rw [if_pos (wanted_yes (j := 41) (b := false) rfl rfl rfl hgd)]
        go_simp
        exact hK.out _ _ (Below.refl _ _) rfl
      · intro a1 w2 hb hs K hK
        repeat (intro _)
        refine ⟨?_⟩
        have h105 : a1.tmps[105]?.getD undef = .pointer (some ⟨gh, 8, none⟩) := by assumption
        have hgd : a1.tmps[98]?.getD undef = .bool false := by assumption
        rw [if_pos (wanted_yes (j := 41) (b := false) rfl rfl rfl hgd)]
        exact wp_loadAgg 24 (.tmp 105) rfl ⟨gh, 8, none⟩ ((slot_eval a1 105).trans h105) #[.int .i64 Z0.K, .int .i64 Z0.M, .int .i64 Z0.B] _ (fun j v hj => by rw [add_addr]; have hj2 : j < 3 := (List.getElem?_eq_some_iff.1 hj).1; exact HHC.out w2 (hdr.out.trans (hb.mono hdr.out.size)) (8 + j) v (by rw [← hj]; rcases j with _ | _ | _ | j <;> first | rfl | omega)) Try.underlying24 rfl (by kernel_rfl) (hK.out _ _ (Below.refl _ _) rfl)
      · intro a1 w2 hb hs K hK
        repeat (intro _)
        refine ⟨?_⟩
        have h104 : a1.tmps[104]?.getD undef = .agg #[.int .i64 Z0.K, .int .i64 Z0.M, .int .i64 Z0.B] := by assumption
        have h106 : a1.tmps[106]?.getD undef = .agg #[.int .i64 Z0.K, .int .i64 Z0.M, .int .i64 Z0.B] := by assumption
        have hgd : a1.tmps[98]?.getD undef = .bool false := by assumption
        rw [if_pos (wanted_yes (j := 41) (b := false) rfl rfl rfl hgd)]
        exact wp_neqAgg 24 (.tmp 104) (.tmp 106) rfl #[.int .i64 Z0.K, .int .i64 Z0.M, .int .i64 Z0.B] #[.int .i64 Z0.K, .int .i64 Z0.M, .int .i64 Z0.B] ((slot_eval a1 104).trans h104) ((slot_eval a1 106).trans h106) guard_P true (shape_same HZW.out.2.2.2.2.2.2.2.2.1 HZW.out.2.2.2.2.2.2.2.2.2.1 HZW.out.2.2.2.2.2.2.2.2.2.2.1 w2) (hK.out _ _ (Below.refl _ _) rfl)
      · intro a1 w2 hb hs K hK
        repeat (intro _)
        refine ⟨?_⟩
        have h98 : a1.tmps[98]?.getD undef = .bool false := by assumption
        have h107 : a1.tmps[107]?.getD undef = .bool false := by assumption
        rw [if_pos (by rfl)]
        go_simp
        exact hK.out _ _ (Below.refl _ _) rfl
      · intro a1 w2 hb hs K hK
        repeat (intro _)
        refine ⟨?_⟩
        have h108 : a1.tmps[108]?.getD undef = .bool false := by assumption
        rw [if_pos (by rfl)]
        go_simp
        exact hK.out _ _ (Below.refl _ _) rfl
      · intro a1 w2 hb hs K hK
        repeat (intro _)
        refine ⟨?_⟩
        have h9 : a1.tmps[9]?.getD undef = .slice (some ⟨g, 0, none⟩) n n := hs 9 (by kernel_rfl)
        have hgd : a1.tmps[109]?.getD undef = .bool false := by assumption
        rw [if_pos (wanted_yes (j := 52) (b := false) rfl rfl rfl hgd)]
        go_simp
        exact hK.out _ _ (Below.refl _ _) rfl
      · intro a1 w2 hb hs K hK
        repeat (intro _)
        refine ⟨?_⟩
        have h12 : a1.tmps[12]?.getD undef = .int .i64 (k : Int) := hs 12 (by kernel_rfl)
        have hgd : a1.tmps[109]?.getD undef = .bool false := by assumption
        rw [if_pos (wanted_yes (j := 52) (b := false) rfl rfl rfl hgd)]
        go_simp
        exact hK.out _ _ (Below.refl _ _) rfl
      · intro a1 w2 hb hs K hK
        repeat (intro _)
        refine ⟨?_⟩
        have h110 : a1.tmps[110]?.getD undef = .slice (some ⟨g, 0, none⟩) n n := by assumption
        have h111 : a1.tmps[111]?.getD undef = .int .i64 (k : Int) := by assumption
        have hgd : a1.tmps[109]?.getD undef = .bool false := by assumption
        rw [if_pos (wanted_yes (j := 52) (b := false) rfl rfl rfl hgd)]
        go_simp
        exact hK.out _ _ (Below.refl _ _) rfl
      · intro a1 w2 hb hs K hK
        repeat (intro _)
        refine ⟨?_⟩
        have h112 : a1.tmps[112]?.getD undef = .pointer (some ⟨g, k * 17, none⟩) := by assumption
        have hgd : a1.tmps[109]?.getD undef = .bool false := by assumption
        rw [if_pos (wanted_yes (j := 52) (b := false) rfl rfl rfl hgd)]
        go_simp
        exact hK.out _ _ (Below.refl _ _) rfl
      · intro a1 w2 hb hs K hK
        repeat (intro _)
        refine ⟨?_⟩
        have h113 : a1.tmps[113]?.getD undef = .pointer (some ⟨g, k * 17, none⟩) := by assumption
        have hgd : a1.tmps[109]?.getD undef = .bool false := by assumption
        rw [if_pos (wanted_yes (j := 52) (b := false) rfl rfl rfl hgd)]
        go_simp
        exact hK.out _ _ (Below.refl _ _) rfl
      · intro a1 w2 hb hs K hK
        repeat (intro _)
        refine ⟨?_⟩
        have h114 : a1.tmps[114]?.getD undef = .pointer (some ⟨g, k * 17, none⟩) := by assumption
        have hgd : a1.tmps[109]?.getD undef = .bool false := by assumption
        rw [if_pos (wanted_yes (j := 52) (b := false) rfl rfl rfl hgd)]
        exact wp_loadAgg 38 (.tmp 114) rfl ⟨g, k * 17, none⟩ ((slot_eval a1 114).trans h114) #[.int .u8 Z0.s0, .int .u8 Z0.s1, .int .u8 Z0.s2, .int .u8 Z0.s3, .int .u8 Z0.s4, .int .u8 Z0.s5, .int .u8 Z0.s6, .int .u8 Z0.s7] _ (fun j v hj => by rw [add_addr]; have hj2 : j < 8 := (List.getElem?_eq_some_iff.1 hj).1; exact HCL.out w2 (hdr.out.trans (hb.mono hdr.out.size)) j v (by rw [← hj]; rcases j with _ | _ | _ | _ | _ | _ | _ | _ | j <;> first | rfl | omega)) Try.underlying38 rfl (by kernel_rfl) (hK.out _ _ (Below.refl _ _) rfl)
      · intro a1 w2 hb hs K hK
        repeat (intro _)
        refine ⟨?_⟩
        have h7 : a1.tmps[7]?.getD undef = .pointer (some ⟨gh, 0, none⟩) := hs 7 (by kernel_rfl)
        have hgd : a1.tmps[109]?.getD undef = .bool false := by assumption
        rw [if_pos (wanted_yes (j := 52) (b := false) rfl rfl rfl hgd)]
        go_simp
        exact hK.out _ _ (Below.refl _ _) rfl
      · intro a1 w2 hb hs K hK
        repeat (intro _)
        refine ⟨?_⟩
        have h116 : a1.tmps[116]?.getD undef = .pointer (some ⟨gh, 0, none⟩) := by assumption
        have hgd : a1.tmps[109]?.getD undef = .bool false := by assumption
        rw [if_pos (wanted_yes (j := 52) (b := false) rfl rfl rfl hgd)]
        exact wp_loadAgg 38 (.tmp 116) rfl ⟨gh, 0, none⟩ ((slot_eval a1 116).trans h116) #[.int .u8 Z0.s0, .int .u8 Z0.s1, .int .u8 Z0.s2, .int .u8 Z0.s3, .int .u8 Z0.s4, .int .u8 Z0.s5, .int .u8 Z0.s6, .int .u8 Z0.s7] _ (fun j v hj => by rw [add_addr]; have hj2 : j < 8 := (List.getElem?_eq_some_iff.1 hj).1; exact HHC.out w2 (hdr.out.trans (hb.mono hdr.out.size)) (0 + j) v (by rw [← hj]; rcases j with _ | _ | _ | _ | _ | _ | _ | _ | j <;> first | rfl | omega)) Try.underlying38 rfl (by kernel_rfl) (hK.out _ _ (Below.refl _ _) rfl)
      · intro a1 w2 hb hs K hK
        repeat (intro _)
        refine ⟨?_⟩
        have h115 : a1.tmps[115]?.getD undef = .agg #[.int .u8 Z0.s0, .int .u8 Z0.s1, .int .u8 Z0.s2, .int .u8 Z0.s3, .int .u8 Z0.s4, .int .u8 Z0.s5, .int .u8 Z0.s6, .int .u8 Z0.s7] := by assumption
        have h117 : a1.tmps[117]?.getD undef = .agg #[.int .u8 Z0.s0, .int .u8 Z0.s1, .int .u8 Z0.s2, .int .u8 Z0.s3, .int .u8 Z0.s4, .int .u8 Z0.s5, .int .u8 Z0.s6, .int .u8 Z0.s7] := by assumption
        have hgd : a1.tmps[109]?.getD undef = .bool false := by assumption
        rw [if_pos (wanted_yes (j := 52) (b := false) rfl rfl rfl hgd)]
        exact wp_neqAgg 38 (.tmp 115) (.tmp 117) rfl #[.int .u8 Z0.s0, .int .u8 Z0.s1, .int .u8 Z0.s2, .int .u8 Z0.s3, .int .u8 Z0.s4, .int .u8 Z0.s5, .int .u8 Z0.s6, .int .u8 Z0.s7] #[.int .u8 Z0.s0, .int .u8 Z0.s1, .int .u8 Z0.s2, .int .u8 Z0.s3, .int .u8 Z0.s4, .int .u8 Z0.s5, .int .u8 Z0.s6, .int .u8 Z0.s7] ((slot_eval a1 115).trans h115) ((slot_eval a1 117).trans h117) guard_8 true (store_same HZW.out w2) (hK.out _ _ (Below.refl _ _) rfl)
      · intro a1 w2 hb hs K hK
        repeat (intro _)
        refine ⟨?_⟩
        have h109 : a1.tmps[109]?.getD undef = .bool false := by assumption
        have h118 : a1.tmps[118]?.getD undef = .bool false := by assumption
        rw [if_pos (by rfl)]
        go_simp
        exact hK.out _ _ (Below.refl _ _) rfl
      intro v0 f0 v1 f1 v2 f2 v3 f3 v4 f4 v5 f5 v6 f6 v7 f7 v8 f8 v9 f9 v10 f10 v11 f11 v12 f12 v13 f13 v14 f14 v15 f15 v16 f16 v17 f17 v18 f18 v19 f19 v20 f20 v21 f21 v22 f22 v23 f23 v24 f24 v25 f25 v26 f26 v27 f27 v28 f28 v29 f29 v30 f30 v31 f31 v32 f32 v33 f33 v34 f34 v35 f35 v36 f36 v37 f37 v38 f38 v39 f39 v40 f40 v41 f41 v42 f42 v43 f43 v44 f44 v45 f45 v46 f46 v47 f47 v48 f48 v49 f49 v50 f50 v51 f51 v52 f52 v53 f53 v54 f54 v55 f55 v56 f56 v57 f57 v58 f58 v59 f59 v60 f60 v61 f61 v62 f62
      refine NoPanic.normal ?_
      simp only [Act.put, List.setIfInBounds_toArray, List.set_cons_zero, List.set_cons_succ]
      obtain rfl : v62 = .bool false := f62
      clear f0 f1 f2 f3 f4 f5 f6 f7 f8 f9 f10 f11 f12 f13 f14 f15 f16 f17 f18 f19 f20 f21 f22 f23 f24 f25 f26 f27 f28 f29 f30 f31 f32 f33 f34 f35 f36 f37 f38 f39 f40 f41 f42 f43 f44 f45 f46 f47 f48 f49 f50 f51 f52 f53 f54 f55 f56 f57 f58 f59 f60 f61
      have HEE := Lib.hid (HE.out.kept hbE)
      have HBTE := Lib.hid (HBT.out.kept hbE)
      have hpk : wE.cell? ⟨pb, k, none⟩ = some (.bool (P k)) := (hbE.cell (p := ⟨pb, k, none⟩) (by show pb < _; have := HBT.out.size; omega)).trans HPK.out
      clear hbE HPK
      obtain ⟨b, hbv⟩ : ∃ b, b = P k := ⟨_, rfl⟩
      rw [← hbv] at hpk
      have HBV := Lib.hid hbv
      clear hbv
      cases b
      · have HEN := Lib.hid (HEE.out.congr (P' := fun t => decide (t < k + 1) && P t) fun t _ => by
          by_cases e : t = k
          · subst e; simp [← HBV.out]
          · have h1 : decide (t < k + 1) = decide (t < k) := decide_eq_decide.2 (by omega)
            rw [h1])
        go_wp2
        go_roundg (n - (k + 1))
        case measure => omega
        case rel => exact ⟨k + 1, by omega, rfl, by go_num, HEN.out, HBTE.out⟩
      · obtain ⟨cur, hcur, hcz, _, _⟩ := HEE.out.cur
        have HCUR := Lib.hid hcur
        have hkc : k * 17 + 17 ≤ n * 17 := by omega
        clear hcur
        go_wp2_with (refine wpList_storePart rfl 69 (.tmp 127) (.tmp 126) rfl g (k * 17) #[.int .u8 0, .int .u8 0, .int .u8 0, .int .u8 0, .int .u8 0, .int .u8 0, .int .u8 0, .int .u8 0, .int .i64 0, .int .i64 0, .int .i64 0, .string ⟨#[]⟩, .int .i64 0, .int .i64 0, .int .i64 0, .int .i64 0, .slice none 0 0] rfl rfl (by kernel_rfl) 69 cur (by rw [hcz]; exact hkc) HCUR.out rfl ?_)
        intro w8 hw8 hg8 _
        have HEN := Lib.hid ((HEE.out.erase (i := k) hlt HCUR.out (by rw [List.append_assoc]; exact hw8) hg8).congr (P' := fun t => decide (t < k + 1) && P t) fun t _ => by
          by_cases e : t = k
          · subst e; simp [← HBV.out]
          · have h1 : decide (t < k + 1) = decide (t < k) := decide_eq_decide.2 (by omega)
            simp only [e, if_false]
            rw [h1])
        have HBTN := Lib.hid (HBTE.out.grown hg8 fun q e => by injection e with e; exact .inr (.inl e.symm))
        clear hw8 hg8 hpk
        go_wp2
        go_roundg (n - (k + 1))
        case measure => omega
        case rel => exact ⟨k + 1, by omega, rfl, by go_num, HEN.out, HBTN.out⟩
    · obtain rfl : n = k := by omega
      have HEN := Lib.hid (HE.out.congr (P' := P) fun t ht => by simp [ht])
      have HJL := Lib.hid (fun (er : Int) (l' : List Nat) (h : JoinR n (erH P Hs) (erB P Bs) er l') => er_join (Z := Z) (l := l) HSN.out HCK.out (by rw [HZ.out]; show ((m1 : Nat) : Int) = _; rw [HML.out]) HXL.out (fun t _ => by rw [HHS.out]) (fun t _ => by rw [HBS.out]) (by rw [HZKT.out]; have := HC5.out; have := HNKM.out; omega) (by rw [HZKT.out]; exact hKp) h)
      have HPL := Lib.hid (fun (er : Int) (l' : List Nat) (h : PieceR n (erH P Hs) (erB P Bs) off q er l') => er_piece (Z := Z) (l := l) HSN.out HCK.out (by rw [HZ.out]; show ((m1 : Nat) : Int) = _; rw [HML.out]) HXL.out (fun t _ => by rw [HHS.out]) (fun t _ => by rw [HBS.out]) (by rw [HZKT.out]; have := HC5.out; have := HNKM.out; omega) (by rw [HZKT.out]; exact hKp) h)
      have hck0 : checkE Z = 0 := by
        have h5 := HCK.out 0 hn0
        rw [HZ.out] at h5 ⊢
        exact h5
      have HBD : Hid (∀ t, t < n → (erB P Bs t).length ≤ 140737488351232 ∧ (∀ y ∈ erB P Bs t, y.length ≤ 140737488351232) ∧ ∀ y ∈ erB P Bs t, ∀ x ∈ y, x < 256) := Lib.hid fun t _ => by
        refine er_bnd (by rw [HBS.out]; exact Nat.le_trans (spl_len l hck0 (by rw [HZ.out]; show ((m1 : Nat) : Int) = _; rw [HML.out]) t) (by decide)) (fun y hy => ?_) (by rw [HBS.out]; exact spl_lt _ _ _ _)
        rw [HBS.out] at hy
        exact Nat.le_trans (spl_row l hck0 t y hy) (by decide)
      have HWE : Hid (∀ t, t < n → HdW (erH P Hs t)) := Lib.hid fun t ht => er_wf (by
        rw [HHS.out, HZ.out]
        exact hdw_spl HZW.out m1 t (by omega) (by omega))
      have HBW : Hid (Below w.heap.size w wr) := Lib.hid (by
        have h1 := HBXE.out
        have h2 := HB2.out.trans (HB24.out.mono (show w.heap.size ≤ gh by omega))
        have h3 := h2.trans (HB45.out.mono h2.size)
        exact h3.trans (HBT.out.below (by omega) (by omega) h3.size))
      have HRD : Hid (RL wr A1 l) := Lib.hid (by
        have h1 := (own_rl' HO1.out).below (show Below w2.heap.size w2 w5 from by
          have h2 := HB24.out
          rw [HGH.out] at h2
          exact h2.trans (HB45.out.mono h2.size))
        intro i hi
        obtain ⟨b0, o0, e0, hb0, hc0⟩ := h1 i hi
        obtain ⟨b1, o1, e1, hb1, _⟩ := own_rl' HO1.out i hi
        rw [e0] at e1
        injection e1 with e1; injection e1 with e1 e2
        have hbl : wr.heap[b0]? = w5.heap[b0]? := HBT.out.block b0 hb0 (by have := HGH.out; omega) (by have := HGH.out; omega)
        exact ⟨b0, o0, e0, by have := HBT.out.size; omega, by rw [World.cell?_of_block (a := ⟨b0, o0 + i, none⟩) hbl]; exact hc0⟩)
      clear HE HBT HB45 HB24 HB2 HH4 HH5 HBX2 HBX4 HP5 HC5 HPI HCK
      go_wp2_with fail
      refine (join_all (some ⟨g, 0, none⟩) n n _ _ wr (by omega) HWE.out HEN.out.rsd (fun t ht => (HBD.out t ht).1) (fun t ht => (HBD.out t ht).2.1) (fun t ht => (HBD.out t ht).2.2)).mono ?_
      rintro e w6 ⟨er, l', A6, c6, rfl, hJ, hO6, hb6⟩
      obtain ⟨rfl, e6⟩ := HJL.out er l' hJ
      rw [e6] at hO6 ⊢
      rw [← HML.out] at hO6 ⊢
      clear e6 hJ
      have HO6 := Lib.hid (own_rl' hO6)
      have HB6 := Lib.hid hb6
      clear hO6 hb6 HJL
      go_wp2_with fail
      refine (piece_all (some ⟨g, 0, none⟩) n n _ _ off q w6 (by omega) ho hq HWE.out (HEN.out.kept HB6.out).rsd (fun t ht => (HBD.out t ht).1) (fun t ht => (HBD.out t ht).2.1) (fun t ht => (HBD.out t ht).2.2)).mono ?_
      rintro e w7 ⟨er, lq, A9, c9, rfl, hQ, hR9, hb7⟩
      have hcs := HPL.out er lq hQ
      have HBF : Hid (Below w.heap.size w w7) := Lib.hid (HBW.out.trans ((HB6.out.trans (hb7.mono HB6.out.size)).mono HBW.out.size))
      have hs1 := conv_strL c6 HXL.out (HO6.out.below hb7)
      have hs2 := conv_strL c1 HXL.out (HRD.out.below (HB6.out.trans (hb7.mono HB6.out.size)))
      rw [← HML.out] at hs1 hs2
      have hne : (!(strL l).toList == (strL l).toList) = false := by simp
      have HR9 := Lib.hid hR9; have HQX := Lib.hid hQ.lt
      have HRD7 := Lib.hid (HRD.out.below (HB6.out.trans (hb7.mono HB6.out.size)))
      obtain ⟨lp, hlp⟩ : ∃ lp, lp = lq.length := ⟨_, rfl⟩
      have HLP := Lib.hid hlp
      rw [← hlp]
      clear hQ hR9 hb7 HEN HBD HWE HPL hlp HRD HO6
      rcases hcs with ⟨hoq, rfl, rfl⟩ | ⟨ho0, hq0, rfl, hlq⟩
      · obtain rfl : lp = 0 := HLP.out
        rcases (show off < 0 ∨ (¬ off < 0 ∧ q < 0) by omega) with h0 | ⟨h0, h1⟩
        · go_wp2
          go_ret
          exact ⟨rfl, HBF.out⟩
        · go_wp2
          go_ret
          exact ⟨rfl, HBF.out⟩
      · obtain ⟨o, rfl⟩ : ∃ o : Nat, off = (o : Int) := ⟨off.toNat, by omega⟩
        obtain ⟨m, rfl⟩ : ∃ m : Nat, q = (m : Int) := ⟨q.toNat, by omega⟩
        have hoo : ¬ (o : Int) < 0 := by omega
        have hmm : ¬ (m : Int) < 0 := by omega
        have HLQ : Hid (lq = cutL l o m) := Lib.hid hlq
        have HCUT : Hid (∀ w', Below w7.heap.size w7 w' → Calls Try.prog 39 #[.slice A1 m1 c1, .int .i64 (o : Int), .int .i64 (m : Int)] w' fun e w'' => (∃ A' c', e = .returned (.slice A' lq.length c') ∧ RL w' A' lq) ∧ w' = w'') := Lib.hid fun w' hb => by
          have h1 := cutp_any A1 c1 o m l w' (by rw [← HML.out]; omega) hlc1 (by omega) (by omega) (HRD7.out.below hb)
          rw [← HML.out, ← HLQ.out] at h1
          exact h1
        have HS9 : Hid (∀ w', Below w7.heap.size w7 w' → (convert 43 9 (.slice A9 lp c9)).run Try.prog w' = .ok (.string (strL lq)) w') := Lib.hid fun w' hb => by
          have h1 := conv_strL c9 HQX.out (HR9.out.below hb)
          rw [← HLP.out] at h1
          exact h1
        clear hlq ho0 hq0
        go_wp2_with fail
        refine wp_region_factsG [.is (.int .i64 0), .is (.bool true), .is (.bool true), .is (.slice A9 lp c9), .is (.string (strL lq)), .is (.slice A1 m1 c1), .is (.int .i64 (o : Int)), .is (.int .i64 (m : Int)), Fact.rdL lq, .is (.string (strL lq)), .is (.bool true), .is (.bool true), .is (.bool true)] mixed (by kernel_rfl) (fun hdr => ⟨?_, ?_, ?_, ?_, ?_, ?_, ?_, ?_, ?_, ?_, ?_, ?_, ?_, trivial⟩) (fun wE hbE => ?_)
        · intro a1 w2 hb hs K hK
          repeat (intro _)
          refine ⟨?_⟩
          have h15 : a1.tmps[15]?.getD undef = .int .i64 0 := hs 15 (by kernel_rfl)
          rw [if_pos (by rfl)]
          go_simp
          exact hK.out _ _ (Below.refl _ _) rfl
        · intro a1 w2 hb hs K hK
          repeat (intro _)
          refine ⟨?_⟩
          have h162 : a1.tmps[162]?.getD undef = .int .i64 0 := by assumption
          rw [if_pos (by rfl)]
          go_simp
          exact hK.out _ _ (Below.refl _ _) rfl
        · intro a1 w2 hb hs K hK
          repeat (intro _)
          refine ⟨?_⟩
          have h163 : a1.tmps[163]?.getD undef = .bool true := by assumption
          rw [if_pos (by rfl)]
          go_simp
          exact hK.out _ _ (Below.refl _ _) rfl
        · intro a1 w2 hb hs K hK
          repeat (intro _)
          refine ⟨?_⟩
          have h14 : a1.tmps[14]?.getD undef = .slice A9 lp c9 := hs 14 (by kernel_rfl)
          have hgd : a1.tmps[164]?.getD undef = .bool true := by assumption
          rw [if_pos (wanted_yes (j := 2) (b := true) rfl rfl rfl hgd)]
          go_simp
          exact hK.out _ _ (Below.refl _ _) rfl
        · intro a1 w2 hb hs K hK
          repeat (intro _)
          refine ⟨?_⟩
          have h165 : a1.tmps[165]?.getD undef = .slice A9 lp c9 := by assumption
          have hgd : a1.tmps[164]?.getD undef = .bool true := by assumption
          rw [if_pos (wanted_yes (j := 2) (b := true) rfl rfl rfl hgd)]
          have hcc := HS9.out w2 (hdr.out.trans (hb.mono hdr.out.size))
          go_simp
          exact hK.out _ _ (Below.refl _ _) rfl
        · intro a1 w2 hb hs K hK
          repeat (intro _)
          refine ⟨?_⟩
          have h8 : a1.tmps[8]?.getD undef = .slice A1 m1 c1 := hs 8 (by kernel_rfl)
          have hgd : a1.tmps[164]?.getD undef = .bool true := by assumption
          rw [if_pos (wanted_yes (j := 2) (b := true) rfl rfl rfl hgd)]
          go_simp
          exact hK.out _ _ (Below.refl _ _) rfl
        · intro a1 w2 hb hs K hK
          repeat (intro _)
          refine ⟨?_⟩
          have h1 : a1.tmps[1]?.getD undef = .int .i64 (o : Int) := hs 1 (by kernel_rfl)
          have hgd : a1.tmps[164]?.getD undef = .bool true := by assumption
          rw [if_pos (wanted_yes (j := 2) (b := true) rfl rfl rfl hgd)]
          go_simp
          exact hK.out _ _ (Below.refl _ _) rfl
        · intro a1 w2 hb hs K hK
          repeat (intro _)
          refine ⟨?_⟩
          have h2 : a1.tmps[2]?.getD undef = .int .i64 (m : Int) := hs 2 (by kernel_rfl)
          have hgd : a1.tmps[164]?.getD undef = .bool true := by assumption
          rw [if_pos (wanted_yes (j := 2) (b := true) rfl rfl rfl hgd)]
          go_simp
          exact hK.out _ _ (Below.refl _ _) rfl
        · intro a1 w2 hb hs K hK
          repeat (intro _)
          refine ⟨?_⟩
          have h167 : a1.tmps[167]?.getD undef = .slice A1 m1 c1 := by assumption
          have h168 : a1.tmps[168]?.getD undef = .int .i64 (o : Int) := by assumption
          have h169 : a1.tmps[169]?.getD undef = .int .i64 (m : Int) := by assumption
          have hgd : a1.tmps[164]?.getD undef = .bool true := by assumption
          rw [if_pos (wanted_yes (j := 2) (b := true) rfl rfl rfl hgd)]
          go_simp
          refine (HCUT.out w2 (hdr.out.trans (hb.mono hdr.out.size))).mono ?_
          rintro e w3 ⟨⟨A7, c7, rfl, hr7⟩, rfl⟩
          exact hK.out _ _ (Below.refl _ _) ⟨A7, c7, rfl, hr7⟩
        · intro a1 w2 hb hs K hK
          repeat (intro _)
          refine ⟨?_⟩
          obtain ⟨A7, c7, h170, r170⟩ : ∃ A c, a1.tmps[170]?.getD undef = .slice A lq.length c ∧ RL w2 A lq := by assumption
          have hgd : a1.tmps[164]?.getD undef = .bool true := by assumption
          rw [if_pos (wanted_yes (j := 2) (b := true) rfl rfl rfl hgd)]
          have hcc := conv_strL c7 HQX.out r170
          go_simp
          exact hK.out _ _ (Below.refl _ _) rfl
        · intro a1 w2 hb hs K hK
          repeat (intro _)
          refine ⟨?_⟩
          have h166 : a1.tmps[166]?.getD undef = .string (strL lq) := by assumption
          have h171 : a1.tmps[171]?.getD undef = .string (strL lq) := by assumption
          have hgd : a1.tmps[164]?.getD undef = .bool true := by assumption
          rw [if_pos (wanted_yes (j := 2) (b := true) rfl rfl rfl hgd)]
          go_simp
          exact hK.out _ _ (Below.refl _ _) rfl
        · intro a1 w2 hb hs K hK
          repeat (intro _)
          refine ⟨?_⟩
          have h164 : a1.tmps[164]?.getD undef = .bool true := by assumption
          have h172 : a1.tmps[172]?.getD undef = .bool true := by assumption
          rw [if_pos (by rfl)]
          go_simp
          exact hK.out _ _ (Below.refl _ _) rfl
        · intro a1 w2 hb hs K hK
          repeat (intro _)
          refine ⟨?_⟩
          have h173 : a1.tmps[173]?.getD undef = .bool true := by assumption
          rw [if_pos (by rfl)]
          go_simp
          exact hK.out _ _ (Below.refl _ _) rfl
        intro v0 f0 v1 f1 v2 f2 v3 f3 v4 f4 v5 f5 v6 f6 v7 f7 v8 f8 v9 f9 v10 f10 v11 f11 v12 f12
        refine NoPanic.normal ?_
        simp only [Act.put, List.setIfInBounds_toArray, List.set_cons_zero, List.set_cons_succ]
        obtain rfl : v12 = .bool true := f12
        clear f0 f1 f2 f3 f4 f5 f6 f7 f8 f9 f10 f11
        have HBG := Lib.hid (HBF.out.trans (hbE.mono HBF.out.size))
        clear hbE
        go_wp2
        go_ret
        exact ⟨rfl, HBG.out⟩
end Go.Proofs.Ytjaaldandgfkgaa
