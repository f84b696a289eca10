/- StripeFiles: the law's walk. Conditions: an object and numbers that memory bears. -/
import Derived.Test.YtjaaldandgfkgaaFilM
import Derived.Test.YtjaaldandgfkgaaAnk0
import Derived.Deep.CutRange
namespace Go.Proofs.Ytjaaldandgfkgaa
open Go.RowKit

set_option maxRecDepth 100000 in
set_option maxHeartbeats 8000000 in
theorem lawFil (p : Pln) (A0 : Option Addr) (cd : Nat) (l0 : List Nat) (Pk : Option Addr) (np cp : Nat) (pi : Nat → Int) (Ah : Option Addr) (nh ch : Nat) (hi : Nat → Int) (w : World) (hw : p.Wf) (hA : RL w A0 l0) (hlc : l0.length ≤ cd) (hl : l0.length ≤ 140737488351232) (hX : ∀ x ∈ l0, x < 256) (hP : Rd w Pk np (fun i => .int .i64 (pi i))) (hnp : np * 8 ≤ 140737488351232) (hH : Rd w Ah nh (fun i => .int .i64 (hi i))) (hnh : nh * 8 ≤ 140737488351232) (hHb : ∀ i, i < nh → -9223372036854775808 ≤ hi i ∧ hi i ≤ 9223372036854775807) :
    Calls Try.prog 14 #[.agg #[.int .i64 p.K, .int .i64 p.M, .int .i64 p.B, .int .u8 p.s0, .int .u8 p.s1, .int .u8 p.s2, .int .u8 p.s3, .int .u8 p.s4, .int .u8 p.s5, .int .u8 p.s6, .int .u8 p.s7, .string p.key, .int .i64 p.ep, .int .i64 p.ct, .slice A0 l0.length cd, .slice Pk np cp], .slice Ah nh ch] w fun e w' => e = .returned (.bool true) ∧ Below w.heap.size w w' := by
  have HHI := Lib.hid hH; have HHB := Lib.hid hHb
  clear hH hHb
  obtain ⟨nd, hnd⟩ : ∃ nd, nd = l0.length := ⟨_, rfl⟩
  have HND := Lib.hid hnd
  have HA := Lib.hid hA; have HX := Lib.hid hX; have HPI := Lib.hid hP; have HWF := Lib.hid hw
  rw [← hnd] at hl hlc ⊢
  clear hA hX hP hw hnd
  have HBX0 : Hid ((w.alloc (.cells #[.int .i64 p.K, .int .i64 p.M, .int .i64 p.B, .int .u8 p.s0, .int .u8 p.s1, .int .u8 p.s2, .int .u8 p.s3, .int .u8 p.s4, .int .u8 p.s5, .int .u8 p.s6, .int .u8 p.s7, .string p.key, .int .i64 p.ep, .int .i64 p.ct, .slice A0 nd cd, .slice Pk np cp] 64)).heap[w.heap.size]? = some (.cells #[.int .i64 p.K, .int .i64 p.M, .int .i64 p.B, .int .u8 p.s0, .int .u8 p.s1, .int .u8 p.s2, .int .u8 p.s3, .int .u8 p.s4, .int .u8 p.s5, .int .u8 p.s6, .int .u8 p.s7, .string p.key, .int .i64 p.ep, .int .i64 p.ct, .slice A0 nd cd, .slice Pk np cp] 64 (0, 0))) := Lib.hid (heap_alloc_new w _)
  have HB0 : Hid (Below w.heap.size w (w.alloc (.cells #[.int .i64 p.K, .int .i64 p.M, .int .i64 p.B, .int .u8 p.s0, .int .u8 p.s1, .int .u8 p.s2, .int .u8 p.s3, .int .u8 p.s4, .int .u8 p.s5, .int .u8 p.s6, .int .u8 p.s7, .string p.key, .int .i64 p.ep, .int .i64 p.ct, .slice A0 nd cd, .slice Pk np cp] 64))) := Lib.hid ((Below.refl _ _).alloc (Nat.le_refl _) _)
  go_enter Try.func14, Try.ntmps14
  go_wp2_with fail
  refine (awake_any _).mono ?_
  rintro e w1 ⟨rfl, hb1⟩
  have HBX1 : Hid (w1.heap[w.heap.size]? = some (.cells #[.int .i64 p.K, .int .i64 p.M, .int .i64 p.B, .int .u8 p.s0, .int .u8 p.s1, .int .u8 p.s2, .int .u8 p.s3, .int .u8 p.s4, .int .u8 p.s5, .int .u8 p.s6, .int .u8 p.s7, .string p.key, .int .i64 p.ep, .int .i64 p.ct, .slice A0 nd cd, .slice Pk np cp] 64 (0, 0))) := Lib.hid ((hb1.block _ (by simp)).trans HBX0.out)
  have HB1 : Hid (Below w.heap.size w w1) := Lib.hid (HB0.out.trans (hb1.mono HB0.out.size))
  have hz1 : w.heap.size < w1.heap.size := (Array.getElem?_eq_some_iff.1 HBX1.out).1
  clear hb1 HBX0 HB0
  obtain ⟨bx, hbx⟩ : ∃ bx, bx = w.heap.size := ⟨_, rfl⟩
  have HBXE := Lib.hid hbx
  rw [← hbx] at HBX1 hz1 ⊢
  clear hbx
  have HFT := Lib.hid (lfit_any p A0 cd l0 (.slice Pk np cp) w1 rfl (by rw [← HND.out]; exact hl) (by rw [← HND.out]; exact hlc) (HA.out.below HB1.out))
  rw [← HND.out] at HFT
  go_wp2_with (refine wpList_loadAt rfl 64 (.tmp 2) rfl ⟨bx, 0, none⟩ rfl #[.int .i64 p.K, .int .i64 p.M, .int .i64 p.B, .int .u8 p.s0, .int .u8 p.s1, .int .u8 p.s2, .int .u8 p.s3, .int .u8 p.s4, .int .u8 p.s5, .int .u8 p.s6, .int .u8 p.s7, .string p.key, .int .i64 p.ep, .int .i64 p.ct, .slice A0 nd cd, .slice Pk np cp] _ (fun j v hv => by rw [add_zero_addr, cell_of_row w1 bx j _ _ (0, 0) HBX1.out]; simpa using hv) Try.underlying64 rfl (by kernel_rfl) ?_)
  refine HFT.out.mono ?_
  rintro e w2 ⟨A1, c1, rfl, hO1, hb2⟩
  obtain ⟨Z0, hZ0⟩ : ∃ Z0, Z0 = fitH p := ⟨_, rfl⟩
  rw [← hZ0]
  obtain ⟨m1, hm1⟩ : ∃ m1, m1 = fitN p nd := ⟨_, rfl⟩
  rw [← hm1] at hO1 ⊢
  obtain ⟨l, hl1⟩ : ∃ l, l = l0.take m1 := ⟨_, rfl⟩
  rw [← hl1] at hO1
  have hml : m1 = l.length := by rw [hl1, List.length_take, ← HND.out, hm1]; have := fitN_le p nd; omega
  have HM1 := Lib.hid hm1
  have HZ0 := Lib.hid hZ0; have HL1 := Lib.hid hl1; have HML := Lib.hid hml
  have HXL : Hid (∀ x ∈ l, x < 256) := Lib.hid fun x hx => HX.out x (by rw [hl1] at hx; exact List.mem_of_mem_take hx)
  have hm1l : m1 ≤ 1048576 := by rw [hm1]; unfold fitN; omega
  have HO1 := Lib.hid hO1
  have HB2 : Hid (Below w.heap.size w w2) := Lib.hid (HB1.out.trans (hb2.mono HB1.out.size))
  have HBX2 : Hid (w2.heap[bx]? = some (.cells #[.int .i64 p.K, .int .i64 p.M, .int .i64 p.B, .int .u8 p.s0, .int .u8 p.s1, .int .u8 p.s2, .int .u8 p.s3, .int .u8 p.s4, .int .u8 p.s5, .int .u8 p.s6, .int .u8 p.s7, .string p.key, .int .i64 p.ep, .int .i64 p.ct, .slice A0 nd cd, .slice Pk np cp] 64 (0, 0))) := Lib.hid ((hb2.block bx hz1).trans HBX1.out)
  have hz2 : bx < w2.heap.size := Nat.lt_of_lt_of_le hz1 hb2.size
  clear hO1 hb2 hZ0 hl1 hm1 hml HFT HBX1 HB1
  have hcm1 : c1 ≤ maxLen := by
    obtain ⟨A', c', e', _, h4, _⟩ := HO1.out.own.rd
    injection e' with _ _ e3
    omega
  have hlc1 : l.length ≤ c1 := by
    obtain ⟨A', c', e', h4, _⟩ := HO1.out.own.rd
    injection e' with _ _ e3
    omega
  have HH3 := Lib.hid (heap_alloc_new w2 (.cells #[.int .u8 Z0.s0, .int .u8 Z0.s1, .int .u8 Z0.s2, .int .u8 Z0.s3, .int .u8 Z0.s4, .int .u8 Z0.s5, .int .u8 Z0.s6, .int .u8 Z0.s7, .int .i64 Z0.K, .int .i64 Z0.M, .int .i64 Z0.B, .string Z0.key, .int .i64 Z0.size, .int .i64 Z0.idx, .int .i64 Z0.ep, .int .i64 Z0.ct] 42))
  have HB23 := Lib.hid ((Below.refl w2.heap.size w2).alloc (Nat.le_refl _) (.cells #[.int .u8 Z0.s0, .int .u8 Z0.s1, .int .u8 Z0.s2, .int .u8 Z0.s3, .int .u8 Z0.s4, .int .u8 Z0.s5, .int .u8 Z0.s6, .int .u8 Z0.s7, .int .i64 Z0.K, .int .i64 Z0.M, .int .i64 Z0.B, .string Z0.key, .int .i64 Z0.size, .int .i64 Z0.idx, .int .i64 Z0.ep, .int .i64 Z0.ct] 42))
  go_wp2_with (first | (refine wpList_storeNewH rfl (.tmp 5) (.tmp 25) rfl #[.int .u8 Z0.s0, .int .u8 Z0.s1, .int .u8 Z0.s2, .int .u8 Z0.s3, .int .u8 Z0.s4, .int .u8 Z0.s5, .int .u8 Z0.s6, .int .u8 Z0.s7, .int .i64 Z0.K, .int .i64 Z0.M, .int .i64 Z0.B, .string Z0.key, .int .i64 Z0.size, .int .i64 Z0.idx, .int .i64 Z0.ep, .int .i64 Z0.ct] rfl rfl rfl rfl rfl ?_) | (refine wpList_loadH rfl (.tmp 5) rfl w2.heap.size rfl #[.int .u8 Z0.s0, .int .u8 Z0.s1, .int .u8 Z0.s2, .int .u8 Z0.s3, .int .u8 Z0.s4, .int .u8 Z0.s5, .int .u8 Z0.s6, .int .u8 Z0.s7, .int .i64 Z0.K, .int .i64 Z0.M, .int .i64 Z0.B, .string Z0.key, .int .i64 Z0.size, .int .i64 Z0.idx, .int .i64 Z0.ep, .int .i64 Z0.ct] rfl HH3.out ?_))
  obtain ⟨w3, hw3⟩ : ∃ w3, w3 = w2.alloc (.cells #[.int .u8 Z0.s0, .int .u8 Z0.s1, .int .u8 Z0.s2, .int .u8 Z0.s3, .int .u8 Z0.s4, .int .u8 Z0.s5, .int .u8 Z0.s6, .int .u8 Z0.s7, .int .i64 Z0.K, .int .i64 Z0.M, .int .i64 Z0.B, .string Z0.key, .int .i64 Z0.size, .int .i64 Z0.idx, .int .i64 Z0.ep, .int .i64 Z0.ct] 42) := ⟨_, rfl⟩
  rw [← hw3] at HH3 HB23 ⊢
  clear hw3
  obtain ⟨gh, hgh⟩ : ∃ gh, gh = w2.heap.size := ⟨_, rfl⟩
  rw [← hgh] at HH3 HB23 hz2 ⊢
  have HGH := Lib.hid hgh
  clear hgh
  obtain ⟨Z, hZ⟩ : ∃ Z : Hd, Z = { Z0 with size := (l.length : Int), idx := 0 } := ⟨_, rfl⟩
  have HSP := Lib.hid (split_any Z0 A1 c1 l w3 HXL.out (by rw [← HML.out]; omega) hlc1 hcm1 ((own_rl' HO1.out).below (by rw [← HGH.out]; exact HB23.out)))
  rw [← HML.out] at HSP hZ
  rw [← hZ] at HSP
  have HZ := Lib.hid hZ
  refine HSP.out.mono ?_
  rintro e w4 ⟨hb4, _, h4⟩
  obtain ⟨n, hnE⟩ : ∃ n, n = (1 + fK p) + (1 + fM p) := ⟨_, rfl⟩
  obtain ⟨f1, f2, f3, f4⟩ := fit_nums p
  have hn0 : 0 < n := by omega
  have hn2 : n ≤ 255 := by omega
  have hsN : n = shN Z := by
    rw [hZ, HZ0.out, hnE]
    show _ = (1 + (fK p : Int)).toNat + (1 + (fM p : Int)).toNat
    omega
  have HCK : Hid (∀ t : Nat, t < n → checkE { Z with idx := (t : Int) } = 0) := Lib.hid fun t ht => by
    have h1 := fit_check p nd t (by rw [← hnE]; exact ht)
    rw [← HM1.out, ← HZ0.out] at h1
    rw [HZ.out]
    exact h1
  obtain ⟨g, V, T, rfl, hgl, hO⟩ := h4 (by have h5 := HCK.out 0 hn0; rw [hZ] at h5 ⊢; exact h5)
  rw [← hsN] at hO ⊢
  obtain ⟨K1, hK1⟩ : ∃ K1 : Nat, K1 = 1 + fK p := ⟨_, rfl⟩
  obtain ⟨M1, hM1⟩ : ∃ M1 : Nat, M1 = 1 + fM p := ⟨_, rfl⟩
  have hZK : Z0.K = (K1 : Int) := by rw [HZ0.out, hK1]; show (1 + (fK p : Int)) = _; omega
  have hZM : Z0.M = (M1 : Int) := by rw [HZ0.out, hM1]; show (1 + (fM p : Int)) = _; omega
  have hKM : (K1 : Int) + (M1 : Int) = (n : Int) := by omega
  have hnKM : n = K1 + M1 := by omega
  have hKp : 0 < K1 := by omega
  have HSN := Lib.hid hsN; have HNE := Lib.hid hnE; have HNKM := Lib.hid hnKM
  have HZW : Hid (HdW Z0) := Lib.hid (by rw [HZ0.out]; exact fit_wf HWF.out)
  have HZKT : Hid (Z.K.toNat = K1) := Lib.hid (by rw [hZ]; show Z0.K.toNat = K1; rw [hZK]; rfl)
  have HB34 := Lib.hid hb4
  have HO := Lib.hid hO
  have HH4 : Hid (w4.heap[gh]? = some (.cells #[.int .u8 Z0.s0, .int .u8 Z0.s1, .int .u8 Z0.s2, .int .u8 Z0.s3, .int .u8 Z0.s4, .int .u8 Z0.s5, .int .u8 Z0.s6, .int .u8 Z0.s7, .int .i64 Z0.K, .int .i64 Z0.M, .int .i64 Z0.B, .string Z0.key, .int .i64 Z0.size, .int .i64 Z0.idx, .int .i64 Z0.ep, .int .i64 Z0.ct] 42 (0, 0))) := Lib.hid ((hb4.block gh (Array.getElem?_eq_some_iff.1 HH3.out).1).trans HH3.out)
  have hz3 : gh < w3.heap.size := (Array.getElem?_eq_some_iff.1 HH3.out).1
  have HB24 : Hid (Below gh w2 w4) := Lib.hid (HB23.out.trans (hb4.mono (by omega)))
  have hz4 : w3.heap.size ≤ w4.heap.size := hb4.size
  have HBX4 : Hid (w4.heap[bx]? = some (.cells #[.int .i64 p.K, .int .i64 p.M, .int .i64 p.B, .int .u8 p.s0, .int .u8 p.s1, .int .u8 p.s2, .int .u8 p.s3, .int .u8 p.s4, .int .u8 p.s5, .int .u8 p.s6, .int .u8 p.s7, .string p.key, .int .i64 p.ep, .int .i64 p.ct, .slice A0 nd cd, .slice Pk np cp] 64 (0, 0))) := Lib.hid ((HB24.out.block bx hz2).trans HBX2.out)
  have c8 : w4.cell? ⟨gh, 8, none⟩ = some (.int .i64 (K1 : Int)) := by rw [cell_of_row w4 gh 8 _ _ (0, 0) HH4.out, ← hZK]; rfl
  have c9 : w4.cell? ⟨gh, 9, none⟩ = some (.int .i64 (M1 : Int)) := by rw [cell_of_row w4 gh 9 _ _ (0, 0) HH4.out, ← hZM]; rfl
  have c15 : w4.cell? ⟨bx, 15, none⟩ = some (.slice Pk np cp) := by rw [cell_of_row w4 bx 15 _ _ (0, 0) HBX4.out]; rfl
  have hM1l : M1 ≤ 1000 := by omega
  have HPL := Lib.hid (places_any Pk np cp n M1 pi w4 hn0 (by omega) hM1l hnp (HPI.out.below (HB2.out.trans (HB24.out.mono (by have := HBXE.out; omega)))))
  have HZ4 : Hid (w.heap.size ≤ w4.heap.size ∧ w2.heap.size ≤ w4.heap.size) := Lib.hid (by have := HB24.out.size; have := HB2.out.size; have := HGH.out; omega)
  have HBW4 : Hid (Below w.heap.size w w4) := Lib.hid (HB2.out.trans (HB24.out.mono (by have := HBXE.out; omega)))
  have HRD4 : Hid (RL w4 A1 l) := Lib.hid ((own_rl' HO1.out).below (by have h1 := HB24.out; rw [HGH.out] at h1; exact h1))
  have HHW4 : Hid (Rd w4 Ah nh (fun i => .int .i64 (hi i))) := Lib.hid (HHI.out.below HBW4.out)
  clear h4 hb4 hO hZ hnE hsN hK1 hM1 hZK hZM hnKM HSP HB23 HH3
  go_wp2_with fail
  refine HPL.out.mono ?_
  rintro e w5 ⟨pb, P, rfl, hP5, hc5, hpb, hb5⟩
  have hmk := run_make_rowM (P := Try.prog) 45 69 (.agg #[.int .u8 0, .int .u8 0, .int .u8 0, .int .u8 0, .int .u8 0, .int .u8 0, .int .u8 0, .int .u8 0, .int .i64 0, .int .i64 0, .int .i64 0, .string ⟨#[]⟩, .int .i64 0, .int .i64 0, .int .i64 0, .int .i64 0, .slice none 0 0]) 17 104 Try.underlying45 shardInfo .i64 .i64 n (by omega) (by omega)
  have HP5 := Lib.hid hP5; have HC5 := Lib.hid hc5; have HB45 := Lib.hid hb5
  have hpb5 : pb < w5.heap.size := hP5.lt
  have hg5 : g < w5.heap.size := Nat.lt_of_lt_of_le (HO.out.top.lt g rfl).2 hb5.size
  have HBW5 : Hid (Below w.heap.size w w5) := Lib.hid (HBW4.out.trans (hb5.mono HBW4.out.size))
  have HRD5 : Hid (RL w5 A1 l) := Lib.hid (HRD4.out.below hb5)
  have HHW5 : Hid (Rd w5 Ah nh (fun i => .int .i64 (hi i))) := Lib.hid (HHW4.out.below hb5)
  have hckZ : checkE Z = 0 := by
    have h5 := HCK.out 0 hn0
    rw [HZ.out] at h5 ⊢
    exact h5
  have HSZ : Hid (Z.size = (l.length : Int)) := Lib.hid (by rw [HZ.out]; show ((m1 : Nat) : Int) = _; rw [HML.out])
  obtain ⟨Hs, hHs⟩ : ∃ Hs : Nat → Hd, Hs = fun t => { Z with idx := (t : Int) } := ⟨_, rfl⟩
  obtain ⟨Bs, hBs⟩ : ∃ Bs : Nat → List (List Nat), Bs = fun t => spL Z.K.toNat Z.B.toNat l t := ⟨_, rfl⟩
  have HO5 := HO.out.rsd.below hb5
  rw [← hHs, ← hBs] at HO5
  obtain ⟨S, C, hRC, hRR⟩ := HO5
  have HRC := Lib.hid hRC; have HRR := Lib.hid hRR
  have HHS := Lib.hid hHs; have HBS := Lib.hid hBs
  have HWS : Hid (∀ t, t < n → HdW (Hs t) ∧ checkE (Hs t) = 0 ∧ fitsB (Hs t) (Bs t) ∧ (∀ y ∈ Bs t, ∀ x ∈ y, x < 256)) := Lib.hid fun t ht => by
    rw [hHs, hBs]
    refine ⟨?_, HCK.out t ht, ?_, spl_lt _ _ _ _⟩
    · show HdW { Z with idx := (t : Int) }
      rw [HZ.out]
      exact hdw_spl HZW.out m1 t (by omega) (by omega)
    · exact spl_fits (h := { Z with idx := (t : Int) }) (HCK.out t ht) HSZ.out t
  have HF0 : Hid (FilSd (w5.alloc (.cells (madeCells (Value.agg #[.int .u8 0, .int .u8 0, .int .u8 0, .int .u8 0, .int .u8 0, .int .u8 0, .int .u8 0, .int .u8 0, .int .i64 0, .int .i64 0, .int .i64 0, .string ⟨#[]⟩, .int .i64 0, .int .i64 0, .int .i64 0, .int .i64 0, .slice none 0 0]).cells (n * 17)) 69)) w5.heap.size n 0 (erH P Hs) (fun _ => .slice none 0 0) (erB P Bs)) := Lib.hid ⟨(made_shards w5 w5.heap.size n (Nat.le_refl _) (Nat.le_trans hn2 (by decide))).congr fun t _ => by simp, fun t ht => absurd ht (Nat.not_lt_zero _)⟩
  have HB56 : Hid (Below w5.heap.size w5 (w5.alloc (.cells (madeCells (Value.agg #[.int .u8 0, .int .u8 0, .int .u8 0, .int .u8 0, .int .u8 0, .int .u8 0, .int .u8 0, .int .u8 0, .int .i64 0, .int .i64 0, .int .i64 0, .string ⟨#[]⟩, .int .i64 0, .int .i64 0, .int .i64 0, .int .i64 0, .slice none 0 0]).cells (n * 17)) 69))) := Lib.hid ((Below.refl _ _).alloc (Nat.le_refl _) _)
  obtain ⟨gr, hgr⟩ : ∃ gr, gr = w5.heap.size := ⟨_, rfl⟩
  clear hP5 hc5 hb5 HPL c8 c9 c15 hHs hBs HO hRC hRR
  go_wp2
  rw [← hgr] at HF0 HB56 ⊢
  have HGR := Lib.hid hgr
  clear hgr
  go_loopg [11] n (fun gk i wr => ∃ (k : Nat) (V : Nat → Value), k ≤ n ∧ gk = n - k ∧ i = .int .i64 k ∧ FilSd wr gr n k (erH P Hs) V (erB P Bs) ∧ Below gr w5 wr)
  case atStart => exact ⟨0, _, Nat.zero_le _, rfl, rfl, HF0.out, HB56.out⟩
  case round =>
    clear HF0 HB56
    obtain ⟨k, V, hk, rfl, rfl, hF, hbr⟩ := hrel
    have HF := Lib.hid hF
    have HBR := Lib.hid hbr
    have hgr5 : gr = w5.heap.size := HGR.out
    have hzr : gr < wr.heap.size := (hF.top.lt gr rfl).2
    clear hF hbr
    by_cases hlt : k < n
    · have HB5R : Hid (Below w5.heap.size w5 wr) := Lib.hid (by rw [← hgr5]; exact HBR.out)
      clear hgr5
      obtain ⟨Hk, hHk⟩ : ∃ Hk, Hk = Hs k := ⟨_, rfl⟩
      obtain ⟨Bk, hBk⟩ : ∃ Bk, Bk = Bs k := ⟨_, rfl⟩
      obtain ⟨Sk, hSk⟩ : ∃ Sk, Sk = S k := ⟨_, rfl⟩
      obtain ⟨Ck, hCk⟩ : ∃ Ck, Ck = C k := ⟨_, rfl⟩
      obtain ⟨nB, hnB⟩ : ∃ nB, nB = Bk.length := ⟨_, rfl⟩
      obtain ⟨hWk, hEk, hfk, hxk⟩ := HWS.out k hlt
      rw [← hHk] at hWk hEk hfk
      rw [← hBk] at hfk hxk
      have hBB := hdw_bytes hWk
      obtain ⟨hl1, hl2⟩ := fits_len hEk hfk
      have hcl : ∀ j v, (#[.int .u8 Hk.s0, .int .u8 Hk.s1, .int .u8 Hk.s2, .int .u8 Hk.s3, .int .u8 Hk.s4, .int .u8 Hk.s5, .int .u8 Hk.s6, .int .u8 Hk.s7, .int .i64 Hk.K, .int .i64 Hk.M, .int .i64 Hk.B, .string Hk.key, .int .i64 Hk.size, .int .i64 Hk.idx, .int .i64 Hk.ep, .int .i64 Hk.ct, .slice Sk nB Ck] : Array Value).toList[j]? = some v → wr.cell? (Addr.add ⟨g, k * 17, none⟩ j) = some v := fun j v hv => by
        obtain ⟨b', o', e', hb', hc'⟩ := (HRC.out.keep HB5R.out) k hlt
        injection e' with e'
        injection e' with e1 e2
        subst e1 e2
        have h1 := hc' j v (by show (sdC (Hs k) (.slice (S k) (Bs k).length (C k)))[j]? = some v; rw [← hHk, ← hBk, ← hSk, ← hCk, ← hnB]; exact hv)
        rw [Nat.zero_add] at h1
        rw [add_addr]
        exact h1
      have hRL := (HRR.out k hlt).1.below HB5R.out
      rw [← hSk, ← hBk] at hRL
      have HEC := Lib.hid (enc_ok Hk Sk Ck Bk wr hBB hxk (by omega) (fun y hy => Nat.le_trans (hl2 y hy) (by decide)) hRL hEk)
      rw [← hnB] at HEC
      obtain ⟨hpe0, hph0, hpb0⟩ := prs_whole hBB hEk hfk hxk
      have HWH := Lib.hid (prs_whole hBB hEk hfk hxk)
      have HKS : Hid (Hk = Hs k ∧ Bk = Bs k ∧ HdW Hk ∧ checkE Hk = 0 ∧ fitsB Hk Bk ∧ (∀ y ∈ Bk, ∀ x ∈ y, x < 256)) := Lib.hid ⟨hHk, hBk, hWk, hEk, hfk, hxk⟩
      clear hHk hBk hSk hCk hnB hWk hEk hfk hxk hBB hl1 hl2 hRL hpe0 hph0 hpb0
      go_wp2_with (refine wpList_loadAt rfl 69 (.tmp 67) rfl ⟨g, k * 17, none⟩ rfl #[.int .u8 Hk.s0, .int .u8 Hk.s1, .int .u8 Hk.s2, .int .u8 Hk.s3, .int .u8 Hk.s4, .int .u8 Hk.s5, .int .u8 Hk.s6, .int .u8 Hk.s7, .int .i64 Hk.K, .int .i64 Hk.M, .int .i64 Hk.B, .string Hk.key, .int .i64 Hk.size, .int .i64 Hk.idx, .int .i64 Hk.ep, .int .i64 Hk.ct, .slice Sk nB Ck] _ hcl Try.underlying69 rfl (by kernel_rfl) ?_)
      refine HEC.out.mono ?_
      rintro e w7 ⟨ov, er, lb, rfl, hP3, hO7, hb7⟩
      obtain ⟨rfl, hlb⟩ : er = 0 ∧ lb = formL Hk Bk := by
        rcases hP3 with ⟨a, _⟩ | ⟨_, a, _⟩ | ⟨_, _, a, b⟩
        · exact absurd HKS.out.2.2.2.1 a
        · exact absurd HKS.out.2.2.2.2.1 a
        · exact ⟨a, b⟩
      have hl40 : 40 ≤ lb.length := by have := form_pos HKS.out.2.2.2.1 HKS.out.2.2.2.2.1; rw [hlb]; omega
      have hlle : lb.length ≤ 300000000 := by rw [hlb]; exact form_le HKS.out.2.2.2.1 HKS.out.2.2.2.2.1
      have hlx : ∀ x ∈ lb, x < 256 := by rw [hlb]; exact formL_lt (hdw_bytes HKS.out.2.2.1) HKS.out.2.2.2.2.2
      obtain ⟨q7, c7, rfl, hq7, hlc7, hcm7⟩ : ∃ q7 c7, ov = .slice (some ⟨q7, 0, none⟩) lb.length c7 ∧ wr.heap.size ≤ q7 ∧ lb.length ≤ c7 ∧ c7 ≤ maxLen := by
        rcases hO7.2 with ⟨_, e0⟩ | ⟨q7, c7, cur, e0, e1, _, e2, e3, _⟩
        · omega
        · exact ⟨q7, c7, e0, e1, e2, e3⟩
      obtain ⟨nb, hnb⟩ : ∃ nb, nb = lb.length := ⟨_, rfl⟩
      rw [← hnb] at hO7 hl40 hlle hlc7 ⊢
      have hbz : wr.heap.size ≤ w7.heap.size := hb7.size
      have HO7 := Lib.hid hO7; have HB7 := Lib.hid hb7; have HLB := Lib.hid hlb; have HNB := Lib.hid hnb; have HLX := Lib.hid hlx
      have h40 : ¬ ((nb : Int) < 40) := by omega
      clear hP3 hO7 hb7 hlb hnb hlx HEC hcl
      go_upto_if 81 with fail
      go_cut [14] from 58 to 142 (fun kk wc => ∃ kv : Int, kk = .int .i64 kv ∧ (-9223372036854775808 ≤ kv ∧ kv ≤ 9223372036854775807) ∧ wc = w7)
      case first =>
        by_cases hn0' : nh = 0
        · subst hn0'
          go_wp2
          go_meet
          exact ⟨0, rfl, by omega, rfl⟩
        · have hnh : (0 : Int) < (nh : Int) := by omega
          have hnz : ¬ ((nh : Int) = 0) := by omega
          obtain ⟨qi, hqi⟩ : ∃ qi, qi = k % nh := ⟨_, rfl⟩
          have hql : qi < nh := by rw [hqi]; exact Nat.mod_lt _ (by omega)
          have htm : (k : Int).tmod (nh : Int) = (qi : Int) := by rw [hqi]; exact Int.ofNat_tmod k nh
          have hqb : (qi : Int) < (nh : Int) := by omega
          have hwr : IntKind.i64.wrap (qi : Int) = (qi : Int) := by rw [IntKind.wrap_i64]; omega
          obtain ⟨bh, oh, rfl, hbh, hch⟩ := (((HHW5.out.below HB5R.out).below HB7.out) qi hql)
          clear hqi
          go_wp2
          go_meet
          exact ⟨hi qi, rfl, HHB.out qi hql, rfl⟩
      case rest =>
        obtain ⟨kv, rfl, hkv, he⟩ := hcut
        replace he := he.symm
        subst he

        have hn20 : 0 < nb := by omega
        obtain ⟨bk, hbk⟩ : ∃ bk, bk = P k := ⟨_, rfl⟩
        have hpk : w7.cell? ⟨pb, k, none⟩ = some (.bool bk) := by rw [hbk]; exact ((below_row HP5.out (HB5R.out.trans (HB7.out.mono HB5R.out.size)) hpb5).cell hlt)
        have hpb7 : pb < w7.heap.size := by have := HB5R.out.size; omega
        have HBK := Lib.hid hbk
        have HC2 := Lib.hid (pick_any kv 2 w7 (by decide) (by decide))
        clear hbk
        go_upto_region 18 with fail
        go_cut [97] from 58 to 142 (fun c wc => c = .bool (bk && decide (pickN kv 2 = 0)) ∧ wc = w7)
        case first =>
          cases bk
          · go_wp2
            go_meet
            exact ⟨rfl, rfl⟩
          · obtain ⟨p2, hp2⟩ : ∃ p2, p2 = pickN kv 2 := ⟨_, rfl⟩
            rw [← hp2] at HC2
            have HP2 := Lib.hid hp2
            clear hp2
            go_wp2_with fail
            refine HC2.out.mono ?_
            rintro e w8 ⟨rfl, he⟩
            replace he := he.symm
            subst he
            by_cases h2 : p2 = 0
            · subst h2
              go_wp2
              go_meet
              exact ⟨by rw [← HP2.out]; rfl, rfl⟩
            · have hz2 : ((p2 : Int) == 0) = false := by rw [beq_eq_false_iff_ne]; omega
              have hz3 : ¬ ((p2 : Int) = 0) := by omega
              go_wp2
              go_meet
              exact ⟨by rw [← HP2.out, decide_eq_false h2]; rfl, rfl⟩
        case rest =>
          obtain ⟨rfl, he⟩ := hcut
          replace he := he.symm
          subst he
          go_upto_if 97 with fail
          go_cut [12, 15] from 58 to 142 (fun bv u wc => ∃ (Ab : Option Addr) (n2 cb : Nat) (lb2 : List Nat), bv = .slice Ab n2 cb ∧ n2 = lb2.length ∧ n2 ≤ cb ∧ cb ≤ maxLen ∧ n2 ≤ 300000000 ∧ (∀ x ∈ lb2, x < 256) ∧ RL wc Ab lb2 ∧ (bk = true → ¬ prsE lb2 = 0) ∧ (bk = false → lb2 = lb) ∧ Below wr.heap.size wr wc)
          case first =>
            cases bk
            · rw [Bool.false_and]
              go_wp2
              go_meet
              refine ⟨_, _, _, lb, rfl, HNB.out, hlc7, hcm7, hlle, HLX.out, own_rl' HO7.out, fun e => (by cases e), fun _ => rfl, HB7.out⟩
            · by_cases h2 : pickN kv 2 = 0
              · rw [Bool.true_and, decide_eq_true h2]
                obtain ⟨k2, hk2⟩ : ∃ k2, k2 = kv.tdiv 2 := ⟨_, rfl⟩
                have hkq : kv.tdiv 2 = k2 := hk2.symm
                have hkb : -9223372036854775808 ≤ k2 ∧ k2 ≤ 9223372036854775807 := by rw [hk2]; exact tdiv_bnd hkv (by decide)
                have hkw : IntKind.i64.wrap k2 = k2 := by rw [IntKind.wrap_i64]; omega
                obtain ⟨ca, hca⟩ : ∃ ca, ca = pickN k2 nb := ⟨_, rfl⟩
                have hcl : ca < nb := by rw [hca]; exact pickN_lt hn20
                have HC3 := Lib.hid (pick_any k2 nb w7 hn20 (by omega))
                rw [← hca] at HC3
                have hs0 : (0 : Int) ≤ (ca : Int) := by omega
                have hs1 : (ca : Int) ≤ (c7 : Int) := by omega
                clear hk2 hca
                go_wp2_with fail
                refine HC3.out.mono ?_
                rintro e w8 ⟨rfl, he⟩
                replace he := he.symm
                subst he
                go_wp2
                go_meet
                have hcx : ca < (formL Hk Bk).length := by rw [← HLB.out, ← HNB.out]; exact hcl
                refine ⟨_, ca, _, lb.take ca, rfl, by rw [List.length_take, ← HNB.out]; omega, by omega, hcm7, by omega, fun x hx => HLX.out x (List.mem_of_mem_take hx), fun i hi => ?_, fun _ => ?_, fun e => (by cases e), HB7.out⟩
                · rw [List.length_take] at hi
                  obtain ⟨b0, o0, e0, h1, h2⟩ := own_rl' HO7.out i (by omega)
                  refine ⟨b0, o0, e0, h1, ?_⟩
                  rw [h2]
                  show some (Value.int .u8 _) = some (Value.int .u8 _)
                  rw [List.getD_eq_getElem?_getD, List.getD_eq_getElem?_getD, List.getElem?_take_of_lt (by omega)]
                · rw [HLB.out, prs_cut (hdw_bytes HKS.out.2.2.1) HKS.out.2.2.2.1 HKS.out.2.2.2.2.1 hcx]
                  decide
              · rw [Bool.true_and, decide_eq_false h2]
                obtain ⟨k2, hk2⟩ : ∃ k2, k2 = kv.tdiv 2 := ⟨_, rfl⟩
                have hkq : kv.tdiv 2 = k2 := hk2.symm
                have hkb : -9223372036854775808 ≤ k2 ∧ k2 ≤ 9223372036854775807 := by rw [hk2]; exact tdiv_bnd hkv (by decide)
                have hkw : IntKind.i64.wrap k2 = k2 := by rw [IntKind.wrap_i64]; omega
                obtain ⟨k7, hk7⟩ : ∃ k7, k7 = kv.tdiv 7 := ⟨_, rfl⟩
                have hk7q : kv.tdiv 7 = k7 := hk7.symm
                have hk7b : -9223372036854775808 ≤ k7 ∧ k7 ≤ 9223372036854775807 := by rw [hk7]; exact tdiv_bnd hkv (by decide)
                have hk7w : IntKind.i64.wrap k7 = k7 := by rw [IntKind.wrap_i64]; omega
                obtain ⟨ca, hca⟩ : ∃ ca, ca = pickN k2 nb := ⟨_, rfl⟩
                have hcl : ca < nb := by rw [hca]; exact pickN_lt hn20
                have HC3 := Lib.hid (pick_any k2 nb w7 hn20 (by omega))
                rw [← hca] at HC3
                obtain ⟨x1, hx1⟩ : ∃ x1, x1 = pickN k7 255 := ⟨_, rfl⟩
                have hx1l : x1 < 255 := by rw [hx1]; exact pickN_lt (by decide)
                have HC7 : Hid (∀ w', Calls Try.prog 35 #[.int .i64 k7, .int .i64 255] w' fun e w'' => e = .returned (.int .i64 (x1 : Nat)) ∧ w' = w'') := Lib.hid fun w' => by
                  have h1 := pick_any k7 255 w' (by decide) (by decide)
                  rw [← hx1] at h1
                  exact h1
                obtain ⟨x2, hx2⟩ : ∃ x2, x2 = 1 + x1 := ⟨_, rfl⟩
                have hadd : (1 : Int) + (x1 : Int) = (x2 : Int) := by omega
                have hx2w : IntKind.i64.wrap (x2 : Int) = (x2 : Int) := by rw [IntKind.wrap_i64]; omega
                have hx2u : IntKind.u8.wrap (x2 : Int) = (x2 : Int) := by rw [IntKind.wrap_u8]; omega
                have hx2l : 0 < x2 ∧ x2 < 256 := by omega
                obtain ⟨x0, hx0⟩ : ∃ x0, x0 = lb.getD ca 0 := ⟨_, rfl⟩
                have hx0l : x0 < 256 := by rw [hx0]; exact getD_any HLX.out ca
                obtain ⟨y, hy⟩ : ∃ y, y = x0 ^^^ x2 := ⟨_, rfl⟩
                have hxor : bits .xor .u8 (x0 : Int) (x2 : Int) = (y : Int) := by rw [hy]; exact u8_xor_nat x0 x2 hx0l hx2l.2
                have hcn : (ca : Int) < (nb : Int) := by omega
                have HC0 : Hid (∀ w', Below w7.heap.size w7 w' → w'.cell? ⟨q7, ca, none⟩ = some (.int .u8 (x0 : Int))) := Lib.hid fun w' hb => by
                  have h1 := HO7.out
                  rw [HNB.out] at h1
                  rw [hb.cell (p := ⟨q7, ca, none⟩) (h1.lt q7 rfl).2, hx0]
                  exact h1.own.cell1 (i := ca) (by rw [← HNB.out]; exact hcl)
                have HEQ := Lib.hid (And.intro hx0 hy)
                clear hk2 hca hk7 hx1 hx0 hy hx2
                go_wp2_with fail
                refine HC3.out.mono ?_
                rintro e w8 ⟨rfl, he⟩
                replace he := he.symm
                subst he
                go_wp2_with fail
                refine wp_region_factsT 13 [.is (.slice (some ⟨q7, 0, none⟩) nb c7), .is (.int .i64 (ca : Int)), .is (.slice (some ⟨q7, 0, none⟩) nb c7), .is (.int .i64 (ca : Int)), .is (.pointer (some ⟨q7, ca, none⟩)), .is (.int .u8 (x0 : Int)), .is (.int .i64 kv), .is (.int .i64 k7), .is (.int .i64 (x1 : Int)), .is (.int .i64 (x2 : Int)), .is (.int .u8 (x2 : Int)), .is (.int .u8 (y : Int)), .is (.pointer (some ⟨q7, ca, none⟩))] mixed (by kernel_rfl) (fun hdr => ⟨?_, ?_, ?_, ?_, ?_, ?_, ?_, ?_, ?_, ?_, ?_, ?_, ?_, trivial⟩) (fun wE hbE => ?_)
                · intro a1 w2 hb hs K hK
                  repeat (intro _)
                  refine ⟨?_⟩
                  have h12 : a1.tmps[12]?.getD undef = .slice (some ⟨q7, 0, none⟩) nb c7 := hs 12 (by kernel_rfl)
                  rw [if_pos (by rfl)]
                  go_simp
                  exact hK.out _ _ (Below.refl _ _) rfl
                · intro a1 w2 hb hs K hK
                  repeat (intro _)
                  refine ⟨?_⟩
                  have h15 : a1.tmps[15]?.getD undef = .int .i64 (ca : Int) := hs 15 (by kernel_rfl)
                  rw [if_pos (by rfl)]
                  go_simp
                  exact hK.out _ _ (Below.refl _ _) rfl
                · intro a1 w2 hb hs K hK
                  repeat (intro _)
                  refine ⟨?_⟩
                  have h12 : a1.tmps[12]?.getD undef = .slice (some ⟨q7, 0, none⟩) nb c7 := hs 12 (by kernel_rfl)
                  rw [if_pos (by rfl)]
                  go_simp
                  exact hK.out _ _ (Below.refl _ _) rfl
                · intro a1 w2 hb hs K hK
                  repeat (intro _)
                  refine ⟨?_⟩
                  have h15 : a1.tmps[15]?.getD undef = .int .i64 (ca : Int) := hs 15 (by kernel_rfl)
                  rw [if_pos (by rfl)]
                  go_simp
                  exact hK.out _ _ (Below.refl _ _) rfl
                · intro a1 w2 hb hs K hK
                  repeat (intro _)
                  refine ⟨?_⟩
                  have h116 : a1.tmps[116]?.getD undef = .slice (some ⟨q7, 0, none⟩) nb c7 := by assumption
                  have h117 : a1.tmps[117]?.getD undef = .int .i64 (ca : Int) := by assumption
                  rw [if_pos (by rfl)]
                  go_simp
                  exact hK.out _ _ (Below.refl _ _) rfl
                · intro a1 w2 hb hs K hK
                  repeat (intro _)
                  refine ⟨?_⟩
                  have h118 : a1.tmps[118]?.getD undef = .pointer (some ⟨q7, ca, none⟩) := by assumption
                  rw [if_pos (by rfl)]
                  have hcc := HC0.out w2 (hdr.out.trans (hb.mono hdr.out.size))
                  go_simp
                  exact hK.out _ _ (Below.refl _ _) rfl
                · intro a1 w2 hb hs K hK
                  repeat (intro _)
                  refine ⟨?_⟩
                  have h14 : a1.tmps[14]?.getD undef = .int .i64 kv := hs 14 (by kernel_rfl)
                  rw [if_pos (by rfl)]
                  go_simp
                  exact hK.out _ _ (Below.refl _ _) rfl
                · intro a1 w2 hb hs K hK
                  repeat (intro _)
                  refine ⟨?_⟩
                  have h120 : a1.tmps[120]?.getD undef = .int .i64 kv := by assumption
                  rw [if_pos (by rfl)]
                  go_simp
                  exact hK.out _ _ (Below.refl _ _) rfl
                · intro a1 w2 hb hs K hK
                  repeat (intro _)
                  refine ⟨?_⟩
                  have h121 : a1.tmps[121]?.getD undef = .int .i64 k7 := by assumption
                  rw [if_pos (by rfl)]
                  go_simp
                  refine (HC7.out w2).mono ?_
                  rintro e w3 ⟨rfl, rfl⟩
                  exact hK.out _ _ (Below.refl _ _) rfl
                · intro a1 w2 hb hs K hK
                  repeat (intro _)
                  refine ⟨?_⟩
                  have h122 : a1.tmps[122]?.getD undef = .int .i64 (x1 : Int) := by assumption
                  rw [if_pos (by rfl)]
                  go_simp
                  exact hK.out _ _ (Below.refl _ _) rfl
                · intro a1 w2 hb hs K hK
                  repeat (intro _)
                  refine ⟨?_⟩
                  have h123 : a1.tmps[123]?.getD undef = .int .i64 (x2 : Int) := by assumption
                  rw [if_pos (by rfl)]
                  go_simp
                  exact hK.out _ _ (Below.refl _ _) rfl
                · intro a1 w2 hb hs K hK
                  repeat (intro _)
                  refine ⟨?_⟩
                  have h119 : a1.tmps[119]?.getD undef = .int .u8 (x0 : Int) := by assumption
                  have h124 : a1.tmps[124]?.getD undef = .int .u8 (x2 : Int) := by assumption
                  rw [if_pos (by rfl)]
                  go_simp
                  exact hK.out _ _ (Below.refl _ _) rfl
                · intro a1 w2 hb hs K hK
                  repeat (intro _)
                  refine ⟨?_⟩
                  have h114 : a1.tmps[114]?.getD undef = .slice (some ⟨q7, 0, none⟩) nb c7 := by assumption
                  have h115 : a1.tmps[115]?.getD undef = .int .i64 (ca : Int) := by assumption
                  rw [if_pos (by rfl)]
                  go_simp
                  exact hK.out _ _ (Below.refl _ _) rfl
                intro v0 f0 v1 f1 v2 f2 v3 f3 v4 f4 v5 f5 v6 f6 v7 f7 v8 f8 v9 f9 v10 f10 v11 f11 v12 f12
                refine finG_end rfl (kq_normal ?_)
                simp only [List.drop_succ_cons, List.drop_zero]
                simp only [Act.put, List.setIfInBounds_toArray, List.set_cons_zero, List.set_cons_succ]
                obtain rfl : v12 = .pointer (some ⟨q7, ca, none⟩) := f12
                obtain rfl : v11 = .int .u8 (y : Int) := f11
                clear f0 f1 f2 f3 f4 f5 f6 f7 f8 f9 f10
                have HOE := Lib.hid (HO7.out.kept hbE)
                have HBE := Lib.hid (HB7.out.trans (hbE.mono hbz))
                have hcE := HC0.out wE hbE
                have hfE : wE.frozen? ⟨q7, ca, none⟩ = false := by
                  have h1 := HOE.out
                  rw [HNB.out] at h1
                  exact own_free h1.own ca
                have HON := Lib.hid (HOE.out.setx HNB.out hcl y)
                have HBN := Lib.hid (HBE.out.setCell (p := ⟨q7, ca, none⟩) hq7 (.int .u8 (y : Int)))
                clear hbE
                go_wp2
                refine NoPanic.normal ?_
                go_wp2
                go_meet
                have hcx : ca < (formL Hk Bk).length := by rw [← HLB.out, ← HNB.out]; exact hcl
                refine ⟨_, nb, _, lb.set ca y, rfl, by rw [List.length_set]; exact HNB.out, hlc7, hcm7, hlle, fun x hx => ?_, own_rl' HON.out, fun _ => ?_, fun e => (by cases e), HBN.out⟩
                · rcases List.mem_or_eq_of_mem_set hx with h1 | h1
                  · exact HLX.out x h1
                  · rw [h1, HEQ.out.2]; exact Nat.xor_lt_two_pow (n := 8) hx0l hx2l.2
                · rw [HEQ.out.2, HEQ.out.1, HLB.out]
                  exact turned_refused (hdw_bytes HKS.out.2.2.1) HKS.out.2.2.2.1 HKS.out.2.2.2.2.1 HKS.out.2.2.2.2.2 hcx hx2l.1 hx2l.2
          case rest =>
            obtain ⟨Ab, n2, cb, lb2, rfl, hn2e, hcb, hcbm, hn2l, hx2, hrl2, hbad, hgood, hb8⟩ := hcut
            generalize wc = w8 at hrl2 hb8 ⊢
            have HPR := Lib.hid (prs_any opn_all Ab cb lb2 w8 hx2 (by rw [← hn2e]; omega) (by rw [← hn2e]; exact hcb) hcbm hrl2)
            rw [← hn2e] at HPR
            have HB8 := Lib.hid hb8
            have hz8 : wr.heap.size ≤ w8.heap.size := hb8.size
            have hpk8 : w8.cell? ⟨pb, k, none⟩ = some (.bool bk) := by rw [HBK.out]; exact ((below_row HP5.out (HB5R.out.trans (hb8.mono HB5R.out.size)) hpb5).cell hlt)
            obtain ⟨Hq, hHq⟩ : ∃ Hq, Hq = prsH lb2 := ⟨_, rfl⟩
            obtain ⟨Bq, hBq⟩ : ∃ Bq, Bq = prsB lb2 := ⟨_, rfl⟩
            obtain ⟨eq, heq⟩ : ∃ eq, eq = prsE lb2 := ⟨_, rfl⟩
            have HQ : Hid (Hq = erH P Hs k ∧ Bq = erB P Bs k ∧ (eq == 0) = !bk) := Lib.hid (by
              cases bk
              · obtain rfl := hgood rfl
                obtain ⟨a1, a2, a3⟩ := HWH.out
                rw [hHq, hBq, heq, HLB.out, a1, a2, a3, HKS.out.1, HKS.out.2.1]
                unfold erH erB
                rw [← HBK.out]
                exact ⟨rfl, rfl, rfl⟩
              · have h1 := hbad rfl
                obtain ⟨a2, a3⟩ := prs_refused h1
                rw [hHq, hBq, heq, a2, a3]
                unfold erH erB
                rw [← HBK.out]
                exact ⟨rfl, rfl, by rw [beq_eq_false_iff_ne.2 h1]; rfl⟩)
            have hq0 := HQ.out.2.2
            clear hrl2 hb8 hpk hx2 hbad hgood hn2e HO7 HB7 HLB HNB HLX HC2 HWH
            go_wp2_with fail
            refine HPR.out.mono ?_
            rintro e w9 ⟨vq, rfl, hOq, hb9⟩
            rw [← hHq, ← heq]
            rw [← hBq] at hOq
            obtain ⟨Sq, cq, ev, _, _⟩ := hOq.rd
            obtain ⟨nq, hnq⟩ : ∃ nq, nq = Bq.length := ⟨_, rfl⟩
            rw [← hnq] at ev
            subst ev
            have HZ9 := Lib.hid (heap_alloc_new w9 (.cells #[.int .u8 Hq.s0, .int .u8 Hq.s1, .int .u8 Hq.s2, .int .u8 Hq.s3, .int .u8 Hq.s4, .int .u8 Hq.s5, .int .u8 Hq.s6, .int .u8 Hq.s7, .int .i64 Hq.K, .int .i64 Hq.M, .int .i64 Hq.B, .string Hq.key, .int .i64 Hq.size, .int .i64 Hq.idx, .int .i64 Hq.ep, .int .i64 Hq.ct, .slice Sq nq cq] 69))
            have HB9 : Hid (Below wr.heap.size wr (w9.alloc (.cells #[.int .u8 Hq.s0, .int .u8 Hq.s1, .int .u8 Hq.s2, .int .u8 Hq.s3, .int .u8 Hq.s4, .int .u8 Hq.s5, .int .u8 Hq.s6, .int .u8 Hq.s7, .int .i64 Hq.K, .int .i64 Hq.M, .int .i64 Hq.B, .string Hq.key, .int .i64 Hq.size, .int .i64 Hq.idx, .int .i64 Hq.ep, .int .i64 Hq.ct, .slice Sq nq cq] 69))) := Lib.hid ((HB8.out.trans (hb9.mono hz8)).alloc (Nat.le_trans hz8 hb9.size) _)
            have HOQ : Hid (OwnLL (w9.alloc (.cells #[.int .u8 Hq.s0, .int .u8 Hq.s1, .int .u8 Hq.s2, .int .u8 Hq.s3, .int .u8 Hq.s4, .int .u8 Hq.s5, .int .u8 Hq.s6, .int .u8 Hq.s7, .int .i64 Hq.K, .int .i64 Hq.M, .int .i64 Hq.B, .string Hq.key, .int .i64 Hq.size, .int .i64 Hq.idx, .int .i64 Hq.ep, .int .i64 Hq.ct, .slice Sq nq cq] 69)) (gr + 1) (.slice Sq nq cq) Bq) := Lib.hid ((hOq.mono (by omega)).kept ((Below.refl _ _).alloc (Nat.le_refl _) _))
            have hpk9 : (w9.alloc (.cells #[.int .u8 Hq.s0, .int .u8 Hq.s1, .int .u8 Hq.s2, .int .u8 Hq.s3, .int .u8 Hq.s4, .int .u8 Hq.s5, .int .u8 Hq.s6, .int .u8 Hq.s7, .int .i64 Hq.K, .int .i64 Hq.M, .int .i64 Hq.B, .string Hq.key, .int .i64 Hq.size, .int .i64 Hq.idx, .int .i64 Hq.ep, .int .i64 Hq.ct, .slice Sq nq cq] 69)).cell? ⟨pb, k, none⟩ = some (.bool bk) := by
              rw [HBK.out]; exact ((below_row HP5.out (HB5R.out.trans (HB9.out.mono HB5R.out.size)) hpb5).cell hlt)
            have HF9 := Lib.hid (HF.out.kept HB9.out)
            obtain ⟨cur, hcur, hcz, _, _⟩ := HF9.out.top.cur
            have HCUR := Lib.hid hcur
            have hkc : k * 17 + 17 ≤ n * 17 := by omega
            have hz9 : wr.heap.size ≤ (w9.alloc (.cells #[.int .u8 Hq.s0, .int .u8 Hq.s1, .int .u8 Hq.s2, .int .u8 Hq.s3, .int .u8 Hq.s4, .int .u8 Hq.s5, .int .u8 Hq.s6, .int .u8 Hq.s7, .int .i64 Hq.K, .int .i64 Hq.M, .int .i64 Hq.B, .string Hq.key, .int .i64 Hq.size, .int .i64 Hq.idx, .int .i64 Hq.ep, .int .i64 Hq.ct, .slice Sq nq cq] 69)).heap.size := HB9.out.size
            clear hcur hOq hb9 hpk8 hHq hBq heq hnq HPR
            have hwz : w9.heap.size = w9.heap.size := rfl
            obtain ⟨w10, hw10⟩ : ∃ w10, w10 = w9.alloc (.cells #[.int .u8 Hq.s0, .int .u8 Hq.s1, .int .u8 Hq.s2, .int .u8 Hq.s3, .int .u8 Hq.s4, .int .u8 Hq.s5, .int .u8 Hq.s6, .int .u8 Hq.s7, .int .i64 Hq.K, .int .i64 Hq.M, .int .i64 Hq.B, .string Hq.key, .int .i64 Hq.size, .int .i64 Hq.idx, .int .i64 Hq.ep, .int .i64 Hq.ct, .slice Sq nq cq] 69) := ⟨_, rfl⟩
            cases bk
            · have hqt : (eq == 0) = true := by rw [hq0]; rfl
              go_wp2_with (first | (refine wpList_storeNewS rfl (.tmp 16) (.tmp 130) rfl #[.int .u8 Hq.s0, .int .u8 Hq.s1, .int .u8 Hq.s2, .int .u8 Hq.s3, .int .u8 Hq.s4, .int .u8 Hq.s5, .int .u8 Hq.s6, .int .u8 Hq.s7, .int .i64 Hq.K, .int .i64 Hq.M, .int .i64 Hq.B, .string Hq.key, .int .i64 Hq.size, .int .i64 Hq.idx, .int .i64 Hq.ep, .int .i64 Hq.ct, .slice Sq nq cq] rfl rfl rfl rfl rfl ?_) | (refine wpList_loadS rfl (.tmp 16) rfl w9.heap.size rfl #[.int .u8 Hq.s0, .int .u8 Hq.s1, .int .u8 Hq.s2, .int .u8 Hq.s3, .int .u8 Hq.s4, .int .u8 Hq.s5, .int .u8 Hq.s6, .int .u8 Hq.s7, .int .i64 Hq.K, .int .i64 Hq.M, .int .i64 Hq.B, .string Hq.key, .int .i64 Hq.size, .int .i64 Hq.idx, .int .i64 Hq.ep, .int .i64 Hq.ct, .slice Sq nq cq] rfl HZ9.out ?_) | (refine wpList_storePart rfl 69 (.tmp 142) (.tmp 141) rfl gr (k * 17) #[.int .u8 Hq.s0, .int .u8 Hq.s1, .int .u8 Hq.s2, .int .u8 Hq.s3, .int .u8 Hq.s4, .int .u8 Hq.s5, .int .u8 Hq.s6, .int .u8 Hq.s7, .int .i64 Hq.K, .int .i64 Hq.M, .int .i64 Hq.B, .string Hq.key, .int .i64 Hq.size, .int .i64 Hq.idx, .int .i64 Hq.ep, .int .i64 Hq.ct, .slice Sq nq cq] rfl rfl (by kernel_rfl) 69 cur (by rw [hcz]; exact hkc) HCUR.out rfl ?_))
              intro w11 hw11 hg11 _
              have HFN := Lib.hid (HF9.out.step hlt (by rw [← HQ.out.2.1]; exact HOQ.out) HCUR.out (by rw [← HQ.out.1, List.append_assoc]; exact hw11) hg11)
              have hA := HBR.out.trans (HB9.out.mono (Nat.le_of_lt hzr))
              have hzg := Nat.le_trans (Nat.le_of_lt hzr) hz9
              have HBN := Lib.hid (Below.trans_row hA hg11 (Nat.le_refl _) hzg)
              clear hA hzg
              clear hw11 hg11 hpk9
              go_wp2
              go_roundg (n - (k + 1))
              case measure => exact Nat.sub_succ_lt_self _ _ hlt
              case rel => exact ⟨k + 1, _, Nat.succ_le_of_lt hlt, rfl, by go_num, HFN.out, HBN.out⟩
            · have hqt : (eq == 0) = false := by rw [hq0]; rfl
              go_wp2_with (first | (refine wpList_storeNewS rfl (.tmp 16) (.tmp 130) rfl #[.int .u8 Hq.s0, .int .u8 Hq.s1, .int .u8 Hq.s2, .int .u8 Hq.s3, .int .u8 Hq.s4, .int .u8 Hq.s5, .int .u8 Hq.s6, .int .u8 Hq.s7, .int .i64 Hq.K, .int .i64 Hq.M, .int .i64 Hq.B, .string Hq.key, .int .i64 Hq.size, .int .i64 Hq.idx, .int .i64 Hq.ep, .int .i64 Hq.ct, .slice Sq nq cq] rfl rfl rfl rfl rfl ?_) | (refine wpList_loadS rfl (.tmp 16) rfl w9.heap.size rfl #[.int .u8 Hq.s0, .int .u8 Hq.s1, .int .u8 Hq.s2, .int .u8 Hq.s3, .int .u8 Hq.s4, .int .u8 Hq.s5, .int .u8 Hq.s6, .int .u8 Hq.s7, .int .i64 Hq.K, .int .i64 Hq.M, .int .i64 Hq.B, .string Hq.key, .int .i64 Hq.size, .int .i64 Hq.idx, .int .i64 Hq.ep, .int .i64 Hq.ct, .slice Sq nq cq] rfl HZ9.out ?_) | (refine wpList_storePart rfl 69 (.tmp 142) (.tmp 141) rfl gr (k * 17) #[.int .u8 Hq.s0, .int .u8 Hq.s1, .int .u8 Hq.s2, .int .u8 Hq.s3, .int .u8 Hq.s4, .int .u8 Hq.s5, .int .u8 Hq.s6, .int .u8 Hq.s7, .int .i64 Hq.K, .int .i64 Hq.M, .int .i64 Hq.B, .string Hq.key, .int .i64 Hq.size, .int .i64 Hq.idx, .int .i64 Hq.ep, .int .i64 Hq.ct, .slice Sq nq cq] rfl rfl (by kernel_rfl) 69 cur (by rw [hcz]; exact hkc) HCUR.out rfl ?_))
              intro w11 hw11 hg11 _
              have HFN := Lib.hid (HF9.out.step hlt (by rw [← HQ.out.2.1]; exact HOQ.out) HCUR.out (by rw [← HQ.out.1, List.append_assoc]; exact hw11) hg11)
              have hA := HBR.out.trans (HB9.out.mono (Nat.le_of_lt hzr))
              have hzg := Nat.le_trans (Nat.le_of_lt hzr) hz9
              have HBN := Lib.hid (Below.trans_row hA hg11 (Nat.le_refl _) hzg)
              clear hA hzg
              clear hw11 hg11 hpk9
              go_wp2
              go_roundg (n - (k + 1))
              case measure => exact Nat.sub_succ_lt_self _ _ hlt
              case rel => exact ⟨k + 1, _, Nat.succ_le_of_lt hlt, rfl, by go_num, HFN.out, HBN.out⟩
    · obtain rfl : n = k := by omega
      have HJL := Lib.hid (fun (er : Int) (l' : List Nat) (h : JoinR n (erH P Hs) (erB P Bs) er l') => er_join (Z := Z) (l := l) HSN.out HCK.out HSZ.out HXL.out (fun t _ => by rw [HHS.out]) (fun t _ => by rw [HBS.out]) (by rw [HZKT.out]; have := HC5.out; have := HNKM.out; omega) (by rw [HZKT.out]; exact hKp) h)
      have HBD : Hid (∀ t, t < n → (erB P Bs t).length ≤ 140737488351232 ∧ (∀ y ∈ erB P Bs t, y.length ≤ 140737488351232) ∧ ∀ y ∈ erB P Bs t, ∀ x ∈ y, x < 256) := Lib.hid fun t ht => by
        obtain ⟨_, hE, hf, hx⟩ := HWS.out t ht
        obtain ⟨h1, h2⟩ := fits_len hE hf
        exact er_bnd (Nat.le_trans h1 (by decide)) (fun y hy => Nat.le_trans (h2 y hy) (by decide)) hx
      have HWE : Hid (∀ t, t < n → HdW (erH P Hs t)) := Lib.hid fun t ht => er_wf (HWS.out t ht).1
      have HBW : Hid (Below w.heap.size w wr) := Lib.hid (HBW5.out.trans (by have := HBW5.out.size; rw [hgr5] at HBR; exact HBR.out.mono this))
      have HRD : Hid (RL wr A1 l) := Lib.hid (HRD5.out.below (by rw [hgr5] at HBR; exact HBR.out))
      clear HB45 HB24 HB2 HH4 HBX2 HBX4 HP5 HC5 HPI HCK hgr5
      go_wp2_with fail
      refine (join_all (some ⟨gr, 0, none⟩) n n _ _ wr (by omega) HWE.out HF.out.rsd (fun t ht => (HBD.out t ht).1) (fun t ht => (HBD.out t ht).2.1) (fun t ht => (HBD.out t ht).2.2)).mono ?_
      rintro e w6 ⟨er, l', A6, c6, rfl, hJ, hO6, hb6⟩
      obtain ⟨rfl, e6⟩ := HJL.out er l' hJ
      rw [e6] at hO6 ⊢
      rw [← HML.out] at hO6 ⊢
      clear e6 hJ
      have hs1 := conv_strL c6 HXL.out (own_rl' hO6)
      have hs2 := conv_strL c1 HXL.out (HRD.out.below hb6)
      rw [← HML.out] at hs1 hs2
      have hne : ((strL l).toList == (strL l).toList) = true := by simp
      have HBF := Lib.hid (HBW.out.trans (hb6.mono HBW.out.size))
      clear hO6 hb6
      go_wp2
      go_ret
      exact ⟨rfl, HBF.out⟩
end Go.Proofs.Ytjaaldandgfkgaa
