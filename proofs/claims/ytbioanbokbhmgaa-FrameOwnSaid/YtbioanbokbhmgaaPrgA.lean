/- Stream.Write, Sum, own, mark, first: the walks of the program. Conditions: bytes, lengths that memory bears. -/
import Derived.Test.YtbioanbokbhmgaaRefC
namespace Go.Proofs.Ytbioanbokbhmgaa
open Go.RowKit

theorem put32_int (A : Option Addr) (c : Nat) (l : List Nat) (v : Int) (w : World) (h0 : 0 ≤ v) (hv : v < 4294967296) (hn : l.length ≤ 140737488351000) (hA : RL w A l) :
    Calls Try.prog 52 #[.slice A l.length c, .int .u32 v] w fun e w' => ∃ o, e = .returned o ∧ OwnB w' w.heap.size o (l ++ le 4 v.toNat) ∧ Below w.heap.size w w' := by
  obtain ⟨v', rfl⟩ := Int.eq_ofNat_of_zero_le h0
  exact put32_any A c l v' w (by omega) hn hA
theorem put32_nil (c : Nat) (v : Int) (w : World) (h0 : 0 ≤ v) (hv : v < 4294967296) :
    Calls Try.prog 52 #[.slice none 0 c, .int .u32 v] w fun e w' => ∃ o, e = .returned o ∧ OwnB w' w.heap.size o (le 4 v.toNat) ∧ Below w.heap.size w w' :=
  (put32_int none c [] v w h0 hv (by decide) (RL.nil _ _)).mono fun e w' ⟨o, h1, h2, h3⟩ => ⟨o, h1, by simpa using h2, h3⟩
theorem byte_two {x y : Int} {a b : Nat} (h : (a : Int) = x) (h' : (b : Int) = y) : (#[Value.int .u8 x, Value.int .u8 y] : Array Value).toList = [a, b].map bv := by rw [← h, ← h']; rfl
/-- A stream stands in block p. -/
def StAt (w : World) (p s : Nat) : Prop := ∃ x : Int, w.heap[p]? = some (.cells #[.int .u32 (s : Int), .int .u64 x] 114 (0, 0))
theorem StAt.below {w w' : World} {p s : Nat} (h : StAt w p s) (hb : Below w.heap.size w w') : StAt w' p s := by
  obtain ⟨x, h⟩ := h
  exact ⟨x, by rw [hb.block p (Array.getElem?_eq_some_iff.1 h).1]; exact h⟩
theorem StAt.facts {w : World} {p s : Nat} (h : StAt w p s) : ∃ x : Int, w.cell? ⟨p, 0, none⟩ = some (.int .u32 (s : Int)) ∧ w.cell? ⟨p, 1, none⟩ = some (.int .u64 x) ∧ w.frozen? ⟨p, 0, none⟩ = false ∧ w.frozen? ⟨p, 1, none⟩ = false ∧ p < w.heap.size := by
  obtain ⟨x, h⟩ := h
  exact ⟨x, by simp [World.cell?, h], by simp [World.cell?, h], by simp [World.frozen?, h], by simp [World.frozen?, h], (Array.getElem?_eq_some_iff.1 h).1⟩
theorem StAt.set0 {w : World} {p s : Nat} (h : StAt w p s) (s' : Nat) : StAt (w.setCell ⟨p, 0, none⟩ (.int .u32 (s' : Int))) p s' := by
  obtain ⟨x, h⟩ := h
  exact ⟨x, by simp [World.setCell, h, Array.getElem?_modify]⟩
theorem StAt.set1 {w : World} {p s : Nat} (h : StAt w p s) (y : Int) : StAt (w.setCell ⟨p, 1, none⟩ (.int .u64 y)) p s := by
  obtain ⟨x, h⟩ := h
  exact ⟨y, by simp [World.setCell, h, Array.getElem?_modify]⟩
set_option maxRecDepth 20000 in
set_option maxHeartbeats 1000000 in
theorem write_any (p s : Nat) (A : Option Addr) (c : Nat) (l : List Nat) (w : World) (hs : s < 4294967296) (hl : ∀ x ∈ l, x < 256) (hn : l.length ≤ 140737488355328) (hA : RL w A l) (hp : StAt w p s) :
    Calls Try.prog 70 #[.pointer (some ⟨p, 0, none⟩), .slice A l.length c] w fun e w' => e = .returned (.tuple #[]) ∧ StAt w' p (crm s l) ∧ Below p w w' := by
  have CM := Lib.hid (more_any s A c l w hs hl hn hA)
  have HP := Lib.hid hp
  obtain ⟨x, p0, p1, z0, z1, hlt⟩ := hp.facts
  clear hp hl hA
  generalize crm s l = m at *
  go_enter Try.func70, Try.ntmps70
  go_wp2_with fail
  refine CM.out.mono ?_
  rintro e w1 ⟨rfl, hb1⟩
  clear p0 p1 z0 z1
  have H0 := Lib.hid ((HP.out.below hb1).set0 m)
  obtain ⟨_, k0, k1, y0, y1, hlt1⟩ := (HP.out.below hb1).facts
  obtain ⟨x1, p0, p1, z0, z1, hlt2⟩ := H0.out.facts
  have HB := Lib.hid (hb1.mono (Nat.le_of_lt hlt))
  clear hb1
  go_wp2
  go_end0
  exact ⟨rfl, H0.out.set1 _, (HB.out.setCell (Nat.le_refl _) _).setCell (Nat.le_refl _) _⟩
theorem ssum_any (p s : Nat) (w : World) (hp : StAt w p s) : Calls Try.prog 71 #[.pointer (some ⟨p, 0, none⟩)] w fun e w' => e = .returned (.int .u32 (s : Int)) ∧ w = w' := by
  obtain ⟨x, p0, p1, z0, z1, hlt⟩ := hp.facts
  clear hp
  go_enter Try.func71, Try.ntmps71
  go_wp2
  go_ret
  exact ⟨rfl, rfl⟩
set_option maxRecDepth 20000 in
set_option maxHeartbeats 1000000 in
theorem own_any (s j : Nat) (A : Option Addr) (c : Nat) (l : List Nat) (w : World) (hs : s < 4294967296) (hj : j < 4294967296) (hl : ∀ x ∈ l, x < 256) (hn : l.length ≤ 140737488350000) (hA : RL w A l) :
    Calls Try.prog 53 #[.int .u32 (s : Int), .int .i64 (j : Int), .slice A l.length c] w fun e w' => e = .returned (.int .u32 (sumB s j l : Nat)) ∧ Below w.heap.size w w' := by
  have hst : StAt (w.alloc (.cells #[.int .u32 0, .int .u64 0] 114)) w.heap.size 0 := ⟨0, by rw [heap_alloc_new]; rfl⟩
  have HST := Lib.hid hst
  have HB0 := Lib.hid ((Below.refl w.heap.size w).alloc (Nat.le_refl _) (.cells #[.int .u32 0, .int .u64 0] 114))
  have hcj : IntKind.u32.wrap (j : Int) = (j : Int) := u32_lo (by omega) (by omega)
  have HF := Lib.hid (show crm (crm 0 (le 4 s ++ le 4 j)) l = sumB s j l by rw [crm_app]; rfl)
  have hpl : (le 4 s ++ le 4 j).length ≤ 8 := by simp [le_length]
  have hpx : ∀ x ∈ le 4 s ++ le 4 j, x < 256 := fun x hx => (List.mem_append.1 hx).elim le_lt le_lt
  have hc1 : crm 0 (le 4 s ++ le 4 j) < 4294967296 := crm_lt (by decide) hpx
  have HPX := Lib.hid hpx; have HL := Lib.hid hl; have HA := Lib.hid hA
  have HPP : Hid (∀ v : Value, ∀ w', OwnB w' w.heap.size v (le 4 s ++ le 4 j) → OwnB w' w.heap.size v (le 4 s ++ le 4 j)) := fun _ _ h => h
  clear hst hpx hl hA HPP
  obtain ⟨pj, hpj⟩ : ∃ pj, pj = le 4 s ++ le 4 j := ⟨_, rfl⟩
  rw [← hpj] at HF hpl hc1 HPX
  go_enter Try.func53, Try.ntmps53
  have hz0 : (w.alloc (.cells #[.int .u32 0, .int .u64 0] 114)).heap.size = w.heap.size + 1 := by simp
  have HZ0 := Lib.hid hz0
  clear hz0
  go_wp2_with fail
  refine (put32_nil 0 (s : Int) _ (by omega) (by omega)).mono ?_
  rintro e w1 ⟨o1, rfl, hO1, hb1⟩
  rw [show (s : Int).toNat = s from rfl] at hO1
  have hst1 := HST.out.below hb1
  obtain ⟨A1, q1, e1, _, _, r1, _⟩ := hO1.rd
  subst e1
  have HB1 := Lib.hid (HB0.out.trans (hb1.mono HB0.out.size))
  have HR1 := Lib.hid r1; have HST1 := Lib.hid hst1
  clear hO1 hb1 r1 hst1 HST HB0
  go_wp2_with fail
  refine (put32_int A1 q1 (le 4 s) (j : Int) w1 (by omega) (by omega) (by rw [le_length]; decide) HR1.out).mono ?_
  rintro e w2 ⟨o2, rfl, hO2, hb2⟩
  rw [show (j : Int).toNat = j from rfl, ← hpj] at hO2
  have HST2 := Lib.hid (HST1.out.below hb2)
  obtain ⟨A2, q2, e2, _, _, r2, _⟩ := hO2.rd
  subst e2
  have HB2 := Lib.hid (HB1.out.trans (hb2.mono HB1.out.size))
  have HR2 := Lib.hid r2
  clear hO2 hb2 r2 HST1 HB1 hcj hpj
  go_wp2_with fail
  refine (write_any w.heap.size 0 A2 q2 pj w2 (by decide) HPX.out (by omega) HR2.out HST2.out).mono ?_
  rintro e w3 ⟨rfl, hst3, hb3⟩
  have HST3 := Lib.hid hst3
  have HB3 := Lib.hid (HB2.out.trans hb3)
  clear hst3 hb3 HST2 HR2 HB2
  go_wp2_with fail
  refine (write_any w.heap.size _ A c l w3 hc1 HL.out (by omega) (HA.out.below HB3.out) HST3.out).mono ?_
  rintro e w4 ⟨rfl, hst4, hb4⟩
  rw [HF.out] at hst4
  have HST4 := Lib.hid hst4
  have HB4 := Lib.hid (HB3.out.trans hb4)
  clear hst4 hb4 HST3 HB3
  go_wp2_with fail
  refine (ssum_any w.heap.size _ w4 HST4.out).mono ?_
  rintro e w5 ⟨rfl, rfl⟩
  go_wp2
  go_ret
  exact ⟨rfl, HB4.out⟩
end Go.Proofs.Ytbioanbokbhmgaa

/- mark, first: the walks of the program. Conditions: a head that may be. -/
namespace Go.Proofs.Ytbioanbokbhmgaa
open Go.RowKit

theorem mark_any (w : World) : Calls Try.prog 67 #[] w fun e w' => e = .returned (.agg #[.int .u8 67, .int .u8 82, .int .u8 78, .int .u8 2]) ∧ Below w.heap.size w w' := by
  go_enter Try.func67, Try.ntmps67
  go_wp2
  exact bodyPost_ret (v := .agg #[.int .u8 67, .int .u8 82, .int .u8 78, .int .u8 2]) (by simp [results, Try.results67, go_sem]) rfl ⟨rfl, by first | exact (Below.refl _ _).alloc (Nat.le_refl _) _ | exact ((Below.refl _ _).alloc (Nat.le_refl _) _).setCell (Nat.le_refl _) _⟩
theorem rl_lit {w : World} {b T : Nat} {C : Array Value} {l : List Nat} (h : w.heap[b]? = some (.cells C T (0, 0))) (hC : C.toList = l.map bv) : RL w (some ⟨b, 0, none⟩) l := by
  intro i hi
  refine ⟨b, 0, rfl, (Array.getElem?_eq_some_iff.1 h).1, ?_⟩
  rw [Nat.zero_add, cell_of_row w b i C T (0, 0) h]
  have : C.toList[i]? = some (bv (l.getD i 0)) := by rw [hC, List.getElem?_map, List.getElem?_eq_getElem hi, getD_in hi]; rfl
  rw [← Array.getElem?_toList]
  exact this
set_option maxRecDepth 100000 in
set_option maxHeartbeats 4000000 in
theorem first_any (h : Hd) (w : World) (hB : HdB h) (HE : checkE h = 0) : Calls Try.prog 49 #[.agg #[.int .u8 h.s0, .int .u8 h.s1, .int .u8 h.s2, .int .u8 h.s3, .int .u8 h.s4, .int .u8 h.s5, .int .u8 h.s6, .int .u8 h.s7, .int .i64 h.K, .int .i64 h.M, .int .i64 h.B, .string h.key, .int .i64 h.size, .int .i64 h.idx, .int .i64 h.ep, .int .i64 h.ct]] w fun e w' => ∃ o, e = .returned o ∧ OwnB w' w.heap.size o (fixL h) ∧ Below w.heap.size w w' := by
  obtain ⟨hm, k0, k1, hE, i0, i1, e0, e1, t0, t1⟩ := check_facts HE
  obtain ⟨z0, z1, _⟩ := size_facts hE
  obtain ⟨m1, m2, m3, m4, m5, m6⟩ := hm
  have HE := Lib.hid HE; have hE := Lib.hid hE
  have hH := HdAt.new w h
  have hbA := (Below.refl w.heap.size w).alloc (Nat.le_refl _) (.cells #[.int .u8 h.s0, .int .u8 h.s1, .int .u8 h.s2, .int .u8 h.s3, .int .u8 h.s4, .int .u8 h.s5, .int .u8 h.s6, .int .u8 h.s7, .int .i64 h.K, .int .i64 h.M, .int .i64 h.B, .string h.key, .int .i64 h.size, .int .i64 h.idx, .int .i64 h.ep, .int .i64 h.ct] 28)
  have HBD := Lib.hid hB
  clear hB
  go_enter Try.func49, Try.ntmps49
  go_wp2_with fail
  obtain ⟨wA, hwA⟩ : ∃ wA, wA = w.alloc (.cells #[.int .u8 h.s0, .int .u8 h.s1, .int .u8 h.s2, .int .u8 h.s3, .int .u8 h.s4, .int .u8 h.s5, .int .u8 h.s6, .int .u8 h.s7, .int .i64 h.K, .int .i64 h.M, .int .i64 h.B, .string h.key, .int .i64 h.size, .int .i64 h.idx, .int .i64 h.ep, .int .i64 h.ct] 28) := ⟨_, rfl⟩
  have hz : w.heap.size < wA.heap.size := by rw [hwA]; simp
  rw [← hwA] at hH hbA ⊢
  clear hwA
  refine (mark_any wA).mono ?_
  rintro e wM ⟨rfl, hbM⟩
  have hHM := hH.below hbM hz
  have hbM' := hbA.trans (hbM.mono hbA.size)
  have hzM : w.heap.size < wM.heap.size := Nat.lt_of_lt_of_le hz hbM.size
  have HBM := Lib.hid (hbM'.alloc hbM'.size (.cells #[.int .u8 67, .int .u8 82, .int .u8 78, .int .u8 2] 107))
  have HHM := Lib.hid (hHM.below ((Below.refl wM.heap.size wM).alloc (Nat.le_refl _) (.cells #[.int .u8 67, .int .u8 82, .int .u8 78, .int .u8 2] 107)) hzM)
  have HML := Lib.hid (rl_lit (l := [67, 82, 78, 2]) (heap_alloc_new wM (.cells #[.int .u8 67, .int .u8 82, .int .u8 78, .int .u8 2] 107 (0, 0))) rfl)
  have hwl0 : w.heap.size < wM.heap.size := hzM
  clear hbM hbM' hHM hH hbA hz
  go_wp2_with fail
  obtain ⟨wS, hwS⟩ : ∃ wS, wS = wM.alloc (.cells #[.int .u8 67, .int .u8 82, .int .u8 78, .int .u8 2] 107) := ⟨_, rfl⟩
  have hzS : wM.heap.size < wS.heap.size := by rw [hwS]; simp
  rw [← hwS] at HBM HHM HML ⊢
  clear hwS
  have HST := Lib.hid (st_rl HHM.out HBD.out (by omega))
  obtain ⟨B0, hB0⟩ : ∃ B0, B0 = wS.heap.size := ⟨_, rfl⟩
  have hB1 : w.heap.size + 1 ≤ B0 := by omega
  obtain ⟨l0, hl0⟩ : ∃ l0, l0 = [67, 82, 78, 2] ++ stL h := ⟨_, rfl⟩
  refine wp_region_facts [.is (.slice (some ⟨wM.heap.size, 0, none⟩) 4 4), .is (.pointer (some ⟨w.heap.size, 0, none⟩)), .rl (stL h), .own B0 ([67, 82, 78, 2] ++ stL h), .own B0 ([67, 82, 78, 2] ++ stL h)] mixed (by kernel_rfl) (fun hdr => ⟨?_, ?_, ?_, ?_, ?_, trivial⟩) (fun wE hbE => ?_)
  · intro a w2 hb hs K hK
    repeat (intro _)
    refine ⟨?_⟩
    have h3 : a.tmps[3]?.getD undef = .pointer (some ⟨wM.heap.size, 0, none⟩) := hs 3 (by kernel_rfl)
    go_simp
    exact hK.out _ _ (Below.refl _ _) rfl
  · intro a w2 hb hs K hK
    repeat (intro _)
    refine ⟨?_⟩
    have h1 : a.tmps[1]?.getD undef = .pointer (some ⟨w.heap.size, 0, none⟩) := hs 1 (by kernel_rfl)
    go_simp
    exact hK.out _ _ (Below.refl _ _) rfl
  · intro a w2 hb hs K hK
    repeat (intro _)
    refine ⟨?_⟩
    have h7 : a.tmps[7]?.getD undef = .pointer (some ⟨w.heap.size, 0, none⟩) := by assumption
    go_simp
    exact hK.out _ _ (Below.refl _ _) ⟨_, _, rfl, HST.out.below (hdr.out.trans (hb.mono hdr.out.size))⟩
  · intro a w2 hb hs K hK
    repeat (intro _)
    refine ⟨?_⟩
    have h6 : a.tmps[6]?.getD undef = .slice (some ⟨wM.heap.size, 0, none⟩) 4 4 := by assumption
    obtain ⟨A8, c8, h8, r8⟩ : IsRL (stL h) (a.tmps[8]?.getD undef) w2 := by assumption
    exact wp_appFull (.tmp 6) (.tmp 8) 47 rfl ⟨wM.heap.size, 0, none⟩ [67, 82, 78, 2] ((slot_eval a 6).trans h6) (HML.out.below (hdr.out.trans (hb.mono hdr.out.size))) _ (stL h).length (stL h) ((slot_eval a 8).trans h8) (r8.src c8) (by show 0 < 8; omega) (by show 4 + 8 ≤ _; omega) (fun v' w' hO hb3 => hK.out _ _ hb3 (hO.mono (by rw [hB0]; exact (hdr.out.trans (hb.mono hdr.out.size)).size)))
  · intro a w2 hb hs K hK
    repeat (intro _)
    refine ⟨?_⟩
    have h9 : IsOwnB B0 ([67, 82, 78, 2] ++ stL h) (a.tmps[9]?.getD undef) w2 := by assumption
    go_simp
    exact hK.out _ _ (Below.refl _ _) h9
  intro v0 f0 v1 f1 v2 f2 v3 f3 v4 f4
  refine NoPanic.normal ?_
  simp only [Act.put, List.setIfInBounds_toArray, List.set_cons_zero, List.set_cons_succ]
  have HO0 := Lib.hid (show OwnB wE (w.heap.size + 1) v4 l0 by rw [hl0]; exact OwnB.mono f4 hB1)
  have HB0 := Lib.hid (HBM.out.trans (hbE.mono HBM.out.size))
  have hn0 : l0.length ≤ 12 := by rw [hl0]; exact Nat.le_refl _
  have hH0 := HHM.out.below hbE (by omega)
  obtain ⟨w0, hw0⟩ : ∃ w0, w0 = wE := ⟨_, rfl⟩
  rw [← hw0] at HO0 HB0 hH0 ⊢
  have hwl0' : w.heap.size < w0.heap.size := by rw [hw0]; have := hbE.size; omega
  have HL0 := Lib.hid hl0
  clear hw0 hbE HBM HHM HML HST hl0 hzS hzM hwl0 f0 f1 f2 f3 f4
  have hwl0 := hwl0'
  clear hwl0'
  obtain ⟨c0, c1, c2, c3, c4, c5, c6, c7, c8, c9, c10, c11, c12, c13, c14, c15⟩ := hH0
  have hC := Lib.hid (byte_two (x := h.K) (y := h.M) (a := h.K.toNat % 256) (b := h.M.toNat % 256) (by omega) (by omega))
  have hk0 : l0.length + 2 ≤ 140737488355328 := by omega
  go_wp2_with (at_builtin; refine wpList_pushB rfl (.tmp 10) (.tmp 19) rfl (w.heap.size + 1) _ l0 rfl HO0.out hwl0 _ 2 _ rfl rfl hC.out rfl hk0 ?_)
  intro v1 w1 hO hb _
  have hH1 := HdAt.below (show HdAt w0 w.heap.size h from ⟨c0, c1, c2, c3, c4, c5, c6, c7, c8, c9, c10, c11, c12, c13, c14, c15⟩) hb (Nat.lt_succ_self _)
  have hwl1 := Nat.lt_of_lt_of_le hwl0 hb.size
  have HB1 := Lib.hid (HB0.out.trans (hb.mono (Nat.le_succ _)))
  obtain ⟨l1, hl⟩ : ∃ l, l = l0 ++ [h.K.toNat % 256, h.M.toNat % 256] := ⟨_, rfl⟩
  rw [← hl] at hO
  have HL1 := Lib.hid hl
  have hn1 : l1.length ≤ 14 := by rw [hl, List.length_append]; have e : [h.K.toNat % 256, h.M.toNat % 256].length = 2 := rfl; omega
  have HO1 := Lib.hid hO
  clear hO hb hl HO0 hC hk0
  clear c0 c1 c2 c3 c4 c5 c6 c7 c8 c9 c10 c11 c12 c13 c14 c15
  obtain ⟨c0, c1, c2, c3, c4, c5, c6, c7, c8, c9, c10, c11, c12, c13, c14, c15⟩ := hH1
  obtain ⟨A1, q1, e1, _, _, r1, _⟩ := HO1.out.rd
  subst e1
  have HR1 := Lib.hid r1
  clear r1 HO1
  go_wp2_with fail
  refine (put32_int A1 q1 l1 h.B _ (by omega) (by omega) (by omega) HR1.out).mono ?_
  rintro e w2 ⟨v2, rfl, hO, hb⟩
  have hO := hO.mono hwl1
  have hwl2 := Nat.lt_of_lt_of_le hwl1 hb.size
  have hH2 := HdAt.below (show HdAt w1 w.heap.size h from ⟨c0, c1, c2, c3, c4, c5, c6, c7, c8, c9, c10, c11, c12, c13, c14, c15⟩) hb hwl1
  have HB2 := Lib.hid (HB1.out.trans (hb.mono HB1.out.size))
  obtain ⟨l2, hl⟩ : ∃ l, l = l1 ++ le 4 h.B.toNat := ⟨_, rfl⟩
  rw [← hl] at hO
  have HL2 := Lib.hid hl
  have hn2 : l2.length ≤ 18 := by rw [hl, List.length_append, le_length]; omega
  have HO2 := Lib.hid hO
  clear hO hb hl HR1
  clear c0 c1 c2 c3 c4 c5 c6 c7 c8 c9 c10 c11 c12 c13 c14 c15
  obtain ⟨c0, c1, c2, c3, c4, c5, c6, c7, c8, c9, c10, c11, c12, c13, c14, c15⟩ := hH2
  obtain ⟨A2, q2, e2, _, _, r2, _⟩ := HO2.out.rd
  subst e2
  have HR2 := Lib.hid r2
  clear r2 HO2
  go_wp2_with fail
  refine (put32_int A2 q2 l2 h.size _ (by omega) (by omega) (by omega) HR2.out).mono ?_
  rintro e w3 ⟨v3, rfl, hO, hb⟩
  have hO := hO.mono hwl2
  have hwl3 := Nat.lt_of_lt_of_le hwl2 hb.size
  have hH3 := HdAt.below (show HdAt w2 w.heap.size h from ⟨c0, c1, c2, c3, c4, c5, c6, c7, c8, c9, c10, c11, c12, c13, c14, c15⟩) hb hwl2
  have HB3 := Lib.hid (HB2.out.trans (hb.mono HB2.out.size))
  obtain ⟨l3, hl⟩ : ∃ l, l = l2 ++ le 4 h.size.toNat := ⟨_, rfl⟩
  rw [← hl] at hO
  have HL3 := Lib.hid hl
  have hn3 : l3.length ≤ 22 := by rw [hl, List.length_append, le_length]; omega
  have HO3 := Lib.hid hO
  clear hO hb hl HR2
  clear c0 c1 c2 c3 c4 c5 c6 c7 c8 c9 c10 c11 c12 c13 c14 c15
  obtain ⟨c0, c1, c2, c3, c4, c5, c6, c7, c8, c9, c10, c11, c12, c13, c14, c15⟩ := hH3
  have hC := Lib.hid (byte_cell (x := h.idx) (y := h.idx.toNat % 256) (by omega))
  have hk3 : l3.length + 1 ≤ 140737488355328 := by omega
  go_wp2_with (at_builtin; refine wpList_pushB rfl (.tmp 32) (.tmp 36) rfl (w.heap.size + 1) _ l3 rfl HO3.out hwl3 _ 1 _ rfl rfl hC.out rfl hk3 ?_)
  intro v4 w4 hO hb _
  have hH4 := HdAt.below (show HdAt w3 w.heap.size h from ⟨c0, c1, c2, c3, c4, c5, c6, c7, c8, c9, c10, c11, c12, c13, c14, c15⟩) hb (Nat.lt_succ_self _)
  have hwl4 := Nat.lt_of_lt_of_le hwl3 hb.size
  have HB4 := Lib.hid (HB3.out.trans (hb.mono (Nat.le_succ _)))
  obtain ⟨l4, hl⟩ : ∃ l, l = l3 ++ [h.idx.toNat % 256] := ⟨_, rfl⟩
  rw [← hl] at hO
  have HL4 := Lib.hid hl
  have hn4 : l4.length ≤ 23 := by rw [hl, List.length_append]; have e : [h.idx.toNat % 256].length = 1 := rfl; omega
  have HO4 := Lib.hid hO
  clear hO hb hl HO3 hC hk3
  clear c0 c1 c2 c3 c4 c5 c6 c7 c8 c9 c10 c11 c12 c13 c14 c15
  obtain ⟨c0, c1, c2, c3, c4, c5, c6, c7, c8, c9, c10, c11, c12, c13, c14, c15⟩ := hH4
  obtain ⟨A4, q4, e4, _, _, r4, _⟩ := HO4.out.rd
  subst e4
  have HR4 := Lib.hid r4
  clear r4 HO4
  go_wp2_with fail
  refine (put32_int A4 q4 l4 h.ep _ (by omega) (by omega) (by omega) HR4.out).mono ?_
  rintro e w5 ⟨v5, rfl, hO, hb⟩
  have hO := hO.mono hwl4
  have hwl5 := Nat.lt_of_lt_of_le hwl4 hb.size
  have hH5 := HdAt.below (show HdAt w4 w.heap.size h from ⟨c0, c1, c2, c3, c4, c5, c6, c7, c8, c9, c10, c11, c12, c13, c14, c15⟩) hb hwl4
  have HB5 := Lib.hid (HB4.out.trans (hb.mono HB4.out.size))
  obtain ⟨l5, hl⟩ : ∃ l, l = l4 ++ le 4 h.ep.toNat := ⟨_, rfl⟩
  rw [← hl] at hO
  have HL5 := Lib.hid hl
  have hn5 : l5.length ≤ 27 := by rw [hl, List.length_append, le_length]; omega
  have HO5 := Lib.hid hO
  clear hO hb hl HR4
  clear c0 c1 c2 c3 c4 c5 c6 c7 c8 c9 c10 c11 c12 c13 c14 c15
  obtain ⟨c0, c1, c2, c3, c4, c5, c6, c7, c8, c9, c10, c11, c12, c13, c14, c15⟩ := hH5
  obtain ⟨A5, q5, e5, _, _, r5, _⟩ := HO5.out.rd
  subst e5
  have HR5 := Lib.hid r5
  clear r5 HO5
  go_wp2_with fail
  refine (put32_int A5 q5 l5 h.ct _ (by omega) (by omega) (by omega) HR5.out).mono ?_
  rintro e w6 ⟨v6, rfl, hO, hb⟩
  have hO := hO.mono hwl5
  have hwl6 := Nat.lt_of_lt_of_le hwl5 hb.size
  have hH6 := HdAt.below (show HdAt w5 w.heap.size h from ⟨c0, c1, c2, c3, c4, c5, c6, c7, c8, c9, c10, c11, c12, c13, c14, c15⟩) hb hwl5
  have HB6 := Lib.hid (HB5.out.trans (hb.mono HB5.out.size))
  obtain ⟨l6, hl⟩ : ∃ l, l = l5 ++ le 4 h.ct.toNat := ⟨_, rfl⟩
  rw [← hl] at hO
  have HL6 := Lib.hid hl
  have hn6 : l6.length ≤ 31 := by rw [hl, List.length_append, le_length]; omega
  have HO6 := Lib.hid hO
  clear hO hb hl HR5
  clear c0 c1 c2 c3 c4 c5 c6 c7 c8 c9 c10 c11 c12 c13 c14 c15
  obtain ⟨c0, c1, c2, c3, c4, c5, c6, c7, c8, c9, c10, c11, c12, c13, c14, c15⟩ := hH6
  have hC := Lib.hid (byte_cell (x := ((h.key.size : Nat) : Int)) (y := h.key.size % 256) (by omega))
  have hk6 : l6.length + 1 ≤ 140737488355328 := by omega
  go_wp2_with (at_builtin; refine wpList_pushB rfl (.tmp 50) (.tmp 55) rfl (w.heap.size + 1) _ l6 rfl HO6.out hwl6 _ 1 _ rfl rfl hC.out rfl hk6 ?_)
  intro v7 w7 hO hb _
  have hH7 := HdAt.below (show HdAt w6 w.heap.size h from ⟨c0, c1, c2, c3, c4, c5, c6, c7, c8, c9, c10, c11, c12, c13, c14, c15⟩) hb (Nat.lt_succ_self _)
  have hwl7 := Nat.lt_of_lt_of_le hwl6 hb.size
  have HB7 := Lib.hid (HB6.out.trans (hb.mono (Nat.le_succ _)))
  obtain ⟨l7, hl⟩ : ∃ l, l = l6 ++ [h.key.size % 256] := ⟨_, rfl⟩
  rw [← hl] at hO
  have HL7 := Lib.hid hl
  have hn7 : l7.length ≤ 32 := by rw [hl, List.length_append]; have e : [h.key.size % 256].length = 1 := rfl; omega
  have HO7 := Lib.hid hO
  clear hO hb hl HO6 hC hk6
  clear c0 c1 c2 c3 c4 c5 c6 c7 c8 c9 c10 c11 c12 c13 c14 c15
  obtain ⟨c0, c1, c2, c3, c4, c5, c6, c7, c8, c9, c10, c11, c12, c13, c14, c15⟩ := hH7
  have HF := Lib.hid (show l7 = fixL h by rw [HL7.out, HL6.out, HL5.out, HL4.out, HL3.out, HL2.out, HL1.out, HL0.out]; simp [fixL, stL, le])
  go_wp2
  go_ret
  exact ⟨_, rfl, by rw [← HF.out]; exact HO7.out.mono (Nat.le_succ _), HB7.out⟩
end Go.Proofs.Ytbioanbokbhmgaa
