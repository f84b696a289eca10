/- products, By, spread, one, Encode of the document's layer 4: the walks. Conditions: lengths that memory bears. -/
import Derived.Test.YtjaaldandgfkgaaSh
namespace Go.Proofs.Ytjaaldandgfkgaa
open Go.RowKit

set_option maxRecDepth 20000 in
set_option maxHeartbeats 1000000 in
theorem products_any (x : Fin 256) (w : World) :
    Calls Try.prog 82 #[.int .i64 (x.val : Nat)] w fun e w' => ∃ b, e = .returned (.slice (some ⟨b, 0, none⟩) 256 256) ∧ w.heap.size ≤ b ∧ w'.rowIs b 3 256 (fun j => .int .i64 ((gE.m x (el j)).val : Nat)) ∧ Below w.heap.size w w' := by
  have hmk := run_make_row' (P := Try.prog) 25 3 (.int .i64 0) 8 Try.underlying25 intInfo rfl .i64 .i64 256 (by omega) (by omega)
  rw [show ((256 : Nat) : Int) = 256 from rfl] at hmk
  have hz0 := Lib.hid (World.rowIs_made w (.int .i64 0) 256 3)
  have hb0 := Lib.hid ((Below.refl w.heap.size w).alloc (Nat.le_refl _) (.cells (madeCells #[.int .i64 0] 256) 3))
  have CT := Lib.hid (fun (a b : Fin 256) w => rtimes_any a b w)
  go_enter Try.func82, Try.ntmps82
  go_wp2
  clear hmk
  go_loopg [4] 256 (fun gk i wr => ∃ j : Nat, j ≤ 256 ∧ gk = 256 - j ∧ i = .int .i64 j ∧ wr.rowIs w.heap.size 3 256 (fun i => .int .i64 (if i < j then (gE.m x (el i)).val else 0 : Nat)) ∧ Below w.heap.size w wr)
  case atStart => exact ⟨0, Nat.zero_le _, rfl, rfl, hz0.out.congr fun i _ => by rw [if_neg (by omega)]; rfl, hb0.out⟩
  case round =>
    clear hz0 hb0
    obtain ⟨j, hj, rfl, rfl, hQ, hb⟩ := hrel
    by_cases hlt : j < 256
    · have CJ := Lib.hid (CT.out x (el j) wr)
      have hel : ((el j).val : Nat) = j := el_val hlt
      rw [hel] at CJ
      have hcl := hQ.cell hlt
      have hfz := hQ.frozen j
      rw [if_neg (by omega)] at hcl
      have HQ2 := Lib.hid ((hQ.set j (.int .i64 ((gE.m x (el j)).val : Nat))).congr (g := fun i => .int .i64 (if i < j + 1 then (gE.m x (el i)).val else 0 : Nat)) fun i _ => by
        by_cases e : i = j
        · subst e; rw [if_pos rfl, if_pos (by omega)]
        · rw [if_neg e]
          by_cases e2 : i < j
          · rw [if_pos e2, if_pos (by omega)]
          · rw [if_neg e2, if_neg (by omega)])
      have HB2 := Lib.hid (hb.setCell (p := ⟨w.heap.size, j, none⟩) (Nat.le_refl _) (.int .i64 ((gE.m x (el j)).val : Nat)))
      clear hQ hb hel
      go_wp2_with fail
      refine CJ.out.mono ?_
      rintro e w5 ⟨rfl, rfl⟩
      go_wp2
      go_roundg (256 - (j + 1))
      case measure => omega
      case rel => exact ⟨j + 1, by omega, rfl, by go_num, HQ2.out, HB2.out⟩
    · have hj256 : j = 256 := by omega
      subst hj256
      have HQ := Lib.hid (hQ.congr (g := fun j => .int .i64 ((gE.m x (el j)).val : Nat)) fun i hi => by rw [if_pos hi])
      have HB := Lib.hid hb
      clear hQ hb
      go_wp2
      go_ret
      exact ⟨w.heap.size, rfl, Nat.le_refl _, HQ.out, HB.out⟩

/-- A row of the word while it is being made: of the first c places j + 1 terms are in, of the others j. -/
def byc (O D : Nat → Nat → Fin 256) (i j c c' : Nat) : Fin 256 := gE.s (if c' < c then j + 1 else j) (fun t => gE.m (O i t) (D t c'))
theorem byc_next {O D : Nat → Nat → Fin 256} {i j c c' : Nat} : (if c' = c then gE.a (byc O D i j c c) (gE.m (O i j) (D j c)) else byc O D i j c c') = byc O D i j (c + 1) c' := by
  unfold byc
  by_cases e : c' = c
  · subst e; rw [if_pos rfl, if_neg (by omega), if_pos (by omega)]; rfl
  · rw [if_neg e]
    by_cases e2 : c' < c
    · rw [if_pos e2, if_pos (by omega)]
    · rw [if_neg e2, if_neg (by omega)]
theorem byc_zero {O D : Nat → Nat → Fin 256} {i j c' : Nat} : byc O D i j 0 c' = gE.s j (fun t => gE.m (O i t) (D t c')) := by unfold byc; rw [if_neg (by omega)]
theorem byc_done {O D : Nat → Nat → Fin 256} {i j c c' : Nat} (h : c' < c) : byc O D i j c c' = byc O D i (j + 1) 0 c' := by unfold byc; rw [if_pos h, if_neg (by omega)]
theorem byc_skip {O D : Nat → Nat → Fin 256} {i j c' : Nat} (h : O i j = gE.z) : byc O D i (j + 1) 0 c' = byc O D i j 0 c' := by rw [byc_zero, byc_zero, gE.s_succ, h, gE.z_m, gE.a_z]
theorem xor_el8 (x y : Fin 256) : bits .xor .u8 (x.val : Nat) (y.val : Nat) = (((gE.a x y).val : Nat) : Int) := u8_xor_nat x.val y.val x.isLt y.isLt
theorem u8_el (x : Fin 256) : IntKind.u8.wrap ((x.val : Nat) : Int) = ((x.val : Nat) : Int) := by rw [IntKind.wrap_u8]; have := x.isLt; omega

set_option maxRecDepth 40000 in
set_option maxHeartbeats 4000000 in
theorem by_own (A Bm : Option Addr) (n k c1 c2 len : Nat) (O D : Nat → Nat → Fin 256) (w : World) (hn : n ≤ 256) (hk : k ≤ 256) (hk0 : 0 < k) (hlen : len ≤ 140737488351232)
    (hA : RdM w A n (fun _ => k) (fun i j => .int .i64 ((O i j).val : Nat))) (hB : RdM w Bm k (fun _ => len) (fun j c => .int .u8 ((D j c).val : Nat))) :
    Calls Try.prog 51 #[.slice A n c1, .slice Bm k c2] w fun e w' => ∃ (v : Value) (S : Nat → Option Addr) (C : Nat → Nat), e = .returned v ∧ OwnM w' w.heap.size 43 5 v n S C (fun _ => len) (fun i c => .int .u8 ((gE.s k (fun t => gE.m (O i t) (D t c))).val : Nat)) ∧ Below w.heap.size w w' := by
  obtain ⟨SA, CA, hA1, hA2⟩ := hA
  obtain ⟨SB, CB, hB1, hB2⟩ := hB
  have HA1 := Lib.hid hA1; have HA2 := Lib.hid hA2; have HB1 := Lib.hid hB1; have HB2 := Lib.hid hB2
  clear hA1 hA2 hB1 hB2
  have CT := Lib.hid (fun (a b : Fin 256) w => rtimes_any a b w)
  obtain ⟨b0, o0, rfl, hb0, hx0⟩ := HB1.out 0 hk0
  rw [Nat.add_zero] at hx0
  have HX0 := Lib.hid hx0; clear hx0
  have hmk := run_make_row' (P := Try.prog) 43 5 (.int .u8 0) 1 Try.underlying43 byteInfo rfl .i64 .i64 len (by omega) (by omega)
  have HMK := Lib.hid hmk; clear hmk
  go_enter Try.func51, Try.ntmps51
  go_wp2
  go_loopg [5, 6] n (fun gk v i wr => ∃ (i0 : Nat) (S : Nat → Option Addr) (C : Nat → Nat), i0 ≤ n ∧ gk = n - i0 ∧ i = .int .i64 i0 ∧ OwnM wr w.heap.size 43 5 v i0 S C (fun _ => len) (fun i c => .int .u8 ((gE.s k (fun t => gE.m (O i t) (D t c))).val : Nat)) ∧ Below w.heap.size w wr)
  case atStart => exact ⟨0, fun _ => none, fun _ => 0, Nat.zero_le _, rfl, rfl, OwnM.nil _ _ _ _ _ _ _ _, Below.refl _ _⟩
  case round =>
    obtain ⟨i, S, C, hi, rfl, rfl, hO, hb⟩ := hrel
    have hsz := hb.size
    by_cases hlt : i < n
    · have HO := Lib.hid hO; have HB := Lib.hid hb
      clear hO hb
      obtain ⟨b1, o1, rfl, hb1, hx1⟩ := HA1.out i hlt
      have HX1 := Lib.hid hx1; clear hx1
      have hx0 : wr.cell? ⟨b0, o0, none⟩ = some (.slice (SB 0) len (CB 0)) := (HB.out.cell hb0).trans HX0.out
      have hmk := HMK.out
      have HZ := Lib.hid ((World.rowIs_made wr (.int .u8 0) len 5).congr (g := fun c => .int .u8 ((byc O D i 0 0 c).val : Nat)) fun c _ => by rw [byc_zero]; rfl)
      have HBZ := Lib.hid ((Below.refl wr.heap.size wr).alloc (Nat.le_refl _) (.cells (madeCells #[.int .u8 0] len) 5))
      go_wp2
      clear hx0 hmk
      obtain ⟨wo, rfl⟩ : ∃ wo : World, wo = wr := ⟨_, rfl⟩
      go_loopg [8] k (fun gk v w2 => ∃ j : Nat, j ≤ k ∧ gk = k - j ∧ v = .int .i64 j ∧ w2.rowIs wo.heap.size 5 len (fun c => .int .u8 ((byc O D i j 0 c).val : Nat)) ∧ Below wo.heap.size wo w2)
      case atStart => exact ⟨0, Nat.zero_le _, rfl, rfl, HZ.out, HBZ.out⟩
      case round =>
        clear HZ HBZ
        obtain ⟨j, hj, rfl, rfl, hQ, hbj⟩ := hrel
        have hbw : Below w.heap.size w wr := HB.out.trans (hbj.mono hsz)
        by_cases hlj : j < k
        · obtain ⟨b2, o2, e2, hb2, hx2⟩ := HB1.out j hlj
          injection e2 with e2
          injection e2 with e2 e3 _
          subst e2 e3
          obtain ⟨bw, ow, hSA, hbwl, hxw⟩ := HA2.out i hlt j hlj
          have hy1 : wr.cell? ⟨b1, o1 + i, none⟩ = some (.slice (some ⟨bw, ow, none⟩) k (CA i)) := by rw [← hSA]; exact (hbw.cell hb1).trans HX1.out
          have hy2 : wr.cell? ⟨bw, ow + j, none⟩ = some (.int .i64 ((O i j).val : Nat)) := (hbw.cell hbwl).trans hxw
          have HQ := Lib.hid hQ; have HBJ := Lib.hid hbj; have HBW := Lib.hid hbw
          clear hQ hbj hbw hxw hSA
          by_cases hoz : O i j = gE.z
          · have t1 : (((O i j).val : Int) == 0) = true := by rw [hoz]; rfl
            have HOZ := Lib.hid hoz; clear hoz
            go_wp2
            go_roundg (k - (j + 1))
            case measure => omega
            case rel => exact ⟨j + 1, by omega, rfl, by go_num, HQ.out.congr fun c _ => by rw [byc_skip HOZ.out], HBJ.out⟩
          · have t1 : (((O i j).val : Int) == 0) = false := by
              rw [beq_eq_false_iff_ne]; intro e; exact hoz (Fin.ext (by show (O i j).val = 0; omega))
            have hxr : wr.cell? ⟨b0, o0 + j, none⟩ = some (.slice (SB j) len (CB j)) := (HBW.out.cell hb2).trans hx2
            clear hoz hx2
            by_cases hsm : len < 64
            · go_wp2
              clear hy1 hy2 t1
              go_loopg [10] len (fun gk v w2 => ∃ c : Nat, c ≤ len ∧ gk = len - c ∧ v = .int .i64 c ∧ w2.rowIs wo.heap.size 5 len (fun c' => .int .u8 ((byc O D i j c c').val : Nat)) ∧ Below wo.heap.size wo w2)
              case atStart => exact ⟨0, Nat.zero_le _, rfl, rfl, HQ.out, HBJ.out⟩
              case round =>
                clear HQ HBJ HBW hxr
                obtain ⟨c, hc, rfl, rfl, hQ, hbj⟩ := hrel
                have hbw : Below w.heap.size w wr := HB.out.trans (hbj.mono hsz)
                by_cases hlc : c < len
                · obtain ⟨b3, o3, hSB, hb3, hx3⟩ := HB2.out j hlj c hlc
                  have hcl := hQ.cell hlc
                  have hfz := hQ.frozen c
                  have q1 : wr.cell? ⟨b0, o0 + j, none⟩ = some (.slice (some ⟨b3, o3, none⟩) len (CB j)) := by
                    obtain ⟨_, _, e2, hb2, hx2⟩ := HB1.out j hlj
                    injection e2 with e2
                    injection e2 with e2 e3 _
                    subst e2 e3
                    rw [← hSB]; exact (hbw.cell hb2).trans hx2
                  have q2 : wr.cell? ⟨b3, o3 + c, none⟩ = some (.int .u8 ((D j c).val : Nat)) := (hbw.cell hb3).trans hx3
                  have hX := xor_el8 (byc O D i j c c) (gE.m (O i j) (D j c))
                  have hU := u8_el (gE.m (O i j) (D j c))
                  have HQ2 := Lib.hid ((hQ.set c (.int .u8 ((gE.a (byc O D i j c c) (gE.m (O i j) (D j c))).val : Nat))).congr (g := fun c' => .int .u8 ((byc O D i j (c + 1) c').val : Nat)) fun c' _ => by rw [← byc_next]; split <;> rfl)
                  have HB2' := Lib.hid (hbj.setCell (p := ⟨wo.heap.size, c, none⟩) (Nat.le_refl _) (.int .u8 ((gE.a (byc O D i j c c) (gE.m (O i j) (D j c))).val : Nat)))
                  generalize (gE.a (byc O D i j c c) (gE.m (O i j) (D j c))).val = Y at *
                  generalize (byc O D i j c c).val = X at *
                  generalize hrb : wo.heap.size = rb at *
                  have HRB := Lib.hid hrb; clear hrb
                  have KS : Hid (wr.cell? ⟨rb, c, none⟩ = some (.int .u8 (X : Nat)) ∧ wr.cell? ⟨b0, o0 + j, none⟩ = some (.slice (some ⟨b3, o3, none⟩) len (CB j)) ∧ wr.cell? ⟨b3, o3 + c, none⟩ = some (.int .u8 ((D j c).val : Nat))) := ⟨hcl, q1, q2⟩
                  clear hQ hbj hbw hx3 hSB
                  go_wp2_with fail
                  clear q1 q2
                  refine wp_region_mix [(true, true, false), (true, true, false), (true, true, false), (true, true, false), (true, true, false), (true, true, true), (true, true, false), (true, true, false), (true, true, false), (true, true, false), (true, true, true), (true, true, false), (true, true, false), (true, true, true), (true, true, false), (false, false, false), (false, true, false), (false, true, false), (false, true, false), (false, false, true)] mixed (by kernel_rfl) (fun w4 => w4.cell? ⟨rb, c, none⟩ = some (.int .u8 (X : Nat)) ∧ w4.cell? ⟨b0, o0 + j, none⟩ = some (.slice (some ⟨b3, o3, none⟩) len (CB j)) ∧ w4.cell? ⟨b3, o3 + c, none⟩ = some (.int .u8 ((D j c).val : Nat))) (KS.out) ?_
                  intro hSw0
                  simp only [hdM, tlM, List.cons_append, List.nil_append]
                  repeat (first
                    | (refine mix_look hSw0.out ?_ (by rfl) (fun w4 hSw => ?_) ?_; rotate_left; (focus (obtain ⟨s1, s2, s3⟩ := hSw; go_simp; try with_reducible rfl)); simp only [Act.put, List.setIfInBounds_toArray, List.set_cons_zero, List.set_cons_succ])
                    | (refine mix_pure ?_ (by rfl) (fun w4 => ?_) ?_; rotate_left; (focus (go_simp; try with_reducible rfl)); simp only [Act.put, List.setIfInBounds_toArray, List.set_cons_zero, List.set_cons_succ]))
                  refine mix_step (fun K hK => ?_)
                  go_simp
                  rw [i64_small ((D j c).val : Int) (by omega) (by have := (D j c).isLt; omega)]
                  refine (CT.out (O i j) (D j c) _).mono ?_
                  rintro e w5 ⟨rfl, rfl⟩
                  dsimp only
                  refine hK.out _ _ (fun _ h => h) ?_
                  clear hK K
                  try simp only [Act.put, List.setIfInBounds_toArray, List.set_cons_zero, List.set_cons_succ]
                  repeat (refine mix_pure ?_ (by rfl) (fun w4 => ?_) ?_; rotate_left; (focus (go_simp; try with_reducible rfl)); simp only [Act.put, List.setIfInBounds_toArray, List.set_cons_zero, List.set_cons_succ])
                  refine mix_step (fun K hK => ?_)
                  go_simp
                  refine hK.out _ _ (fun h => absurd h (by decide)) ?_
                  clear hK K
                  try simp only [Act.put, List.setIfInBounds_toArray, List.set_cons_zero, List.set_cons_succ]
                  refine mix_nil ?_
                  go_wp2
                  go_roundg (len - (c + 1))
                  case measure => omega
                  case rel => exact ⟨c + 1, by omega, rfl, by go_num, HQ2.out.drew, HB2'.out.drew⟩
                · have hcl : c = len := by omega
                  subst c
                  have HQ2 := Lib.hid (hQ.congr (g := fun c' => .int .u8 ((byc O D i (j + 1) 0 c').val : Nat)) fun c' hc' => by rw [byc_done hc'])
                  have HB2' := Lib.hid hbj
                  clear hQ hbj hbw
                  go_wp2
                  go_roundg (k - (j + 1))
                  case measure => omega
                  case rel => exact ⟨j + 1, by omega, rfl, by go_num, HQ2.out, HB2'.out⟩
            · have hge : 64 ≤ len := by omega
              go_wp2_with fail
              refine (products_any (O i j) _).mono ?_
              rintro e w5 ⟨tb, rfl, htb, hT, hb5⟩
              have hQ5 := below_row HQ.out hb5 HQ.out.lt
              have hBJ5 := HBJ.out.trans (hb5.mono HBJ.out.size)
              have hne : tb ≠ wo.heap.size := by have := HQ.out.lt; omega
              have HT := Lib.hid hT; have HQ5 := Lib.hid hQ5; have HBJ5 := Lib.hid hBJ5
              clear hy1 hy2 t1 hxr hT hQ5 hBJ5 hb5 HQ HBJ HBW
              go_wp2
              go_loopg [12] len (fun gk v w2 => ∃ c : Nat, c ≤ len ∧ gk = len - c ∧ v = .int .i64 c ∧ w2.rowIs wo.heap.size 5 len (fun c' => .int .u8 ((byc O D i j c c').val : Nat)) ∧ w2.rowIs tb 3 256 (fun t => .int .i64 ((gE.m (O i j) (el t)).val : Nat)) ∧ Below wo.heap.size wo w2)
              case atStart => exact ⟨0, Nat.zero_le _, rfl, rfl, HQ5.out, HT.out, HBJ5.out⟩
              case round =>
                clear HQ5 HBJ5 HT
                obtain ⟨c, hc, rfl, rfl, hQ, hT, hbj⟩ := hrel
                have hbw : Below w.heap.size w wr := HB.out.trans (hbj.mono hsz)
                by_cases hlc : c < len
                · obtain ⟨b3, o3, hSB, hb3, hx3⟩ := HB2.out j hlj c hlc
                  have hcl := hQ.cell hlc
                  have hfz := hQ.frozen c
                  have q1 : wr.cell? ⟨b0, o0 + j, none⟩ = some (.slice (some ⟨b3, o3, none⟩) len (CB j)) := by
                    obtain ⟨_, _, e2, hb2, hx2⟩ := HB1.out j hlj
                    injection e2 with e2
                    injection e2 with e2 e3 _
                    subst e2 e3
                    rw [← hSB]; exact (hbw.cell hb2).trans hx2
                  have q2 : wr.cell? ⟨b3, o3 + c, none⟩ = some (.int .u8 ((D j c).val : Nat)) := (hbw.cell hb3).trans hx3
                  have hDl := (D j c).isLt
                  have q3 : wr.cell? ⟨tb, (D j c).val, none⟩ = some (.int .i64 ((gE.m (O i j) (D j c)).val : Nat)) := by
                    have h := hT.cell hDl
                    rw [show el (D j c).val = D j c from Fin.ext (el_val hDl)] at h
                    exact h
                  have hX := xor_el8 (byc O D i j c c) (gE.m (O i j) (D j c))
                  have hU := u8_el (gE.m (O i j) (D j c))
                  have HQ2 := Lib.hid ((hQ.set c (.int .u8 ((gE.a (byc O D i j c c) (gE.m (O i j) (D j c))).val : Nat))).congr (g := fun c' => .int .u8 ((byc O D i j (c + 1) c').val : Nat)) fun c' _ => by rw [← byc_next]; split <;> rfl)
                  have HT2 := Lib.hid (hT.setOther (a := ⟨wo.heap.size, c, none⟩) hne (.int .u8 ((gE.a (byc O D i j c c) (gE.m (O i j) (D j c))).val : Nat)))
                  have HB2' := Lib.hid (hbj.setCell (p := ⟨wo.heap.size, c, none⟩) (Nat.le_refl _) (.int .u8 ((gE.a (byc O D i j c c) (gE.m (O i j) (D j c))).val : Nat)))
                  have hMl := (gE.m (O i j) (D j c)).isLt
                  generalize (gE.a (byc O D i j c c) (gE.m (O i j) (D j c))).val = Y at *
                  generalize (byc O D i j c c).val = X at *
                  generalize hrb : wo.heap.size = rb at *
                  have HRB := Lib.hid hrb; clear hrb
                  have KS : Hid (wr.cell? ⟨rb, c, none⟩ = some (.int .u8 (X : Nat)) ∧ wr.cell? ⟨b0, o0 + j, none⟩ = some (.slice (some ⟨b3, o3, none⟩) len (CB j)) ∧ wr.cell? ⟨b3, o3 + c, none⟩ = some (.int .u8 ((D j c).val : Nat)) ∧ wr.cell? ⟨tb, (D j c).val, none⟩ = some (.int .i64 ((gE.m (O i j) (D j c)).val : Nat))) := ⟨hcl, q1, q2, q3⟩
                  have hD0 : (0 : Int) ≤ ((D j c).val : Int) := by omega
                  have hD1 : ((D j c).val : Int) < 256 := by omega
                  clear hQ hT hbj hbw hx3 hSB
                  go_wp2_with fail
                  clear q1 q2 q3
                  refine wp_region_mix [(true, true, false), (true, true, false), (true, true, false), (true, true, false), (true, true, false), (true, true, true), (true, true, false), (true, true, false), (true, true, false), (true, true, false), (true, true, true), (true, true, false), (true, true, false), (true, true, true), (true, true, false), (true, true, true), (true, true, false), (true, true, false), (true, true, false), (false, false, true)] mixed (by kernel_rfl) (fun w4 => w4.cell? ⟨rb, c, none⟩ = some (.int .u8 (X : Nat)) ∧ w4.cell? ⟨b0, o0 + j, none⟩ = some (.slice (some ⟨b3, o3, none⟩) len (CB j)) ∧ w4.cell? ⟨b3, o3 + c, none⟩ = some (.int .u8 ((D j c).val : Nat)) ∧ w4.cell? ⟨tb, (D j c).val, none⟩ = some (.int .i64 ((gE.m (O i j) (D j c)).val : Nat))) (KS.out) ?_
                  intro hSw0
                  simp only [hdM, tlM, List.cons_append, List.nil_append]
                  repeat (first
                    | (refine mix_look hSw0.out ?_ (by rfl) (fun w4 hSw => ?_) ?_; rotate_left; (focus (obtain ⟨s1, s2, s3, s4⟩ := hSw; go_simp; try with_reducible rfl)); simp only [Act.put, List.setIfInBounds_toArray, List.set_cons_zero, List.set_cons_succ])
                    | (refine mix_pure ?_ (by rfl) (fun w4 => ?_) ?_; rotate_left; (focus (go_simp; try with_reducible rfl)); simp only [Act.put, List.setIfInBounds_toArray, List.set_cons_zero, List.set_cons_succ]))
                  refine mix_step (fun K hK => ?_)
                  go_simp
                  refine hK.out _ _ (fun h => absurd h (by decide)) ?_
                  clear hK K
                  try simp only [Act.put, List.setIfInBounds_toArray, List.set_cons_zero, List.set_cons_succ]
                  refine mix_nil ?_
                  go_wp2
                  go_roundg (len - (c + 1))
                  case measure => omega
                  case rel => exact ⟨c + 1, by omega, rfl, by go_num, HQ2.out.drew, HT2.out.drew, HB2'.out.drew⟩
                · have hcl : c = len := by omega
                  subst c
                  have HQ2 := Lib.hid (hQ.congr (g := fun c' => .int .u8 ((byc O D i (j + 1) 0 c').val : Nat)) fun c' hc' => by rw [byc_done hc'])
                  have HB2' := Lib.hid hbj
                  clear hQ hbj hbw hT
                  go_wp2
                  go_roundg (k - (j + 1))
                  case measure => omega
                  case rel => exact ⟨j + 1, by omega, rfl, by go_num, HQ2.out, HB2'.out⟩
        · have hjk : j = k := by omega
          subst j
          have hQk := hQ.congr (g := fun c => .int .u8 ((gE.s k (fun t => gE.m (O i t) (D t c))).val : Nat)) fun c _ => by rw [byc_zero]
          have hO1 := (HO.out.kept hbj).next (some ⟨wo.heap.size, 0, none⟩) len
          have hr : Own wr w.heap.size 5 1 (.slice (upd S i (some ⟨wo.heap.size, 0, none⟩) i) len (upd C i len i)) len (fun c => [.int .u8 ((gE.s k (fun t => gE.m (O i t) (D t c))).val : Nat)]) := by
            rw [upd_at, upd_at]; exact own_of_row hQk hsz (by unfold maxLen; omega)
          have hu : Hid ((#[Value.slice (some ⟨wo.heap.size, 0, none⟩) len len] : Array Value).toList = [.slice (upd S i (some ⟨wo.heap.size, 0, none⟩) i) len (upd C i len i)]) := by rw [upd_at, upd_at]; rfl
          have hsz1 := hbw.size
          have HBW := Lib.hid hbw; have HR := Lib.hid hr
          clear hQ hQk hbj hbw hr HO
          go_wp2_with (at_builtin; refine wpList_push _ rfl (.tmp 94) (.tmp 96) 67 rfl w.heap.size 43 1 24 (.slice none 0 0) #[.slice (some ⟨wo.heap.size, 0, none⟩) len len] Try.underlying67 bytesInfo rfl (by decide) _ i _ rfl hO1.1 hsz1 _ rfl rfl hu.out rfl rfl (by omega) (by omega) ?_)
          intro v' w2 hown2 hbel2 hg2 _
          have hO2 := hO1.push (by decide) HR.out hown2 hg2
          have hbF := HBW.out.trans hbel2
          clear hO1 HR hown2 hg2 hbel2 HBW
          go_wp2
          go_roundg (n - (i + 1))
          case measure => omega
          case rel => exact ⟨i + 1, _, _, by omega, rfl, by go_num, hO2, hbF⟩
    · have hin : i = n := by omega
      subst i
      have HR := Lib.hid hO; have HB := Lib.hid hb
      clear hO hb
      go_wp2
      go_ret
      exact ⟨_, S, C, rfl, HR.out, HB.out⟩
theorem by_any (A Bm : Option Addr) (n k c1 c2 len : Nat) (O D : Nat → Nat → Fin 256) (w : World) (hn : n ≤ 256) (hk : k ≤ 256) (hk0 : 0 < k) (hlen : len ≤ 140737488351232)
    (hA : RdM w A n (fun _ => k) (fun i j => .int .i64 ((O i j).val : Nat))) (hB : RdM w Bm k (fun _ => len) (fun j c => .int .u8 ((D j c).val : Nat))) :
    Calls Try.prog 51 #[.slice A n c1, .slice Bm k c2] w fun e w' => ∃ (A' : Option Addr) (c' : Nat), e = .returned (.slice A' n c') ∧ RdM w' A' n (fun _ => len) (fun i c => .int .u8 ((gE.s k (fun t => gE.m (O i t) (D t c))).val : Nat)) ∧ Below w.heap.size w w' :=
  (by_own A Bm n k c1 c2 len O D w hn hk hk0 hlen hA hB).mono fun e w' ⟨v, S, C, he, hO, hb⟩ => by
    obtain ⟨A', c', hv, _, hR⟩ := hO.rdm
    exact ⟨A', c', by rw [he, hv], hR, hb⟩
end Go.Proofs.Ytjaaldandgfkgaa
