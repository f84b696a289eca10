/- First, Shares, Weights of the document's layer 4: the walks. Conditions: points that are bytes. -/
import Derived.Test.YtjaaldandgfkgaaR1
import Derived.Test.YtjaaldandgfkgaaLag
import Derived.Test.YtjaaldandgfkgaaLnt0
import Derived.Test.YtjaaldandgfkgaaFactG
namespace Go.Proofs.Ytjaaldandgfkgaa
open Go.RowKit

theorem intInfo : (Try.prog.info? 3).map (fun i => (i.zero, i.size, i.bytes)) = some (some (.int .i64 0), 1, 8) := by kernel_rfl
theorem intsInfo : (Try.prog.info? 25).map (fun i => (i.zero, i.size, i.bytes)) = some (some (.slice none 0 0), 1, 24) := by kernel_rfl
set_option maxHeartbeats 400000 in
theorem first_any (k : Nat) (w : World) (hk : k ≤ 1000000) :
    Calls Try.prog 50 #[.int .i64 k] w fun e w' => ∃ A c, e = .returned (.slice A k c) ∧ Rd w' A k (fun i => .int .i64 (i : Nat)) ∧ Below w.heap.size w w' := by
  go_enter Try.func50, Try.ntmps50
  go_wp2
  go_loopg [3, 4] k (fun gk v i wr => ∃ j : Nat, j ≤ k ∧ gk = k - j ∧ i = .int .i64 j ∧ Own wr w.heap.size 3 1 v j (fun i => [.int .i64 (i : Nat)]) ∧ Below w.heap.size w wr)
  case atStart => exact ⟨0, Nat.zero_le _, rfl, rfl, Own.nil _ _ _ _ _, Below.refl _ _⟩
  case round =>
    obtain ⟨j, hj, rfl, rfl, hO, hb⟩ := hrel
    have hsz := hb.size
    by_cases hlt : j < k
    · go_wp2_with (at_builtin; refine wpList_push _ rfl (.tmp 10) (.tmp 12) 25 rfl w.heap.size 3 1 8 (.int .i64 0) #[.int .i64 (j : Nat)] Try.underlying25 intInfo rfl (by decide) _ j _ rfl hO hsz _ rfl rfl rfl rfl rfl (by omega) (by omega) ?_)
      intro v' w1 hO1 hb1 _ _
      have hbb := hb.trans hb1
      clear hO hb hb1
      go_wp2
      go_roundg (k - (j + 1))
      case measure => omega
      case rel => exact ⟨j + 1, by omega, rfl, by go_num, hO1, hbb⟩
    · have hjk : j = k := by omega
      subst j
      obtain ⟨A, c, hv, _, _, hR, _⟩ := hO.rd
      subst hv
      have HR := Lib.hid hR; have HB := Lib.hid hb
      clear hO hR hb
      go_wp2
      go_ret
      exact ⟨A, c, rfl, HR.out, HB.out⟩

theorem xor_el (x y : Fin 256) : bits .xor .i64 (x.val : Nat) (y.val : Nat) = (((gE.a x y).val : Nat) : Int) := by
  have h1 := x.isLt; have h2 := y.isLt
  rw [i64_xor_nat _ _ (by omega) (by omega)]; rfl
set_option maxRecDepth 40000 in
set_option maxHeartbeats 2000000 in
theorem shares_any (A : Option Addr) (k c : Nat) (q : Nat → Fin 256) (x : Fin 256) (w : World) (hk : k ≤ 1000000) (hA : Rd w A k (fun i => .int .i64 ((q i).val : Nat))) :
    Calls Try.prog 80 #[.slice A k c, .int .i64 (x.val : Nat)] w fun e w' => ∃ (b : Nat) (o : Nat → Fin 256), e = .returned (.slice (some ⟨b, 0, none⟩) k k) ∧ w.heap.size ≤ b ∧ w'.rowIs b 3 k (fun j => .int .i64 ((o j).val : Nat)) ∧ gE.ShP q k x o ∧ Below w.heap.size w w' := by
  have hmk := run_make_row' (P := Try.prog) 25 3 (.int .i64 0) 8 Try.underlying25 intInfo rfl .i64 .i64 k (by omega) (by omega)
  have hz0 := Lib.hid (World.rowIs_made w (.int .i64 0) k 3)
  have hb0 := Lib.hid ((Below.refl w.heap.size w).alloc (Nat.le_refl _) (.cells (madeCells #[.int .i64 0] k) 3))
  have HA := Lib.hid hA; clear hA
  go_enter Try.func80, Try.ntmps80
  go_wp2
  clear hmk
  go_loopg [6] k (fun gk i wr => ∃ j : Nat, j ≤ k ∧ gk = k - j ∧ i = .int .i64 j ∧ (∀ t, t < j → q t ≠ x) ∧ wr.rowIs w.heap.size 3 k (fun _ => .int .i64 0) ∧ Below w.heap.size w wr)
  case atStart => exact ⟨0, Nat.zero_le _, rfl, rfl, fun t ht => absurd ht (by omega), hz0.out, hb0.out⟩
  case round =>
    clear hz0 hb0
    obtain ⟨j, hj, rfl, rfl, hne, hQ, hb⟩ := hrel
    have HNE := Lib.hid hne; have HQ := Lib.hid hQ; have HB := Lib.hid hb
    clear hne hQ hb
    by_cases hlt : j < k
    · obtain ⟨b1, o1, rfl, hb1, hx1⟩ := HA.out j hlt
      have hy1 : wr.cell? ⟨b1, o1 + j, none⟩ = some (.int .i64 ((q j).val : Nat)) := (HB.out.cell hb1).trans hx1
      clear hx1
      by_cases hqx : q j = x
      · have t1 : (((q j).val : Int) == (x.val : Int)) = true := by rw [hqx]; simp
        have hcl := HQ.out.cell hlt
        have hfz := HQ.out.frozen j
        have HX := Lib.hid hqx; clear hqx
        go_wp2
        go_ret
        refine ⟨w.heap.size, fun i => if i = j then gE.u else gE.z, rfl, Nat.le_refl _, (HQ.out.set j (.int .i64 1)).congr fun i _ => ?_, .inl ⟨j, hlt, HX.out, fun i hi => HNE.out i hi, fun i _ => rfl⟩, HB.out.setCell (Nat.le_refl _) _⟩
        by_cases e : i = j
        · simp only [e, if_true]; rfl
        · simp only [e, if_false]; rfl
      · have t1 : (((q j).val : Int) == (x.val : Int)) = false := by
          rw [beq_eq_false_iff_ne]; intro e; exact hqx (Fin.ext (by omega))
        have HX := Lib.hid hqx; clear hqx
        go_wp2
        go_roundg (k - (j + 1))
        case measure => omega
        case rel => exact ⟨j + 1, by omega, rfl, by go_num, fun t ht => by
          by_cases e : t = j
          · subst e; exact HX.out
          · exact HNE.out t (by omega), HQ.out, HB.out⟩
    · have hjk : j = k := by omega
      subst j
      have HQ1 : Hid (wr.rowIs w.heap.size 3 k (fun i => .int .i64 ((if i < 0 then gE.wD q k x i else gE.z).val : Nat))) := HQ.out.congr fun i _ => by rw [if_neg (by omega)]; rfl
      have hbw := HB.out.size
      clear HQ
      go_wp2
      go_loopg [7] k (fun gk i wr => ∃ j : Nat, j ≤ k ∧ gk = k - j ∧ i = .int .i64 j ∧ wr.rowIs w.heap.size 3 k (fun i => .int .i64 ((if i < j then gE.wD q k x i else gE.z).val : Nat)) ∧ Below w.heap.size w wr)
      case atStart => exact ⟨0, Nat.zero_le _, rfl, rfl, HQ1.out, HB.out⟩
      case round =>
        clear HQ1 HB
        obtain ⟨j, hj, rfl, rfl, hQ, hb⟩ := hrel
        have HQ := Lib.hid hQ; have HB := Lib.hid hb
        clear hQ hb
        by_cases hlt : j < k
        · go_wp2
          obtain ⟨wo, hwo⟩ : ∃ wo : World, wo = wr := ⟨_, rfl⟩
          go_loopg [8, 9, 10] k (fun gk u d i w2 => ∃ i0 : Nat, i0 ≤ k ∧ gk = k - i0 ∧ i = .int .i64 i0 ∧ u = .int .i64 ((gE.skp gE.u j i0 (fun i => gE.a x (q i))).val : Nat) ∧ d = .int .i64 ((gE.skp gE.u j i0 (fun i => gE.a (q j) (q i))).val : Nat) ∧ Dr wo w2)
          case atStart => exact ⟨0, Nat.zero_le _, rfl, rfl, rfl, rfl, by rw [hwo]; exact Dr.refl _⟩
          case round =>
            obtain ⟨i, hi, rfl, rfl, rfl, rfl, hd⟩ := hrel
            have HD := Lib.hid hd; clear hd
            have hbw : Below w.heap.size w wr := (HB.out.trans (by rw [← hwo]; exact HD.out.below _) : Below w.heap.size w _)
            by_cases hli : i < k
            · by_cases hij : i = j
              · subst hij
                have HU : Hid (∀ f : Nat → Fin 256, gE.skp gE.u i (i + 1) f = gE.skp gE.u i i f) := fun f => by show (if i = i then _ else _) = _; rw [if_pos rfl]
                go_wp2
                go_roundg (k - (i + 1))
                case measure => omega
                case rel => exact ⟨i + 1, by omega, rfl, by go_num, by rw [HU.out], by rw [HU.out], HD.out⟩
              · have hij' : ((i : Int) != (j : Int)) = true := by rw [bne_iff_ne]; omega
                have HU : Hid (∀ f : Nat → Fin 256, gE.skp gE.u j (i + 1) f = gE.m (gE.skp gE.u j i f) (f i)) := fun f => by show (if i = j then _ else _) = _; rw [if_neg hij]
                obtain ⟨b1, o1, rfl, hb1, hx1⟩ := HA.out j hlt
                obtain ⟨b2, o2, e2, hb2, hx2⟩ := HA.out i hli
                injection e2 with e2
                injection e2 with e2 e3 _
                subst e2 e3
                have hy1 : wr.cell? ⟨b1, o1 + j, none⟩ = some (.int .i64 ((q j).val : Nat)) := (hbw.cell hb1).trans hx1
                have hy2 : wr.cell? ⟨b1, o1 + i, none⟩ = some (.int .i64 ((q i).val : Nat)) := (hbw.cell hb1).trans hx2
                have hX1 := xor_el x (q i)
                have hX2 := xor_el (q j) (q i)
                have CT := Lib.hid (fun (a b : Fin 256) w => rtimes_any a b w)
                have KS : Hid (wr.cell? ⟨b1, o1 + j, none⟩ = some (.int .i64 ((q j).val : Nat)) ∧ wr.cell? ⟨b1, o1 + i, none⟩ = some (.int .i64 ((q i).val : Nat))) := ⟨hy1, hy2⟩
                clear hx1 hx2 hij hbw
                go_wp2_with fail
                refine (CT.out _ (gE.a x (q i)) _).mono ?_
                rintro e w5 ⟨rfl, rfl⟩
                go_wp2_with fail
                clear hy1 hy2
                refine wp_region_mix [(true, true, false), (true, true, false), (true, true, false), (true, true, false), (true, true, true), (true, true, false), (true, true, false), (true, true, false), (true, true, true), (true, true, false), (false, false, false), (false, false, true)] mixed (by kernel_rfl) (fun w4 => w4.cell? ⟨b1, o1 + j, none⟩ = some (.int .i64 ((q j).val : Nat)) ∧ w4.cell? ⟨b1, o1 + i, none⟩ = some (.int .i64 ((q i).val : Nat))) (KS.out) ?_
                intro hSw0
                simp only [hdM, tlM, List.cons_append, List.nil_append]
                repeat (first
                  | (refine mix_look hSw0.out ?_ (by rfl) (fun w4 hSw => ?_) ?_; rotate_left; (focus (obtain ⟨s1, s2⟩ := hSw; go_simp; try with_reducible rfl)); simp only [Act.put, List.setIfInBounds_toArray, List.set_cons_zero, List.set_cons_succ])
                  | (refine mix_pure ?_ (by rfl) (fun w4 => ?_) ?_; rotate_left; (focus (go_simp; try with_reducible rfl)); simp only [Act.put, List.setIfInBounds_toArray, List.set_cons_zero, List.set_cons_succ]))
                refine mix_step (fun K hK => ?_)
                go_simp
                refine (CT.out _ (gE.a (q j) (q i)) _).mono ?_
                rintro e w5 ⟨rfl, rfl⟩
                dsimp only
                refine hK.out _ _ (fun _ h => h) ?_
                clear hK K
                try simp only [Act.put, List.setIfInBounds_toArray, List.set_cons_zero, List.set_cons_succ]
                refine mix_step (fun K hK => ?_)
                go_simp
                refine hK.out _ _ (fun h => absurd h (by decide)) ?_
                clear hK K
                try simp only [Act.put, List.setIfInBounds_toArray, List.set_cons_zero, List.set_cons_succ]
                refine mix_nil ?_
                go_wp2
                go_roundg (k - (i + 1))
                case measure => omega
                case rel => exact ⟨i + 1, by omega, rfl, by go_num, by rw [HU.out], by rw [HU.out], HD.out.drew⟩
            · have hik : i = k := by omega
              subst i
              have HD2 : Hid (Below w.heap.size w wr) := hbw
              have hQ2 : wr.rowIs w.heap.size 3 k (fun i => .int .i64 ((if i < j then gE.wD q k x i else gE.z).val : Nat)) := by
                have h := HQ.out
                rw [← hwo] at h
                obtain ⟨m, hm⟩ := HD.out
                rw [hm]; exact h
              have hcl := hQ2.cell hlt
              have hfz := hQ2.frozen j
              have e0 : (if j < j then gE.wD q k x j else gE.z) = gE.z := if_neg (by omega)
              rw [e0] at hcl
              have HW : Hid (gE.m (gE.skp gE.u j k (fun i => gE.a x (q i))) (gE.v (gE.skp gE.u j k (fun i => gE.a (q j) (q i)))) = gE.wD q k x j) := rfl
              have HQ3 := Lib.hid ((hQ2.set j (.int .i64 ((gE.wD q k x j).val : Nat))).congr (g := fun i => .int .i64 ((if i < j + 1 then gE.wD q k x i else gE.z).val : Nat)) fun i _ => by
                by_cases e : i = j
                · subst e; rw [if_pos rfl, if_pos (by omega)]
                · rw [if_neg e]
                  by_cases e2 : i < j
                  · rw [if_pos e2, if_pos (by omega)]
                  · rw [if_neg e2, if_neg (by omega)])
              have HB3 := Lib.hid (hbw.setCell (p := ⟨w.heap.size, j, none⟩) (Nat.le_refl _) (.int .i64 ((gE.wD q k x j).val : Nat)))
              clear hQ2 hbw e0
              go_wp2_with fail
              refine (rover_any _ _ _).mono ?_
              rintro e w5 ⟨er, rfl, rfl⟩
              rw [HW.out]
              go_wp2
              go_roundg (k - (j + 1))
              case measure => omega
              case rel => exact ⟨j + 1, by omega, rfl, by go_num, HQ3.out, HB3.out⟩
        · have hjk : j = k := by omega
          subst j
          go_wp2
          go_ret
          refine ⟨w.heap.size, gE.wD q k x, rfl, Nat.le_refl _, HQ.out.congr fun i hi => by rw [if_pos hi], .inr ⟨HNE.out, fun i _ => rfl⟩, HB.out⟩
set_option maxHeartbeats 1000000 in
theorem weights_own (A : Option Addr) (n k c : Nat) (q : Nat → Fin 256) (w : World) (hn : n ≤ 256) (hk : k ≤ 1000000) (hA : Rd w A k (fun i => .int .i64 ((q i).val : Nat))) :
    Calls Try.prog 49 #[.int .i64 n, .slice A k c] w fun e w' => ∃ (v : Value) (S : Nat → Option Addr) (C : Nat → Nat) (O : Nat → Nat → Fin 256), e = .returned v ∧ OwnM w' w.heap.size 25 3 v n S C (fun _ => k) (fun i j => .int .i64 ((O i j).val : Nat)) ∧ (∀ i, i < n → gE.ShP q k (el i) (O i)) ∧ Below w.heap.size w w' := by
  have HA := Lib.hid hA; clear hA
  go_enter Try.func49, Try.ntmps49
  go_wp2
  go_loopg [5, 6] n (fun gk v i wr => ∃ (j : Nat) (S : Nat → Option Addr) (C : Nat → Nat) (O : Nat → Nat → Fin 256), j ≤ n ∧ gk = n - j ∧ i = .int .i64 j ∧ OwnM wr w.heap.size 25 3 v j S C (fun _ => k) (fun i j => .int .i64 ((O i j).val : Nat)) ∧ (∀ i, i < j → gE.ShP q k (el i) (O i)) ∧ Below w.heap.size w wr)
  case atStart => exact ⟨0, fun _ => none, fun _ => 0, fun _ _ => gE.z, Nat.zero_le _, rfl, rfl, OwnM.nil _ _ _ _ _ _ _ _, fun i hi => absurd hi (by omega), Below.refl _ _⟩
  case round =>
    obtain ⟨j, S, C, O, hj, rfl, rfl, hO, hS, hb⟩ := hrel
    have hsz := hb.size
    by_cases hlt : j < n
    · have HS := Lib.hid hS
      have hel : ((el j).val : Nat) = j := el_val (by omega)
      have CS := Lib.hid (shares_any A k c q (el j) wr hk (HA.out.below hb))
      rw [hel] at CS
      clear hS hel
      go_wp2_with fail
      refine CS.out.mono ?_
      rintro e w1 ⟨b, o, rfl, hb0, hrow, hsh, hb1⟩
      have hO1 := (hO.kept hb1).next (some ⟨b, 0, none⟩) k
      have hO2 : Own w1 w.heap.size 25 1 _ j (fun i => [.slice (upd S j (some ⟨b, 0, none⟩) i) k (upd C j k i)]) := hO1.1
      have hO3 : OwnM w1 w.heap.size 25 3 _ j (upd S j (some ⟨b, 0, none⟩)) (upd C j k) (fun _ => k) (fun i t => .int .i64 ((upd O j o i t).val : Nat)) := ⟨hO1.1, fun i hi => (hO1.2 i hi).congr fun t _ => by show [Value.int .i64 ((O i t).val : Int)] = [Value.int .i64 ((upd O j o i t).val : Int)]; rw [upd_ne O j o (by omega)]⟩
      have hr : Own w1 w.heap.size 3 1 (.slice (upd S j (some ⟨b, 0, none⟩) j) k (upd C j k j)) k (fun t => [.int .i64 ((upd O j o j t).val : Nat)]) := by
        rw [upd_at, upd_at, upd_at]; exact own_of_row hrow (by omega) (by unfold maxLen; omega)
      have hu : Hid ((#[Value.slice (some ⟨b, 0, none⟩) k k] : Array Value).toList = [.slice (upd S j (some ⟨b, 0, none⟩) j) k (upd C j k j)]) := by rw [upd_at, upd_at]; rfl
      have HSn : Hid (∀ i, i < j + 1 → gE.ShP q k (el i) (upd O j o i)) := fun i hi => by
        by_cases e : i = j
        · subst e; rw [upd_at]; exact hsh
        · rw [upd_ne _ _ _ e]; exact HS.out i (by omega)
      have hbb := hb.trans (hb1.mono hsz)
      have hsz1 := hbb.size
      clear hO hO1 hrow hsh hb hb1 HS CS
      go_wp2_with (at_builtin; refine wpList_push _ rfl (.tmp 12) (.tmp 16) 71 rfl w.heap.size 25 1 24 (.slice none 0 0) #[.slice (some ⟨b, 0, none⟩) k k] Try.underlying71 intsInfo rfl (by decide) _ j _ rfl hO2 hsz1 _ rfl rfl hu.out rfl rfl (by omega) (by omega) ?_)
      intro v' w2 hown2 hbel2 hg2 _
      have hO4 := hO3.push (by decide) hr hown2 hg2
      have hbF := hbb.trans hbel2
      clear hO2 hO3 hr hown2 hg2 hbel2 hbb
      go_wp2
      go_roundg (n - (j + 1))
      case measure => omega
      case rel => exact ⟨j + 1, _, _, _, by omega, rfl, by go_num, hO4, HSn.out, hbF⟩
    · have hjn : j = n := by omega
      subst j
      have HR := Lib.hid hO; have HB := Lib.hid hb
      clear hO hb
      go_wp2
      go_ret
      exact ⟨_, S, C, O, rfl, HR.out, hS, HB.out⟩
theorem weights_any (A : Option Addr) (n k c : Nat) (q : Nat → Fin 256) (w : World) (hn : n ≤ 256) (hk : k ≤ 1000000) (hA : Rd w A k (fun i => .int .i64 ((q i).val : Nat))) :
    Calls Try.prog 49 #[.int .i64 n, .slice A k c] w fun e w' => ∃ (A' : Option Addr) (c' : Nat) (O : Nat → Nat → Fin 256), e = .returned (.slice A' n c') ∧ RdM w' A' n (fun _ => k) (fun i j => .int .i64 ((O i j).val : Nat)) ∧ (∀ i, i < n → gE.ShP q k (el i) (O i)) ∧ Below w.heap.size w w' :=
  (weights_own A n k c q w hn hk hA).mono fun e w' ⟨v, S, C, O, he, hO, hs, hb⟩ => by
    obtain ⟨A', c', hv, _, hR⟩ := hO.rdm
    exact ⟨A', c', O, by rw [he, hv], hR, hs, hb⟩
end Go.Proofs.Ytjaaldandgfkgaa
