/- Turn of the document: the walk. Conditions: lengths that memory bears. -/
import Derived.Test.YthodpgkelmalmaaTurn2
namespace Go.Proofs.Ythodpgkelmalmaa
open Go.RowKit

set_option maxRecDepth 40000 in
set_option maxHeartbeats 8000000 in
theorem rturn_ok (A Dd : Option Addr) (k m c a cD : Nat) (L : Nat → Nat) (g : Nat → Nat → Nat) (d : Nat → Nat) (w : World) (hk : 0 < k) (hkm : k + m ≤ 255) (ha : a < k) (hL : L 0 ≤ 140737488351232) (hg : ∀ i, i < k + m → ∀ j, j < L 0 → g i j < 256) (hd : ∀ j, j < L 0 → d j < 256)
    (hA : RdM w A (k + m) (fun _ => L 0) (fun i j => .int .u8 (g i j))) (hD : Rd w Dd (L 0) (fun j => .int .u8 (d j : Nat))) :
    Calls Try.prog 29 #[.int .i64 k, .int .i64 m, .slice A (k + m) c, .int .i64 a, .slice Dd (L 0) cD] w fun e w' => ∃ A' c', e = .returned (.tuple #[.slice A' (k + m) c', .int .i64 0]) ∧ RdM w' A' (k + m) (fun _ => L 0) (fun i c => .int .u8 (tw k a g d i c : Nat)) ∧ Below w.heap.size w w' := by
  obtain ⟨SA, CA, hA1, hA2⟩ := id hA
  obtain ⟨b0, o0, rfl, hb0, hx0⟩ := hA1 0 (by omega)
  rw [Nat.add_zero] at hx0
  have CO := Lib.hid (one_any (some ⟨b0, o0, none⟩) (k + m) c (L 0) (fun _ => L 0) CA SA w (by omega) hA1)
  have hev1 : evB (k + m) (fun _ => L 0) (L 0) = true := evB_iff.2 fun _ _ => rfl
  rw [hev1] at CO
  have HA1 := Lib.hid hA1; have HA2 := Lib.hid hA2; have HG := Lib.hid hg; have HDd := Lib.hid hd; have HD := Lib.hid hD
  have hs1 : IntKind.i64.wrap ((k : Int) + (m : Int)) = (k : Int) + (m : Int) := i64_small _ (by omega) (by omega)
  have hneg : decide ((a : Int) < 0) = false := by simp
  have hai : (a : Int) < (k : Int) + (m : Int) := by omega
  have hak : a < k + m := by omega
  generalize L 0 = len at *
  clear hA hA1 hA2 hg hd hD hev1
  go_enter Try.func29, Try.ntmps29
  go_wp2_with fail
  rw [show (k : Int) + (m : Int) = ((k + m : Nat) : Int) from by omega]
  refine CO.out.mono ?_
  rintro e w1 ⟨rfl, rfl⟩
  clear CO
  go_wp2_with fail
  refine (first_any k w (by omega)).mono ?_
  rintro e w2 ⟨AF, cF, rfl, hF, hb2⟩
  have HF := Lib.hid (hF.congr (g := fun i => .int .i64 ((el i).val : Nat)) fun i hi => by rw [el_val (by omega)])
  have HB2 := Lib.hid hb2
  have HA1 := Lib.hid (HA1.out.below hb2)
  have HA2 := Lib.hid (fun i hi => (HA2.out i hi).below hb2)
  have HD := Lib.hid (HD.out.below hb2)
  clear hF hb2 hx0
  go_wp2
  go_loopg [12, 14] (k + m) (fun gk v q wr => ∃ (i : Nat) (S : Nat → Option Addr) (C : Nat → Nat), i ≤ k + m ∧ gk = k + m - i ∧ q = .int .i64 i ∧ OwnM wr w2.heap.size 24 5 v i S C (fun _ => len) (fun i c => .int .u8 (tw k a g d i c : Nat)) ∧ Below w2.heap.size w2 wr)
  case atStart => exact ⟨0, fun _ => none, fun _ => 0, Nat.zero_le _, rfl, rfl, OwnM.nil _ _ _ _ _ _ _ _, Below.refl _ _⟩
  case round =>
    obtain ⟨i, S, C, hi, rfl, rfl, hOM, hb⟩ := hrel
    have HOM := Lib.hid hOM; have HBWI0 := Lib.hid hb
    have hszi0 := hb.size
    clear hOM hb
    by_cases hlt : i < k + m
    · have hii : (i : Int) < (k : Int) + (m : Int) := by omega
      by_cases hik : i < k
      · have hd2 : ¬ k ≤ i := by omega
        go_wp2
        obtain ⟨wi, rfl⟩ : ∃ wi : World, wi = wr := ⟨_, rfl⟩
        have HBI : Hid (Below wi.heap.size wi wi) := Below.refl _ _
        have HBWI := Lib.hid HBWI0.out
        have hszi := hszi0
        go_loopg [16, 17, 18] len (fun gk v q _ wr => ∃ c : Nat, c ≤ len ∧ gk = len - c ∧ q = .int .i64 c ∧ Own wr wi.heap.size 5 1 v c (fun c' => [.int .u8 (tw k a g d i c' : Nat)]) ∧ Below wi.heap.size wi wr)
        case atStart => exact ⟨0, Nat.zero_le _, rfl, rfl, Own.nil _ _ _ _ _, HBI.out⟩
        case round =>
          clear HBI
          obtain ⟨c, hc, rfl, rfl, hO, hbc⟩ := hrel
          have HO := Lib.hid hO; have HBC := Lib.hid hbc
          have hszc := hbc.size
          have HBW := Lib.hid (HBWI.out.trans (hbc.mono HBWI.out.size))
          clear hO hbc
          by_cases hlc : c < len
          · obtain ⟨b3, o3, hS3, hb3, hx3⟩ := HA2.out i hlt c hlc
            obtain ⟨b4, o4, hS4, hb4, hx4⟩ := HA2.out a (by omega) c hlc
            obtain ⟨b5, o5, rfl, hb5, hx5⟩ := HD.out c hlc
            obtain ⟨_, _, e2, hbi, hxi⟩ := HA1.out i hlt
            injection e2 with e2
            injection e2 with e2 e3 _
            subst e2 e3
            obtain ⟨_, _, e2, hba, hxa⟩ := HA1.out a (by omega)
            injection e2 with e2
            injection e2 with e2 e3 _
            subst e2 e3
            have q1 : wr.cell? ⟨b0, o0 + i, none⟩ = some (.slice (some ⟨b3, o3, none⟩) len (CA i)) := by rw [← hS3]; exact (HBW.out.cell hbi).trans hxi
            have q2 : wr.cell? ⟨b3, o3 + c, none⟩ = some (.int .u8 (g i c : Nat)) := (HBW.out.cell hb3).trans hx3
            have q3 : wr.cell? ⟨b0, o0 + a, none⟩ = some (.slice (some ⟨b4, o4, none⟩) len (CA a)) := by rw [← hS4]; exact (HBW.out.cell hba).trans hxa
            have q4 : wr.cell? ⟨b4, o4 + c, none⟩ = some (.int .u8 (g a c : Nat)) := (HBW.out.cell hb4).trans hx4
            have q5 : wr.cell? ⟨b5, o5 + c, none⟩ = some (.int .u8 (d c : Nat)) := (HBW.out.cell hb5).trans hx5
            have q6 : wr.drew.cell? ⟨b5, o5 + c, none⟩ = some (.int .u8 (d c : Nat)) := q5
            have hX := el_val (HG.out i hlt c hlc)
            have hY := el_val (HG.out a (by omega) c hlc)
            have hZ := el_val (HDd.out c hlc)
            have hxl := HG.out i hlt c hlc
            have hzl := HDd.out c hlc
            have hXO : bits .xor .u8 (g a c : Nat) (d c : Nat) = (((gE.a (el (g a c)) (el (d c))).val : Nat) : Int) := by
              have h := xor_el8 (el (g a c)) (el (d c))
              rw [hY, hZ] at h
              exact h
            have hXM : bits .xor .i64 (g i c : Nat) ((gE.m (gE.z) (gE.a (el (g a c)) (el (d c)))).val : Nat) = (((gE.a (el (g i c)) (gE.m (gE.z) (gE.a (el (g a c)) (el (d c))))).val : Nat) : Int) := by
              have h := xor_el (el (g i c)) (gE.m (gE.z) (gE.a (el (g a c)) (el (d c))))
              rw [hX] at h
              exact h
            have hRRl := (gE.a (el (g i c)) (gE.m (gE.z) (gE.a (el (g a c)) (el (d c))))).isLt
            have HTW : Hid ((i = a → d c = tw k a g d i c) ∧ (i ≠ a → (gE.a (el (g i c)) (gE.m (gE.z) (gE.a (el (g a c)) (el (d c))))).val = tw k a g d i c)) := ⟨fun e => by unfold tw; rw [if_pos e], fun e => by
              unfold tw
              rw [if_neg e]
              rw [if_pos hik, gE.z_m, gE.a_z]; exact el_val (HG.out i hlt c hlc)⟩
            have CT := Lib.hid (fun w => rtimes_any (gE.z) (gE.a (el (g a c)) (el (d c))) w)
            generalize hRR : (gE.a (el (g i c)) (gE.m (gE.z) (gE.a (el (g a c)) (el (d c))))).val = RR at *
            generalize hMM : (gE.m (gE.z) (gE.a (el (g a c)) (el (d c)))).val = MM at *
            generalize hYZ : (gE.a (el (g a c)) (el (d c))) = YZ at *
            generalize hTT : tw k a g d i c = T at *
            have HTT := Lib.hid hTT
            clear hRR hMM hYZ hTT hX hY hZ hS3 hS4 hx3 hx4 hx5 hxi hxa
            generalize hgx : g i c = x at *
            generalize hgy : g a c = y at *
            generalize hgz : d c = z at *
            clear hgx hgy hgz
            have hYl := YZ.isLt
            have KS : Hid (wr.cell? ⟨b0, o0 + i, none⟩ = some (.slice (some ⟨b3, o3, none⟩) len (CA i)) ∧ wr.cell? ⟨b3, o3 + c, none⟩ = some (.int .u8 (x : Nat)) ∧ wr.cell? ⟨b0, o0 + a, none⟩ = some (.slice (some ⟨b4, o4, none⟩) len (CA a)) ∧ wr.cell? ⟨b4, o4 + c, none⟩ = some (.int .u8 (y : Nat)) ∧ wr.cell? ⟨b5, o5 + c, none⟩ = some (.int .u8 (z : Nat))) := ⟨q1, q2, q3, q4, q5⟩
            have hwx : IntKind.i64.wrap (x : Int) = (x : Int) := i64_small _ (by omega) (by omega)
            have hwz : IntKind.i64.wrap (z : Int) = (z : Int) := i64_small _ (by omega) (by omega)
            have hTl : T < 256 := by
              by_cases e : i = a
              · rw [← HTW.out.1 e]; exact hzl
              · rw [← HTW.out.2 e]; exact hRRl
            have hU : IntKind.u8.wrap (T : Int) = (T : Int) := by rw [IntKind.wrap_u8]; omega
            by_cases hia : i = a
            · have hzT : z = T := HTW.out.1 hia
              have t1 : ((i : Int) == (a : Int)) = true := by rw [hia]; simp
              subst hzT
              have HIA := Lib.hid hia
              clear hia
              go_wp2_with fail
              clear q1 q2 q3 q4
              refine wp_region_mix [(true, true, false), (true, true, false), (true, true, false), (true, true, true), (true, true, false), (true, true, false), (true, true, true), (true, true, false), (true, true, false), (true, true, false), (true, true, false), (true, true, false), (true, true, true), (true, true, false), (true, true, false), (true, true, true), (true, true, false), (true, true, false), (true, true, false), (true, true, true), (true, true, false), (true, true, false), (false, false, false), (false, true, false), (false, false, true)] mixed (by kernel_rfl) (fun w4 => w4.cell? ⟨b0, o0 + i, none⟩ = some (.slice (some ⟨b3, o3, none⟩) len (CA i)) ∧ w4.cell? ⟨b3, o3 + c, none⟩ = some (.int .u8 (x : Nat)) ∧ w4.cell? ⟨b0, o0 + a, none⟩ = some (.slice (some ⟨b4, o4, none⟩) len (CA a)) ∧ w4.cell? ⟨b4, o4 + c, none⟩ = some (.int .u8 (y : Nat)) ∧ w4.cell? ⟨b5, o5 + c, none⟩ = some (.int .u8 (z : Nat))) (KS.out) ?_
              intro hSw0
              simp only [hdM, tlM, List.cons_append, List.nil_append]
              repeat (first
                | (refine mix_look hSw0.out ?_ (by rfl) (fun w4 hSw => ?_) ?_; rotate_left; (focus (obtain ⟨s1, s2, s3, s4, s5⟩ := hSw; go_simp; try with_reducible rfl)); simp only [Act.put, List.setIfInBounds_toArray, List.set_cons_zero, List.set_cons_succ])
                | (refine mix_pure ?_ (by rfl) (fun w4 => ?_) ?_; rotate_left; (focus (go_simp; try with_reducible rfl)); simp only [Act.put, List.setIfInBounds_toArray, List.set_cons_zero, List.set_cons_succ]))
              refine mix_step (fun K hK => ?_)
              go_simp
              rw [i64_small (YZ.val : Int) (by omega) (by omega)]
              refine (CT.out _).mono ?_
              rintro e w5 ⟨rfl, rfl⟩
              dsimp only
              refine hK.out _ _ (fun _ h => h) ?_
              clear hK K
              try simp only [Act.put, List.setIfInBounds_toArray, List.set_cons_zero, List.set_cons_succ]
              repeat (refine mix_pure ?_ (by rfl) (fun w4 => ?_) ?_; rotate_left; (focus (go_simp; try with_reducible rfl)); simp only [Act.put, List.setIfInBounds_toArray, List.set_cons_zero, List.set_cons_succ])
              refine mix_step (fun K hK => ?_)
              go_simp
              refine hK.out _ _ (fun _ h => h) ?_
              clear hK K
              try simp only [Act.put, List.setIfInBounds_toArray, List.set_cons_zero, List.set_cons_succ]
              refine mix_nil ?_
              go_wp2_with (at_builtin; change wpList _ _ _ _ _ (World.alloc wr.drew _); refine wpList_push wr.drew rfl (.tmp 101) (.tmp 104) 24 rfl wi.heap.size 5 1 1 (.int .u8 0) #[.int .u8 (z : Nat)] Try.underlying24 byteInfo rfl (by decide) _ c _ rfl (HO.out.kept (Below.refl _ _).drew) (by exact hszc) _ rfl rfl (by show [Value.int .u8 ((z : Nat) : Int)] = [Value.int .u8 ((tw k a g d i c : Nat) : Int)]; rw [HTT.out]) rfl rfl (by omega) (by omega) ?_)
              intro v2 w6 hO6 hb6 _ _
              have HO6 := Lib.hid hO6; have HB6 := Lib.hid (HBC.out.drew.trans hb6)
              clear hO6 hb6 HO HBC q5 q6
              go_wp2
              go_roundg (len - (c + 1))
              case measure => omega
              case rel => exact ⟨c + 1, by omega, rfl, by go_num, HO6.out, HB6.out⟩
            · have hRT : RR = T := HTW.out.2 hia
              have t1 : ((i : Int) == (a : Int)) = false := by rw [beq_eq_false_iff_ne]; omega
              subst hRT
              have HIA := Lib.hid hia
              clear hia
              go_wp2_with fail
              clear q1 q2 q3 q4
              refine wp_region_mix [(true, true, false), (true, true, false), (true, true, false), (true, true, true), (true, true, false), (true, true, false), (true, true, true), (true, true, false), (true, true, false), (true, true, false), (true, true, false), (true, true, false), (true, true, true), (true, true, false), (true, true, false), (true, true, true), (true, true, false), (true, true, false), (true, true, false), (true, true, true), (true, true, false), (true, true, false), (false, false, false), (false, true, false), (false, false, true)] mixed (by kernel_rfl) (fun w4 => w4.cell? ⟨b0, o0 + i, none⟩ = some (.slice (some ⟨b3, o3, none⟩) len (CA i)) ∧ w4.cell? ⟨b3, o3 + c, none⟩ = some (.int .u8 (x : Nat)) ∧ w4.cell? ⟨b0, o0 + a, none⟩ = some (.slice (some ⟨b4, o4, none⟩) len (CA a)) ∧ w4.cell? ⟨b4, o4 + c, none⟩ = some (.int .u8 (y : Nat)) ∧ w4.cell? ⟨b5, o5 + c, none⟩ = some (.int .u8 (z : Nat))) (KS.out) ?_
              intro hSw0
              simp only [hdM, tlM, List.cons_append, List.nil_append]
              repeat (first
                | (refine mix_look hSw0.out ?_ (by rfl) (fun w4 hSw => ?_) ?_; rotate_left; (focus (obtain ⟨s1, s2, s3, s4, s5⟩ := hSw; go_simp; try with_reducible rfl)); simp only [Act.put, List.setIfInBounds_toArray, List.set_cons_zero, List.set_cons_succ])
                | (refine mix_pure ?_ (by rfl) (fun w4 => ?_) ?_; rotate_left; (focus (go_simp; try with_reducible rfl)); simp only [Act.put, List.setIfInBounds_toArray, List.set_cons_zero, List.set_cons_succ]))
              refine mix_step (fun K hK => ?_)
              go_simp
              rw [i64_small (YZ.val : Int) (by omega) (by omega)]
              refine (CT.out _).mono ?_
              rintro e w5 ⟨rfl, rfl⟩
              dsimp only
              refine hK.out _ _ (fun _ h => h) ?_
              clear hK K
              try simp only [Act.put, List.setIfInBounds_toArray, List.set_cons_zero, List.set_cons_succ]
              repeat (refine mix_pure ?_ (by rfl) (fun w4 => ?_) ?_; rotate_left; (focus (go_simp; try with_reducible rfl)); simp only [Act.put, List.setIfInBounds_toArray, List.set_cons_zero, List.set_cons_succ])
              refine mix_step (fun K hK => ?_)
              go_simp
              refine hK.out _ _ (fun _ h => h) ?_
              clear hK K
              try simp only [Act.put, List.setIfInBounds_toArray, List.set_cons_zero, List.set_cons_succ]
              refine mix_nil ?_
              go_wp2_with (at_builtin; change wpList _ _ _ _ _ (World.alloc wr.drew _); refine wpList_push wr.drew rfl (.tmp 101) (.tmp 104) 24 rfl wi.heap.size 5 1 1 (.int .u8 0) #[.int .u8 (RR : Nat)] Try.underlying24 byteInfo rfl (by decide) _ c _ rfl (HO.out.kept (Below.refl _ _).drew) (by exact hszc) _ rfl rfl (by show [Value.int .u8 ((RR : Nat) : Int)] = [Value.int .u8 ((tw k a g d i c : Nat) : Int)]; rw [HTT.out]) rfl rfl (by omega) (by omega) ?_)
              intro v2 w6 hO6 hb6 _ _
              have HO6 := Lib.hid hO6; have HB6 := Lib.hid (HBC.out.drew.trans hb6)
              clear hO6 hb6 HO HBC q5 q6
              go_wp2
              go_roundg (len - (c + 1))
              case measure => omega
              case rel => exact ⟨c + 1, by omega, rfl, by go_num, HO6.out, HB6.out⟩
          · have hcl : c = len := by omega
            subst c
            obtain ⟨Av, cv, rfl, _, _, _, _⟩ := HO.out.rd
            have hownB := (HOM.out.kept HBC.out).next Av cv
            have hr : Own wr w2.heap.size 5 1 (.slice (upd S i Av i) len (upd C i cv i)) len (fun c' => [.int .u8 (tw k a g d i c' : Nat)]) := by
              rw [upd_at, upd_at]; exact HO.out.mono hszi
            have hu : Hid ((#[Value.slice Av len cv] : Array Value).toList = [.slice (upd S i Av i) len (upd C i cv i)]) := by rw [upd_at, upd_at]; rfl
            have hsz1 := HBW.out.size
            have HR := Lib.hid hr
            clear hr HO HBC
            go_wp2_with (at_builtin; refine wpList_push _ rfl (.tmp 106) (.tmp 108) 23 rfl w2.heap.size 24 1 24 (.slice none 0 0) #[.slice Av len cv] Try.underlying23 bytesInfo rfl (by decide) _ i _ rfl hownB.1 hsz1 _ rfl rfl hu.out rfl rfl (by omega) (by omega) ?_)
            intro v' w6 hown2 hbel2 hg2 _
            have hO2 := hownB.push (by decide) HR.out hown2 hg2
            have hbF := HBW.out.trans hbel2
            clear hownB HR hown2 hg2 hbel2 HBW
            go_wp2
            go_roundg (k + m - (i + 1))
            case measure => omega
            case rel => exact ⟨i + 1, _, _, by omega, rfl, by go_num, hO2, hbF⟩
      · have hge : k ≤ i := by omega
        have CSH := Lib.hid (shares_any AF k cF el (el i) wr (by omega) (HF.out.below HBWI0.out))
        rw [el_val (show i < 256 by omega)] at CSH
        go_wp2_with fail
        refine CSH.out.mono ?_
        rintro e wi ⟨bs, o, rfl, hbs, hrow, hsh, hb5⟩
        have ho := ShP_first (n := k + m) (by omega) (by omega) hlt hsh a (by omega)
        have hca := hrow.cell ha
        rw [ho] at hca
        have HBI : Hid (Below wi.heap.size wi wi) := Below.refl _ _
        have HOM := Lib.hid (HOM.out.kept hb5)
        have HBWI := Lib.hid (HBWI0.out.trans (hb5.mono hszi0))
        have hszi := HBWI.out.size
        clear hrow hsh ho hb5 CSH
        go_wp2
        clear hca
        go_loopg [16, 17, 18] len (fun gk v q _ wr => ∃ c : Nat, c ≤ len ∧ gk = len - c ∧ q = .int .i64 c ∧ Own wr wi.heap.size 5 1 v c (fun c' => [.int .u8 (tw k a g d i c' : Nat)]) ∧ Below wi.heap.size wi wr)
        case atStart => exact ⟨0, Nat.zero_le _, rfl, rfl, Own.nil _ _ _ _ _, HBI.out⟩
        case round =>
          clear HBI
          obtain ⟨c, hc, rfl, rfl, hO, hbc⟩ := hrel
          have HO := Lib.hid hO; have HBC := Lib.hid hbc
          have hszc := hbc.size
          have HBW := Lib.hid (HBWI.out.trans (hbc.mono HBWI.out.size))
          clear hO hbc
          by_cases hlc : c < len
          · obtain ⟨b3, o3, hS3, hb3, hx3⟩ := HA2.out i hlt c hlc
            obtain ⟨b4, o4, hS4, hb4, hx4⟩ := HA2.out a (by omega) c hlc
            obtain ⟨b5, o5, rfl, hb5, hx5⟩ := HD.out c hlc
            obtain ⟨_, _, e2, hbi, hxi⟩ := HA1.out i hlt
            injection e2 with e2
            injection e2 with e2 e3 _
            subst e2 e3
            obtain ⟨_, _, e2, hba, hxa⟩ := HA1.out a (by omega)
            injection e2 with e2
            injection e2 with e2 e3 _
            subst e2 e3
            have q1 : wr.cell? ⟨b0, o0 + i, none⟩ = some (.slice (some ⟨b3, o3, none⟩) len (CA i)) := by rw [← hS3]; exact (HBW.out.cell hbi).trans hxi
            have q2 : wr.cell? ⟨b3, o3 + c, none⟩ = some (.int .u8 (g i c : Nat)) := (HBW.out.cell hb3).trans hx3
            have q3 : wr.cell? ⟨b0, o0 + a, none⟩ = some (.slice (some ⟨b4, o4, none⟩) len (CA a)) := by rw [← hS4]; exact (HBW.out.cell hba).trans hxa
            have q4 : wr.cell? ⟨b4, o4 + c, none⟩ = some (.int .u8 (g a c : Nat)) := (HBW.out.cell hb4).trans hx4
            have q5 : wr.cell? ⟨b5, o5 + c, none⟩ = some (.int .u8 (d c : Nat)) := (HBW.out.cell hb5).trans hx5
            have q6 : wr.drew.cell? ⟨b5, o5 + c, none⟩ = some (.int .u8 (d c : Nat)) := q5
            have hX := el_val (HG.out i hlt c hlc)
            have hY := el_val (HG.out a (by omega) c hlc)
            have hZ := el_val (HDd.out c hlc)
            have hxl := HG.out i hlt c hlc
            have hzl := HDd.out c hlc
            have hXO : bits .xor .u8 (g a c : Nat) (d c : Nat) = (((gE.a (el (g a c)) (el (d c))).val : Nat) : Int) := by
              have h := xor_el8 (el (g a c)) (el (d c))
              rw [hY, hZ] at h
              exact h
            have hXM : bits .xor .i64 (g i c : Nat) ((gE.m (gE.cM el k i a) (gE.a (el (g a c)) (el (d c)))).val : Nat) = (((gE.a (el (g i c)) (gE.m (gE.cM el k i a) (gE.a (el (g a c)) (el (d c))))).val : Nat) : Int) := by
              have h := xor_el (el (g i c)) (gE.m (gE.cM el k i a) (gE.a (el (g a c)) (el (d c))))
              rw [hX] at h
              exact h
            have hRRl := (gE.a (el (g i c)) (gE.m (gE.cM el k i a) (gE.a (el (g a c)) (el (d c))))).isLt
            have HTW : Hid ((i = a → d c = tw k a g d i c) ∧ (i ≠ a → (gE.a (el (g i c)) (gE.m (gE.cM el k i a) (gE.a (el (g a c)) (el (d c))))).val = tw k a g d i c)) := ⟨fun e => by unfold tw; rw [if_pos e], fun e => by
              unfold tw
              rw [if_neg e]
              rw [if_neg hik]⟩
            have CT := Lib.hid (fun w => rtimes_any (gE.cM el k i a) (gE.a (el (g a c)) (el (d c))) w)
            generalize hRR : (gE.a (el (g i c)) (gE.m (gE.cM el k i a) (gE.a (el (g a c)) (el (d c))))).val = RR at *
            generalize hMM : (gE.m (gE.cM el k i a) (gE.a (el (g a c)) (el (d c)))).val = MM at *
            generalize hYZ : (gE.a (el (g a c)) (el (d c))) = YZ at *
            generalize hTT : tw k a g d i c = T at *
            have HTT := Lib.hid hTT
            clear hRR hMM hYZ hTT hX hY hZ hS3 hS4 hx3 hx4 hx5 hxi hxa
            generalize hgx : g i c = x at *
            generalize hgy : g a c = y at *
            generalize hgz : d c = z at *
            clear hgx hgy hgz
            have hYl := YZ.isLt
            have KS : Hid (wr.cell? ⟨b0, o0 + i, none⟩ = some (.slice (some ⟨b3, o3, none⟩) len (CA i)) ∧ wr.cell? ⟨b3, o3 + c, none⟩ = some (.int .u8 (x : Nat)) ∧ wr.cell? ⟨b0, o0 + a, none⟩ = some (.slice (some ⟨b4, o4, none⟩) len (CA a)) ∧ wr.cell? ⟨b4, o4 + c, none⟩ = some (.int .u8 (y : Nat)) ∧ wr.cell? ⟨b5, o5 + c, none⟩ = some (.int .u8 (z : Nat))) := ⟨q1, q2, q3, q4, q5⟩
            have hwx : IntKind.i64.wrap (x : Int) = (x : Int) := i64_small _ (by omega) (by omega)
            have hwz : IntKind.i64.wrap (z : Int) = (z : Int) := i64_small _ (by omega) (by omega)
            have hTl : T < 256 := by
              by_cases e : i = a
              · rw [← HTW.out.1 e]; exact hzl
              · rw [← HTW.out.2 e]; exact hRRl
            have hU : IntKind.u8.wrap (T : Int) = (T : Int) := by rw [IntKind.wrap_u8]; omega
            by_cases hia : i = a
            · have hzT : z = T := HTW.out.1 hia
              have t1 : ((i : Int) == (a : Int)) = true := by rw [hia]; simp
              subst hzT
              have HIA := Lib.hid hia
              clear hia
              go_wp2_with fail
              clear q1 q2 q3 q4
              refine wp_region_mix [(true, true, false), (true, true, false), (true, true, false), (true, true, true), (true, true, false), (true, true, false), (true, true, true), (true, true, false), (true, true, false), (true, true, false), (true, true, false), (true, true, false), (true, true, true), (true, true, false), (true, true, false), (true, true, true), (true, true, false), (true, true, false), (true, true, false), (true, true, true), (true, true, false), (true, true, false), (false, false, false), (false, true, false), (false, false, true)] mixed (by kernel_rfl) (fun w4 => w4.cell? ⟨b0, o0 + i, none⟩ = some (.slice (some ⟨b3, o3, none⟩) len (CA i)) ∧ w4.cell? ⟨b3, o3 + c, none⟩ = some (.int .u8 (x : Nat)) ∧ w4.cell? ⟨b0, o0 + a, none⟩ = some (.slice (some ⟨b4, o4, none⟩) len (CA a)) ∧ w4.cell? ⟨b4, o4 + c, none⟩ = some (.int .u8 (y : Nat)) ∧ w4.cell? ⟨b5, o5 + c, none⟩ = some (.int .u8 (z : Nat))) (KS.out) ?_
              intro hSw0
              simp only [hdM, tlM, List.cons_append, List.nil_append]
              repeat (first
                | (refine mix_look hSw0.out ?_ (by rfl) (fun w4 hSw => ?_) ?_; rotate_left; (focus (obtain ⟨s1, s2, s3, s4, s5⟩ := hSw; go_simp; try with_reducible rfl)); simp only [Act.put, List.setIfInBounds_toArray, List.set_cons_zero, List.set_cons_succ])
                | (refine mix_pure ?_ (by rfl) (fun w4 => ?_) ?_; rotate_left; (focus (go_simp; try with_reducible rfl)); simp only [Act.put, List.setIfInBounds_toArray, List.set_cons_zero, List.set_cons_succ]))
              refine mix_step (fun K hK => ?_)
              go_simp
              rw [i64_small (YZ.val : Int) (by omega) (by omega)]
              refine (CT.out _).mono ?_
              rintro e w5 ⟨rfl, rfl⟩
              dsimp only
              refine hK.out _ _ (fun _ h => h) ?_
              clear hK K
              try simp only [Act.put, List.setIfInBounds_toArray, List.set_cons_zero, List.set_cons_succ]
              repeat (refine mix_pure ?_ (by rfl) (fun w4 => ?_) ?_; rotate_left; (focus (go_simp; try with_reducible rfl)); simp only [Act.put, List.setIfInBounds_toArray, List.set_cons_zero, List.set_cons_succ])
              refine mix_step (fun K hK => ?_)
              go_simp
              refine hK.out _ _ (fun _ h => h) ?_
              clear hK K
              try simp only [Act.put, List.setIfInBounds_toArray, List.set_cons_zero, List.set_cons_succ]
              refine mix_nil ?_
              go_wp2_with (at_builtin; change wpList _ _ _ _ _ (World.alloc wr.drew _); refine wpList_push wr.drew rfl (.tmp 101) (.tmp 104) 24 rfl wi.heap.size 5 1 1 (.int .u8 0) #[.int .u8 (z : Nat)] Try.underlying24 byteInfo rfl (by decide) _ c _ rfl (HO.out.kept (Below.refl _ _).drew) (by exact hszc) _ rfl rfl (by show [Value.int .u8 ((z : Nat) : Int)] = [Value.int .u8 ((tw k a g d i c : Nat) : Int)]; rw [HTT.out]) rfl rfl (by omega) (by omega) ?_)
              intro v2 w6 hO6 hb6 _ _
              have HO6 := Lib.hid hO6; have HB6 := Lib.hid (HBC.out.drew.trans hb6)
              clear hO6 hb6 HO HBC q5 q6
              go_wp2
              go_roundg (len - (c + 1))
              case measure => omega
              case rel => exact ⟨c + 1, by omega, rfl, by go_num, HO6.out, HB6.out⟩
            · have hRT : RR = T := HTW.out.2 hia
              have t1 : ((i : Int) == (a : Int)) = false := by rw [beq_eq_false_iff_ne]; omega
              subst hRT
              have HIA := Lib.hid hia
              clear hia
              go_wp2_with fail
              clear q1 q2 q3 q4
              refine wp_region_mix [(true, true, false), (true, true, false), (true, true, false), (true, true, true), (true, true, false), (true, true, false), (true, true, true), (true, true, false), (true, true, false), (true, true, false), (true, true, false), (true, true, false), (true, true, true), (true, true, false), (true, true, false), (true, true, true), (true, true, false), (true, true, false), (true, true, false), (true, true, true), (true, true, false), (true, true, false), (false, false, false), (false, true, false), (false, false, true)] mixed (by kernel_rfl) (fun w4 => w4.cell? ⟨b0, o0 + i, none⟩ = some (.slice (some ⟨b3, o3, none⟩) len (CA i)) ∧ w4.cell? ⟨b3, o3 + c, none⟩ = some (.int .u8 (x : Nat)) ∧ w4.cell? ⟨b0, o0 + a, none⟩ = some (.slice (some ⟨b4, o4, none⟩) len (CA a)) ∧ w4.cell? ⟨b4, o4 + c, none⟩ = some (.int .u8 (y : Nat)) ∧ w4.cell? ⟨b5, o5 + c, none⟩ = some (.int .u8 (z : Nat))) (KS.out) ?_
              intro hSw0
              simp only [hdM, tlM, List.cons_append, List.nil_append]
              repeat (first
                | (refine mix_look hSw0.out ?_ (by rfl) (fun w4 hSw => ?_) ?_; rotate_left; (focus (obtain ⟨s1, s2, s3, s4, s5⟩ := hSw; go_simp; try with_reducible rfl)); simp only [Act.put, List.setIfInBounds_toArray, List.set_cons_zero, List.set_cons_succ])
                | (refine mix_pure ?_ (by rfl) (fun w4 => ?_) ?_; rotate_left; (focus (go_simp; try with_reducible rfl)); simp only [Act.put, List.setIfInBounds_toArray, List.set_cons_zero, List.set_cons_succ]))
              refine mix_step (fun K hK => ?_)
              go_simp
              rw [i64_small (YZ.val : Int) (by omega) (by omega)]
              refine (CT.out _).mono ?_
              rintro e w5 ⟨rfl, rfl⟩
              dsimp only
              refine hK.out _ _ (fun _ h => h) ?_
              clear hK K
              try simp only [Act.put, List.setIfInBounds_toArray, List.set_cons_zero, List.set_cons_succ]
              repeat (refine mix_pure ?_ (by rfl) (fun w4 => ?_) ?_; rotate_left; (focus (go_simp; try with_reducible rfl)); simp only [Act.put, List.setIfInBounds_toArray, List.set_cons_zero, List.set_cons_succ])
              refine mix_step (fun K hK => ?_)
              go_simp
              refine hK.out _ _ (fun _ h => h) ?_
              clear hK K
              try simp only [Act.put, List.setIfInBounds_toArray, List.set_cons_zero, List.set_cons_succ]
              refine mix_nil ?_
              go_wp2_with (at_builtin; change wpList _ _ _ _ _ (World.alloc wr.drew _); refine wpList_push wr.drew rfl (.tmp 101) (.tmp 104) 24 rfl wi.heap.size 5 1 1 (.int .u8 0) #[.int .u8 (RR : Nat)] Try.underlying24 byteInfo rfl (by decide) _ c _ rfl (HO.out.kept (Below.refl _ _).drew) (by exact hszc) _ rfl rfl (by show [Value.int .u8 ((RR : Nat) : Int)] = [Value.int .u8 ((tw k a g d i c : Nat) : Int)]; rw [HTT.out]) rfl rfl (by omega) (by omega) ?_)
              intro v2 w6 hO6 hb6 _ _
              have HO6 := Lib.hid hO6; have HB6 := Lib.hid (HBC.out.drew.trans hb6)
              clear hO6 hb6 HO HBC q5 q6
              go_wp2
              go_roundg (len - (c + 1))
              case measure => omega
              case rel => exact ⟨c + 1, by omega, rfl, by go_num, HO6.out, HB6.out⟩
          · have hcl : c = len := by omega
            subst c
            obtain ⟨Av, cv, rfl, _, _, _, _⟩ := HO.out.rd
            have hownB := (HOM.out.kept HBC.out).next Av cv
            have hr : Own wr w2.heap.size 5 1 (.slice (upd S i Av i) len (upd C i cv i)) len (fun c' => [.int .u8 (tw k a g d i c' : Nat)]) := by
              rw [upd_at, upd_at]; exact HO.out.mono hszi
            have hu : Hid ((#[Value.slice Av len cv] : Array Value).toList = [.slice (upd S i Av i) len (upd C i cv i)]) := by rw [upd_at, upd_at]; rfl
            have hsz1 := HBW.out.size
            have HR := Lib.hid hr
            clear hr HO HBC
            go_wp2_with (at_builtin; refine wpList_push _ rfl (.tmp 106) (.tmp 108) 23 rfl w2.heap.size 24 1 24 (.slice none 0 0) #[.slice Av len cv] Try.underlying23 bytesInfo rfl (by decide) _ i _ rfl hownB.1 hsz1 _ rfl rfl hu.out rfl rfl (by omega) (by omega) ?_)
            intro v' w6 hown2 hbel2 hg2 _
            have hO2 := hownB.push (by decide) HR.out hown2 hg2
            have hbF := HBW.out.trans hbel2
            clear hownB HR hown2 hg2 hbel2 HBW
            go_wp2
            go_roundg (k + m - (i + 1))
            case measure => omega
            case rel => exact ⟨i + 1, _, _, by omega, rfl, by go_num, hO2, hbF⟩
    · have hin : i = k + m := by omega
      subst i
      obtain ⟨A', c', hv, _, hR⟩ := HOM.out.rdm
      subst hv
      have HR := Lib.hid hR
      clear hR
      go_wp2
      go_ret2
      exact ⟨A', c', rfl, HR.out, HB2.out.trans (HBWI0.out.mono HB2.out.size)⟩
end Go.Proofs.Ythodpgkelmalmaa
