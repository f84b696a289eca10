/- none, even, add, product, Encode of the program's code: the walks. Conditions: lengths that memory bears. -/
import Derived.Test.YtjaaldandgfkgaaCode1
import Derived.Test.YtjaaldandgfkgaaBesE
namespace Go.Proofs.Ytjaaldandgfkgaa
open Go.RowKit

theorem none_any (p k n : Nat) (w : World) (h : CodeAt w p k n) (hk : 0 < k) :
    Calls Try.prog 85 #[.pointer (some ⟨p, 0, none⟩)] w fun e w' => e = .returned (.bool false) ∧ w = w' := by
  have hc := h.ck
  have t1 : ((k : Int) == 0) = false := by rw [beq_eq_false_iff_ne]; omega
  clear h
  go_enter Try.func85, Try.ntmps85
  go_wp2
  go_ret
  exact ⟨rfl, rfl⟩
set_option maxHeartbeats 400000 in
theorem even_any (A : Option Addr) (n c : Nat) (L C : Nat → Nat) (S : Nat → Option Addr) (w : World) (hn : n ≤ 1000000000000000) (hA : Rd w A n (fun i => .slice (S i) (L i) (C i))) :
    Calls Try.prog 86 #[.slice A n c] w fun e w' => e = .returned (.bool (evB n L (L 0))) ∧ w = w' := by
  go_enter Try.func86, Try.ntmps86
  go_wp2
  go_loopg [4, 7] n (fun gk _ i wr => wr = w ∧ ∃ k : Nat, k ≤ n ∧ gk = n - k ∧ i = .int .i64 k ∧ ∀ i, i < k → L i = L 0)
  case atStart => exact ⟨rfl, 0, Nat.zero_le _, rfl, rfl, fun i hi => absurd hi (by omega)⟩
  case round =>
    obtain ⟨rfl, k, hk, rfl, rfl, hL⟩ := hrel
    have HL := Lib.hid hL; clear hL
    by_cases hlt : k < n
    · obtain ⟨b, o, rfl, hb, hc⟩ := hA k hlt
      obtain ⟨b', o', e, hb', hc0⟩ := hA 0 (by omega)
      injection e with e
      injection e with e e2 _
      subst e e2
      rw [Nat.add_zero] at hc0
      by_cases hx : L k = L 0
      · have t1 : ((L k : Int) != (L 0 : Int)) = false := by rw [hx]; simp
        have HX := Lib.hid hx; clear hx
        go_wp2
        go_roundg (n - (k + 1))
        case measure => omega
        case rel => exact ⟨rfl, k + 1, by omega, rfl, by go_num, fun i hi => by
          by_cases e : i = k
          · rw [e]; exact HX.out
          · exact HL.out i (by omega)⟩
      · have t1 : ((L k : Int) != (L 0 : Int)) = true := by rw [bne_iff_ne]; omega
        have HX := Lib.hid hx; clear hx
        go_wp2
        go_ret
        refine ⟨ret_bool ?_, rfl⟩
        cases he : evB n L (L 0)
        · rfl
        · exact absurd (evB_iff.1 he k hlt) HX.out
    · have hkn : k = n := by omega
      subst k
      go_wp2
      go_ret
      exact ⟨ret_bool (evB_iff.2 HL.out).symm, rfl⟩

theorem grown_setNew {w w' : World} {r : Option Nat} (h : w.grownBy w' r) {a : Addr} (ha : w.heap.size ≤ a.block) (v : Value) : w.grownBy (w'.setCell a v) r :=
  ⟨h.os, h.tape, h.output, by simpa using h.size, fun k hk hne => (Below.heap_setCell _ _ _ _ (fun e => by omega)).trans (h.block k hk hne)⟩
theorem zero256 (w : World) : (w.alloc (.cells Try.zeroCells175 175)).rowIs w.heap.size 175 256 (fun _ => .int .u8 0) := by
  have hz : Try.zeroCells175 = Array.replicate 256 (Value.int .u8 0) := by kernel_rfl
  rw [hz]
  have h := World.rowIs_alloc w (Array.replicate 256 (Value.int .u8 0)) 175 (fun _ => .int .u8 0) (by intro i hi; simp at hi; simp [hi])
  simpa using h
set_option maxRecDepth 40000 in
set_option maxHeartbeats 4000000 in
theorem add_any (g len cg c : Nat) (A : Option Addr) (T R : Nat → Fin 256) (x : Fin 256) (w : World) (hlen : len ≤ 140737488351232) (hT : w.rowIs g 5 len (fun c => .int .u8 ((T c).val : Nat))) (hA : Rd w A len (fun c => .int .u8 ((R c).val : Nat))) (hne : 0 < len → ∀ b o, A = some ⟨b, o, none⟩ → b ≠ g) :
    Calls Try.prog 106 #[.slice (some ⟨g, 0, none⟩) len cg, .slice A len c, .int .u8 (x.val : Int)] w fun e w' => e = .returned (.tuple #[]) ∧ w'.rowIs g 5 len (fun c => .int .u8 ((gE.a (T c) (gE.m x (R c))).val : Nat)) ∧ w.grownBy w' (some g) := by
  have HA := Lib.hid hA; have HNE := Lib.hid hne; have HT := Lib.hid hT
  clear hA hne hT
  by_cases h0 : x = gE.z
  · have t0 : ((x.val : Int) == 0) = true := by rw [h0]; rfl
    have H0 := Lib.hid h0; clear h0
    go_enter Try.func106, Try.ntmps106
    go_wp2
    go_end0
    exact ⟨rfl, HT.out.congr fun c _ => by rw [H0.out, gE.z_m, gE.a_z], World.grownBy.refl _ _⟩
  · have t0 : ((x.val : Int) == 0) = false := by rw [beq_eq_false_iff_ne]; intro e; exact h0 (Fin.ext (by show x.val = 0; omega))
    by_cases h1 : x = gE.u
    · have t1 : ((x.val : Int) == 1) = true := by rw [h1]; rfl
      have HM : Hid (∀ y, gE.m x y = y) := fun y => by rw [h1, gE.u_m]
      clear h0 h1
      go_enter Try.func106, Try.ntmps106
      go_wp2
      go_loopg [6, 7, 49] len (fun gk _ _ i wr => ∃ j : Nat, j ≤ len ∧ gk = len - j ∧ i = .int .i64 j ∧ wr.rowIs g 5 len (fun c => .int .u8 ((if c < j then gE.a (T c) (gE.m x (R c)) else T c).val : Nat)) ∧ w.grownBy wr (some g))
      case atStart => exact ⟨0, Nat.zero_le _, rfl, rfl, HT.out.congr fun c _ => by rw [if_neg (by omega)], World.grownBy.refl _ _⟩
      case round =>
        obtain ⟨j, hj, rfl, rfl, hQ, hg⟩ := hrel
        by_cases hlt : j < len
        · obtain ⟨b1, o1, hAe, hb1, hx1⟩ := HA.out j hlt
          have hbg : b1 ≠ g := HNE.out (by omega) b1 o1 hAe
          have hy1 : wr.cell? ⟨b1, o1 + j, none⟩ = some (.int .u8 ((R j).val : Nat)) := (grown_cell hg hb1 (by simpa using hbg)).trans hx1
          have hcl := hQ.cell hlt
          have hfz := hQ.frozen j
          rw [if_neg (Nat.lt_irrefl j)] at hcl
          have hXO := xor_el8 (T j) (gE.m x (R j))
          have HQ2 := Lib.hid ((hQ.set j (.int .u8 ((gE.a (T j) (gE.m x (R j))).val : Nat))).congr (g := (fun c => .int .u8 ((if c < j + 1 then gE.a (T c) (gE.m x (R c)) else T c).val : Nat))) fun c _ => by
          by_cases e : c = j
          · subst e; rw [if_pos rfl, if_pos (by omega)]
          · rw [if_neg e]
            by_cases e2 : c < j
            · rw [if_pos e2, if_pos (by omega)]
            · rw [if_neg e2, if_neg (by omega)])
          have HG2 := Lib.hid (hg.trans (grown_set (w := wr) (a := ⟨g, j, none⟩) rfl (.int .u8 ((gE.a (T j) (gE.m x (R j))).val : Nat))))
          subst hAe
          have HG := Lib.hid hg
          rw [HM.out] at hXO HQ2 HG2
          generalize (gE.a (T j) (R j)).val = Y at *
          generalize (T j).val = X at *
          clear hQ hg hx1
          go_wp2
          go_roundg (len - (j + 1))
          case measure => omega
          case rel => exact ⟨j + 1, by omega, rfl, by go_num, HQ2.out, HG2.out⟩
        · have hjl : j = len := by omega
          subst j
          have HQ := Lib.hid (hQ.congr (g := fun c => .int .u8 ((gE.a (T c) (gE.m x (R c))).val : Nat)) fun c hc => by rw [if_pos hc])
          have HG := Lib.hid hg
          clear hQ hg
          go_wp2
          go_end0
          exact ⟨rfl, HQ.out, HG.out⟩
    · have t1 : ((x.val : Int) == 1) = false := by rw [beq_eq_false_iff_ne]; intro e; exact h1 (Fin.ext (by show x.val = 1; omega))
      have CT := Lib.hid (fun (a b : Fin 256) w => tG_any a b w)
      clear h0 h1
      by_cases hsm : len < 256
      · have t2 : decide ((len : Int) < 256) = true := by simp; omega
        go_enter Try.func106, Try.ntmps106
        go_wp2
        go_loopg [8, 9, 68] len (fun gk _ _ i wr => ∃ j : Nat, j ≤ len ∧ gk = len - j ∧ i = .int .i64 j ∧ wr.rowIs g 5 len (fun c => .int .u8 ((if c < j then gE.a (T c) (gE.m x (R c)) else T c).val : Nat)) ∧ w.grownBy wr (some g))
        case atStart => exact ⟨0, Nat.zero_le _, rfl, rfl, HT.out.congr fun c _ => by rw [if_neg (by omega)], World.grownBy.refl _ _⟩
        case round =>
          obtain ⟨j, hj, rfl, rfl, hQ, hg⟩ := hrel
          by_cases hlt : j < len
          · obtain ⟨b1, o1, hAe, hb1, hx1⟩ := HA.out j hlt
            have hbg : b1 ≠ g := HNE.out (by omega) b1 o1 hAe
            have hy1 : wr.cell? ⟨b1, o1 + j, none⟩ = some (.int .u8 ((R j).val : Nat)) := (grown_cell hg hb1 (by simpa using hbg)).trans hx1
            have hcl := hQ.cell hlt
            have hfz := hQ.frozen j
            rw [if_neg (Nat.lt_irrefl j)] at hcl
            have hXO := xor_el8 (T j) (gE.m x (R j))
            have HQ2 := Lib.hid ((hQ.set j (.int .u8 ((gE.a (T j) (gE.m x (R j))).val : Nat))).congr (g := (fun c => .int .u8 ((if c < j + 1 then gE.a (T c) (gE.m x (R c)) else T c).val : Nat))) fun c _ => by
          by_cases e : c = j
          · subst e; rw [if_pos rfl, if_pos (by omega)]
          · rw [if_neg e]
            by_cases e2 : c < j
            · rw [if_pos e2, if_pos (by omega)]
            · rw [if_neg e2, if_neg (by omega)])
            have HG2 := Lib.hid (hg.trans (grown_set (w := wr) (a := ⟨g, j, none⟩) rfl (.int .u8 ((gE.a (T j) (gE.m x (R j))).val : Nat))))
            subst hAe
            have HG := Lib.hid hg
            have hU := u8_el (gE.m x (R j))
            generalize (gE.a (T j) (gE.m x (R j))).val = Y at *
            generalize (T j).val = X at *
            have KS : Hid (wr.cell? ⟨g, j, none⟩ = some (.int .u8 (X : Nat))) := hcl
            clear hQ hg hx1
            go_wp2_with fail
            refine wp_region_mix [(true, true, false), (true, true, false), (true, true, false), (true, true, true), (true, true, false), (true, true, false), (false, false, false), (false, true, false), (false, true, false), (false, false, true)] mixed (by kernel_rfl) (fun w4 => w4.cell? ⟨g, j, none⟩ = some (.int .u8 (X : Nat))) (KS.out) ?_
            intro hSw0
            simp only [hdM, tlM, List.cons_append, List.nil_append]
            repeat (first
              | (refine mix_look hSw0.out ?_ (by rfl) (fun w4 hSw => ?_) ?_; rotate_left; (focus (have s1 := hSw; go_simp; try with_reducible rfl)); simp only [Act.put, List.setIfInBounds_toArray, List.set_cons_zero, List.set_cons_succ])
              | (refine mix_pure ?_ (by rfl) (fun w4 => ?_) ?_; rotate_left; (focus (go_simp; try with_reducible rfl)); simp only [Act.put, List.setIfInBounds_toArray, List.set_cons_zero, List.set_cons_succ]))
            refine mix_step (fun K hK => ?_)
            go_simp
            refine (CT.out x (R j) _).mono ?_
            rintro e w5 ⟨rfl, rfl⟩
            dsimp only
            refine hK.out _ _ (fun _ h => h) ?_
            clear hK K
            try simp only [Act.put, List.setIfInBounds_toArray, List.set_cons_zero, List.set_cons_succ]
            repeat (refine mix_pure ?_ (by rfl) (fun w4 => ?_) ?_; rotate_left; (focus (go_simp; try with_reducible rfl)); simp only [Act.put, List.setIfInBounds_toArray, List.set_cons_zero, List.set_cons_succ])
            refine mix_step (fun K hK => ?_)
            go_simp
            refine hK.out _ _ (fun h => absurd h (by decide)) ?_
            clear hK K
            try simp only [Act.put, List.setIfInBounds_toArray, List.set_cons_zero, List.set_cons_succ]
            refine mix_nil ?_
            go_wp2
            go_roundg (len - (j + 1))
            case measure => omega
            case rel => exact ⟨j + 1, by omega, rfl, by go_num, HQ2.out.drew, HG2.out.trans (grown_drew _ _)⟩
          · have hjl : j = len := by omega
            subst j
            have HQ := Lib.hid (hQ.congr (g := fun c => .int .u8 ((gE.a (T c) (gE.m x (R c))).val : Nat)) fun c hc => by rw [if_pos hc])
            have HG := Lib.hid hg
            clear hQ hg
            go_wp2
            go_end0
            exact ⟨rfl, HQ.out, HG.out⟩
      · have t2 : decide ((len : Int) < 256) = false := by simp; omega
        have HZT := Lib.hid (zero256 w)
        have HZG : Hid (w.grownBy (w.alloc (.cells Try.zeroCells175 175)) (some g)) := ⟨rfl, rfl, rfl, by simp, fun k hk _ => Below.heap_alloc _ _ _ hk⟩
        have HZQ := Lib.hid (HT.out.alloc (.cells Try.zeroCells175 175))
        have hgl := HT.out.lt
        have hne : w.heap.size ≠ g := by omega
        go_enter Try.func106, Try.ntmps106
        go_wp2
        go_loopg [11, 14] 256 (fun gk _ i wr => ∃ j : Nat, j ≤ 256 ∧ gk = 256 - j ∧ i = .int .i64 j ∧ wr.rowIs g 5 len (fun c => .int .u8 ((T c).val : Nat)) ∧ wr.rowIs w.heap.size 175 256 (fun t => .int .u8 (if t < j then (gE.m x (el t)).val else 0 : Nat)) ∧ w.grownBy wr (some g))
        case atStart => exact ⟨0, Nat.zero_le _, rfl, rfl, HZQ.out, HZT.out.congr fun t _ => by rw [if_neg (by omega)]; rfl, HZG.out⟩
        case round =>
          clear HZT HZG HZQ
          obtain ⟨j, hj, rfl, rfl, hQ, hP, hg⟩ := hrel
          by_cases hlt : j < 256
          · have CJ := Lib.hid (fun w => CT.out x (el j) w)
            have hel : ((el j).val : Nat) = j := el_val hlt
            rw [hel] at CJ
            have hcv : IntKind.u8.wrap (j : Int) = (j : Int) := by rw [IntKind.wrap_u8]; omega
            have hU := u8_el (gE.m x (el j))
            have hcl := hP.cell hlt
            have hfz := hP.frozen j
            rw [if_neg (Nat.lt_irrefl j)] at hcl
            have HP2 := Lib.hid ((hP.set j (.int .u8 ((gE.m x (el j)).val : Nat))).congr (g := fun t => .int .u8 (if t < j + 1 then (gE.m x (el t)).val else 0 : Nat)) fun t _ => by
              by_cases e : t = j
              · subst e; rw [if_pos rfl, if_pos (by omega)]
              · rw [if_neg e]
                by_cases e2 : t < j
                · rw [if_pos e2, if_pos (by omega)]
                · rw [if_neg e2, if_neg (by omega)])
            have HQ2 := Lib.hid (hQ.setOther (a := ⟨w.heap.size, j, none⟩) (fun e => hne e.symm) (.int .u8 ((gE.m x (el j)).val : Nat)))
            have HG2 := Lib.hid (grown_setNew hg (a := ⟨w.heap.size, j, none⟩) (Nat.le_refl _) (.int .u8 ((gE.m x (el j)).val : Nat)))
            clear hQ hP hg hel
            go_wp2_with fail
            refine (CJ.out _).mono ?_
            rintro e w5 ⟨rfl, rfl⟩
            go_wp2
            go_roundg (256 - (j + 1))
            case measure => omega
            case rel => exact ⟨j + 1, by omega, rfl, by go_num, HQ2.out, HP2.out, HG2.out⟩
          · have hj256 : j = 256 := by omega
            subst hj256
            have HP := Lib.hid (hP.congr (g := fun t => .int .u8 ((gE.m x (el t)).val : Nat)) fun t ht => by rw [if_pos ht])
            have HQ := Lib.hid hQ; have HG := Lib.hid hg
            clear hQ hP hg
            go_wp2
            go_loopg [12, 13, 26] len (fun gk _ _ i wr => ∃ j : Nat, j ≤ len ∧ gk = len - j ∧ i = .int .i64 j ∧ wr.rowIs g 5 len (fun c => .int .u8 ((if c < j then gE.a (T c) (gE.m x (R c)) else T c).val : Nat)) ∧ wr.rowIs w.heap.size 175 256 (fun t => .int .u8 ((gE.m x (el t)).val : Nat)) ∧ w.grownBy wr (some g))
            case atStart => exact ⟨0, Nat.zero_le _, rfl, rfl, HQ.out.congr fun c _ => by rw [if_neg (by omega)], HP.out, HG.out⟩
            case round =>
              clear HQ HP HG
              obtain ⟨j, hj, rfl, rfl, hQ, hP, hg⟩ := hrel
              by_cases hlt : j < len
              · obtain ⟨b1, o1, hAe, hb1, hx1⟩ := HA.out j hlt
                have hbg : b1 ≠ g := HNE.out (by omega) b1 o1 hAe
                have hy1 : wr.cell? ⟨b1, o1 + j, none⟩ = some (.int .u8 ((R j).val : Nat)) := (grown_cell hg hb1 (by simpa using hbg)).trans hx1
                have hcl := hQ.cell hlt
                have hfz := hQ.frozen j
                rw [if_neg (Nat.lt_irrefl j)] at hcl
                have hXO := xor_el8 (T j) (gE.m x (R j))
                have HQ2 := Lib.hid ((hQ.set j (.int .u8 ((gE.a (T j) (gE.m x (R j))).val : Nat))).congr (g := (fun c => .int .u8 ((if c < j + 1 then gE.a (T c) (gE.m x (R c)) else T c).val : Nat))) fun c _ => by
          by_cases e : c = j
          · subst e; rw [if_pos rfl, if_pos (by omega)]
          · rw [if_neg e]
            by_cases e2 : c < j
            · rw [if_pos e2, if_pos (by omega)]
            · rw [if_neg e2, if_neg (by omega)])
                have HG2 := Lib.hid (hg.trans (grown_set (w := wr) (a := ⟨g, j, none⟩) rfl (.int .u8 ((gE.a (T j) (gE.m x (R j))).val : Nat))))
                subst hAe
                have HG := Lib.hid hg
                have hDl := (R j).isLt
                have q3 : wr.cell? ⟨w.heap.size, (R j).val, none⟩ = some (.int .u8 ((gE.m x (R j)).val : Nat)) := by
                  have h := hP.cell hDl
                  rw [show el (R j).val = R j from Fin.ext (el_val hDl)] at h
                  exact h
                have HP2 := Lib.hid (hP.setOther (a := ⟨g, j, none⟩) hne (.int .u8 ((gE.a (T j) (gE.m x (R j))).val : Nat)))
                generalize (gE.a (T j) (gE.m x (R j))).val = Y at *
                generalize (T j).val = X at *
                generalize htb : w.heap.size = tb at *
                have KS : Hid (wr.cell? ⟨g, j, none⟩ = some (.int .u8 (X : Nat)) ∧ wr.cell? ⟨tb, (R j).val, none⟩ = some (.int .u8 ((gE.m x (R j)).val : Nat))) := ⟨hcl, q3⟩
                have hD0 : (0 : Int) ≤ ((R j).val : Int) := by omega
                have hD1 : ((R j).val : Int) < 256 := by omega
                clear hQ hP hg hx1
                go_wp2_with fail
                clear q3
                refine wp_region_mix [(true, true, false), (true, true, false), (true, true, false), (true, true, true), (true, true, false), (true, true, false), (true, true, true), (true, true, false), (true, true, false), (false, false, true)] mixed (by kernel_rfl) (fun w4 => w4.cell? ⟨g, j, none⟩ = some (.int .u8 (X : Nat)) ∧ w4.cell? ⟨tb, (R j).val, none⟩ = some (.int .u8 ((gE.m x (R j)).val : Nat))) (KS.out) ?_
                intro hSw0
                simp only [hdM, tlM, List.cons_append, List.nil_append]
                repeat (first
                  | (refine mix_look hSw0.out ?_ (by rfl) (fun w4 hSw => ?_) ?_; rotate_left; (focus (obtain ⟨s1, s2⟩ := hSw; go_simp; try with_reducible rfl)); simp only [Act.put, List.setIfInBounds_toArray, List.set_cons_zero, List.set_cons_succ])
                  | (refine mix_pure ?_ (by rfl) (fun w4 => ?_) ?_; rotate_left; (focus (go_simp; try with_reducible rfl)); simp only [Act.put, List.setIfInBounds_toArray, List.set_cons_zero, List.set_cons_succ]))
                refine mix_step (fun K hK => ?_)
                go_simp
                refine hK.out _ _ (fun h => absurd h (by decide)) ?_
                clear hK K
                try simp only [Act.put, List.setIfInBounds_toArray, List.set_cons_zero, List.set_cons_succ]
                refine mix_nil ?_
                go_wp2
                go_roundg (len - (j + 1))
                case measure => omega
                case rel => exact ⟨j + 1, by omega, rfl, by go_num, HQ2.out.drew, HP2.out.drew, HG2.out.trans (grown_drew _ _)⟩
              · have hjl : j = len := by omega
                subst j
                have HQ := Lib.hid (hQ.congr (g := fun c => .int .u8 ((gE.a (T c) (gE.m x (R c))).val : Nat)) fun c hc => by rw [if_pos hc])
                have HG := Lib.hid hg
                clear hQ hg hP
                go_wp2
                go_end0
                exact ⟨rfl, HQ.out, HG.out⟩
end Go.Proofs.Ytjaaldandgfkgaa
