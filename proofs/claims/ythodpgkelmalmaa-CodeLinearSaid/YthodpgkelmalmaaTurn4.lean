/- Turn of both in every case. Conditions: lengths that memory bears. -/
import Derived.Test.YthodpgkelmalmaaTurn3
import Derived.Test.YthodpgkelmalmaaChk
namespace Go.Proofs.Ythodpgkelmalmaa
open Go.RowKit

set_option maxRecDepth 40000 in
set_option maxHeartbeats 800000 in
theorem pturn_any (p : Nat) (A Dd : Option Addr) (k n nr c nd cD : Nat) (a : Int) (L : Nat → Nat) (g : Nat → Nat → Nat) (d : Nat → Nat) (w : World) (hk : 0 < k) (hkn : k ≤ n) (hn : n ≤ 255) (hC : CodeAt w p k n) (hnr : nr ≤ 1000000000000000) (hL : ∀ i, i < nr → L i ≤ 140737488351232) (hg : ∀ i, i < nr → ∀ j, j < L i → g i j < 256) (hd : ∀ j, j < nd → d j < 256)
    (hA : RdM w A nr L (fun i j => .int .u8 (g i j))) (hD : Rd w Dd nd (fun j => .int .u8 (d j : Nat))) :
    Calls Try.prog 30 #[.pointer (some ⟨p, 0, none⟩), .slice A nr c, .int .i64 a, .slice Dd nd cD] w fun e w' => ∃ (er : Int) (A' : Option Addr) (R c' : Nat), e = .returned (.tuple #[.slice A' R c', .int .i64 er]) ∧ er = tuE n k nr L a nd ∧ R = (if er = 0 then n else 0) ∧ RdM w' A' R (fun _ => L 0) (fun i c => .int .u8 (tw k a.toNat g d i c : Nat)) ∧ Below w.heap.size w w' := by
  have CN := Lib.hid (none_any p k n w hC hk)
  have hck := hC.ck
  have hcn := hC.cn
  by_cases h1 : nr = n
  · subst h1
    obtain ⟨S, C, hA1, hA2⟩ := id hA
    obtain ⟨b0, o0, rfl, hb0, hx0⟩ := hA1 0 (by omega)
    rw [Nat.add_zero] at hx0
    have CE := Lib.hid (even_any (some ⟨b0, o0, none⟩) nr c L C S w (by omega) hA1)
    have HA := Lib.hid hA; have HL := Lib.hid hL; have HG := Lib.hid hg; have HDd := Lib.hid hd; have HD := Lib.hid hD
    have HC := Lib.hid hC
    have HBB : Hid (evB nr L (L 0) = true ↔ ∀ i, i < nr → L i = L 0) := evB_iff
    have HTU : Hid (tuE nr k nr L a nd = if evB nr L (L 0) then (if a < 0 ∨ (k : Int) ≤ a then 2 else if nd = L 0 then 0 else 41) else 41) := if_pos rfl
    clear hA hA1 hA2 hL hg hd hD hC
    generalize hbb : evB nr L (L 0) = bb at *
    clear hbb
    cases bb
    · have hw : (41 : Int) = tuE nr k nr L a nd := by rw [HTU.out]; rfl
      have HW := Lib.hid hw
      clear hw
      go_enter Try.func30, Try.ntmps30
      go_wp2_with fail
      refine CN.out.mono ?_
      rintro e w1 ⟨rfl, rfl⟩
      go_wp2_with fail
      refine CE.out.mono ?_
      rintro e w1 ⟨rfl, rfl⟩
      go_wp2
      go_ret2
      exact ⟨41, none, 0, 0, rfl, HW.out, rfl, RdM.zero _ _ _ _, Below.refl _ _⟩
    · have hev := HBB.out.1 rfl
      have HEV := Lib.hid hev
      by_cases hneg : a < 0
      · have hw : (2 : Int) = tuE nr k nr L a nd := by rw [HTU.out, if_pos rfl, if_pos (.inl hneg)]
        have HW := Lib.hid hw
        clear hw hev
        go_enter Try.func30, Try.ntmps30
        go_wp2_with fail
        refine CN.out.mono ?_
        rintro e w1 ⟨rfl, rfl⟩
        go_wp2_with fail
        refine CE.out.mono ?_
        rintro e w1 ⟨rfl, rfl⟩
        go_wp2
        go_ret2
        exact ⟨2, none, 0, 0, rfl, HW.out, rfl, RdM.zero _ _ _ _, Below.refl _ _⟩
      · by_cases hge : (k : Int) ≤ a
        · have hw : (2 : Int) = tuE nr k nr L a nd := by rw [HTU.out, if_pos rfl, if_pos (.inr hge)]
          have HW := Lib.hid hw
          clear hw hev
          go_enter Try.func30, Try.ntmps30
          go_wp2_with fail
          refine CN.out.mono ?_
          rintro e w1 ⟨rfl, rfl⟩
          go_wp2_with fail
          refine CE.out.mono ?_
          rintro e w1 ⟨rfl, rfl⟩
          go_wp2
          go_ret2
          exact ⟨2, none, 0, 0, rfl, HW.out, rfl, RdM.zero _ _ _ _, Below.refl _ _⟩
        · by_cases hnd : nd = L 0
          · obtain ⟨a, rfl⟩ := Int.eq_ofNat_of_zero_le (show 0 ≤ a by omega)
            have ha : a < k := by omega
            have hw : (0 : Int) = tuE nr k nr L a nd := by rw [HTU.out, if_pos rfl, if_neg (by omega), if_pos hnd]
            subst hnd
            refine (pturn_ok p (some ⟨b0, o0, none⟩) Dd k nr c a cD L g d w hk hkn hn ha (HL.out 0 (by omega)) (fun i hi j hj => HG.out i hi j (by rw [hev i hi]; exact hj)) HDd.out HC.out (HA.out.firstLen (Nat.le_refl _) hev) HD.out).mono ?_
            rintro e w' ⟨A', c', he, hR, hb⟩
            exact ⟨0, A', _, c', he, hw, rfl, hR, hb⟩
          · have hw : (41 : Int) = tuE nr k nr L a nd := by rw [HTU.out, if_pos rfl, if_neg (by omega), if_neg hnd]
            have HW := Lib.hid hw
            have t3 : ((nd : Int) != (L 0 : Int)) = true := by rw [bne_iff_ne]; omega
            clear hw hev hnd
            go_enter Try.func30, Try.ntmps30
            go_wp2_with fail
            refine CN.out.mono ?_
            rintro e w1 ⟨rfl, rfl⟩
            go_wp2_with fail
            refine CE.out.mono ?_
            rintro e w1 ⟨rfl, rfl⟩
            go_wp2
            go_ret2
            exact ⟨41, none, 0, 0, rfl, HW.out, rfl, RdM.zero _ _ _ _, Below.refl _ _⟩
  · have hw : (40 : Int) = tuE n k nr L a nd := (if_neg h1).symm
    have HW := Lib.hid hw
    have t1 : ((nr : Int) != (n : Int)) = true := by rw [bne_iff_ne]; omega
    clear h1 hA hg hL hd hD hw hC
    go_enter Try.func30, Try.ntmps30
    go_wp2_with fail
    refine CN.out.mono ?_
    rintro e w1 ⟨rfl, rfl⟩
    go_wp2
    go_ret2
    exact ⟨40, none, 0, 0, rfl, HW.out, rfl, RdM.zero _ _ _ _, Below.refl _ _⟩
set_option maxRecDepth 40000 in
set_option maxHeartbeats 800000 in
theorem rturn_any (A Dd : Option Addr) (k m nr c nd cD : Nat) (a : Int) (L : Nat → Nat) (g : Nat → Nat → Nat) (d : Nat → Nat) (w : World) (hk : 0 < k) (hkm : k + m ≤ 255) (hnr : nr ≤ 1000000000000000) (hL : ∀ i, i < nr → L i ≤ 140737488351232) (hg : ∀ i, i < nr → ∀ j, j < L i → g i j < 256) (hd : ∀ j, j < nd → d j < 256)
    (hA : RdM w A nr L (fun i j => .int .u8 (g i j))) (hD : Rd w Dd nd (fun j => .int .u8 (d j : Nat))) :
    Calls Try.prog 29 #[.int .i64 k, .int .i64 m, .slice A nr c, .int .i64 a, .slice Dd nd cD] w fun e w' => ∃ (er : Int) (A' : Option Addr) (R c' : Nat), e = .returned (.tuple #[.slice A' R c', .int .i64 er]) ∧ er = tuE (k + m) k nr L a nd ∧ R = (if er = 0 then (k + m) else 0) ∧ RdM w' A' R (fun _ => L 0) (fun i c => .int .u8 (tw k a.toNat g d i c : Nat)) ∧ Below w.heap.size w w' := by
  have hs1 : IntKind.i64.wrap ((k : Int) + (m : Int)) = (k : Int) + (m : Int) := i64_small _ (by omega) (by omega)
  by_cases h1 : nr = (k + m)
  · subst h1
    obtain ⟨S, C, hA1, hA2⟩ := id hA
    obtain ⟨b0, o0, rfl, hb0, hx0⟩ := hA1 0 (by omega)
    rw [Nat.add_zero] at hx0
    have CE := Lib.hid (one_any (some ⟨b0, o0, none⟩) (k + m) c (L 0) L C S w (by omega) hA1)
    have HA := Lib.hid hA; have HL := Lib.hid hL; have HG := Lib.hid hg; have HDd := Lib.hid hd; have HD := Lib.hid hD
    skip
    have HBB : Hid (evB (k + m) L (L 0) = true ↔ ∀ i, i < (k + m) → L i = L 0) := evB_iff
    have HTU : Hid (tuE (k + m) k (k + m) L a nd = if evB (k + m) L (L 0) then (if a < 0 ∨ (k : Int) ≤ a then 2 else if nd = L 0 then 0 else 41) else 41) := if_pos rfl
    clear hA hA1 hA2 hL hg hd hD 
    generalize hbb : evB (k + m) L (L 0) = bb at *
    clear hbb
    cases bb
    · have hw : (41 : Int) = tuE (k + m) k (k + m) L a nd := by rw [HTU.out]; rfl
      have HW := Lib.hid hw
      clear hw
      go_enter Try.func29, Try.ntmps29
      go_wp2_with fail
      rw [show (k : Int) + (m : Int) = ((k + m : Nat) : Int) from by omega]
      refine CE.out.mono ?_
      rintro e w1 ⟨rfl, rfl⟩
      go_wp2
      go_ret2
      exact ⟨41, none, 0, 0, rfl, HW.out, rfl, RdM.zero _ _ _ _, Below.refl _ _⟩
    · have hev := HBB.out.1 rfl
      have HEV := Lib.hid hev
      by_cases hneg : a < 0
      · have hw : (2 : Int) = tuE (k + m) k (k + m) L a nd := by rw [HTU.out, if_pos rfl, if_pos (.inl hneg)]
        have HW := Lib.hid hw
        clear hw hev
        go_enter Try.func29, Try.ntmps29
        go_wp2_with fail
        rw [show (k : Int) + (m : Int) = ((k + m : Nat) : Int) from by omega]
        refine CE.out.mono ?_
        rintro e w1 ⟨rfl, rfl⟩
        go_wp2
        go_ret2
        exact ⟨2, none, 0, 0, rfl, HW.out, rfl, RdM.zero _ _ _ _, Below.refl _ _⟩
      · by_cases hge : (k : Int) ≤ a
        · have hw : (2 : Int) = tuE (k + m) k (k + m) L a nd := by rw [HTU.out, if_pos rfl, if_pos (.inr hge)]
          have HW := Lib.hid hw
          clear hw hev
          go_enter Try.func29, Try.ntmps29
          go_wp2_with fail
          rw [show (k : Int) + (m : Int) = ((k + m : Nat) : Int) from by omega]
          refine CE.out.mono ?_
          rintro e w1 ⟨rfl, rfl⟩
          go_wp2
          go_ret2
          exact ⟨2, none, 0, 0, rfl, HW.out, rfl, RdM.zero _ _ _ _, Below.refl _ _⟩
        · by_cases hnd : nd = L 0
          · obtain ⟨a, rfl⟩ := Int.eq_ofNat_of_zero_le (show 0 ≤ a by omega)
            have ha : a < k := by omega
            have hw : (0 : Int) = tuE (k + m) k (k + m) L a nd := by rw [HTU.out, if_pos rfl, if_neg (by omega), if_pos hnd]
            subst hnd
            refine (rturn_ok (some ⟨b0, o0, none⟩) Dd k m c a cD L g d w hk hkm ha (HL.out 0 (by omega)) (fun i hi j hj => HG.out i hi j (by rw [hev i hi]; exact hj)) HDd.out (HA.out.firstLen (Nat.le_refl _) hev) HD.out).mono ?_
            rintro e w' ⟨A', c', he, hR, hb⟩
            exact ⟨0, A', _, c', he, hw, rfl, hR, hb⟩
          · have hw : (41 : Int) = tuE (k + m) k (k + m) L a nd := by rw [HTU.out, if_pos rfl, if_neg (by omega), if_neg hnd]
            have HW := Lib.hid hw
            have t3 : ((nd : Int) != (L 0 : Int)) = true := by rw [bne_iff_ne]; omega
            clear hw hev hnd
            go_enter Try.func29, Try.ntmps29
            go_wp2_with fail
            rw [show (k : Int) + (m : Int) = ((k + m : Nat) : Int) from by omega]
            refine CE.out.mono ?_
            rintro e w1 ⟨rfl, rfl⟩
            go_wp2
            go_ret2
            exact ⟨41, none, 0, 0, rfl, HW.out, rfl, RdM.zero _ _ _ _, Below.refl _ _⟩
  · have hw : (40 : Int) = tuE (k + m) k nr L a nd := (if_neg h1).symm
    have HW := Lib.hid hw
    have t1 : ((nr : Int) != (k : Int) + (m : Int)) = true := by rw [bne_iff_ne]; omega
    clear h1 hA hg hL hd hD hw 
    go_enter Try.func29, Try.ntmps29
    go_wp2
    go_ret2
    exact ⟨40, none, 0, 0, rfl, HW.out, rfl, RdM.zero _ _ _ _, Below.refl _ _⟩
end Go.Proofs.Ythodpgkelmalmaa
