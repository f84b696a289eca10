/- CodeOpen: the law's walk. Conditions: none. -/
import Derived.Test.YthodpgkelmalmaaOpnP
import Derived.Test.YthodpgkelmalmaaAwk
namespace Go.Proofs.Ythodpgkelmalmaa
open Go.RowKit

set_option maxRecDepth 40000 in
set_option maxHeartbeats 8000000 in
theorem lawOpn (K M : Int) (A Pk : Option Addr) (nb cA np cP : Nat) (f : Nat → Nat) (pi : Nat → Int) (Y : Option Addr) (ny cY : Nat) (g : Nat → Nat) (w : World)
    (hA : Rd w A nb fun i => .int .u8 (f i : Nat)) (hn : nb ≤ 140737488351232) (hcA : nb ≤ cA) (hf : ∀ i, i < nb → f i < 256) (hP : Rd w Pk np fun i => .int .i64 (pi i)) (hnp : np * 8 ≤ 140737488351232)
    (hY : Rd w Y ny fun i => .int .u8 (g i : Nat)) (hny : ny ≤ 140737488351232) (hcY : ny ≤ cY) (hg : ∀ i, i < ny → g i < 256) :
    Calls Try.prog 11 #[.agg #[.int .i64 K, .int .i64 M, .slice A nb cA, .slice Pk np cP], .slice Y ny cY] w fun e w' => e = .returned (.bool true) ∧ Below w.heap.size w w' := by
  have HY := Lib.hid hY; have HG := Lib.hid hg
  clear hY hg
  have hb0 : Below w.heap.size w (w.alloc (.cells #[.int .i64 K, .int .i64 M, .slice A nb cA, .slice Pk np cP] 42)) := (Below.refl _ _).alloc (Nat.le_refl _) _
  have HA := Lib.hid hA; have HF := Lib.hid hf; have HB0 := Lib.hid hb0; have HPk := Lib.hid hP
  clear hA hf hb0 hP
  have CF : Hid (∀ w, Calls Try.prog 25 #[.agg #[.int .i64 K, .int .i64 M, .slice A nb cA, .slice Pk np cP]] w fun e w' => e = .returned (.tuple #[.int .i64 (fitK K : Nat), .int .i64 (fitM K M : Nat)]) ∧ Below w.heap.size w w') := fun w => fit_any K M (.slice A nb cA) (.slice Pk np cP) rfl rfl w
  obtain ⟨hm1, hmk, hk4, hkm⟩ := fit_facts K M
  generalize fitK K = k at *
  generalize fitM K M = m at *
  have hix : ∀ i j, i < k → j < nb / k → i * (nb / k) + j < nb := fun i j hi hj => by
    have h1 : (i + 1) * (nb / k) ≤ k * (nb / k) := Nat.mul_le_mul_right _ hi
    have hlen : nb / k * k ≤ nb := Nat.div_mul_le_self nb k
    rw [Nat.succ_mul, Nat.mul_comm k] at h1
    omega
  have hll : nb / k ≤ nb := Nat.div_le_self nb k
  have hfa : ∀ i, i < k → ∀ j, j < nb / k → f (i * (nb / k) + j) < 256 := fun i hi j hj => HF.out _ (hix i j hi hj)
  have CUTA := Lib.hid (fun w' (hb : Below w.heap.size w w') => cut_any A nb cA k f w' (by omega) (by omega) (by omega) (by omega) (fun i hi => HA.out.below hb i (by omega)))
  have HFA := Lib.hid hfa
  clear hix hfa
  generalize nb / k = len at *
  obtain ⟨D, hD⟩ : ∃ D : Nat → Nat → Nat, D = fun i c => f (i * len + c) := ⟨_, rfl⟩
  have HDA : Hid (∀ i, i < k → ∀ j, j < len → D i j < 256) := by rw [hD]; exact HFA.out
  have HDD := Lib.hid hD
  clear hD HFA
  go_enter Try.func11, Try.ntmps11
  go_wp2_with fail
  refine (awake_any _).mono ?_
  rintro e w1 ⟨rfl, hb1⟩
  have hc0 : w1.cell? ⟨w.heap.size, 0, none⟩ = some (.int .i64 K) := by rw [hb1.cell (by simp)]; go_simp
  have hc1 : w1.cell? ⟨w.heap.size, 1, none⟩ = some (.int .i64 M) := by rw [hb1.cell (by simp)]; go_simp
  have hc2 : w1.cell? ⟨w.heap.size, 2, none⟩ = some (.slice A nb cA) := by rw [hb1.cell (by simp)]; go_simp
  have hc3 : w1.cell? ⟨w.heap.size, 3, none⟩ = some (.slice Pk np cP) := by rw [hb1.cell (by simp)]; go_simp
  have hlw : w.heap.size < w1.heap.size := by have := hb1.size; simp at this; omega
  have HB1 := Lib.hid (HB0.out.trans (hb1.mono (by simp)))
  clear hb1 HB0
  go_wp2_with fail
  refine (CF.out w1).mono ?_
  rintro e w2 ⟨rfl, hb2⟩
  have HB2 := Lib.hid (HB1.out.trans (hb2.mono HB1.out.size))
  have hd2 : w2.cell? ⟨w.heap.size, 2, none⟩ = some (.slice A nb cA) := (hb2.cell hlw).trans hc2
  have hd3 : w2.cell? ⟨w.heap.size, 3, none⟩ = some (.slice Pk np cP) := (hb2.cell hlw).trans hc3
  have HD3 := Lib.hid hd3
  have hlw2 : w.heap.size < w2.heap.size := by have := hb2.size; omega
  clear hc0 hc1 hc2 hc3 hb2 hd3 hlw
  go_wp2_with fail
  refine (new_ok k m w2 hm1 hmk hk4 hkm).mono ?_
  rintro e w3 ⟨p, rfl, hC, hp, hb3⟩
  have HB3 := Lib.hid (HB2.out.trans (hb3.mono HB2.out.size))
  have hc2 : w3.cell? ⟨w.heap.size, 2, none⟩ = some (.slice A nb cA) := (hb3.cell hlw2).trans hd2
  have HE3 : Hid (w3.cell? ⟨w.heap.size, 3, none⟩ = some (.slice Pk np cP)) := (hb3.cell hlw2).trans HD3.out
  have hlw3 : w.heap.size < w3.heap.size := by have := hb3.size; omega
  have HC3 := Lib.hid hC
  clear hd2 hb3 hC HB2 hlw2 HD3
  go_wp2_with fail
  refine (CUTA.out w3 HB3.out).mono ?_
  rintro e w4 ⟨A3, c3, rfl, hcc3, hR4, hb4⟩
  have HB4 := Lib.hid (HB3.out.trans (hb4.mono HB3.out.size))
  have HR4 : Hid (RdM w4 A3 k (fun _ => len) (fun i c => .int .u8 (D i c : Nat))) := by rw [HDD.out]; exact hR4
  have HE4 : Hid (w4.cell? ⟨w.heap.size, 3, none⟩ = some (.slice Pk np cP)) := (hb4.cell hlw3).trans HE3.out
  have hlw4 : w.heap.size < w4.heap.size := by have := hb4.size; omega
  have HC4 := Lib.hid (HC3.out.below hb4)
  clear hc2 hb4 hR4 HB3 CUTA hlw3 HE3 HDD HC3
  obtain ⟨n, hnn⟩ : ∃ n, n = k + m := ⟨_, rfl⟩
  have hsn : (k : Int) + (m : Int) = (n : Int) := by omega
  have hnk : k ≤ n := by omega
  have hn5 : n ≤ 255 := by omega
  have hn1 : n ≤ k + m := by omega
  have hn2 : k + m ≤ n := by omega
  rw [← hnn] at HC4
  clear hnn
  go_wp2_with fail
  refine (enc_full p k n A3 k c3 (fun _ => len) D w4 (by omega) (by omega) (by omega) (by omega) (fun _ _ => by omega) HDA.out HC4.out HR4.out).mono ?_
  rintro e w5 ⟨er, A5, R5, c5, rfl, hE5, hR5, hM5, hb5, hcap⟩
  have he : er = 0 := hE5.uniq (.inr (.inr ⟨rfl, fun _ _ => rfl, rfl⟩))
  subst he
  rw [if_pos rfl] at hR5
  subst R5
  have HB5 := Lib.hid (HB4.out.trans (hb5.mono HB4.out.size))
  have HM5 := Lib.hid hM5
  have HC5 := Lib.hid (HC4.out.below hb5)
  have hE5' : w5.cell? ⟨w.heap.size, 3, none⟩ = some (.slice Pk np cP) := (hb5.cell hlw4).trans HE4.out
  have HE5 := Lib.hid hE5'
  have hlw5 : w.heap.size < w5.heap.size := by have := hb5.size; omega
  have HPK5 := Lib.hid (HPk.out.below HB5.out)
  have HY5 := Lib.hid (HY.out.below HB5.out)
  obtain ⟨S5, C5, h51, h52⟩ := HM5.out
  obtain ⟨b5, o5, rfl, hbb5, hx5⟩ := h51 0 (by omega)
  rw [Nat.add_zero] at hx5
  replace hx5 : w5.cell? ⟨b5, o5, none⟩ = some (.slice (S5 0) len (C5 0)) := hx5
  clear h51 h52 hbb5 hb5 hE5 hM5 hE5' HB4 HR4 HE4 HC4 hlw4 HPk HY HDA
  by_cases hl0 : len = 0
  · have t1 : ((len : Int) == 0) = true := by rw [beq_iff_eq]; omega
    clear hl0
    go_wp2
    go_ret
    exact ⟨rfl, HB5.out⟩
  · have t1 : ((len : Int) == 0) = false := by rw [beq_eq_false_iff_ne]; omega
    have hlp : 0 < len := by omega
    clear hl0
    by_cases hyl : ny < len
    · have t2 : (ny : Int) < (len : Int) := by omega
      clear hyl
      go_wp2
      go_ret
      exact ⟨rfl, HB5.out⟩
    · have t2 : ¬ ((ny : Int) < (len : Int)) := by omega
      have hyl2 : len ≤ ny := by omega
      have hE5' := HE5.out
      obtain ⟨i0, hi0, hz0, hz1, hz2⟩ := info_parts intInfo
      have hsn2 : Hid ((k : Int) + (m : Int) = (n : Int)) := hsn
      clear hyl
      go_wp2_with (at_make; refine wpList_make_own _ rfl _ _ 40 rfl w5.heap.size 3 i0 (.int .i64 0) 1 Try.underlying40 hi0 hz0 hz1 .i64 .i64 _ n rfl rfl (by omega) (by rw [hz2]; omega) (by unfold maxLen; omega) (Nat.le_refl _) ?_)
      intro w6 hown6 hgr6
      have hb6 : Below w5.heap.size w5 w6 := (Below.refl _ _).grown hgr6 (Nat.le_refl _) (by simp)
      have hE6 : w6.cell? ⟨w.heap.size, 3, none⟩ = some (.slice Pk np cP) := (hb6.cell hlw5).trans HE5.out
      have HO6 : Hid (Own w6 w5.heap.size 3 1 _ 0 (fun t => [.int .i64 ((fun t => t) t : Nat)])) := hown6; have HB6 := Lib.hid hb6
      clear hgr6 hi0 hz0 hz1 hz2 hown6 hb6 hx5 t1 t2 hE5'
      go_wp2_with fail
      rw [show (m : Int) + 1 = ((m + 1 : Nat) : Int) from by omega]
      refine (places_any Pk np cP n (m + 1) pi w6 (by omega) (by omega) (by omega) hnp (HPK5.out.below HB6.out)).mono ?_
      rintro e w7 ⟨pb, P, rfl, hPb, _, hpb, hb7⟩
      have hs67 := HB6.out.size
      have HPB : Hid (Own w7 w5.heap.size 4 1 (.slice (some ⟨pb, 0, none⟩) n n) n (fun t => [.bool (P t)])) := own_of_row hPb (by omega) (by unfold maxLen; omega)
      have HO : Hid (Own w7 w5.heap.size 3 1 _ 0 (fun t => [.int .i64 ((fun t => t) t : Nat)])) := HO6.out.kept hb7
      have HB : Hid (Below w5.heap.size w5 w7) := HB6.out.trans (hb7.mono hs67)
      clear hPb hb7 HO6 HB6 hE6 hpb hs67
      go_wp2
      clear hsn
      go_loopg [11, 13] 2 (fun gk vo v wr => ∃ (T cnt : Nat) (ord : Nat → Nat), T ≤ 2 ∧ gk = 2 - T ∧ v = .int .i64 T ∧ Own wr w5.heap.size 3 1 vo cnt (fun t => [.int .i64 (ord t : Nat)]) ∧ opT P n T cnt ord ∧ Own wr w5.heap.size 4 1 (.slice (some ⟨pb, 0, none⟩) n n) n (fun t => [.bool (P t)]) ∧ Below w5.heap.size w5 wr)
      case atStart => exact ⟨0, 0, fun t => t, by omega, rfl, rfl, HO.out, OrdI.start _ _ _, HPB.out, HB.out⟩
      case round =>
        clear HO HPB HB
        obtain ⟨T, cnt, ord, hT2, rfl, hv, hO, hT, hPB, hB⟩ := hrel
        have HO := Lib.hid hO; have HPB := Lib.hid hPB; have HB := Lib.hid hB
        clear hO hPB hB
        rcases (show T = 0 ∨ T = 1 ∨ T = 2 by omega) with rfl | rfl | rfl
        · have HOT : Hid (OrdI P n 0 0 cnt ord) := hT
          replace hv := (show _ = Value.int .i64 0 from hv)
          subst hv
          clear hT hT2
          go_wp2
          go_loopg [11, 14] n (fun gk vo v wr => ∃ (i cnt : Nat) (ord : Nat → Nat), i ≤ n ∧ gk = n - i ∧ v = .int .i64 i ∧ Own wr w5.heap.size 3 1 vo cnt (fun t => [.int .i64 (ord t : Nat)]) ∧ OrdI P n 0 i cnt ord ∧ Own wr w5.heap.size 4 1 (.slice (some ⟨pb, 0, none⟩) n n) n (fun t => [.bool (P t)]) ∧ Below w5.heap.size w5 wr)
          case atStart => exact ⟨0, cnt, ord, Nat.zero_le _, rfl, rfl, HO.out, HOT.out, HPB.out, HB.out⟩
          case round =>
            clear HO HOT HPB HB
            obtain ⟨i, cnt, ord, hi, rfl, rfl, hO, hT, hPB, hB⟩ := hrel
            have hle := OrdI.le hT hi
            have HO := Lib.hid hO; have HOT := Lib.hid hT; have HPB := Lib.hid hPB; have HB := Lib.hid hB
            clear hO hT hPB hB
            by_cases hlt : i < n
            · have hcp : wr.cell? ⟨pb, i, none⟩ = some (.bool (P i)) := HPB.out.cell1 hlt
              cases hPi : P i
              · have HT2 : Hid (OrdI P n 0 (i + 1) cnt ord) := HOT.out.no (by rw [hPi]; decide)
                rw [hPi] at hcp
                clear hPi HOT
                go_wp2
                go_roundg (n - (i + 1))
                case measure => omega
                case rel => exact ⟨i + 1, cnt, ord, by omega, rfl, by go_num, HO.out, HT2.out, HPB.out, HB.out⟩
              · have HT2 : Hid (OrdI P n 0 (i + 1) (cnt + 1) (fun t => if t = cnt then i else ord t)) := HOT.out.yes hlt (by rw [hPi]; decide)
                have hownB : Own wr w5.heap.size 3 1 _ cnt (fun t => [.int .i64 ((if t = cnt then i else ord t : Nat) : Int)]) := HO.out.congr fun t ht => by rw [if_neg (by omega)]
                have hu : Hid ((#[Value.int .i64 (i : Nat)] : Array Value).toList = [.int .i64 ((if cnt = cnt then i else ord cnt : Nat) : Int)]) := by rw [if_pos rfl]; rfl
                have hne := own_ne HPB.out hownB (by decide)
                have hsz := HB.out.size
                have HNE := Lib.hid hne; have HOB := Lib.hid hownB
                rw [hPi] at hcp
                clear hPi HOT HO hne hownB
                go_wp2_with (at_builtin; refine wpList_push _ rfl (.tmp 101) (.tmp 103) 40 rfl w5.heap.size 3 1 8 (.int .i64 0) #[.int .i64 (i : Nat)] Try.underlying40 intInfo rfl (by decide) _ cnt _ rfl HOB.out hsz _ rfl rfl hu.out rfl rfl (by omega) (by omega) ?_)
                intro v' w' hown2 hbel2 hg2 _
                have HPB2 := Lib.hid (HPB.out.keptRow hg2 HNE.out)
                have HB2 := Lib.hid (HB.out.trans hbel2)
                have HO2 := Lib.hid hown2
                clear hown2 hbel2 hg2 HNE HOB hu hcp HPB HB
                go_wp2
                go_roundg (n - (i + 1))
                case measure => omega
                case rel => exact ⟨i + 1, cnt + 1, _, by omega, rfl, by go_num, HO2.out, HT2.out, HPB2.out, HB2.out⟩
            · have hin : i = n := by omega
              subst i
              have HT2 : Hid (OrdI P n 1 0 cnt ord) := HOT.out.turn
              clear HOT
              go_wp2
              go_roundg (1)
              case measure => omega
              case rel => exact ⟨1, cnt, ord, by omega, rfl, by go_num, HO.out, HT2.out, HPB.out, HB.out⟩
        · have HOT : Hid (OrdI P n 1 0 cnt ord) := hT
          replace hv := (show _ = Value.int .i64 1 from hv)
          subst hv
          clear hT hT2
          go_wp2
          go_loopg [11, 14] n (fun gk vo v wr => ∃ (i cnt : Nat) (ord : Nat → Nat), i ≤ n ∧ gk = n - i ∧ v = .int .i64 i ∧ Own wr w5.heap.size 3 1 vo cnt (fun t => [.int .i64 (ord t : Nat)]) ∧ OrdI P n 1 i cnt ord ∧ Own wr w5.heap.size 4 1 (.slice (some ⟨pb, 0, none⟩) n n) n (fun t => [.bool (P t)]) ∧ Below w5.heap.size w5 wr)
          case atStart => exact ⟨0, cnt, ord, Nat.zero_le _, rfl, rfl, HO.out, HOT.out, HPB.out, HB.out⟩
          case round =>
            clear HO HOT HPB HB
            obtain ⟨i, cnt, ord, hi, rfl, rfl, hO, hT, hPB, hB⟩ := hrel
            have hle := OrdI.le hT hi
            have HO := Lib.hid hO; have HOT := Lib.hid hT; have HPB := Lib.hid hPB; have HB := Lib.hid hB
            clear hO hT hPB hB
            by_cases hlt : i < n
            · have hcp : wr.cell? ⟨pb, i, none⟩ = some (.bool (P i)) := HPB.out.cell1 hlt
              cases hPi : P i
              · have HT2 : Hid (OrdI P n 1 (i + 1) (cnt + 1) (fun t => if t = cnt then i else ord t)) := HOT.out.yes hlt (by rw [hPi]; decide)
                have hownB : Own wr w5.heap.size 3 1 _ cnt (fun t => [.int .i64 ((if t = cnt then i else ord t : Nat) : Int)]) := HO.out.congr fun t ht => by rw [if_neg (by omega)]
                have hu : Hid ((#[Value.int .i64 (i : Nat)] : Array Value).toList = [.int .i64 ((if cnt = cnt then i else ord cnt : Nat) : Int)]) := by rw [if_pos rfl]; rfl
                have hne := own_ne HPB.out hownB (by decide)
                have hsz := HB.out.size
                have HNE := Lib.hid hne; have HOB := Lib.hid hownB
                rw [hPi] at hcp
                clear hPi HOT HO hne hownB
                go_wp2_with (at_builtin; refine wpList_push _ rfl (.tmp 101) (.tmp 103) 40 rfl w5.heap.size 3 1 8 (.int .i64 0) #[.int .i64 (i : Nat)] Try.underlying40 intInfo rfl (by decide) _ cnt _ rfl HOB.out hsz _ rfl rfl hu.out rfl rfl (by omega) (by omega) ?_)
                intro v' w' hown2 hbel2 hg2 _
                have HPB2 := Lib.hid (HPB.out.keptRow hg2 HNE.out)
                have HB2 := Lib.hid (HB.out.trans hbel2)
                have HO2 := Lib.hid hown2
                clear hown2 hbel2 hg2 HNE HOB hu hcp HPB HB
                go_wp2
                go_roundg (n - (i + 1))
                case measure => omega
                case rel => exact ⟨i + 1, cnt + 1, _, by omega, rfl, by go_num, HO2.out, HT2.out, HPB2.out, HB2.out⟩
              · have HT2 : Hid (OrdI P n 1 (i + 1) cnt ord) := HOT.out.no (by rw [hPi]; decide)
                rw [hPi] at hcp
                clear hPi HOT
                go_wp2
                go_roundg (n - (i + 1))
                case measure => omega
                case rel => exact ⟨i + 1, cnt, ord, by omega, rfl, by go_num, HO.out, HT2.out, HPB.out, HB.out⟩
            · have hin : i = n := by omega
              subst i
              have HT2 : Hid (OrdI P n 1 n cnt ord) := HOT.out
              clear HOT
              go_wp2
              go_roundg (0)
              case measure => omega
              case rel => exact ⟨2, cnt, ord, by omega, rfl, by go_num, HO.out, HT2.out, HPB.out, HB.out⟩
        · obtain ⟨hcn, hol, hoi⟩ := OrdI.last (show OrdI P n 1 n cnt ord from hT)
          replace hv := (show _ = Value.int .i64 2 from hv)
          subst hv
          subst cnt
          obtain ⟨bo, co, rfl, hboB, hbol, hnco, _⟩ := HO.out.form (show 0 < n by omega)
          have HOL := Lib.hid hol; have HOI := Lib.hid hoi
          clear hT hT2 hol hoi HPB
          have HM7 := Lib.hid (RdM.below HM5.out HB.out)
          go_wp2_with fail
          refine (copied_own (some ⟨b5, o5, none⟩) n c5 len (wrd k D) wr (by omega) (by omega) HM7.out).mono ?_
          rintro e w8 ⟨v8, S8, C8, rfl, hCo, hb8⟩
          obtain ⟨T, cT, rfl, hTB, hTl, hncT, hfz⟩ := hCo.own.1.form (by omega)
          have hs57 := HB.out.size
          have HB8 : Hid (Below w5.heap.size w5 w8) := HB.out.trans (hb8.mono hs57)
          have HO8 := Lib.hid ((HO.out.kept hb8).mono (Nat.le_refl _))
          have HTop : Hid (Own w8 w5.heap.size 24 1 (.slice (some ⟨T, 0, none⟩) n cT) n (fun t => [.slice (S8 t) len (C8 t)])) := hCo.own.1.mono hs57
          have HRow : Hid (∀ t, t < n → Own w8 w5.heap.size 5 1 (.slice (S8 t) len (C8 t)) len (fun c => [.int .u8 (wrd k D t c : Nat)])) := fun t ht => (hCo.own.2 t ht).mono hs57
          clear hCo hb8 hfz HO hTB HB HM7 hboB hbol
          have hoc : w8.cell? ⟨bo, 0, none⟩ = some (.int .i64 (ord 0 : Nat)) := HO8.out.cell1 (show 0 < n by omega)
          have hq0 := HOL.out 0 (by omega)
          obtain ⟨bY, oY, rfl, hbY, hxY⟩ := HY5.out 0 (by omega)
          clear hbY hxY
          have HSRC : Hid (Rd w8.drew (some ⟨bY, oY, none⟩) len (fun c => .int .u8 (g c : Nat))) := fun i hi => HY5.out.below (HB8.out.trans ((Dr.refl w8).drew.below _)) i (by omega)
          have hs2 : (len : Int) ≤ (cY : Int) := by omega
          have hs58 := HB8.out.size
          have h0n : 0 < n := by omega
          go_wp2_with fail
          refine wp_region_mix [(true, true, false), (true, true, false), (true, true, false), (true, true, true), (true, true, false), (true, true, false), (true, true, false), (false, false, false), (false, true, false), (false, false, false)] mixed (by kernel_rfl) (fun w4 => w4.cell? ⟨bo, 0, none⟩ = some (.int .i64 (ord 0 : Nat))) (hoc) ?_
          intro hSw0
          simp only [hdM, tlM, List.cons_append, List.nil_append]
          repeat (first
            | (refine mix_look hSw0.out ?_ (by rfl) (fun w4 hSw => ?_) ?_; rotate_left; (focus (have s1 := hSw; go_simp; try with_reducible rfl)); simp only [Act.put, List.setIfInBounds_toArray, List.set_cons_zero, List.set_cons_succ])
            | (refine mix_pure ?_ (by rfl) (fun w4 => ?_) ?_; rotate_left; (focus (go_simp; try with_reducible rfl)); simp only [Act.put, List.setIfInBounds_toArray, List.set_cons_zero, List.set_cons_succ]))
          refine mix_list (fun K hK => ?_)
          refine wpList_appendRd rfl (.const (.slice none 0 0)) (.tmp 113) 24 rfl w8.heap.size 5 1 (.int .u8 0) Try.underlying24 byteInfo rfl rfl (Nat.le_refl _) (some ⟨bY, oY, none⟩) len cY (fun c => .int .u8 (g c : Nat)) rfl HSRC.out (fun _ _ => rfl) (by omega) (by omega) ?_
          intro v9 w9 hown9 hb9
          obtain ⟨A9, c9, rfl, _, _, _, _⟩ := hown9.rd
          have hb9' : Below w8.heap.size w8 w9 := ((Dr.refl w8).drew.below _).trans hb9
          have HO9 := Lib.hid (HO8.out.kept hb9')
          have HTop9 := Lib.hid (HTop.out.kept hb9')
          have HRow9 : Hid (∀ t, t < n → Own w9 w5.heap.size 5 1 (.slice (S8 t) len (C8 t)) len (fun c => [.int .u8 (wrd k D t c : Nat)])) := fun t ht => (HRow.out t ht).kept hb9'
          have HB9 : Hid (Below w5.heap.size w5 w9) := HB8.out.trans (hb9'.mono hs58)
          have HX9 : Hid (Own w9 w5.heap.size 5 1 (.slice A9 len c9) len (fun c => [.int .u8 (g c : Nat)])) := hown9.mono hs58
          have hTB := (HTop9.out.lt T rfl).1
          have hneT : bo ≠ T := fun e => by
            rcases own_ne HO9.out HTop9.out (by decide) with h | h
            · cases h
            · exact h (by rw [e]; rfl)
          have hct : w9.cell? ⟨T, ord 0, none⟩ = some (.slice (S8 (ord 0)) len (C8 (ord 0))) := HTop9.out.cell1 hq0
          have hfr : w9.frozen? ⟨T, ord 0, none⟩ = false := HTop9.out.frz (by omega) _
          have HO10 := Lib.hid (HO9.out.setOther (a := ⟨T, ord 0, none⟩) (fun e => hneT (by injection e)) (.slice A9 len c9))
          have HTop10 := Lib.hid (opn_top (ord := ord) (Sq := A9) (cq := c9) HTop9.out hq0)
          have HRow10 := Lib.hid (opn_row (q := ord 0) HTop9.out HRow9.out HX9.out)
          have HB10 := Lib.hid (HB9.out.setCell (p := ⟨T, ord 0, none⟩) hTB (.slice A9 len c9))
          clear hown9 hb9 hb9' hoc HO8 HTop HRow HB8 HTop9 HRow9 HB9 HX9 HSRC
          refine hK.out _ _ (fun _ _ => HO9.out.cell1 (show 0 < n by omega)) ?_
          clear hK K
          try simp only [Act.put, List.setIfInBounds_toArray, List.set_cons_zero, List.set_cons_succ]
          repeat (refine mix_pure ?_ (by rfl) (fun w4 => ?_) ?_; rotate_left; (focus (go_simp; try with_reducible rfl)); simp only [Act.put, List.setIfInBounds_toArray, List.set_cons_zero, List.set_cons_succ])
          refine mix_step (fun K hK => ?_)
          go_simp
          refine hK.out _ _ (fun _ _ => HO10.out.cell1 (show 0 < n by omega)) ?_
          clear hK K hct hfr HO9
          try simp only [Act.put, List.setIfInBounds_toArray, List.set_cons_zero, List.set_cons_succ]
          refine mix_nil ?_
          generalize w9.setCell ⟨T, ord 0, none⟩ (.slice A9 len c9) = w10 at *
          generalize hS' : (fun t => if t = ord 0 then A9 else S8 t) = S' at *
          generalize hC' : (fun t => if t = ord 0 then c9 else C8 t) = C' at *
          have HTP : Hid (Own w10 w5.heap.size 24 1 (.slice (some ⟨T, 0, none⟩) n cT) n (fun t => [lostF (lostQ ord (1 - 1)) len S' C' n t])) := HTop10.out
          have HRW : Hid (∀ t, t < n → Own w10 w5.heap.size 5 1 (.slice (S' t) len (C' t)) len (fun c => [.int .u8 (opnG k D (ord 0) g t c : Nat)])) := by
            rw [← hS', ← hC']; exact HRow10.out
          clear HTop10 HRow10 hS' hC'
          go_wp2
          go_loopg [16] m (fun gk v wr => ∃ i : Nat, 1 ≤ i ∧ i ≤ m + 1 ∧ gk = m + 1 - i ∧ v = .int .i64 i ∧ Own wr w5.heap.size 3 1 (.slice (some ⟨bo, 0, none⟩) n co) n (fun t => [.int .i64 (ord t : Nat)]) ∧ Own wr w5.heap.size 24 1 (.slice (some ⟨T, 0, none⟩) n cT) n (fun t => [lostF (lostQ ord (i - 1)) len S' C' n t]) ∧ (∀ t, t < n → Own wr w5.heap.size 5 1 (.slice (S' t) len (C' t)) len (fun c => [.int .u8 (opnG k D (ord 0) g t c : Nat)])) ∧ Below w5.heap.size w5 wr)
          case atStart => exact ⟨1, by omega, by omega, by omega, rfl, HO10.out, HTP.out, HRW.out, HB10.out⟩
          case round =>
            clear HO10 HTP HRW HB10
            obtain ⟨i, hi1, hi, rfl, rfl, hO, hTop, hRow, hB⟩ := hrel
            have HO := Lib.hid hO; have HTop := Lib.hid hTop; have HRow := Lib.hid hRow; have HB := Lib.hid hB
            clear hO hTop hRow hB
            by_cases hlt : i ≤ m
            · have hoc : wr.cell? ⟨bo, i, none⟩ = some (.int .i64 (ord i : Nat)) := HO.out.cell1 (show i < n by omega)
              have hqi := HOL.out i (by omega)
              have hct := HTop.out.cell1 hqi
              have hfr : wr.frozen? ⟨T, ord i, none⟩ = false := HTop.out.frz (by omega) _
              have HO2 := Lib.hid (HO.out.setOther (a := ⟨T, ord i, none⟩) (fun e => hneT (by injection e)) (.slice none 0 0))
              have HS : Hid (Own (wr.setCell ⟨T, ord i, none⟩ (.slice none 0 0)) w5.heap.size 24 1 (.slice (some ⟨T, 0, none⟩) n cT) n (fun t => [lostF (lostQ ord (i + 1 - 1)) len S' C' n t])) := (HTop.out.set1 hqi (.slice none 0 0)).congr fun t ht => by rw [lostF_put ht, lostQ_step hi1]
              have HRow2 : Hid (∀ t, t < n → Own (wr.setCell ⟨T, ord i, none⟩ (.slice none 0 0)) w5.heap.size 5 1 (.slice (S' t) len (C' t)) len (fun c => [.int .u8 (opnG k D (ord 0) g t c : Nat)])) := fun t ht => (HRow.out t ht).setOther (a := ⟨T, ord i, none⟩) (row_ne HTop.out (HRow.out t ht)) _
              have HB2 := Lib.hid (HB.out.setCell (p := ⟨T, ord i, none⟩) hTB (.slice none 0 0))
              clear HO HTop HRow HB
              go_wp2
              go_roundg (m + 1 - (i + 1))
              case measure => omega
              case rel => exact ⟨i + 1, by omega, by omega, rfl, by go_num, HO2.out, HS.out, HRow2.out, HB2.out⟩
            · have him : i = m + 1 := by omega
              subst i
              have HLost : Hid (RdM wr (some ⟨T, 0, none⟩) n (lostL (lostQ ord m) len) (fun i c => .int .u8 (opnG k D (ord 0) g i c : Nat))) := lost_rdm HTop.out HRow.out
              have hcnt := lostQ_cnt (n := n) HOL.out HOI.out (show m < n by omega)
              have hkE := lost_cnt' (P := lostQ ord m) (n := n) hlp
              have hq0n := lostQ_zero (n := n) HOI.out (show m < n by omega)
              have hkN : pkN (lostL (lostQ ord m) len) n = k := by omega
              have HCW := Lib.hid (HC5.out.below HB.out)
              have HBW := Lib.hid (HB5.out.trans (HB.out.mono HB5.out.size))
              have HGY : Hid (∀ i, i < n → ∀ c, c < lostL (lostQ ord m) len i → opnG k D (ord 0) g i c < 256) := fun i _ c hc => opnG_lt (len := len) (fun c hc => HG.out c (by omega)) (by unfold lostL at hc; split at hc <;> omega)
              clear HTop HRow HB HO hcnt hkE HC5
              go_wp2_with fail
              refine (reb_full p k n (some ⟨T, 0, none⟩) n cT (lostL (lostQ ord m) len) (opnG k D (ord 0) g) wr (by omega) (by omega) hn5 (by omega) (fun i _ => by unfold lostL; split <;> omega) HGY.out HCW.out HLost.out).mono ?_
              rintro e w11 ⟨er, A11, R11, c11, W, rfl, hE, hR, hW, hM, hb11, hcap11⟩
              have h0 := lost_len (P := lostQ ord m) (len := len) (n := n) (t := 0) (by omega)
              have he : er = 0 := hE.uniq (.inr (.inr (.inr ⟨rfl, fun t ht => by rw [(lost_len ht).1, h0.1], by omega, rfl⟩)))
              subst he
              rw [if_pos rfl] at hR
              subst R11
              rw [h0.1] at hM
              replace hW := hW rfl
              rw [h0.1] at hW
              have HIS := Lib.hid (chB_of (reb_is (by omega) hn5 (by omega) hW))
              have HHAS : Hid (∀ i, i < n → lostQ ord m i = false → ∀ c, c < len → opnG k D (ord 0) g i c = (W i c).val) := fun i hi hQ c hc => by
                obtain ⟨s, hs, rfl⟩ := pkA_sur (L := lostL (lostQ ord m) len) (n := n) (i := i) hi (by unfold lostL; rw [hQ]; exact hlp)
                rw [reb_has hn5 (by omega) hW (by omega) hc, el_val (opnG_lt (len := len) (fun c hc => HG.out c (by omega)) hc)]
              obtain ⟨SL, CL, hL1, hL2⟩ := RdM.below HLost.out hb11
              obtain ⟨SB, CB, hB1, hB2⟩ := id hM
              have HL1 := Lib.hid hL1; have HL2 := Lib.hid hL2; have HB1 := Lib.hid hB1; have HB2 := Lib.hid hB2
              have HM11 := Lib.hid hM
              have HC11 := Lib.hid (HCW.out.below hb11)
              have HB11 := Lib.hid (HBW.out.trans (hb11.mono HBW.out.size))
              clear hE hW hM hb11 h0 HLost HCW HBW hL1 hL2 hB1 hB2 HGY hkN
              have hbk : ((n : Int) != (k : Int) + (m : Int)) = false := by rw [hsn2.out]; simp
              go_wp2
              go_loopg [19] n (fun gk v wr => Dr w11 wr ∧ ∃ i : Nat, i ≤ n ∧ gk = n - i ∧ v = .int .i64 i)
              case atStart => exact ⟨Dr.refl _, 0, Nat.zero_le _, rfl, rfl⟩
              case round =>
                obtain ⟨hd, i, hi, rfl, rfl⟩ := hrel
                by_cases hlt : i < n
                · obtain ⟨b1, o1, hA1, hb1, hx1⟩ := HL1.out i hlt
                  obtain ⟨b2, o2, hA2, hb2, hx2⟩ := HB1.out i hlt
                  injection hA1 with hA1
                  injection hA1 with hA1a hA1b _
                  subst hA1a hA1b
                  subst hA2
                  have hbel := hd.below w11.heap.size
                  have hy1 : wr.drew.cell? ⟨T, 0 + i, none⟩ = some (.slice (SL i) (lostL (lostQ ord m) len i) (CL i)) := (hbel.cell hb1).trans hx1
                  rw [Nat.zero_add] at hy1
                  have hy2 : wr.drew.cell? ⟨b2, o2 + i, none⟩ = some (.slice (SB i) len (CB i)) := (hbel.cell hb2).trans hx2
                  have HD := Lib.hid hd.drew
                  clear hx1 hx2 hb1 hb2 hbel
                  cases hQi : lostQ ord m i
                  · have hll : lostL (lostQ ord m) len i = len := by unfold lostL; rw [hQi]; rfl
                    rw [hll] at hy1
                    have hr1 := (HL2.out i hlt).below (hd.drew.below _)
                    rw [hll] at hr1
                    have hs1 := conv_str (P := Try.prog) wr.drew 24 9 5 (SL i) len (CL i) (opnG k D (ord 0) g i) Try.underlying24 Try.underlying5 Try.underlying9 (fun c hc => opnG_lt (len := len) (fun c hc => HG.out c (by omega)) hc) hr1
                    have hs3 := conv_str (P := Try.prog) wr.drew 24 9 5 (SB i) len (CB i) (fun c => (W i c).val) Try.underlying24 Try.underlying5 Try.underlying9 (fun c _ => (W i c).isLt) ((HB2.out i hlt).below (hd.drew.below _))
                    have hse : strN len (opnG k D (ord 0) g i) = strN len (fun c => (W i c).val) := strN_congr (HHAS.out i hlt hQi)
                    rw [hse] at hs1
                    clear hse hr1 hll hd hQi
                    generalize strN len (fun c => (W i c).val) = s0 at *
                    go_wp2_with fail
                    refine wp_region_mix [(true, true, false), (true, true, false), (true, true, false), (true, true, true), (true, true, false), (true, true, false), (true, true, false), (true, true, false), (true, true, false), (true, true, false), (true, true, true), (true, true, true), (true, true, false), (true, true, false), (true, true, false), (true, true, true), (true, true, true), (true, true, false), (true, true, false)] mixed (by kernel_rfl) (fun w4 => w4 = wr.drew) (rfl) ?_
                    intro hSw0
                    simp only [hdM, tlM, List.cons_append, List.nil_append]
                    repeat (first
                      | (refine mix_look hSw0.out ?_ (by rfl) (fun w4 hSw => ?_) ?_; rotate_left; (focus (subst hSw; go_simp; try with_reducible rfl)); simp only [Act.put, List.setIfInBounds_toArray, List.set_cons_zero, List.set_cons_succ])
                      | (refine mix_pure ?_ (by rfl) (fun w4 => ?_) ?_; rotate_left; (focus (go_simp; try with_reducible rfl)); simp only [Act.put, List.setIfInBounds_toArray, List.set_cons_zero, List.set_cons_succ]))
                    refine mix_nil ?_
                    clear hs1 hs3 hy1 hy2
                    go_wp2
                    go_roundg (n - (i + 1))
                    case measure => omega
                    case rel => exact ⟨HD.out, i + 1, by omega, rfl, by go_num⟩
                  · have hll : lostL (lostQ ord m) len i = 0 := by unfold lostL; rw [hQi]; rfl
                    rw [hll] at hy1
                    clear hll hd hQi
                    go_wp2_with fail
                    refine wp_region_mix [(true, true, false), (true, true, false), (true, true, false), (true, true, true), (true, true, false), (true, true, false), (true, true, false), (true, true, false), (true, true, false), (true, true, false), (true, true, true), (true, true, true), (true, true, false), (true, true, false), (true, true, false), (true, true, true), (true, true, true), (true, true, false), (true, true, false)] mixed (by kernel_rfl) (fun w4 => w4 = wr.drew) (rfl) ?_
                    intro hSw0
                    simp only [hdM, tlM, List.cons_append, List.nil_append]
                    repeat (first
                      | (refine mix_look hSw0.out ?_ (by rfl) (fun w4 hSw => ?_) ?_; rotate_left; (focus (subst hSw; go_simp; try with_reducible rfl)); simp only [Act.put, List.setIfInBounds_toArray, List.set_cons_zero, List.set_cons_succ])
                      | (refine mix_pure ?_ (by rfl) (fun w4 => ?_) ?_; rotate_left; (focus (go_simp; try with_reducible rfl)); simp only [Act.put, List.setIfInBounds_toArray, List.set_cons_zero, List.set_cons_succ])
                      | (refine mix_skip hSw0.out (by rfl) ?_; simp only [Act.put, List.setIfInBounds_toArray, List.set_cons_zero, List.set_cons_succ]))
                    refine mix_nil ?_
                    clear hy1 hy2
                    go_wp2
                    go_roundg (n - (i + 1))
                    case measure => omega
                    case rel => exact ⟨HD.out, i + 1, by omega, rfl, by go_num⟩
                · have hin : i = n := by omega
                  subst i
                  have HBF := Lib.hid (hd.below' HB11.out)
                  have CK := Lib.hid (pchk_any p A11 k n n c11 (fun _ => len) (fun i c => (W i c).val) wr (by omega) (by omega) hn5 (by omega) hcap11 (fun _ _ => by omega) (fun i _ c _ => (W i c).isLt) (HC11.out.below (hd.below _)) (RdM.below HM11.out (hd.below _)))
                  rw [HIS.out, chE_word] at CK
                  clear hd HM11 HC11 HL1 HL2 HB1 HB2
                  go_wp2_with fail
                  refine CK.out.mono ?_
                  rintro e w12 ⟨rfl, hb12⟩
                  go_wp2
                  go_ret
                  exact ⟨rfl, HBF.out.trans (hb12.mono HBF.out.size)⟩
end Go.Proofs.Ythodpgkelmalmaa
