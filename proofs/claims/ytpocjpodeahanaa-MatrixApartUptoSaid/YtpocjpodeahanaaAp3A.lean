/- grown: each row is grown, what it was is kept. Conditions: rows that lie apart. -/
import Derived.Test.YtpocjpodeahanaaApi
namespace Go.Proofs.Ytpocjpodeahanaa
open Go.RowKit

theorem a3Inf : (Try.prog.info? 34).map (fun i => (i.zero, i.size, i.bytes)) = some (some (.int .u8 0), 1, 1) := by kernel_rfl
theorem a3InfR : (Try.prog.info? 62).map (fun i => (i.zero, i.size, i.bytes)) = some (some (.slice none 0 0), 1, 24) := by kernel_rfl
theorem a3InfM : (Try.prog.info? 31).map (fun i => (i.zero, i.size, i.bytes)) = some (some (.slice none 0 0), 1, 24) := by kernel_rfl
def a3V (L : Nat → Nat) (t q : Nat) : Value := .int .u8 (((if q < L t then 1 + t % 120 else 128 + t % 120) : Nat) : Int)
def a3F (L : Nat → Nat) (t q : Nat) : List Value := [a3V L t q]
theorem a3F_len (L : Nat → Nat) (t q : Nat) : (a3F L t q).length = 1 := rfl
theorem rem120 (i : Nat) : (i : Int).tmod 120 = ((i % 120 : Nat) : Int) := by rw [Int.tmod_eq_emod_of_nonneg (by omega)]; omega
set_option maxRecDepth 100000 in
set_option maxHeartbeats 8000000 in
theorem grown_any (AN : Option Addr) (N cN : Nat) (S : Nat → Option Addr) (L C : Nat → Nat) (Bt B0 : Nat) (w : World) (hN : N ≤ 100000) (hL : ∀ t, t < N → L t ≤ 1000000000) (hT : Own w Bt 62 1 (.slice AN N cN) N (fun t => [.slice (S t) (L t) (C t)])) (hR : ∀ t, t < N → Own w B0 34 1 (.slice (S t) (L t) (C t)) (L t) (a3F L t)) (hA : Apt N S) (hB : B0 ≤ w.heap.size) :
    Calls Try.prog 104 #[.slice AN N cN] w fun e w' => ∃ ql vl vw SL LL CL I, e = .returned (.tuple #[vl, vw]) ∧ ql ≤ 70 * N ∧ GB w w' B0 1 34 62 3 N S L C (a3F L) N ql ql vl vw SL LL CL I := by
  have HTN := Lib.hid (top_ne hT hR (by decide))
  have HT := Lib.hid hT; have HA := Lib.hid hA; have HL := Lib.hid hL
  have HIN : Hid (∀ t, t < N → ∀ s o, S t = some ⟨s, o, none⟩ → s < w.heap.size) := Lib.hid fun t ht s o es => ((hR t ht).lt s ((hR t ht).off es).2).2
  have HCELL : Hid (∀ w', Only (RB N S) w w' → ∀ t, t < N → ∃ b o, AN = some ⟨b, o, none⟩ ∧ w'.cell? ⟨b, o + t, none⟩ = some (.slice (S t) (L t) (C t))) := Lib.hid fun w' ho t ht => by
    obtain ⟨A', c', e1, _, _, hr, _⟩ := (ho.own HT.out HTN.out).rd
    injection e1 with e1 _ _
    subst e1
    obtain ⟨b, o, e2, _, hc⟩ := hr t ht
    exact ⟨b, o, e2, hc⟩
  have HGB : Hid (GB w w B0 1 34 62 3 N S L C (a3F L) 0 0 0 (.slice none 0 0) (.slice none 0 0) (fun _ => none) (fun _ => 0) (fun _ => 0) (fun _ => 0)) := Lib.hid ⟨fun t _ => hR t, fun t ht => It.of_own (a3F_len L) (hR t ht) (fun s _ hs => by cases hs), HIN.out, Own.nil _ _ _ _ _, Own.nil _ _ _ _ _, fun m hm => absurd hm (Nat.not_lt_zero _), fun m hm => absurd hm (Nat.not_lt_zero _), fun m hm => absurd hm (Nat.not_lt_zero _), fun m hm => absurd hm (Nat.not_lt_zero _), Only.refl _ _⟩
  clear hT hR hA hL
  go_enter Try.func104, Try.ntmps104
  go_wp2
  go_loopg [4, 5, 6, 7, 8] N (fun gk vl vw vi _ _ wr => ∃ (i ql : Nat) (SL : Nat → Option Addr) (LL CL I : Nat → Nat), i ≤ N ∧ gk = N - i ∧ vi = .int .i64 i ∧ ql ≤ 70 * i ∧ GB w wr B0 1 34 62 3 N S L C (a3F L) i ql ql vl vw SL LL CL I)
  case atStart => exact ⟨0, 0, _, _, _, _, Nat.zero_le _, rfl, rfl, Nat.le_refl _, HGB.out⟩
  case round =>
    clear HGB
    obtain ⟨i, ql, SL, LL, CL, I, hi, rfl, rfl, hq, hG⟩ := hrel
    by_cases hlt : i < N
    · obtain ⟨bT, oT, rfl, hcT⟩ := HCELL.out wr hG.only i hlt
      have hLi := HL.out i hlt
      have HGS := Lib.hid (hG.start HA.out hlt)
      clear hG
      go_wp2
      go_loopg [4, 5, 7, 8] 70 (fun gk vl vw v vk wr => ∃ (k ql : Nat) (SL : Nat → Option Addr) (LL CL I : Nat → Nat), k ≤ 70 ∧ gk = 70 - k ∧ vk = .int .i64 k ∧ ql ≤ 70 * i + k ∧ GS w wr B0 1 34 62 3 N S L C (a3F L) i (L i + k) v ql ql vl vw SL LL CL I)
      case atStart => exact ⟨0, ql, SL, LL, CL, I, Nat.zero_le _, rfl, rfl, hq, HGS.out⟩
      case round =>
        clear HGS hcT hq
        obtain ⟨k, ql, SL, LL, CL, I, hk, rfl, rfl, hq, hG⟩ := hrel
        by_cases hlk : k < 70
        · have HG := Lib.hid hG
          have hsB : B0 ≤ wr.heap.size := Nat.le_trans hB hG.only.size
          obtain ⟨r, hr⟩ : ∃ r, r = i % 120 := ⟨_, rfl⟩
          have hrm : (i : Int).tmod 120 = (r : Int) := by rw [hr]; exact rem120 i
          have hr1 : r < 120 := by rw [hr]; exact Nat.mod_lt _ (by decide)
          have hw1 : ((128 : Int) + (r : Int)) % 256 = (128 : Int) + (r : Int) := by omega
          have hu : Hid ((#[Value.int .u8 ((128 : Int) + (r : Int))] : Array Value).toList = a3F L i (L i + k)) := Lib.hid (by
            unfold a3F a3V
            rw [if_neg (by omega), hr, show (((128 + i % 120 : Nat)) : Int) = (128 : Int) + ((i % 120 : Nat) : Int) from by omega])
          clear hG hr
          by_cases hka : k < 16
          · clear hlk
            have hd1 : (k : Int) < 16 := by omega
            go_wp2_with (at_builtin; refine wpList_pushX _ rfl (.tmp 23) (.tmp 28) 62 rfl B0 34 1 1 (.int .u8 0) #[.int .u8 ((128 : Int) + (r : Int))] Try.underlying62 a3Inf rfl _ (L i + k) _ rfl HG.out.own hsB _ rfl rfl hu.out rfl rfl (by omega) (by omega) ?_)
            intro v1 w1 hown1 hbel1 hg1
            obtain ⟨A1, c1, rfl, _, _, _, _⟩ := Own.rd (f := a3V L i) hown1
            have HG1 := Lib.hid (HG.out.push (a3F_len L) HA.out hlt hown1 hg1)
            have hsw1 := HG1.out.only.size
            clear hown1 hbel1 hg1 HG hu
            have hl1 : Own w1 w.heap.size 62 1 _ ql (fun m => [.slice (upd SL ql A1 m) (upd LL ql (L i + k + 1) m) (upd CL ql c1 m)]) := HG1.out.long.congr fun m hm => by rw [upd_ne _ _ _ (by omega), upd_ne _ _ _ (by omega), upd_ne _ _ _ (by omega)]
            have HL1 := Lib.hid hl1
            have hu2 : Hid ((#[Value.slice A1 (L i + k + 1) c1] : Array Value).toList = [.slice (upd SL ql A1 ql) (upd LL ql (L i + k + 1) ql) (upd CL ql c1 ql)]) := Lib.hid (by rw [upd_at, upd_at, upd_at])
            clear hl1
            go_wp2_with (at_builtin; refine wpList_pushX _ rfl (.tmp 36) (.tmp 38) 31 rfl w.heap.size 62 1 24 (.slice none 0 0) #[.slice A1 (L i + k + 1) c1] Try.underlying31 a3InfR rfl _ ql _ rfl HL1.out hsw1 _ rfl rfl hu2.out rfl rfl (by omega) (by omega) ?_)
            intro v2 w2 hown2 hbel2 hg2
            have HG2 := Lib.hid (HG1.out.keepL (a3F_len L) HA.out hlt (by decide) (by omega) hown2 hg2)
            have hsw2 := HG2.out.only.size
            have hu3 : Hid ((#[Value.int .i64 ((i : Nat) : Int)] : Array Value).toList = [.int .i64 ((upd I ql i ql : Nat) : Int)]) := Lib.hid (by rw [upd_at])
            clear hown2 hbel2 hg2 HG1 HL1 hu2
            go_wp2_with (at_builtin; refine wpList_pushX _ rfl (.tmp 40) (.tmp 42) 23 rfl w.heap.size 3 1 8 (.int .i64 0) #[.int .i64 ((i : Nat) : Int)] Try.underlying23 apInt rfl _ ql _ rfl HG2.out.who hsw2 _ rfl rfl hu3.out rfl rfl (by omega) (by omega) ?_)
            intro v3 w3 hown3 hbel3 hg3
            have HG3 := Lib.hid (HG2.out.keepW HA.out (by decide) hown3 hg3)
            clear hown3 hbel3 hg3 HG2 hu3
            go_wp2
            go_roundg (70 - (k + 1))
            case measure => omega
            case rel => exact ⟨k + 1, ql + 1, _, _, _, _, by omega, rfl, by go_num, by omega, HG3.out⟩
          · by_cases hkb : k = 69
            · have hd1 : ¬ (k : Int) < 16 := by omega
              have hd2 : ((k : Int) == 69) = true := by rw [beq_iff_eq]; omega
              clear hkb
              go_wp2_with (at_builtin; refine wpList_pushX _ rfl (.tmp 23) (.tmp 28) 62 rfl B0 34 1 1 (.int .u8 0) #[.int .u8 ((128 : Int) + (r : Int))] Try.underlying62 a3Inf rfl _ (L i + k) _ rfl HG.out.own hsB _ rfl rfl hu.out rfl rfl (by omega) (by omega) ?_)
              intro v1 w1 hown1 hbel1 hg1
              obtain ⟨A1, c1, rfl, _, _, _, _⟩ := Own.rd (f := a3V L i) hown1
              have HG1 := Lib.hid (HG.out.push (a3F_len L) HA.out hlt hown1 hg1)
              have hsw1 := HG1.out.only.size
              clear hown1 hbel1 hg1 HG hu
              have hl1 : Own w1 w.heap.size 62 1 _ ql (fun m => [.slice (upd SL ql A1 m) (upd LL ql (L i + k + 1) m) (upd CL ql c1 m)]) := HG1.out.long.congr fun m hm => by rw [upd_ne _ _ _ (by omega), upd_ne _ _ _ (by omega), upd_ne _ _ _ (by omega)]
              have HL1 := Lib.hid hl1
              have hu2 : Hid ((#[Value.slice A1 (L i + k + 1) c1] : Array Value).toList = [.slice (upd SL ql A1 ql) (upd LL ql (L i + k + 1) ql) (upd CL ql c1 ql)]) := Lib.hid (by rw [upd_at, upd_at, upd_at])
              clear hl1
              go_wp2_with (at_builtin; refine wpList_pushX _ rfl (.tmp 36) (.tmp 38) 31 rfl w.heap.size 62 1 24 (.slice none 0 0) #[.slice A1 (L i + k + 1) c1] Try.underlying31 a3InfR rfl _ ql _ rfl HL1.out hsw1 _ rfl rfl hu2.out rfl rfl (by omega) (by omega) ?_)
              intro v2 w2 hown2 hbel2 hg2
              have HG2 := Lib.hid (HG1.out.keepL (a3F_len L) HA.out hlt (by decide) (by omega) hown2 hg2)
              have hsw2 := HG2.out.only.size
              have hu3 : Hid ((#[Value.int .i64 ((i : Nat) : Int)] : Array Value).toList = [.int .i64 ((upd I ql i ql : Nat) : Int)]) := Lib.hid (by rw [upd_at])
              clear hown2 hbel2 hg2 HG1 HL1 hu2
              go_wp2_with (at_builtin; refine wpList_pushX _ rfl (.tmp 40) (.tmp 42) 23 rfl w.heap.size 3 1 8 (.int .i64 0) #[.int .i64 ((i : Nat) : Int)] Try.underlying23 apInt rfl _ ql _ rfl HG2.out.who hsw2 _ rfl rfl hu3.out rfl rfl (by omega) (by omega) ?_)
              intro v3 w3 hown3 hbel3 hg3
              have HG3 := Lib.hid (HG2.out.keepW HA.out (by decide) hown3 hg3)
              clear hown3 hbel3 hg3 HG2 hu3
              go_wp2
              go_roundg (70 - (k + 1))
              case measure => omega
              case rel => exact ⟨k + 1, ql + 1, _, _, _, _, by omega, rfl, by go_num, by omega, HG3.out⟩
            · have hd1 : ¬ (k : Int) < 16 := by omega
              have hd2 : ((k : Int) == 69) = false := by rw [beq_eq_false_iff_ne]; omega
              clear hkb
              go_wp2_with (at_builtin; refine wpList_pushX _ rfl (.tmp 23) (.tmp 28) 62 rfl B0 34 1 1 (.int .u8 0) #[.int .u8 ((128 : Int) + (r : Int))] Try.underlying62 a3Inf rfl _ (L i + k) _ rfl HG.out.own hsB _ rfl rfl hu.out rfl rfl (by omega) (by omega) ?_)
              intro v1 w1 hown1 hbel1 hg1
              obtain ⟨A1, c1, rfl, _, _, _, _⟩ := Own.rd (f := a3V L i) hown1
              have HG1 := Lib.hid (HG.out.push (a3F_len L) HA.out hlt hown1 hg1)
              have hsw1 := HG1.out.only.size
              clear hown1 hbel1 hg1 HG hu
              go_wp2
              go_roundg (70 - (k + 1))
              case measure => omega
              case rel => exact ⟨k + 1, ql, SL, LL, CL, I, by omega, rfl, by go_num, by omega, HG1.out⟩
        · obtain rfl : k = 70 := by omega
          have HG2 := Lib.hid hG.stop
          clear hG
          go_wp2
          go_roundg (N - (i + 1))
          case measure => omega
          case rel => exact ⟨i + 1, ql, SL, LL, CL, I, by omega, rfl, by go_num, by omega, HG2.out⟩
    · obtain rfl : N = i := by omega
      have HG := Lib.hid hG
      clear hG
      go_wp2
      go_ret2
      exact ⟨ql, _, _, SL, LL, CL, I, rfl, hq, HG.out⟩
end Go.Proofs.Ytpocjpodeahanaa

/- outer: each place gets a row of its own, the lists are grown, all is looked at. Conditions: lists that lie apart, of no more than 300 rows. -/
namespace Go.Proofs.Ytpocjpodeahanaa
open Go.RowKit

/-- The row that is laid at place q of the list t. -/
def o3E (L : Nat → Nat) (t q : Nat) : Array Value := if q < L t then #[.int .u8 ((t : Nat) : Int)] else #[.int .u8 ((t : Nat) : Int), .int .u8 200]
theorem o3E_lo {L : Nat → Nat} {t q : Nat} (h : q < L t) : o3E L t q = #[.int .u8 ((t : Nat) : Int)] := if_pos h
theorem o3E_hi {L : Nat → Nat} {t q : Nat} (h : ¬ q < L t) : o3E L t q = #[.int .u8 ((t : Nat) : Int), .int .u8 200] := if_neg h
set_option maxRecDepth 100000 in
set_option maxHeartbeats 16000000 in
theorem outer_any (AN : Option Addr) (N cN : Nat) (S : Nat → Option Addr) (L C : Nat → Nat) (f : Nat → Nat → Value) (Bt B0 : Nat) (w : World) (hN : N ≤ 100) (hL : ∀ t, t < N → L t ≤ 300) (hT : Own w Bt 31 1 (.slice AN N cN) N (fun t => [.slice (S t) (L t) (C t)])) (hR : ∀ t, t < N → Own w B0 62 1 (.slice (S t) (L t) (C t)) (L t) (fun q => [f t q])) (hA : Apt N S) (hB : B0 ≤ w.heap.size) :
    Calls Try.prog 105 #[.slice AN N cN] w fun e w' => e = .returned (.bool true) ∧ Only (RB N S) w w' := by
  have HTN := Lib.hid (top_ne hT hR (by decide))
  have HT := Lib.hid hT; have HA := Lib.hid hA; have HL := Lib.hid hL
  have HM0 : Hid (MEl w w B0 62 34 N S L C f (o3E L) 0 0) := Lib.hid (MEl.start hR)
  have HIN : Hid (∀ t, t < N → ∀ s o, S t = some ⟨s, o, none⟩ → s < w.heap.size) := Lib.hid fun t ht s o es => ((hR t ht).lt s ((hR t ht).off es).2).2
  have HCELL : Hid (∀ w', Only (RB N S) w w' → ∀ t, t < N → ∃ b o, AN = some ⟨b, o, none⟩ ∧ w'.cell? ⟨b, o + t, none⟩ = some (.slice (S t) (L t) (C t))) := Lib.hid fun w' ho t ht => by
    obtain ⟨A', c', e1, _, _, hr, _⟩ := (ho.own HT.out HTN.out).rd
    injection e1 with e1 _ _
    subst e1
    obtain ⟨b, o, e2, _, hc⟩ := hr t ht
    exact ⟨b, o, e2, hc⟩
  clear hT hR hA hL
  go_enter Try.func105, Try.ntmps105
  go_wp2
  go_loopg [3, 4] N (fun gk vi _ wr => ∃ i : Nat, i ≤ N ∧ gk = N - i ∧ vi = .int .i64 i ∧ MEl w wr B0 62 34 N S L C f (o3E L) i 0)
  case atStart => exact ⟨0, Nat.zero_le _, rfl, rfl, HM0.out⟩
  case round =>
    clear HM0
    obtain ⟨i, hi, rfl, rfl, hM⟩ := hrel
    by_cases hlt : i < N
    · obtain ⟨bT, oT, rfl, hcT⟩ := HCELL.out wr hM.only i hlt
      have hLi := HL.out i hlt
      obtain ⟨ln, hln⟩ : ∃ ln, ln = L i := ⟨_, rfl⟩
      rw [← hln] at hLi
      rw [← hln] at hcT
      have HLN := Lib.hid hln
      have HM := Lib.hid hM
      clear hM hln
      go_wp2
      go_loopg [4] ln (fun gk vj wr => ∃ j : Nat, j ≤ ln ∧ gk = ln - j ∧ vj = .int .i64 j ∧ MEl w wr B0 62 34 N S L C f (o3E L) i j)
      case atStart => exact ⟨0, Nat.zero_le _, rfl, rfl, HM.out⟩
      case round =>
        clear HM hcT
        obtain ⟨j, hj, rfl, rfl, hM⟩ := hrel
        obtain ⟨b', o', e', hcT⟩ := HCELL.out wr hM.only i hlt
        injection e' with e'
        injection e' with e1 e2
        subst e1 e2
        rw [← HLN.out] at hcT
        by_cases hlj : j < ln
        · rcases hM.addr hlt with ⟨_, e0⟩ | ⟨g, hg, hgB, hgl⟩
          · have := HLN.out; omega
          · obtain ⟨u0, hcj, hfz⟩ : ∃ u0, wr.cell? ⟨g, j, none⟩ = some u0 ∧ wr.frozen? ⟨g, j, none⟩ = false := by
              obtain ⟨bk, h1, _⟩ := hM
              have hoi := h1.1 i hlt
              rw [hg] at hoi
              exact ⟨_, hoi.cell1 (by rw [← HLN.out]; exact hlj), own_freeX hoi j⟩
            rw [hg] at hcT
            have hlj2 : j < L i := by rw [← HLN.out]; exact hlj
            have hw1 : (i : Int) % 256 = (i : Int) := by omega
            have HM2 := Lib.hid (hM.set HA.out hlt hlj2 hg (HIN.out i hlt g 0 hg) (o3E_lo hlj2) rfl)
            clear hM hg hlj2
            go_wp2
            go_roundg (ln - (j + 1))
            case measure => omega
            case rel => exact ⟨j + 1, by omega, rfl, by go_num, HM2.out⟩
        · obtain rfl : ln = j := by omega
          have HM2 := Lib.hid (hM.row (by rw [← HLN.out]; exact Nat.le_refl _))
          clear hM
          go_wp2
          go_roundg (N - (i + 1))
          case measure => omega
          case rel => exact ⟨i + 1, by omega, rfl, by go_num, HM2.out⟩
    · obtain rfl : N = i := by omega
      obtain ⟨bk, hG⟩ := MEl.grow (eh := 31) (ti := 3) (W := 70) hM HIN.out
      have HGB := Lib.hid hG
      clear hM hG
      go_wp2
      go_loopg [5, 6, 7, 8, 9] N (fun gk vl vw vi _ _ wr => ∃ (i ql : Nat) (SL : Nat → Option Addr) (LL CL I : Nat → Nat) (bk : Nat → Nat → Nat), i ≤ N ∧ gk = N - i ∧ vi = .int .i64 i ∧ ql ≤ 70 * i ∧ HB w wr B0 62 34 31 3 N 70 S L C (o3E L) i ql vl vw SL LL CL I bk)
      case atStart => exact ⟨0, 0, _, _, _, _, bk, Nat.zero_le _, rfl, rfl, Nat.le_refl _, HGB.out⟩
      case round =>
        clear HGB
        obtain ⟨i, ql, SL, LL, CL, I, bk, hi, rfl, rfl, hq, hG⟩ := hrel
        by_cases hlt : i < N
        · obtain ⟨bT, oT, rfl, hcT⟩ := HCELL.out wr hG.1.only i hlt
          have hLi := HL.out i hlt
          have HGS := Lib.hid (hG.start HA.out hlt)
          clear hG
          go_wp2
          go_loopg [5, 6, 8, 9] 70 (fun gk vl vw v vk wr => ∃ (k ql : Nat) (SL : Nat → Option Addr) (LL CL I : Nat → Nat) (bk : Nat → Nat → Nat), k ≤ 70 ∧ gk = 70 - k ∧ vk = .int .i64 k ∧ ql ≤ 70 * i + k ∧ HS w wr B0 62 34 31 3 N 70 S L C (o3E L) i k v ql ql vl vw SL LL CL I bk k)
          case atStart => exact ⟨0, ql, SL, LL, CL, I, bk, Nat.zero_le _, rfl, rfl, hq, HGS.out⟩
          case round =>
            clear HGS hcT hq
            obtain ⟨k, ql, SL, LL, CL, I, bk, hk, rfl, rfl, hq, hG⟩ := hrel
            by_cases hlk : k < 70
            · have hsB : B0 ≤ (wr.alloc (.cells #[.int .u8 ((i : Nat) : Int), .int .u8 200] 34)).heap.size := Nat.le_trans hB (Nat.le_trans hG.1.1.only.size (by simp))
              have HG := Lib.hid (hG.elem (A := #[.int .u8 ((i : Nat) : Int), .int .u8 200]) (by rw [o3E_hi (by omega)]))
              have hu : Hid ((#[Value.slice (some ⟨wr.heap.size, 0, none⟩) 2 2] : Array Value).toList = eF (o3E L) (upd2 bk i (L i + k) wr.heap.size) i (L i + k)) := Lib.hid (by
                unfold eF eV
                rw [upd2_at, o3E_hi (by omega)]
                rfl)
              have hw1 : (i : Int) % 256 = (i : Int) := by omega
              clear hG
              by_cases hka : k < 16
              · clear hlk
                have hd1 : (k : Int) < 16 := by omega
                go_wp2_with (at_builtin; refine wpList_pushX _ rfl (.tmp 52) (.tmp 56) 31 rfl B0 62 1 24 (.slice none 0 0) #[.slice (some ⟨wr.heap.size, 0, none⟩) 2 2] Try.underlying31 a3InfR rfl _ (L i + k) _ rfl HG.out.1.1.own hsB _ (by simp) rfl hu.out rfl rfl (by omega) (by omega) ?_)
                intro v1 w1 hown1 hbel1 hg1
                obtain ⟨A1, c1, rfl, _, _, _, _⟩ := Own.rd (f := eV (o3E L) (upd2 bk i (L i + k) wr.heap.size) i) hown1
                have HG1 := Lib.hid (HG.out.push HA.out hlt (by decide) hown1 hg1)
                have hsw1 := HG1.out.1.1.only.size
                clear hown1 hbel1 hg1 HG hu
                have hl1 : Own w1 w.heap.size 31 1 _ ql (fun m => [.slice (upd SL ql A1 m) (upd LL ql (L i + k + 1) m) (upd CL ql c1 m)]) := HG1.out.1.1.long.congr fun m hm => by rw [upd_ne _ _ _ (by omega), upd_ne _ _ _ (by omega), upd_ne _ _ _ (by omega)]
                have HL1 := Lib.hid hl1
                have hu2 : Hid ((#[Value.slice A1 (L i + k + 1) c1] : Array Value).toList = [.slice (upd SL ql A1 ql) (upd LL ql (L i + k + 1) ql) (upd CL ql c1 ql)]) := Lib.hid (by rw [upd_at, upd_at, upd_at])
                clear hl1
                go_wp2_with (at_builtin; refine wpList_pushX _ rfl (.tmp 64) (.tmp 66) 98 rfl w.heap.size 31 1 24 (.slice none 0 0) #[.slice A1 (L i + k + 1) c1] Try.underlying98 a3InfM rfl _ ql _ rfl HL1.out hsw1 _ rfl rfl hu2.out rfl rfl (by omega) (by omega) ?_)
                intro v2 w2 hown2 hbel2 hg2
                have HG2 := Lib.hid (HG1.out.keepL rfl HA.out hlt (by decide) (by decide) (by omega) (by omega) hown2 hg2)
                have hsw2 := HG2.out.1.1.only.size
                have hu3 : Hid ((#[Value.int .i64 ((i : Nat) : Int)] : Array Value).toList = [.int .i64 ((upd I ql i ql : Nat) : Int)]) := Lib.hid (by rw [upd_at])
                clear hown2 hbel2 hg2 HG1 HL1 hu2
                go_wp2_with (at_builtin; refine wpList_pushX _ rfl (.tmp 68) (.tmp 70) 23 rfl w.heap.size 3 1 8 (.int .i64 0) #[.int .i64 ((i : Nat) : Int)] Try.underlying23 apInt rfl _ ql _ rfl HG2.out.1.1.who hsw2 _ rfl rfl hu3.out rfl rfl (by omega) (by omega) ?_)
                intro v3 w3 hown3 hbel3 hg3
                have HG3 := Lib.hid (HG2.out.keepW HA.out (by decide) (by decide) hown3 hg3)
                clear hown3 hbel3 hg3 HG2 hu3
                go_wp2
                go_roundg (70 - (k + 1))
                case measure => omega
                case rel => exact ⟨k + 1, ql + 1, _, _, _, _, _, by omega, rfl, by go_num, by omega, HG3.out⟩
              · by_cases hkb : k = 69
                · have hd1 : ¬ (k : Int) < 16 := by omega
                  have hd2 : ((k : Int) == 69) = true := by rw [beq_iff_eq]; omega
                  clear hkb
                  go_wp2_with (at_builtin; refine wpList_pushX _ rfl (.tmp 52) (.tmp 56) 31 rfl B0 62 1 24 (.slice none 0 0) #[.slice (some ⟨wr.heap.size, 0, none⟩) 2 2] Try.underlying31 a3InfR rfl _ (L i + k) _ rfl HG.out.1.1.own hsB _ (by simp) rfl hu.out rfl rfl (by omega) (by omega) ?_)
                  intro v1 w1 hown1 hbel1 hg1
                  obtain ⟨A1, c1, rfl, _, _, _, _⟩ := Own.rd (f := eV (o3E L) (upd2 bk i (L i + k) wr.heap.size) i) hown1
                  have HG1 := Lib.hid (HG.out.push HA.out hlt (by decide) hown1 hg1)
                  have hsw1 := HG1.out.1.1.only.size
                  clear hown1 hbel1 hg1 HG hu
                  have hl1 : Own w1 w.heap.size 31 1 _ ql (fun m => [.slice (upd SL ql A1 m) (upd LL ql (L i + k + 1) m) (upd CL ql c1 m)]) := HG1.out.1.1.long.congr fun m hm => by rw [upd_ne _ _ _ (by omega), upd_ne _ _ _ (by omega), upd_ne _ _ _ (by omega)]
                  have HL1 := Lib.hid hl1
                  have hu2 : Hid ((#[Value.slice A1 (L i + k + 1) c1] : Array Value).toList = [.slice (upd SL ql A1 ql) (upd LL ql (L i + k + 1) ql) (upd CL ql c1 ql)]) := Lib.hid (by rw [upd_at, upd_at, upd_at])
                  clear hl1
                  go_wp2_with (at_builtin; refine wpList_pushX _ rfl (.tmp 64) (.tmp 66) 98 rfl w.heap.size 31 1 24 (.slice none 0 0) #[.slice A1 (L i + k + 1) c1] Try.underlying98 a3InfM rfl _ ql _ rfl HL1.out hsw1 _ rfl rfl hu2.out rfl rfl (by omega) (by omega) ?_)
                  intro v2 w2 hown2 hbel2 hg2
                  have HG2 := Lib.hid (HG1.out.keepL rfl HA.out hlt (by decide) (by decide) (by omega) (by omega) hown2 hg2)
                  have hsw2 := HG2.out.1.1.only.size
                  have hu3 : Hid ((#[Value.int .i64 ((i : Nat) : Int)] : Array Value).toList = [.int .i64 ((upd I ql i ql : Nat) : Int)]) := Lib.hid (by rw [upd_at])
                  clear hown2 hbel2 hg2 HG1 HL1 hu2
                  go_wp2_with (at_builtin; refine wpList_pushX _ rfl (.tmp 68) (.tmp 70) 23 rfl w.heap.size 3 1 8 (.int .i64 0) #[.int .i64 ((i : Nat) : Int)] Try.underlying23 apInt rfl _ ql _ rfl HG2.out.1.1.who hsw2 _ rfl rfl hu3.out rfl rfl (by omega) (by omega) ?_)
                  intro v3 w3 hown3 hbel3 hg3
                  have HG3 := Lib.hid (HG2.out.keepW HA.out (by decide) (by decide) hown3 hg3)
                  clear hown3 hbel3 hg3 HG2 hu3
                  go_wp2
                  go_roundg (70 - (k + 1))
                  case measure => omega
                  case rel => exact ⟨k + 1, ql + 1, _, _, _, _, _, by omega, rfl, by go_num, by omega, HG3.out⟩
                · have hd1 : ¬ (k : Int) < 16 := by omega
                  have hd2 : ((k : Int) == 69) = false := by rw [beq_eq_false_iff_ne]; omega
                  clear hkb
                  go_wp2_with (at_builtin; refine wpList_pushX _ rfl (.tmp 52) (.tmp 56) 31 rfl B0 62 1 24 (.slice none 0 0) #[.slice (some ⟨wr.heap.size, 0, none⟩) 2 2] Try.underlying31 a3InfR rfl _ (L i + k) _ rfl HG.out.1.1.own hsB _ (by simp) rfl hu.out rfl rfl (by omega) (by omega) ?_)
                  intro v1 w1 hown1 hbel1 hg1
                  obtain ⟨A1, c1, rfl, _, _, _, _⟩ := Own.rd (f := eV (o3E L) (upd2 bk i (L i + k) wr.heap.size) i) hown1
                  have HG1 := Lib.hid (HG.out.push HA.out hlt (by decide) hown1 hg1)
                  have hsw1 := HG1.out.1.1.only.size
                  clear hown1 hbel1 hg1 HG hu
                  go_wp2
                  go_roundg (70 - (k + 1))
                  case measure => omega
                  case rel => exact ⟨k + 1, ql, SL, LL, CL, I, _, by omega, rfl, by go_num, by omega, HG1.out⟩
            · obtain rfl : k = 70 := by omega
              have HG2 := Lib.hid hG.stop
              clear hG
              go_wp2
              go_roundg (N - (i + 1))
              case measure => omega
              case rel => exact ⟨i + 1, ql, SL, LL, CL, I, bk, by omega, rfl, by go_num, by omega, HG2.out⟩
        · obtain rfl : N = i := by omega
          have HG := Lib.hid hG
          clear hG
          obtain ⟨Al, cl, rfl, _, _, hrl, _⟩ := HG.out.1.long.rd
          obtain ⟨Aw, cw, rfl, _, _, hrw, _⟩ := HG.out.1.who.rd
          obtain ⟨wz, hwz⟩ : ∃ wz, wz = wr := ⟨_, rfl⟩
          rw [← hwz] at HG hrl hrw ⊢
          have HRL := Lib.hid hrl; have HRW := Lib.hid hrw
          clear hwz hrl hrw
          go_wp2
          go_loopg [10, 11, 12, 13] ql (fun gk vn _ _ _ wr => ∃ m : Nat, m ≤ ql ∧ gk = ql - m ∧ vn = .int .i64 m ∧ Below wz.heap.size wz wr)
          case atStart => exact ⟨0, Nat.zero_le _, rfl, rfl, Below.refl _ _⟩
          case round =>
            obtain ⟨m, hm, rfl, rfl, hb⟩ := hrel
            by_cases hlt : m < ql
            · obtain ⟨bw, ow, rfl, hbw, hcw⟩ := HRW.out m hlt
              obtain ⟨bl, ol, rfl, hbl, hcl⟩ := HRL.out m hlt
              have hi0 := (HG.out.1.kept m hlt).1
              have hIt := fun j (hj : j < LL m) => (HG.out.item hlt hj).2
              have hlmx := (HG.out.2.2 m hlt).2
              obtain ⟨i0, hi0e⟩ : ∃ i0, i0 = I m := ⟨_, rfl⟩
              obtain ⟨A0, hA0⟩ : ∃ A0, A0 = SL m := ⟨_, rfl⟩
              obtain ⟨ln, hln⟩ : ∃ ln, ln = LL m := ⟨_, rfl⟩
              obtain ⟨c0, hc0⟩ : ∃ c0, c0 = CL m := ⟨_, rfl⟩
              have hcw2 : wr.cell? ⟨bw, ow + m, none⟩ = some (.int .i64 (i0 : Nat)) := by rw [hi0e]; exact (hb.cell hbw).trans hcw
              rw [← hi0e] at hi0 hIt hlmx
              rw [← hA0, ← hln] at hIt
              rw [← hln] at hlmx
              have HIT := Lib.hid hIt
              have HRS := Lib.hid fun j (hj : j < L i0) => HG.out.old hi0 hj
              have HCL : Hid (∀ w', Below wr.heap.size wr w' → w'.cell? ⟨bl, ol + m, none⟩ = some (.slice A0 ln c0)) := Lib.hid fun w' hb' => by
                rw [hA0, hln, hc0]
                exact ((hb.trans (hb'.mono hb.size)).cell hbl).trans hcl
              obtain ⟨l0, hl0⟩ : ∃ l0, l0 = L i0 := ⟨_, rfl⟩
              have HL0 := Lib.hid hl0
              obtain ⟨S0, hS0⟩ : ∃ S0, S0 = S i0 := ⟨_, rfl⟩
              obtain ⟨C0, hC0⟩ : ∃ C0, C0 = C i0 := ⟨_, rfl⟩
              obtain ⟨bT, oT, hATe, _⟩ := HCELL.out wr (HG.out.1.only.below hb) i0 hi0
              subst hATe
              have HCT : Hid (∀ w', Below wr.heap.size wr w' → w'.cell? ⟨bT, oT + i0, none⟩ = some (.slice S0 l0 C0)) := Lib.hid fun w' hb' => by
                obtain ⟨b', o', e', hc'⟩ := HCELL.out w' (HG.out.1.only.below (hb.trans (hb'.mono hb.size))) i0 hi0
                injection e' with e'
                injection e' with e1 e2
                subst e1 e2
                rw [hS0, hl0, hC0]
                exact hc'
              rw [← hS0, ← hl0] at HRS
              have hlnb := HCL.out wr (Below.refl _ _)
              have hl0b : l0 ≤ 300 := by rw [hl0]; exact HL.out i0 hi0
              have hlnn : ln ≤ 370 := by rw [← hl0] at hlmx; omega
              have HBz := Lib.hid hb
              clear hb hbw hcw hbl hcl hIt hi0e hA0 hln hc0 hl0 hS0 hC0 hlmx
              go_wp2
              go_loopg [12, 13] ln (fun gk vj _ wr' => ∃ j : Nat, j ≤ ln ∧ gk = ln - j ∧ vj = .int .i64 j ∧ Below wr.heap.size wr wr')
              case atStart => exact ⟨0, Nat.zero_le _, rfl, rfl, Below.refl _ _⟩
              case round =>
                clear hlnb hcw2
                obtain ⟨j, hj, rfl, rfl, hb⟩ := hrel
                have hlnb := HCL.out _ hb
                have hctb := HCT.out _ hb
                replace HBz := Lib.hid (HBz.out.trans (hb.mono HBz.out.size))
                by_cases hlj : j < ln
                · obtain ⟨by1, oy1, rfl, hby1, hcy10, hbj, hbjl⟩ := HIT.out j hlj
                  have HBn := Lib.hid hb
                  unfold eV at hcy10
                  obtain ⟨bj, hbje⟩ : ∃ bj, bj = bk i0 j := ⟨_, rfl⟩
                  rw [← hbje] at hcy10 hbj hbjl
                  by_cases hjl : j < l0
                  · obtain ⟨by2, oy2, rfl, hby2, hcy20, _, _⟩ := HRS.out j hjl
                    unfold eV at hcy20
                    rw [← hbje] at hcy20
                    rw [o3E_lo (by rw [← HL0.out]; exact hjl)] at hcy10 hbj hcy20
                    replace hcy10 : wz.cell? ⟨by1, oy1 + j, none⟩ = some (.slice (some ⟨bj, 0, none⟩) 1 1) := hcy10
                    replace hcy20 : wz.cell? ⟨by2, oy2 + j, none⟩ = some (.slice (some ⟨bj, 0, none⟩) 1 1) := hcy20
                    clear hbje
                    have hw1 : (i0 : Int) % 256 = (i0 : Int) := by omega
                    have hjc : (j : Int) < (l0 : Int) := by omega
                    have hjd : ¬ (l0 : Int) ≤ (j : Int) := by omega
                    have hc1 : wr.cell? ⟨by1, oy1 + j, none⟩ = some (.slice (some ⟨bj, 0, none⟩) 1 1) := (HBz.out.cell hby1).trans hcy10
                    have hcb : wr.cell? ⟨bj, 0, none⟩ = some (.int .u8 (i0 : Int)) := by rw [cell_of_row wr bj 0 _ _ (0, 0) ((HBz.out.block bj hbjl).trans hbj)]; rfl
                    have hc2 : wr.cell? ⟨by2, oy2 + j, none⟩ = some (.slice (some ⟨bj, 0, none⟩) 1 1) := (HBz.out.cell hby2).trans hcy20
                    clear hb hby1 hcy10 hbj hbjl hby2 hcy20
                    go_wp2
                    go_roundg (ln - (j + 1))
                    case measure => omega
                    case rel => exact ⟨j + 1, by omega, rfl, by go_num, HBn.out⟩
                  · rw [o3E_hi (by rw [← HL0.out]; exact hjl)] at hcy10 hbj
                    replace hcy10 : wz.cell? ⟨by1, oy1 + j, none⟩ = some (.slice (some ⟨bj, 0, none⟩) 2 2) := hcy10
                    clear hbje
                    have hw1 : (i0 : Int) % 256 = (i0 : Int) := by omega
                    have hjc : ¬ (j : Int) < (l0 : Int) := by omega
                    have hjd : (l0 : Int) ≤ (j : Int) := by omega
                    have hc1 : wr.cell? ⟨by1, oy1 + j, none⟩ = some (.slice (some ⟨bj, 0, none⟩) 2 2) := (HBz.out.cell hby1).trans hcy10
                    have hcb : wr.cell? ⟨bj, 0, none⟩ = some (.int .u8 (i0 : Int)) := by rw [cell_of_row wr bj 0 _ _ (0, 0) ((HBz.out.block bj hbjl).trans hbj)]; rfl
                    clear hb hby1 hcy10 hbj hbjl
                    go_wp2
                    go_roundg (ln - (j + 1))
                    case measure => omega
                    case rel => exact ⟨j + 1, by omega, rfl, by go_num, HBn.out⟩
                · obtain rfl : ln = j := by omega
                  clear hb
                  go_wp2
                  go_roundg (ql - (m + 1))
                  case measure => omega
                  case rel => exact ⟨m + 1, by omega, rfl, by go_num, HBz.out⟩
            · obtain rfl : ql = m := by omega
              have HF := Lib.hid (HG.out.1.only.below hb)
              clear hb
              go_wp2
              go_ret
              exact ⟨rfl, HF.out⟩
end Go.Proofs.Ytpocjpodeahanaa

/- apart: the rows of matrices are written full, grown, looked at; so are the lists of rows. Conditions: matrices that lie apart. -/
namespace Go.Proofs.Ytpocjpodeahanaa
open Go.RowKit

/-- The lists up to i are written full, j of the list i's own. -/
def a3M (f : Nat → Nat → Value) (i j t q : Nat) : Value := if t < i ∨ (t = i ∧ q < j) then .int .u8 ((1 + t % 120 : Nat) : Int) else f t q
def flR (RLs : Nat → List Rw) (i : Nat) : List Rw := (List.range i).flatMap RLs
theorem flR_next (RLs : Nat → List Rw) (i : Nat) : flR RLs (i + 1) = flR RLs i ++ RLs i := by unfold flR; rw [List.range_succ, List.flatMap_append]; simp
theorem flR_le (RLs : Nat → List Rw) : ∀ {n i : Nat}, i ≤ n → (flR RLs i).length ≤ (flR RLs n).length
  | 0, i, h => by have : i = 0 := by omega
                  subst this; exact Nat.le_refl _
  | n + 1, i, h => by
    by_cases e : i = n + 1
    · subst e; exact Nat.le_refl _
    · rw [flR_next, List.length_append]
      have := flR_le RLs (n := n) (i := i) (by omega)
      omega
theorem takeR {R : List Rw} {j : Nat} (h : j < R.length) : R.take j ++ [R.getD j rw0] = R.take (j + 1) := by
  rw [List.getD_eq_getElem?_getD, List.getElem?_eq_getElem h, List.take_add_one, List.getElem?_eq_getElem h]
  rfl
set_option maxRecDepth 100000 in
set_option maxHeartbeats 16000000 in
theorem apart3_any (AN : Option Addr) (N0 cN : Nat) (SM : Nat → Option Addr) (CM : Nat → Nat) (RLs : Nat → List Rw) (U : Nat → Prop) (Bt B1 B0 : Nat) (w : World) (hN0 : N0 ≤ 100) (hlR : ∀ i, i < N0 → (RLs i).length ≤ 300) (hfl : (flR RLs N0).length ≤ 30000) (hrn : ∀ r ∈ flR RLs N0, r.n ≤ 1000000)
    (hT : Own w Bt 31 1 (.slice AN N0 cN) N0 (fun i => [.slice (SM i) (RLs i).length (CM i)])) (hM : ∀ i, i < N0 → Own w B1 62 1 (.slice (SM i) (RLs i).length (CM i)) (RLs i).length (fun j => [((RLs i).getD j rw0).v])) (hMA : Apt N0 SM) (hR : AR w B0 34 U (flR RLs N0)) (hB1 : B1 ≤ w.heap.size) (hB0 : B0 ≤ w.heap.size) (hU : ∀ k, U k → k < w.heap.size) :
    Calls Try.prog 66 #[.slice AN N0 cN] w fun e w' => e = .returned (.bool true) ∧ Only (fun k => U k ∨ RB N0 SM k) w w' := by
  have HT := Lib.hid hT; have HM := Lib.hid hM; have HMA := Lib.hid hMA; have HR := Lib.hid hR; have HLR := Lib.hid hlR; have HRN := Lib.hid hrn; have HU := Lib.hid hU
  obtain ⟨NF, hNF⟩ : ∃ NF, NF = (flR RLs N0).length := ⟨_, rfl⟩
  rw [← hNF] at hfl
  have HNF := Lib.hid hNF
  have HTC : Hid (∀ w', Below w.heap.size w w' → ∀ i, i < N0 → ∃ b o, AN = some ⟨b, o, none⟩ ∧ w'.cell? ⟨b, o + i, none⟩ = some (.slice (SM i) (RLs i).length (CM i))) := Lib.hid fun w' hb i hi => by
    obtain ⟨A', c', e1, _, _, hr, _⟩ := (HT.out.kept hb).rd
    injection e1 with e1 _ _
    subst e1
    obtain ⟨b, o, e2, _, hc⟩ := hr i hi
    exact ⟨b, o, e2, hc⟩
  have HMC : Hid (∀ w', Below w.heap.size w w' → ∀ i, i < N0 → ∀ j, j < (RLs i).length → ∃ b o, SM i = some ⟨b, o, none⟩ ∧ w'.cell? ⟨b, o + j, none⟩ = some ((RLs i).getD j rw0).v) := Lib.hid fun w' hb i hi j hj => by
    obtain ⟨A', c', e1, _, _, hr, _⟩ := ((HM.out i hi).kept hb).rd
    injection e1 with e1 _ _
    subst e1
    obtain ⟨b, o, e2, _, hc⟩ := hr j hj
    exact ⟨b, o, e2, hc⟩
  clear hT hM hMA hR hlR hrn hU hNF
  go_enter Try.func66, Try.ntmps66
  go_wp2
  go_loopg [3, 4, 5] N0 (fun gk vf vi _ wr => ∃ i : Nat, i ≤ N0 ∧ gk = N0 - i ∧ vi = .int .i64 i ∧ OwnR wr w.heap.size 62 vf (flR RLs i) ∧ Below w.heap.size w wr)
  case atStart => exact ⟨0, Nat.zero_le _, rfl, rfl, OwnR.nil _ _ _, Below.refl _ _⟩
  case round =>
    obtain ⟨i, hi, rfl, rfl, hv, hb⟩ := hrel
    by_cases hlt : i < N0
    · obtain ⟨bT, oT, rfl, hcT⟩ := HTC.out wr hb i hlt
      have hln := HLR.out i hlt
      obtain ⟨ln, hle⟩ : ∃ ln, ln = (RLs i).length := ⟨_, rfl⟩
      rw [← hle] at hln hcT
      have HLE := Lib.hid hle
      have HV := Lib.hid hv; have HB := Lib.hid hb
      have hfi : (flR RLs (i + 1)).length ≤ NF := by rw [HNF.out]; exact flR_le RLs (by omega)
      rw [flR_next, List.length_append, ← hle] at hfi
      clear hv hb hle
      go_wp2
      go_loopg [3, 5] ln (fun gk vf vj wr => ∃ j : Nat, j ≤ ln ∧ gk = ln - j ∧ vj = .int .i64 j ∧ OwnR wr w.heap.size 62 vf (flR RLs i ++ (RLs i).take j) ∧ Below w.heap.size w wr)
      case atStart => exact ⟨0, Nat.zero_le _, rfl, rfl, by rw [List.take_zero, List.append_nil]; exact HV.out, HB.out⟩
      case round =>
        clear HV HB hcT
        obtain ⟨j, hj, rfl, rfl, hv, hb⟩ := hrel
        obtain ⟨b', o', e', hcT⟩ := HTC.out wr hb i hlt
        injection e' with e'
        injection e' with e1 e2
        subst e1 e2
        rw [← HLE.out] at hcT
        by_cases hlj : j < ln
        · obtain ⟨bM, oM, hSM, hcM⟩ := HMC.out wr hb i hlt j (by rw [← HLE.out]; exact hlj)
          rw [hSM] at hcT
          have HTK : Hid ((RLs i).take j ++ [(RLs i).getD j rw0] = (RLs i).take (j + 1)) := Lib.hid (takeR (by rw [← HLE.out]; exact hlj))
          obtain ⟨⟨A1, n1, c1, f1⟩, hr1⟩ : ∃ r1, r1 = (RLs i).getD j rw0 := ⟨_, rfl⟩
          rw [← hr1] at hcM HTK
          replace hcM : wr.cell? ⟨bM, oM + j, none⟩ = some (.slice A1 n1 c1) := hcM
          have HV := Lib.hid hv; have HB := Lib.hid hb
          have hsz := hb.size
          have htl : (flR RLs i ++ (RLs i).take j).length + 1 ≤ 1000000000000 := by
            rw [List.length_append, List.length_take]
            omega
          clear hv hb hr1 hSM
          go_wp2_with (at_builtin; refine wpList_appC _ rfl (.tmp 29) (.tmp 37) 31 rfl w.heap.size 62 Try.underlying31 a3InfR _ _ [⟨A1, n1, c1, f1⟩] #[.slice A1 n1 c1] 1 rfl rfl rfl HV.out hsz _ rfl rfl htl ?_)
          intro v2 w2 hO2 hb2 _
          have HV2 := Lib.hid hO2
          first | rw [HTK.out] at HV2 | rw [List.append_assoc, HTK.out] at HV2
          have HB2 := Lib.hid (HB.out.trans hb2)
          clear hO2 hb2 HV HB HTK
          go_wp2
          go_roundg (ln - (j + 1))
          case measure => omega
          case rel => exact ⟨j + 1, by omega, rfl, by go_num, HV2.out, HB2.out⟩
        · obtain rfl : ln = j := by omega
          have HV2 : Hid (OwnR wr w.heap.size 62 _ (flR RLs (i + 1))) := Lib.hid (by
            rw [flR_next]
            rw [HLE.out, List.take_length] at hv
            exact hv)
          have HB2 := Lib.hid hb
          clear hv hb
          go_wp2
          go_roundg (N0 - (i + 1))
          case measure => omega
          case rel => exact ⟨i + 1, by omega, rfl, by go_num, HV2.out, HB2.out⟩
    · obtain rfl : N0 = i := by omega
      obtain ⟨R, hRe⟩ : ∃ R, R = flR RLs N0 := ⟨_, rfl⟩
      rw [← hRe] at hv HR HRN HNF
      have HRA := Lib.hid (HR.out.kept hb)
      have HVA := Lib.hid hv
      have HBA := Lib.hid hb
      obtain ⟨AF, cF, rfl, _, _, _, _⟩ := hv.own.rd
      rw [← HNF.out] at HVA ⊢
      obtain ⟨wA, hwA⟩ : ∃ wA, wA = wr := ⟨_, rfl⟩
      rw [← hwA] at HRA HVA HBA ⊢
      have HOV : Hid (Own wA w.heap.size 62 1 (.slice AF NF cF) NF (fun t => [.slice (R.getD t rw0).A (R.getD t rw0).n (R.getD t rw0).c])) := Lib.hid (by rw [HNF.out] at HVA ⊢; exact HVA.out.own)
      have HOR : Hid (∀ t, t < NF → Own wA B0 34 1 (.slice (R.getD t rw0).A (R.getD t rw0).n (R.getD t rw0).c) (R.getD t rw0).n (fun q => [(R.getD t rw0).f q])) := Lib.hid (by rw [HNF.out]; exact HRA.out.own)
      have HAP : Hid (Apt NF (fun t => (R.getD t rw0).A)) := Lib.hid (by rw [HNF.out]; exact HRA.out.apt)
      have HRBU : Hid (∀ k, RB NF (fun t => (R.getD t rw0).A) k → U k) := Lib.hid (by rw [HNF.out]; exact fun k hk => HRA.out.rb hk)
      have HLN : Hid (∀ t, t < NF → (R.getD t rw0).n ≤ 1000000) := Lib.hid fun t ht => HRN.out _ (rget (by rw [← HNF.out]; exact ht))
      have hsA := HBA.out.size
      clear hv hb hRe hwA HR HRN HRA HVA
      obtain ⟨S, hS⟩ : ∃ S : Nat → Option Addr, S = fun t => (R.getD t rw0).A := ⟨_, rfl⟩
      obtain ⟨L, hLe⟩ : ∃ L : Nat → Nat, L = fun t => (R.getD t rw0).n := ⟨_, rfl⟩
      obtain ⟨C, hCe⟩ : ∃ C : Nat → Nat, C = fun t => (R.getD t rw0).c := ⟨_, rfl⟩
      obtain ⟨f, hfe⟩ : ∃ f : Nat → Nat → Value, f = fun t q => (R.getD t rw0).f q := ⟨_, rfl⟩
      have HO1 : Hid (Own wA w.heap.size 62 1 (.slice AF NF cF) NF (fun t => [.slice (S t) (L t) (C t)])) := Lib.hid (by rw [hS, hLe, hCe]; exact HOV.out)
      have HO2 : Hid (∀ t, t < NF → Own wA B0 34 1 (.slice (S t) (L t) (C t)) (L t) (fun q => [f t q])) := Lib.hid (by rw [hS, hLe, hCe, hfe]; exact HOR.out)
      have HA : Hid (Apt NF S) := Lib.hid (by rw [hS]; exact HAP.out)
      have HRU : Hid (∀ k, RB NF S k → U k) := Lib.hid (by rw [hS]; exact HRBU.out)
      have HL : Hid (∀ t, t < NF → L t ≤ 1000000) := Lib.hid (by rw [hLe]; exact HLN.out)
      clear hS hLe hCe hfe HOV HOR HAP HRBU HLN
      have HTN := Lib.hid (top_ne HO1.out HO2.out (by decide))
      have HM0 : Hid (MK wA wA B0 34 NF S L C (a3M f 0 0)) := Lib.hid (MK.congr ⟨HO2.out, Only.refl _ _⟩ fun t _ q _ => by unfold a3M; rw [if_neg (by omega)])
      have HIN : Hid (∀ t, t < NF → ∀ s o, S t = some ⟨s, o, none⟩ → s < wA.heap.size) := Lib.hid fun t ht s o es => ((HO2.out t ht).lt s ((HO2.out t ht).off es).2).2
      have HCELL : Hid (∀ w', Only (RB NF S) wA w' → ∀ t, t < NF → ∃ b o, AF = some ⟨b, o, none⟩ ∧ w'.cell? ⟨b, o + t, none⟩ = some (.slice (S t) (L t) (C t))) := Lib.hid fun w' ho t ht => by
        obtain ⟨A', c', e1, _, _, hr, _⟩ := (ho.own HO1.out HTN.out).rd
        injection e1 with e1 _ _
        subst e1
        obtain ⟨b, o, e2, _, hc⟩ := hr t ht
        exact ⟨b, o, e2, hc⟩
      go_wp2
      go_loopg [6, 7] NF (fun gk vi _ wr => ∃ i : Nat, i ≤ NF ∧ gk = NF - i ∧ vi = .int .i64 i ∧ MK wA wr B0 34 NF S L C (a3M f i 0))
      case atStart => exact ⟨0, Nat.zero_le _, rfl, rfl, HM0.out⟩
      case round =>
        clear HM0
        obtain ⟨i, hi, rfl, rfl, hM⟩ := hrel
        by_cases hlt : i < NF
        · obtain ⟨bT, oT, rfl, hcT⟩ := HCELL.out wr hM.2 i hlt
          have hLi := HL.out i hlt
          obtain ⟨ln, hln⟩ : ∃ ln, ln = L i := ⟨_, rfl⟩
          rw [← hln] at hLi
          rw [← hln] at hcT
          have HLN := Lib.hid hln
          have HMx := Lib.hid hM
          clear hM hln
          go_wp2
          go_loopg [7] ln (fun gk vj wr => ∃ j : Nat, j ≤ ln ∧ gk = ln - j ∧ vj = .int .i64 j ∧ MK wA wr B0 34 NF S L C (a3M f i j))
          case atStart => exact ⟨0, Nat.zero_le _, rfl, rfl, HMx.out⟩
          case round =>
            clear HMx hcT
            obtain ⟨j, hj, rfl, rfl, hM⟩ := hrel
            obtain ⟨b', o', e', hcT⟩ := HCELL.out wr hM.2 i hlt
            injection e' with e'
            injection e' with e1 e2
            subst e1 e2
            rw [← HLN.out] at hcT
            by_cases hlj : j < ln
            · have hoi := hM.1 i hlt
              rcases hoi.addr with ⟨_, e0⟩ | ⟨g, hg, hgB, hgl⟩
              · have := HLN.out; omega
              · rw [hg] at hcT
                have hlj2 : j < L i := by rw [← HLN.out]; exact hlj
                rw [hg] at hoi
                have hcj := hoi.cell1 hlj2
                have hfz := own_freeX hoi j
                obtain ⟨r, hr⟩ : ∃ r, r = i % 120 := ⟨_, rfl⟩
                have hrm : (i : Int).tmod 120 = (r : Int) := by rw [hr]; exact rem120 i
                have hr1 : r < 120 := by rw [hr]; exact Nat.mod_lt _ (by decide)
                have hw1 : ((1 : Int) + (r : Int)) % 256 = ((1 + r : Nat) : Int) := by omega
                have HM2 := Lib.hid (hM.set HA.out hlt hlj2 hg (u := .int .u8 ((1 + r : Nat) : Int)) (f' := a3M f i (j + 1)) fun t _ q _ => by
                  unfold a3M
                  by_cases e : t = i ∧ q = j
                  · rw [if_pos e, if_pos (by omega), e.1, hr]
                  · rw [if_neg e]
                    by_cases h1 : t < i ∨ (t = i ∧ q < j)
                    · rw [if_pos h1, if_pos (by omega)]
                    · rw [if_neg h1, if_neg (by omega)])
                generalize a3M f i j i j = u0 at *
                rw [show (((1 + r : Nat)) : Int) = (1 : Int) + (r : Int) from by omega] at HM2
                clear hM hoi hg hlj2 hr
                go_wp2
                go_roundg (ln - (j + 1))
                case measure => omega
                case rel => exact ⟨j + 1, by omega, rfl, by go_num, HM2.out⟩
            · obtain rfl : ln = j := by omega
              have HM2 := Lib.hid (hM.congr (f' := a3M f (i + 1) 0) fun t _ q hq => by
                unfold a3M
                by_cases h1 : t < i ∨ (t = i ∧ q < ln)
                · rw [if_pos h1, if_pos (by omega)]
                · rw [if_neg h1, if_neg (by
                    have h5 := HLN.out
                    rintro (h2 | ⟨_, h2⟩)
                    · have : t = i := by omega
                      subst this
                      omega
                    · omega)])
              clear hM
              go_wp2
              go_roundg (NF - (i + 1))
              case measure => omega
              case rel => exact ⟨i + 1, by omega, rfl, by go_num, HM2.out⟩
        · obtain rfl : NF = i := by omega
          have HRW : Hid (∀ t, t < NF → Own wr B0 34 1 (.slice (S t) (L t) (C t)) (L t) (a3F L t)) := Lib.hid fun t ht => (hM.1 t ht).congr fun q hq => by
            unfold a3M a3F a3V
            rw [if_pos (.inl ht), if_pos hq]
          have HTOP := Lib.hid (hM.2.own HO1.out HTN.out)
          have HONA := Lib.hid hM.2
          have hsB := hM.2.size
          have HGR := Lib.hid (grown_any AF NF cF S L C w.heap.size B0 wr (by omega) (fun t ht => Nat.le_trans (HL.out t ht) (by decide)) HTOP.out HRW.out HA.out (by omega))
          obtain ⟨wB, hwB⟩ : ∃ wB, wB = wr := ⟨_, rfl⟩
          rw [← hwB] at HRW HTOP HONA HGR hsB ⊢
          clear hM hwB
          go_wp2_with fail
          refine HGR.out.mono ?_
          rintro e wr ⟨ql, vl, vw, SL, LL, CL, I, rfl, hql, hG⟩
          have HG := Lib.hid hG
          have HON2 := Lib.hid (HONA.out.trans (hG.only))
          clear hG HGR
          obtain ⟨Al, cl, rfl, _, _, hrl, _⟩ := HG.out.long.rd
          obtain ⟨Aw, cw, rfl, _, _, hrw, _⟩ := HG.out.who.rd
          obtain ⟨wz, hwz⟩ : ∃ wz, wz = wr := ⟨_, rfl⟩
          rw [← hwz] at HG hrl hrw HON2 ⊢
          have HRL := Lib.hid hrl; have HRW := Lib.hid hrw
          clear hwz hrl hrw
          go_wp2
          go_loopg [10, 11, 12, 13] ql (fun gk vn _ _ _ wr => ∃ m : Nat, m ≤ ql ∧ gk = ql - m ∧ vn = .int .i64 m ∧ Below wz.heap.size wz wr)
          case atStart => exact ⟨0, Nat.zero_le _, rfl, rfl, Below.refl _ _⟩
          case round =>
            obtain ⟨m, hm, rfl, rfl, hb⟩ := hrel
            by_cases hlt : m < ql
            · obtain ⟨bw, ow, rfl, hbw, hcw⟩ := HRW.out m hlt
              obtain ⟨bl, ol, rfl, hbl, hcl⟩ := HRL.out m hlt
              obtain ⟨hi0, hIt, _⟩ := HG.out.kept m hlt
              obtain ⟨i0, hi0e⟩ : ∃ i0, i0 = I m := ⟨_, rfl⟩
              obtain ⟨A0, hA0⟩ : ∃ A0, A0 = SL m := ⟨_, rfl⟩
              obtain ⟨ln, hln⟩ : ∃ ln, ln = LL m := ⟨_, rfl⟩
              obtain ⟨c0, hc0⟩ : ∃ c0, c0 = CL m := ⟨_, rfl⟩
              have hcw2 : wr.cell? ⟨bw, ow + m, none⟩ = some (.int .i64 (i0 : Nat)) := by rw [hi0e]; exact (hb.cell hbw).trans hcw
              rw [← hi0e] at hi0 hIt
              rw [← hA0, ← hln] at hIt
              have HRA := Lib.hid (hIt.1.rd)
              have HRS := Lib.hid ((HG.out.base i0 hi0).1.rd)
              have HCL : Hid (∀ w', Below wr.heap.size wr w' → w'.cell? ⟨bl, ol + m, none⟩ = some (.slice A0 ln c0)) := Lib.hid fun w' hb' => by
                rw [hA0, hln, hc0]
                exact ((hb.trans (hb'.mono hb.size)).cell hbl).trans hcl
              obtain ⟨l0, hl0⟩ : ∃ l0, l0 = L i0 := ⟨_, rfl⟩
              have HL0 := Lib.hid hl0
              obtain ⟨S0, hS0⟩ : ∃ S0, S0 = S i0 := ⟨_, rfl⟩
              obtain ⟨C0, hC0⟩ : ∃ C0, C0 = C i0 := ⟨_, rfl⟩
              obtain ⟨bT, oT, hATe, _⟩ := HCELL.out wr (HON2.out.below hb) i0 hi0
              subst hATe
              have HCT : Hid (∀ w', Below wr.heap.size wr w' → w'.cell? ⟨bT, oT + i0, none⟩ = some (.slice S0 l0 C0)) := Lib.hid fun w' hb' => by
                obtain ⟨b', o', e', hc'⟩ := HCELL.out w' (HON2.out.below (hb.trans (hb'.mono hb.size))) i0 hi0
                injection e' with e'
                injection e' with e1 e2
                subst e1 e2
                rw [hS0, hl0, hC0]
                exact hc'
              rw [← hS0, ← hl0] at HRS
              have hlnb := HCL.out wr (Below.refl _ _)
              have hlnn : ln ≤ 1000000000000000 := by rw [hln]; exact HG.out.lenb m hlt
              have hl0b : l0 ≤ 1000000 := by rw [hl0]; exact HL.out i0 hi0
              have HBz := Lib.hid hb
              obtain ⟨r, hr⟩ : ∃ r, r = i0 % 120 := ⟨_, rfl⟩
              have HRE := Lib.hid hr
              have hrm : (i0 : Int).tmod 120 = (r : Int) := by rw [hr]; exact rem120 i0
              have hr1 : r < 120 := by rw [hr]; exact Nat.mod_lt _ (by decide)
              have hw1 : ((1 : Int) + (r : Int)) % 256 = (1 : Int) + (r : Int) := by omega
              have hw2 : ((128 : Int) + (r : Int)) % 256 = (128 : Int) + (r : Int) := by omega
              clear hb hbw hcw hbl hcl hIt hi0e hA0 hln hc0 hl0 hS0 hC0 hr
              go_wp2
              go_loopg [12, 13] ln (fun gk vj _ wr' => ∃ j : Nat, j ≤ ln ∧ gk = ln - j ∧ vj = .int .i64 j ∧ Below wr.heap.size wr wr')
              case atStart => exact ⟨0, Nat.zero_le _, rfl, rfl, Below.refl _ _⟩
              case round =>
                clear hlnb hcw2
                obtain ⟨j, hj, rfl, rfl, hb⟩ := hrel
                have hlnb := HCL.out _ hb
                have hctb := HCT.out _ hb
                replace HBz := Lib.hid (HBz.out.trans (hb.mono HBz.out.size))
                by_cases hlj : j < ln
                · obtain ⟨by1, oy1, rfl, hby1, hcy1⟩ := HRA.out j hlj
                  replace hcy1 := (HBz.out.cell hby1).trans hcy1
                  have HBn := Lib.hid hb
                  unfold a3V at hcy1
                  rw [← HL0.out, ← HRE.out] at hcy1
                  by_cases hjl : j < l0
                  · obtain ⟨by2, oy2, rfl, hby2, hcy2⟩ := HRS.out j hjl
                    replace hcy2 := (HBz.out.cell hby2).trans hcy2
                    unfold a3V at hcy2
                    rw [← HL0.out, ← HRE.out, if_pos hjl, show (((1 + r : Nat)) : Int) = (1 : Int) + (r : Int) from by omega] at hcy2
                    rw [if_pos hjl, show (((1 + r : Nat)) : Int) = (1 : Int) + (r : Int) from by omega] at hcy1
                    have hjc : (j : Int) < (l0 : Int) := by omega
                    clear hb hby1 hby2
                    go_wp2
                    go_roundg (ln - (j + 1))
                    case measure => omega
                    case rel => exact ⟨j + 1, by omega, rfl, by go_num, HBn.out⟩
                  · rw [if_neg hjl, show (((128 + r : Nat)) : Int) = (128 : Int) + (r : Int) from by omega] at hcy1
                    have hjc : ¬ (j : Int) < (l0 : Int) := by omega
                    clear hb hby1
                    go_wp2
                    go_roundg (ln - (j + 1))
                    case measure => omega
                    case rel => exact ⟨j + 1, by omega, rfl, by go_num, HBn.out⟩
                · obtain rfl : ln = j := by omega
                  clear hb
                  go_wp2
                  go_roundg (ql - (m + 1))
                  case measure => omega
                  case rel => exact ⟨m + 1, by omega, rfl, by go_num, HBz.out⟩
            · obtain rfl : ql = m := by omega
              have HONr := Lib.hid (HON2.out.below hb)
              have HMr : Hid (∀ i, i < N0 → Own wr B1 62 1 (.slice (SM i) (RLs i).length (CM i)) (RLs i).length (fun j => [((RLs i).getD j rw0).v])) := Lib.hid fun i hi => Own.past ((HM.out i hi).kept HBA.out) HO2.out (by decide) HONr.out
              have HTr : Hid (Own wr Bt 31 1 (.slice AN N0 cN) N0 (fun i => [.slice (SM i) (RLs i).length (CM i)])) := Lib.hid (Own.past (HT.out.kept HBA.out) HO2.out (by decide) HONr.out)
              have hsr := HONr.out.size
              clear hb
              go_wp2_with fail
              refine (outer_any AN N0 cN SM (fun i => (RLs i).length) CM (fun i j => ((RLs i).getD j rw0).v) Bt B1 wr hN0 (fun t ht => HLR.out t ht) HTr.out HMr.out HMA.out (by omega)).mono ?_
              rintro e w9 ⟨rfl, ho9⟩
              have HF : Hid (Only (fun k => U k ∨ RB N0 SM k) w w9) := Lib.hid ((((Only.refl _ w).below HBA.out).trans' HONr.out fun k hk => .inl (HRU.out k hk)).trans' ho9 fun k hk => .inr hk)
              clear ho9
              go_wp2
              go_ret
              exact ⟨rfl, HF.out⟩
end Go.Proofs.Ytpocjpodeahanaa
