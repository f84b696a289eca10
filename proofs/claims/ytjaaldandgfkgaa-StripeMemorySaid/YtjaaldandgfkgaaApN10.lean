/- apart of lists of bytes: written full, grown, looked at. Conditions: rows that lie apart. -/
import Derived.Test.YtjaaldandgfkgaaApi
import Derived.Test.YtjaaldandgfkgaaAnk0
namespace Go.Proofs.Ytjaaldandgfkgaa
open Go.RowKit

def apV (L : Nat → Nat) (t q : Nat) : Value := .int .u8 (((if q < L t then 10 + t else 100 + t) : Nat) : Int)
def apF (L : Nat → Nat) (t q : Nat) : List Value := [apV L t q]
theorem apF_len (L : Nat → Nat) (t q : Nat) : (apF L t q).length = 1 := rfl
/-- The lists up to i are written full, j of the list i's own. -/
def apM (f : Nat → Nat → Value) (i j t q : Nat) : Value := if t < i ∨ (t = i ∧ q < j) then .int .u8 ((10 + t : Nat) : Int) else f t q
set_option maxRecDepth 100000 in
set_option maxHeartbeats 8000000 in
theorem apart_any (AN : Option Addr) (N cN : Nat) (S : Nat → Option Addr) (L C : Nat → Nat) (f : Nat → Nat → Value) (Bt B0 : Nat) (w : World) (hN : N ≤ 140) (hL : ∀ t, t < N → L t ≤ 1000000000) (hT : Own w Bt 43 1 (.slice AN N cN) N (fun t => [.slice (S t) (L t) (C t)])) (hR : ∀ t, t < N → Own w B0 5 1 (.slice (S t) (L t) (C t)) (L t) (fun q => [f t q])) (hA : Apt N S) (hB : B0 ≤ w.heap.size) :
 Calls Try.prog 40 #[.slice AN N cN] w fun e w' => e = .returned (.bool true) ∧ Only (RB N S) w w' := by
 have HTN := Lib.hid (top_ne hT hR (by decide))
 have HT := Lib.hid hT; have HA := Lib.hid hA; have HL := Lib.hid hL
 have HR := Lib.hid hR
 have HM0 : Hid (MK w w B0 5 N S L C (apM f 0 0)) := Lib.hid (MK.congr ⟨hR, Only.refl _ _⟩ fun t _ q _ => by unfold apM; rw [if_neg (by omega)])
 have HIN : Hid (∀ t, t < N → ∀ s o, S t = some ⟨s, o, none⟩ → s < w.heap.size) := Lib.hid fun t ht s o es => ((hR t ht).lt s ((hR t ht).off es).2).2
 have HCELL : Hid (∀ w', Only (RB N S) w w' → ∀ t, t < N → ∃ b o, AN = some ⟨b, o, none⟩ ∧ w'.cell? ⟨b, o + t, none⟩ = some (.slice (S t) (L t) (C t))) := Lib.hid fun w' ho t ht => by
  obtain ⟨A', c', e1, _, _, hr, _⟩ := (ho.own HT.out HTN.out).rd
  injection e1 with e1 _ _
  subst e1
  obtain ⟨b, o, e2, _, hc⟩ := hr t ht
  exact ⟨b, o, e2, hc⟩
 clear hT hR hA hL
 go_enter Try.func40, Try.ntmps40
 go_wp2
 go_loopg [3, 4] N (fun gk vi _ wr => ∃ i : Nat, i ≤ N ∧ gk = N - i ∧ vi = .int .i64 i ∧ MK w wr B0 5 N S L C (apM f i 0))
 case atStart => exact ⟨0, Nat.zero_le _, rfl, rfl, HM0.out⟩
 case round =>
  clear HM0
  obtain ⟨i, hi, rfl, rfl, hM⟩ := hrel
  by_cases hlt : i < N
  · obtain ⟨bT, oT, rfl, hcT⟩ := HCELL.out wr hM.2 i hlt
    have hLi := HL.out i hlt
    obtain ⟨ln, hln⟩ : ∃ ln, ln = L i := ⟨_, rfl⟩
    rw [← hln] at hLi
    rw [← hln] at hcT
    have HLN := Lib.hid hln
    have HM := Lib.hid hM
    clear hM hln
    go_wp2
    go_loopg [4] ln (fun gk vj wr => ∃ j : Nat, j ≤ ln ∧ gk = ln - j ∧ vj = .int .i64 j ∧ MK w wr B0 5 N S L C (apM f i j))
    case atStart => exact ⟨0, Nat.zero_le _, rfl, rfl, HM.out⟩
    case round =>
     clear HM hcT
     obtain ⟨j, hj, rfl, rfl, hM⟩ := hrel
     obtain ⟨b', o', e', hcT⟩ := HCELL.out wr hM.2 i hlt
     injection e' with e'
     injection e' with e1 e2
     subst e1 e2
     rw [← HLN.out] at hcT
     by_cases hlj : j < ln
     · have hoi := hM.1 i hlt
       rcases hoi.addr with ⟨_, e0⟩ | ⟨g, hg, hgB, hgl⟩
       · have := HLN.out; omega
       · rw [hg] at hcT
         have hlj2 : j < L i := by rw [← HLN.out]; exact hlj
         rw [hg] at hoi
         have hcj := hoi.cell1 hlj2
         have hfz := own_free hoi j
         have hm : ((10 : Int) + (i : Int)) % 256 = ((10 + i : Nat) : Int) := by omega
         have HM2 := Lib.hid (hM.set HA.out hlt hlj2 hg (u := .int .u8 ((10 + i : Nat) : Int)) (f' := apM f i (j + 1)) fun t _ q _ => by
          unfold apM
          by_cases e : t = i ∧ q = j
          · rw [if_pos e, if_pos (by omega), e.1]
          · rw [if_neg e]
            by_cases h1 : t < i ∨ (t = i ∧ q < j)
            · rw [if_pos h1, if_pos (by omega)]
            · rw [if_neg h1, if_neg (by omega)])
         generalize apM f i j i j = u0 at *
         rw [show (((10 + i : Nat)) : Int) = (10 : Int) + (i : Int) from by omega] at HM2
         clear hM hoi hg hm hlj2
         go_wp2
         go_roundg (ln - (j + 1))
         case measure => omega
         case rel => exact ⟨j + 1, by omega, rfl, by go_num, HM2.out⟩
     · obtain rfl : ln = j := by omega
       have HM2 := Lib.hid (hM.congr (f' := apM f (i + 1) 0) fun t _ q hq => by
        unfold apM
        by_cases h1 : t < i ∨ (t = i ∧ q < ln)
        · rw [if_pos h1, if_pos (by omega)]
        · rw [if_neg h1, if_neg (by
           have h5 := HLN.out
           rintro (h2 | ⟨_, h2⟩)
           · have : t = i := by omega
             subst this
             omega
           · omega)])
       clear hM
       go_wp2
       go_roundg (N - (i + 1))
       case measure => omega
       case rel => exact ⟨i + 1, by omega, rfl, by go_num, HM2.out⟩
  · obtain rfl : N = i := by omega
    have HGB : Hid (GB w wr B0 1 5 43 3 N S L C (apF L) 0 0 0 (.slice none 0 0) (.slice none 0 0) (fun _ => none) (fun _ => 0) (fun _ => 0) (fun _ => 0)) := Lib.hid (by
     have hrow : ∀ t, t < N → Own wr B0 5 1 (.slice (S t) (L t) (C t)) (L t) (apF L t) := fun t ht => (hM.1 t ht).congr fun q hq => by
      unfold apM apF apV
      rw [if_pos (.inl ht), if_pos hq]
     exact ⟨fun t _ => hrow t, fun t ht => It.of_own (apF_len L) (hrow t ht) (fun s _ hs => by cases hs), HIN.out, Own.nil _ _ _ _ _, Own.nil _ _ _ _ _, fun m hm => absurd hm (Nat.not_lt_zero _), fun m hm => absurd hm (Nat.not_lt_zero _), fun m hm => absurd hm (Nat.not_lt_zero _), fun m hm => absurd hm (Nat.not_lt_zero _), hM.2⟩)
    clear hM
    go_wp2
    go_loopg [5, 6, 7, 8, 9] N (fun gk vl vw vi _ _ wr => ∃ (i ql : Nat) (SL : Nat → Option Addr) (LL CL I : Nat → Nat), i ≤ N ∧ gk = N - i ∧ vi = .int .i64 i ∧ ql ≤ 64 * i ∧ GB w wr B0 1 5 43 3 N S L C (apF L) i ql ql vl vw SL LL CL I)
    case atStart => exact ⟨0, 0, _, _, _, _, Nat.zero_le _, rfl, rfl, Nat.le_refl _, HGB.out⟩
    case round =>
     clear HGB
     obtain ⟨i, ql, SL, LL, CL, I, hi, rfl, rfl, hq, hG⟩ := hrel
     by_cases hlt : i < N
     · obtain ⟨bT, oT, rfl, hcT⟩ := HCELL.out wr hG.only i hlt
       have hLi := HL.out i hlt
       have HGS := Lib.hid (hG.start HA.out hlt)
       clear hG
       go_wp2
       go_loopg [5, 6, 8, 9] 64 (fun gk vl vw v vk wr => ∃ (k ql : Nat) (SL : Nat → Option Addr) (LL CL I : Nat → Nat), k ≤ 64 ∧ gk = 64 - k ∧ vk = .int .i64 k ∧ ql ≤ 64 * i + k ∧ GS w wr B0 1 5 43 3 N S L C (apF L) i (L i + k) v ql ql vl vw SL LL CL I)
       case atStart => exact ⟨0, ql, SL, LL, CL, I, Nat.zero_le _, rfl, rfl, hq, HGS.out⟩
       case round =>
        clear HGS hcT hq
        obtain ⟨k, ql, SL, LL, CL, I, hk, rfl, rfl, hq, hG⟩ := hrel
        by_cases hlk : k < 64
        · have HG := Lib.hid hG
          have hsB : B0 ≤ wr.heap.size := Nat.le_trans hB hG.only.size
          have hu : Hid ((#[Value.int .u8 ((100 : Int) + (i : Int))] : Array Value).toList = apF L i (L i + k)) := Lib.hid (by
           unfold apF apV
           rw [if_neg (by omega), show (((100 + i : Nat)) : Int) = (100 : Int) + (i : Int) from by omega])
          clear hG
          by_cases hka : k < 16
          · clear hlk
            have hd1 : (k : Int) < 16 := by omega
            go_wp2_with (at_builtin; refine wpList_pushX _ rfl (.tmp 51) (.tmp 55) 43 rfl B0 5 1 1 (.int .u8 0) #[.int .u8 ((100 : Int) + (i : Int))] Try.underlying43 byteInfo rfl _ (L i + k) _ rfl HG.out.own hsB _ rfl rfl hu.out rfl rfl (by omega) (by omega) ?_)
            intro v1 w1 hown1 hbel1 hg1
            obtain ⟨A1, c1, rfl, _, _, _, _⟩ := Own.rd (f := apV L i) hown1
            have HG1 := Lib.hid (HG.out.push (apF_len L) HA.out hlt hown1 hg1)
            have hsw1 := HG1.out.only.size
            clear hown1 hbel1 hg1 HG hu
            have hl1 : Own w1 w.heap.size 43 1 _ ql (fun m => [.slice (upd SL ql A1 m) (upd LL ql (L i + k + 1) m) (upd CL ql c1 m)]) := HG1.out.long.congr fun m hm => by rw [upd_ne _ _ _ (by omega), upd_ne _ _ _ (by omega), upd_ne _ _ _ (by omega)]
            have HL1 := Lib.hid hl1
            have hu2 : Hid ((#[Value.slice A1 (L i + k + 1) c1] : Array Value).toList = [.slice (upd SL ql A1 ql) (upd LL ql (L i + k + 1) ql) (upd CL ql c1 ql)]) := Lib.hid (by rw [upd_at, upd_at, upd_at])
            clear hl1
            go_wp2_with (at_builtin; refine wpList_pushX _ rfl (.tmp 63) (.tmp 65) 67 rfl w.heap.size 43 1 24 (.slice none 0 0) #[.slice A1 (L i + k + 1) c1] Try.underlying67 bytesInfo rfl _ ql _ rfl HL1.out hsw1 _ rfl rfl hu2.out rfl rfl (by omega) (by omega) ?_)
            intro v2 w2 hown2 hbel2 hg2
            have HG2 := Lib.hid (HG1.out.keepL (apF_len L) HA.out hlt (by decide) (by omega) hown2 hg2)
            have hsw2 := HG2.out.only.size
            have hu3 : Hid ((#[Value.int .i64 ((i : Nat) : Int)] : Array Value).toList = [.int .i64 ((upd I ql i ql : Nat) : Int)]) := Lib.hid (by rw [upd_at])
            clear hown2 hbel2 hg2 HG1 HL1 hu2
            go_wp2_with (at_builtin; refine wpList_pushX _ rfl (.tmp 67) (.tmp 69) 25 rfl w.heap.size 3 1 8 (.int .i64 0) #[.int .i64 ((i : Nat) : Int)] Try.underlying25 intInfo rfl _ ql _ rfl HG2.out.who hsw2 _ rfl rfl hu3.out rfl rfl (by omega) (by omega) ?_)
            intro v3 w3 hown3 hbel3 hg3
            have HG3 := Lib.hid (HG2.out.keepW HA.out (by decide) hown3 hg3)
            clear hown3 hbel3 hg3 HG2 hu3
            go_wp2
            go_roundg (64 - (k + 1))
            case measure => omega
            case rel => exact ⟨k + 1, ql + 1, _, _, _, _, by omega, rfl, by go_num, by omega, HG3.out⟩
          · by_cases hkb : k = 63
            · have hd1 : ¬ (k : Int) < 16 := by omega
              have hd2 : ((k : Int) == 63) = true := by rw [beq_iff_eq]; omega
              clear hkb
              go_wp2_with (at_builtin; refine wpList_pushX _ rfl (.tmp 51) (.tmp 55) 43 rfl B0 5 1 1 (.int .u8 0) #[.int .u8 ((100 : Int) + (i : Int))] Try.underlying43 byteInfo rfl _ (L i + k) _ rfl HG.out.own hsB _ rfl rfl hu.out rfl rfl (by omega) (by omega) ?_)
              intro v1 w1 hown1 hbel1 hg1
              obtain ⟨A1, c1, rfl, _, _, _, _⟩ := Own.rd (f := apV L i) hown1
              have HG1 := Lib.hid (HG.out.push (apF_len L) HA.out hlt hown1 hg1)
              have hsw1 := HG1.out.only.size
              clear hown1 hbel1 hg1 HG hu
              have hl1 : Own w1 w.heap.size 43 1 _ ql (fun m => [.slice (upd SL ql A1 m) (upd LL ql (L i + k + 1) m) (upd CL ql c1 m)]) := HG1.out.long.congr fun m hm => by rw [upd_ne _ _ _ (by omega), upd_ne _ _ _ (by omega), upd_ne _ _ _ (by omega)]
              have HL1 := Lib.hid hl1
              have hu2 : Hid ((#[Value.slice A1 (L i + k + 1) c1] : Array Value).toList = [.slice (upd SL ql A1 ql) (upd LL ql (L i + k + 1) ql) (upd CL ql c1 ql)]) := Lib.hid (by rw [upd_at, upd_at, upd_at])
              clear hl1
              go_wp2_with (at_builtin; refine wpList_pushX _ rfl (.tmp 63) (.tmp 65) 67 rfl w.heap.size 43 1 24 (.slice none 0 0) #[.slice A1 (L i + k + 1) c1] Try.underlying67 bytesInfo rfl _ ql _ rfl HL1.out hsw1 _ rfl rfl hu2.out rfl rfl (by omega) (by omega) ?_)
              intro v2 w2 hown2 hbel2 hg2
              have HG2 := Lib.hid (HG1.out.keepL (apF_len L) HA.out hlt (by decide) (by omega) hown2 hg2)
              have hsw2 := HG2.out.only.size
              have hu3 : Hid ((#[Value.int .i64 ((i : Nat) : Int)] : Array Value).toList = [.int .i64 ((upd I ql i ql : Nat) : Int)]) := Lib.hid (by rw [upd_at])
              clear hown2 hbel2 hg2 HG1 HL1 hu2
              go_wp2_with (at_builtin; refine wpList_pushX _ rfl (.tmp 67) (.tmp 69) 25 rfl w.heap.size 3 1 8 (.int .i64 0) #[.int .i64 ((i : Nat) : Int)] Try.underlying25 intInfo rfl _ ql _ rfl HG2.out.who hsw2 _ rfl rfl hu3.out rfl rfl (by omega) (by omega) ?_)
              intro v3 w3 hown3 hbel3 hg3
              have HG3 := Lib.hid (HG2.out.keepW HA.out (by decide) hown3 hg3)
              clear hown3 hbel3 hg3 HG2 hu3
              go_wp2
              go_roundg (64 - (k + 1))
              case measure => omega
              case rel => exact ⟨k + 1, ql + 1, _, _, _, _, by omega, rfl, by go_num, by omega, HG3.out⟩
            · have hd1 : ¬ (k : Int) < 16 := by omega
              have hd2 : ((k : Int) == 63) = false := by rw [beq_eq_false_iff_ne]; omega
              clear hkb
              go_wp2_with (at_builtin; refine wpList_pushX _ rfl (.tmp 51) (.tmp 55) 43 rfl B0 5 1 1 (.int .u8 0) #[.int .u8 ((100 : Int) + (i : Int))] Try.underlying43 byteInfo rfl _ (L i + k) _ rfl HG.out.own hsB _ rfl rfl hu.out rfl rfl (by omega) (by omega) ?_)
              intro v1 w1 hown1 hbel1 hg1
              obtain ⟨A1, c1, rfl, _, _, _, _⟩ := Own.rd (f := apV L i) hown1
              have HG1 := Lib.hid (HG.out.push (apF_len L) HA.out hlt hown1 hg1)
              have hsw1 := HG1.out.only.size
              clear hown1 hbel1 hg1 HG hu
              go_wp2
              go_roundg (64 - (k + 1))
              case measure => omega
              case rel => exact ⟨k + 1, ql, SL, LL, CL, I, by omega, rfl, by go_num, by omega, HG1.out⟩
        · obtain rfl : k = 64 := by omega
          have HG2 := Lib.hid hG.stop
          clear hG
          go_wp2
          go_roundg (N - (i + 1))
          case measure => omega
          case rel => exact ⟨i + 1, ql, SL, LL, CL, I, by omega, rfl, by go_num, by omega, HG2.out⟩
     · obtain rfl : N = i := by omega
       have HG := Lib.hid hG
       clear hG
       obtain ⟨Al, cl, rfl, _, _, hrl, _⟩ := HG.out.long.rd
       obtain ⟨Aw, cw, rfl, _, _, hrw, _⟩ := HG.out.who.rd
       obtain ⟨wz, hwz⟩ : ∃ wz, wz = wr := ⟨_, rfl⟩
       rw [← hwz] at HG hrl hrw ⊢
       have HRL := Lib.hid hrl; have HRW := Lib.hid hrw
       clear hwz hrl hrw
       go_wp2
       go_loopg [10, 11, 12] ql (fun gk vn _ _ wr => ∃ m : Nat, m ≤ ql ∧ gk = ql - m ∧ vn = .int .i64 m ∧ Below wz.heap.size wz wr)
       case atStart => exact ⟨0, Nat.zero_le _, rfl, rfl, Below.refl _ _⟩
       case round =>
        obtain ⟨m, hm, rfl, rfl, hb⟩ := hrel
        by_cases hlt : m < ql
        · obtain ⟨bw, ow, rfl, hbw, hcw⟩ := HRW.out m hlt
          obtain ⟨bl, ol, rfl, hbl, hcl⟩ := HRL.out m hlt
          obtain ⟨hi0, hIt, _⟩ := HG.out.kept m hlt
          obtain ⟨i0, hi0e⟩ : ∃ i0, i0 = I m := ⟨_, rfl⟩
          obtain ⟨A0, hA0⟩ : ∃ A0, A0 = SL m := ⟨_, rfl⟩
          obtain ⟨ln, hln⟩ : ∃ ln, ln = LL m := ⟨_, rfl⟩
          obtain ⟨c0, hc0⟩ : ∃ c0, c0 = CL m := ⟨_, rfl⟩
          have hcw2 : wr.cell? ⟨bw, ow + m, none⟩ = some (.int .i64 (i0 : Nat)) := by rw [hi0e]; exact (hb.cell hbw).trans hcw
          rw [← hi0e] at hi0 hIt
          rw [← hA0, ← hln] at hIt
          have HRA := Lib.hid (hIt.1.rd)
          have HRS := Lib.hid ((HG.out.base i0 hi0).1.rd)
          have HCL : Hid (∀ w', Below wr.heap.size wr w' → w'.cell? ⟨bl, ol + m, none⟩ = some (.slice A0 ln c0)) := Lib.hid fun w' hb' => by
           rw [hA0, hln, hc0]
           exact ((hb.trans (hb'.mono hb.size)).cell hbl).trans hcl
          obtain ⟨l0, hl0⟩ : ∃ l0, l0 = L i0 := ⟨_, rfl⟩
          have HL0 := Lib.hid hl0
          obtain ⟨S0, hS0⟩ : ∃ S0, S0 = S i0 := ⟨_, rfl⟩
          obtain ⟨C0, hC0⟩ : ∃ C0, C0 = C i0 := ⟨_, rfl⟩
          obtain ⟨bT, oT, hATe, _⟩ := HCELL.out wr (HG.out.only.below hb) i0 hi0
          subst hATe
          have HCT : Hid (∀ w', Below wr.heap.size wr w' → w'.cell? ⟨bT, oT + i0, none⟩ = some (.slice S0 l0 C0)) := Lib.hid fun w' hb' => by
           obtain ⟨b', o', e', hc'⟩ := HCELL.out w' (HG.out.only.below (hb.trans (hb'.mono hb.size))) i0 hi0
           injection e' with e'
           injection e' with e1 e2
           subst e1 e2
           rw [hS0, hl0, hC0]
           exact hc'
          rw [← hS0, ← hl0] at HRS
          have hlnb := HCL.out wr (Below.refl _ _)
          have hlnn : ln ≤ 1000000000000000 := by rw [hln]; exact HG.out.lenb m hlt
          have hl0b : l0 ≤ 1000000000 := by rw [hl0]; exact HL.out i0 hi0
          have HBz := Lib.hid hb
          clear hb hbw hcw hbl hcl hIt hi0e hA0 hln hc0 hl0 hS0 hC0
          go_wp2
          go_loopg [12] ln (fun gk vj wr' => ∃ j : Nat, j ≤ ln ∧ gk = ln - j ∧ vj = .int .i64 j ∧ Below wr.heap.size wr wr')
          case atStart => exact ⟨0, Nat.zero_le _, rfl, rfl, Below.refl _ _⟩
          case round =>
           clear hlnb hcw2
           obtain ⟨j, hj, rfl, rfl, hb⟩ := hrel
           have hlnb := HCL.out _ hb
           have hctb := HCT.out _ hb
           replace HBz := Lib.hid (HBz.out.trans (hb.mono HBz.out.size))
           by_cases hlj : j < ln
           · obtain ⟨by1, oy1, rfl, hby1, hcy1⟩ := HRA.out j hlj
             replace hcy1 := (HBz.out.cell hby1).trans hcy1
             have HBn := Lib.hid hb
             unfold apV at hcy1
             rw [← HL0.out] at hcy1
             by_cases hjl : j < l0
             · obtain ⟨by2, oy2, rfl, hby2, hcy2⟩ := HRS.out j hjl
               replace hcy2 := (HBz.out.cell hby2).trans hcy2
               unfold apV at hcy2
               rw [← HL0.out, if_pos hjl, show (((10 + i0 : Nat)) : Int) = (10 : Int) + (i0 : Int) from by omega] at hcy2
               rw [if_pos hjl, show (((10 + i0 : Nat)) : Int) = (10 : Int) + (i0 : Int) from by omega] at hcy1
               have hjc : ¬ (l0 : Int) ≤ (j : Int) := by omega
               clear hb hby1 hby2
               go_wp2
               go_roundg (ln - (j + 1))
               case measure => omega
               case rel => exact ⟨j + 1, by omega, rfl, by go_num, HBn.out⟩
             · rw [if_neg hjl, show (((100 + i0 : Nat)) : Int) = (100 : Int) + (i0 : Int) from by omega] at hcy1
               have hjc : (l0 : Int) ≤ (j : Int) := by omega
               clear hb hby1
               go_wp2
               go_roundg (ln - (j + 1))
               case measure => omega
               case rel => exact ⟨j + 1, by omega, rfl, by go_num, HBn.out⟩
           · obtain rfl : ln = j := by omega
             clear hb
             go_wp2
             go_roundg (ql - (m + 1))
             case measure => omega
             case rel => exact ⟨m + 1, by omega, rfl, by go_num, HBz.out⟩
        · obtain rfl : ql = m := by omega
          have HF := Lib.hid (HG.out.only.below hb)
          clear hb
          go_wp2
          go_ret
          exact ⟨rfl, HF.out⟩
end Go.Proofs.Ytjaaldandgfkgaa

/- apart of lists of numbers: written full, grown, looked at. Conditions: rows that lie apart. -/
namespace Go.Proofs.Ytjaaldandgfkgaa
open Go.RowKit

def anV (L : Nat → Nat) (t q : Nat) : Value := .int .i64 (if q < L t then 1000 * (t : Int) + (q : Int) else -1000 * (t : Int) - ((q : Int) - (L t : Int)) - 1)
def anF (L : Nat → Nat) (t q : Nat) : List Value := [anV L t q]
theorem anF_len (L : Nat → Nat) (t q : Nat) : (anF L t q).length = 1 := rfl
def anM (f : Nat → Nat → Value) (i j t q : Nat) : Value := if t < i ∨ (t = i ∧ q < j) then .int .i64 (1000 * (t : Int) + (q : Int)) else f t q
set_option maxRecDepth 100000 in
set_option maxHeartbeats 8000000 in
theorem apartN_any (AN : Option Addr) (N cN : Nat) (S : Nat → Option Addr) (L C : Nat → Nat) (f : Nat → Nat → Value) (Bt B0 : Nat) (w : World) (hN : N ≤ 140) (hL : ∀ t, t < N → L t ≤ 1000000000) (hT : Own w Bt 25 1 (.slice AN N cN) N (fun t => [.slice (S t) (L t) (C t)])) (hR : ∀ t, t < N → Own w B0 3 1 (.slice (S t) (L t) (C t)) (L t) (fun q => [f t q])) (hA : Apt N S) (hB : B0 ≤ w.heap.size) :
 Calls Try.prog 43 #[.slice AN N cN] w fun e w' => e = .returned (.bool true) ∧ Only (RB N S) w w' := by
 have HTN := Lib.hid (top_ne hT hR (by decide))
 have HT := Lib.hid hT; have HA := Lib.hid hA; have HL := Lib.hid hL
 have HR := Lib.hid hR
 have HM0 : Hid (MK w w B0 3 N S L C (anM f 0 0)) := Lib.hid (MK.congr ⟨hR, Only.refl _ _⟩ fun t _ q _ => by unfold anM; rw [if_neg (by omega)])
 have HIN : Hid (∀ t, t < N → ∀ s o, S t = some ⟨s, o, none⟩ → s < w.heap.size) := Lib.hid fun t ht s o es => ((hR t ht).lt s ((hR t ht).off es).2).2
 have HCELL : Hid (∀ w', Only (RB N S) w w' → ∀ t, t < N → ∃ b o, AN = some ⟨b, o, none⟩ ∧ w'.cell? ⟨b, o + t, none⟩ = some (.slice (S t) (L t) (C t))) := Lib.hid fun w' ho t ht => by
  obtain ⟨A', c', e1, _, _, hr, _⟩ := (ho.own HT.out HTN.out).rd
  injection e1 with e1 _ _
  subst e1
  obtain ⟨b, o, e2, _, hc⟩ := hr t ht
  exact ⟨b, o, e2, hc⟩
 clear hT hR hA hL
 go_enter Try.func43, Try.ntmps43
 go_wp2
 go_loopg [3, 4] N (fun gk vi _ wr => ∃ i : Nat, i ≤ N ∧ gk = N - i ∧ vi = .int .i64 i ∧ MK w wr B0 3 N S L C (anM f i 0))
 case atStart => exact ⟨0, Nat.zero_le _, rfl, rfl, HM0.out⟩
 case round =>
  clear HM0
  obtain ⟨i, hi, rfl, rfl, hM⟩ := hrel
  by_cases hlt : i < N
  · obtain ⟨bT, oT, rfl, hcT⟩ := HCELL.out wr hM.2 i hlt
    have hLi := HL.out i hlt
    obtain ⟨ln, hln⟩ : ∃ ln, ln = L i := ⟨_, rfl⟩
    rw [← hln] at hLi
    rw [← hln] at hcT
    have HLN := Lib.hid hln
    have HM := Lib.hid hM
    clear hM hln
    go_wp2
    go_loopg [4] ln (fun gk vj wr => ∃ j : Nat, j ≤ ln ∧ gk = ln - j ∧ vj = .int .i64 j ∧ MK w wr B0 3 N S L C (anM f i j))
    case atStart => exact ⟨0, Nat.zero_le _, rfl, rfl, HM.out⟩
    case round =>
     clear HM hcT
     obtain ⟨j, hj, rfl, rfl, hM⟩ := hrel
     obtain ⟨b', o', e', hcT⟩ := HCELL.out wr hM.2 i hlt
     injection e' with e'
     injection e' with e1 e2
     subst e1 e2
     rw [← HLN.out] at hcT
     by_cases hlj : j < ln
     · have hoi := hM.1 i hlt
       rcases hoi.addr with ⟨_, e0⟩ | ⟨g, hg, hgB, hgl⟩
       · have := HLN.out; omega
       · rw [hg] at hcT
         have hlj2 : j < L i := by rw [← HLN.out]; exact hlj
         rw [hg] at hoi
         have hcj := hoi.cell1 hlj2
         have hfz := own_free hoi j
         have HM2 := Lib.hid (hM.set HA.out hlt hlj2 hg (u := .int .i64 (1000 * (i : Int) + (j : Int))) (f' := anM f i (j + 1)) fun t _ q _ => by
          unfold anM
          by_cases e : t = i ∧ q = j
          · rw [if_pos e, if_pos (by omega), e.1, e.2]
          · rw [if_neg e]
            by_cases h1 : t < i ∨ (t = i ∧ q < j)
            · rw [if_pos h1, if_pos (by omega)]
            · rw [if_neg h1, if_neg (by omega)])
         generalize anM f i j i j = u0 at *
         clear hM hoi hg hlj2
         go_wp2
         go_roundg (ln - (j + 1))
         case measure => omega
         case rel => exact ⟨j + 1, by omega, rfl, by go_num, HM2.out⟩
     · obtain rfl : ln = j := by omega
       have HM2 := Lib.hid (hM.congr (f' := anM f (i + 1) 0) fun t _ q hq => by
        unfold anM
        by_cases h1 : t < i ∨ (t = i ∧ q < ln)
        · rw [if_pos h1, if_pos (by omega)]
        · rw [if_neg h1, if_neg (by
           have h5 := HLN.out
           rintro (h2 | ⟨_, h2⟩)
           · have : t = i := by omega
             subst this
             omega
           · omega)])
       clear hM
       go_wp2
       go_roundg (N - (i + 1))
       case measure => omega
       case rel => exact ⟨i + 1, by omega, rfl, by go_num, HM2.out⟩
  · obtain rfl : N = i := by omega
    have HGB : Hid (GB w wr B0 1 3 25 3 N S L C (anF L) 0 0 0 (.slice none 0 0) (.slice none 0 0) (fun _ => none) (fun _ => 0) (fun _ => 0) (fun _ => 0)) := Lib.hid (by
     have hrow : ∀ t, t < N → Own wr B0 3 1 (.slice (S t) (L t) (C t)) (L t) (anF L t) := fun t ht => (hM.1 t ht).congr fun q hq => by
      unfold anM anF anV
      rw [if_pos (.inl ht), if_pos hq]
     exact ⟨fun t _ => hrow t, fun t ht => It.of_own (anF_len L) (hrow t ht) (fun s _ hs => by cases hs), HIN.out, Own.nil _ _ _ _ _, Own.nil _ _ _ _ _, fun m hm => absurd hm (Nat.not_lt_zero _), fun m hm => absurd hm (Nat.not_lt_zero _), fun m hm => absurd hm (Nat.not_lt_zero _), fun m hm => absurd hm (Nat.not_lt_zero _), hM.2⟩)
    clear hM
    go_wp2
    go_loopg [5, 6, 7, 8, 9] N (fun gk vl vw vi _ _ wr => ∃ (i ql : Nat) (SL : Nat → Option Addr) (LL CL I : Nat → Nat), i ≤ N ∧ gk = N - i ∧ vi = .int .i64 i ∧ ql ≤ 64 * i ∧ GB w wr B0 1 3 25 3 N S L C (anF L) i ql ql vl vw SL LL CL I)
    case atStart => exact ⟨0, 0, _, _, _, _, Nat.zero_le _, rfl, rfl, Nat.le_refl _, HGB.out⟩
    case round =>
     clear HGB
     obtain ⟨i, ql, SL, LL, CL, I, hi, rfl, rfl, hq, hG⟩ := hrel
     by_cases hlt : i < N
     · obtain ⟨bT, oT, rfl, hcT⟩ := HCELL.out wr hG.only i hlt
       have hLi := HL.out i hlt
       have HGS := Lib.hid (hG.start HA.out hlt)
       clear hG
       go_wp2
       go_loopg [5, 6, 8, 9] 64 (fun gk vl vw v vk wr => ∃ (k ql : Nat) (SL : Nat → Option Addr) (LL CL I : Nat → Nat), k ≤ 64 ∧ gk = 64 - k ∧ vk = .int .i64 k ∧ ql ≤ 64 * i + k ∧ GS w wr B0 1 3 25 3 N S L C (anF L) i (L i + k) v ql ql vl vw SL LL CL I)
       case atStart => exact ⟨0, ql, SL, LL, CL, I, Nat.zero_le _, rfl, rfl, hq, HGS.out⟩
       case round =>
        clear HGS hcT hq
        obtain ⟨k, ql, SL, LL, CL, I, hk, rfl, rfl, hq, hG⟩ := hrel
        by_cases hlk : k < 64
        · have HG := Lib.hid hG
          have hsB : B0 ≤ wr.heap.size := Nat.le_trans hB hG.only.size
          have hu : Hid ((#[Value.int .i64 (-1000 * (i : Int) - (k : Int) - 1)] : Array Value).toList = anF L i (L i + k)) := Lib.hid (by
           unfold anF anV
           rw [if_neg (by omega), show ((L i + k : Nat) : Int) - (L i : Int) = (k : Int) from by omega])
          clear hG
          by_cases hka : k < 16
          · clear hlk
            have hd1 : (k : Int) < 16 := by omega
            go_wp2_with (at_builtin; refine wpList_pushX _ rfl (.tmp 52) (.tmp 58) 25 rfl B0 3 1 8 (.int .i64 0) #[.int .i64 (-1000 * (i : Int) - (k : Int) - 1)] Try.underlying25 intInfo rfl _ (L i + k) _ rfl HG.out.own hsB _ rfl rfl hu.out rfl rfl (by omega) (by omega) ?_)
            intro v1 w1 hown1 hbel1 hg1
            obtain ⟨A1, c1, rfl, _, _, _, _⟩ := Own.rd (f := anV L i) hown1
            have HG1 := Lib.hid (HG.out.push (anF_len L) HA.out hlt hown1 hg1)
            have hsw1 := HG1.out.only.size
            clear hown1 hbel1 hg1 HG hu
            have hl1 : Own w1 w.heap.size 25 1 _ ql (fun m => [.slice (upd SL ql A1 m) (upd LL ql (L i + k + 1) m) (upd CL ql c1 m)]) := HG1.out.long.congr fun m hm => by rw [upd_ne _ _ _ (by omega), upd_ne _ _ _ (by omega), upd_ne _ _ _ (by omega)]
            have HL1 := Lib.hid hl1
            have hu2 : Hid ((#[Value.slice A1 (L i + k + 1) c1] : Array Value).toList = [.slice (upd SL ql A1 ql) (upd LL ql (L i + k + 1) ql) (upd CL ql c1 ql)]) := Lib.hid (by rw [upd_at, upd_at, upd_at])
            clear hl1
            go_wp2_with (at_builtin; refine wpList_pushX _ rfl (.tmp 66) (.tmp 68) 71 rfl w.heap.size 25 1 24 (.slice none 0 0) #[.slice A1 (L i + k + 1) c1] Try.underlying71 apInts rfl _ ql _ rfl HL1.out hsw1 _ rfl rfl hu2.out rfl rfl (by omega) (by omega) ?_)
            intro v2 w2 hown2 hbel2 hg2
            have HG2 := Lib.hid (HG1.out.keepL (anF_len L) HA.out hlt (by decide) (by omega) hown2 hg2)
            have hsw2 := HG2.out.only.size
            have hu3 : Hid ((#[Value.int .i64 ((i : Nat) : Int)] : Array Value).toList = [.int .i64 ((upd I ql i ql : Nat) : Int)]) := Lib.hid (by rw [upd_at])
            clear hown2 hbel2 hg2 HG1 HL1 hu2
            go_wp2_with (at_builtin; refine wpList_pushX _ rfl (.tmp 70) (.tmp 72) 25 rfl w.heap.size 3 1 8 (.int .i64 0) #[.int .i64 ((i : Nat) : Int)] Try.underlying25 intInfo rfl _ ql _ rfl HG2.out.who hsw2 _ rfl rfl hu3.out rfl rfl (by omega) (by omega) ?_)
            intro v3 w3 hown3 hbel3 hg3
            have HG3 := Lib.hid (HG2.out.keepW HA.out (by decide) hown3 hg3)
            clear hown3 hbel3 hg3 HG2 hu3
            go_wp2
            go_roundg (64 - (k + 1))
            case measure => omega
            case rel => exact ⟨k + 1, ql + 1, _, _, _, _, by omega, rfl, by go_num, by omega, HG3.out⟩
          · by_cases hkb : k = 63
            · have hd1 : ¬ (k : Int) < 16 := by omega
              have hd2 : ((k : Int) == 63) = true := by rw [beq_iff_eq]; omega
              clear hkb
              go_wp2_with (at_builtin; refine wpList_pushX _ rfl (.tmp 52) (.tmp 58) 25 rfl B0 3 1 8 (.int .i64 0) #[.int .i64 (-1000 * (i : Int) - (k : Int) - 1)] Try.underlying25 intInfo rfl _ (L i + k) _ rfl HG.out.own hsB _ rfl rfl hu.out rfl rfl (by omega) (by omega) ?_)
              intro v1 w1 hown1 hbel1 hg1
              obtain ⟨A1, c1, rfl, _, _, _, _⟩ := Own.rd (f := anV L i) hown1
              have HG1 := Lib.hid (HG.out.push (anF_len L) HA.out hlt hown1 hg1)
              have hsw1 := HG1.out.only.size
              clear hown1 hbel1 hg1 HG hu
              have hl1 : Own w1 w.heap.size 25 1 _ ql (fun m => [.slice (upd SL ql A1 m) (upd LL ql (L i + k + 1) m) (upd CL ql c1 m)]) := HG1.out.long.congr fun m hm => by rw [upd_ne _ _ _ (by omega), upd_ne _ _ _ (by omega), upd_ne _ _ _ (by omega)]
              have HL1 := Lib.hid hl1
              have hu2 : Hid ((#[Value.slice A1 (L i + k + 1) c1] : Array Value).toList = [.slice (upd SL ql A1 ql) (upd LL ql (L i + k + 1) ql) (upd CL ql c1 ql)]) := Lib.hid (by rw [upd_at, upd_at, upd_at])
              clear hl1
              go_wp2_with (at_builtin; refine wpList_pushX _ rfl (.tmp 66) (.tmp 68) 71 rfl w.heap.size 25 1 24 (.slice none 0 0) #[.slice A1 (L i + k + 1) c1] Try.underlying71 apInts rfl _ ql _ rfl HL1.out hsw1 _ rfl rfl hu2.out rfl rfl (by omega) (by omega) ?_)
              intro v2 w2 hown2 hbel2 hg2
              have HG2 := Lib.hid (HG1.out.keepL (anF_len L) HA.out hlt (by decide) (by omega) hown2 hg2)
              have hsw2 := HG2.out.only.size
              have hu3 : Hid ((#[Value.int .i64 ((i : Nat) : Int)] : Array Value).toList = [.int .i64 ((upd I ql i ql : Nat) : Int)]) := Lib.hid (by rw [upd_at])
              clear hown2 hbel2 hg2 HG1 HL1 hu2
              go_wp2_with (at_builtin; refine wpList_pushX _ rfl (.tmp 70) (.tmp 72) 25 rfl w.heap.size 3 1 8 (.int .i64 0) #[.int .i64 ((i : Nat) : Int)] Try.underlying25 intInfo rfl _ ql _ rfl HG2.out.who hsw2 _ rfl rfl hu3.out rfl rfl (by omega) (by omega) ?_)
              intro v3 w3 hown3 hbel3 hg3
              have HG3 := Lib.hid (HG2.out.keepW HA.out (by decide) hown3 hg3)
              clear hown3 hbel3 hg3 HG2 hu3
              go_wp2
              go_roundg (64 - (k + 1))
              case measure => omega
              case rel => exact ⟨k + 1, ql + 1, _, _, _, _, by omega, rfl, by go_num, by omega, HG3.out⟩
            · have hd1 : ¬ (k : Int) < 16 := by omega
              have hd2 : ((k : Int) == 63) = false := by rw [beq_eq_false_iff_ne]; omega
              clear hkb
              go_wp2_with (at_builtin; refine wpList_pushX _ rfl (.tmp 52) (.tmp 58) 25 rfl B0 3 1 8 (.int .i64 0) #[.int .i64 (-1000 * (i : Int) - (k : Int) - 1)] Try.underlying25 intInfo rfl _ (L i + k) _ rfl HG.out.own hsB _ rfl rfl hu.out rfl rfl (by omega) (by omega) ?_)
              intro v1 w1 hown1 hbel1 hg1
              obtain ⟨A1, c1, rfl, _, _, _, _⟩ := Own.rd (f := anV L i) hown1
              have HG1 := Lib.hid (HG.out.push (anF_len L) HA.out hlt hown1 hg1)
              have hsw1 := HG1.out.only.size
              clear hown1 hbel1 hg1 HG hu
              go_wp2
              go_roundg (64 - (k + 1))
              case measure => omega
              case rel => exact ⟨k + 1, ql, SL, LL, CL, I, by omega, rfl, by go_num, by omega, HG1.out⟩
        · obtain rfl : k = 64 := by omega
          have HG2 := Lib.hid hG.stop
          clear hG
          go_wp2
          go_roundg (N - (i + 1))
          case measure => omega
          case rel => exact ⟨i + 1, ql, SL, LL, CL, I, by omega, rfl, by go_num, by omega, HG2.out⟩
     · obtain rfl : N = i := by omega
       have HG := Lib.hid hG
       clear hG
       obtain ⟨Al, cl, rfl, _, _, hrl, _⟩ := HG.out.long.rd
       obtain ⟨Aw, cw, rfl, _, _, hrw, _⟩ := HG.out.who.rd
       obtain ⟨wz, hwz⟩ : ∃ wz, wz = wr := ⟨_, rfl⟩
       rw [← hwz] at HG hrl hrw ⊢
       have HRL := Lib.hid hrl; have HRW := Lib.hid hrw
       clear hwz hrl hrw
       go_wp2
       go_loopg [10, 11, 12] ql (fun gk vn _ _ wr => ∃ m : Nat, m ≤ ql ∧ gk = ql - m ∧ vn = .int .i64 m ∧ Below wz.heap.size wz wr)
       case atStart => exact ⟨0, Nat.zero_le _, rfl, rfl, Below.refl _ _⟩
       case round =>
        obtain ⟨m, hm, rfl, rfl, hb⟩ := hrel
        by_cases hlt : m < ql
        · obtain ⟨bw, ow, rfl, hbw, hcw⟩ := HRW.out m hlt
          obtain ⟨bl, ol, rfl, hbl, hcl⟩ := HRL.out m hlt
          obtain ⟨hi0, hIt, _⟩ := HG.out.kept m hlt
          obtain ⟨i0, hi0e⟩ : ∃ i0, i0 = I m := ⟨_, rfl⟩
          obtain ⟨A0, hA0⟩ : ∃ A0, A0 = SL m := ⟨_, rfl⟩
          obtain ⟨ln, hln⟩ : ∃ ln, ln = LL m := ⟨_, rfl⟩
          obtain ⟨c0, hc0⟩ : ∃ c0, c0 = CL m := ⟨_, rfl⟩
          have hcw2 : wr.cell? ⟨bw, ow + m, none⟩ = some (.int .i64 (i0 : Nat)) := by rw [hi0e]; exact (hb.cell hbw).trans hcw
          rw [← hi0e] at hi0 hIt
          rw [← hA0, ← hln] at hIt
          have HRA := Lib.hid (hIt.1.rd)
          have HRS := Lib.hid ((HG.out.base i0 hi0).1.rd)
          have HCL : Hid (∀ w', Below wr.heap.size wr w' → w'.cell? ⟨bl, ol + m, none⟩ = some (.slice A0 ln c0)) := Lib.hid fun w' hb' => by
           rw [hA0, hln, hc0]
           exact ((hb.trans (hb'.mono hb.size)).cell hbl).trans hcl
          obtain ⟨l0, hl0⟩ : ∃ l0, l0 = L i0 := ⟨_, rfl⟩
          have HL0 := Lib.hid hl0
          obtain ⟨S0, hS0⟩ : ∃ S0, S0 = S i0 := ⟨_, rfl⟩
          obtain ⟨C0, hC0⟩ : ∃ C0, C0 = C i0 := ⟨_, rfl⟩
          obtain ⟨bT, oT, hATe, _⟩ := HCELL.out wr (HG.out.only.below hb) i0 hi0
          subst hATe
          have HCT : Hid (∀ w', Below wr.heap.size wr w' → w'.cell? ⟨bT, oT + i0, none⟩ = some (.slice S0 l0 C0)) := Lib.hid fun w' hb' => by
           obtain ⟨b', o', e', hc'⟩ := HCELL.out w' (HG.out.only.below (hb.trans (hb'.mono hb.size))) i0 hi0
           injection e' with e'
           injection e' with e1 e2
           subst e1 e2
           rw [hS0, hl0, hC0]
           exact hc'
          rw [← hS0, ← hl0] at HRS
          have hlnb := HCL.out wr (Below.refl _ _)
          have hlnn : ln ≤ 1000000000000000 := by rw [hln]; exact HG.out.lenb m hlt
          have hl0b : l0 ≤ 1000000000 := by rw [hl0]; exact HL.out i0 hi0
          have HBz := Lib.hid hb
          clear hb hbw hcw hbl hcl hIt hi0e hA0 hln hc0 hl0 hS0 hC0
          go_wp2
          go_loopg [12] ln (fun gk vj wr' => ∃ j : Nat, j ≤ ln ∧ gk = ln - j ∧ vj = .int .i64 j ∧ Below wr.heap.size wr wr')
          case atStart => exact ⟨0, Nat.zero_le _, rfl, rfl, Below.refl _ _⟩
          case round =>
           clear hlnb hcw2
           obtain ⟨j, hj, rfl, rfl, hb⟩ := hrel
           have hlnb := HCL.out _ hb
           have hctb := HCT.out _ hb
           replace HBz := Lib.hid (HBz.out.trans (hb.mono HBz.out.size))
           by_cases hlj : j < ln
           · obtain ⟨by1, oy1, rfl, hby1, hcy1⟩ := HRA.out j hlj
             have hcy10 := hcy1
             have HBn := Lib.hid hb
             unfold anV at hcy10
             rw [← HL0.out] at hcy10
             by_cases hjl : j < l0
             · obtain ⟨by2, oy2, rfl, hby2, hcy2⟩ := HRS.out j hjl
               have hcy20 := hcy2
               unfold anV at hcy20
               rw [← HL0.out, if_pos hjl] at hcy20
               rw [if_pos hjl] at hcy10
               clear hcy1 hcy2
               have HX : Hid (∀ w', Below wr.heap.size wr w' → w'.cell? ⟨bl, ol + m, none⟩ = some (.slice (some ⟨by1, oy1, none⟩) ln c0) ∧ w'.cell? ⟨bT, oT + i0, none⟩ = some (.slice (some ⟨by2, oy2, none⟩) l0 C0) ∧ w'.cell? ⟨by1, oy1 + j, none⟩ = some (.int .i64 (1000 * (i0 : Int) + (j : Int))) ∧ w'.cell? ⟨by2, oy2 + j, none⟩ = some (.int .i64 (1000 * (i0 : Int) + (j : Int)))) := Lib.hid fun w' hb' => ⟨HCL.out _ (hb.trans (hb'.mono hb.size)), HCT.out _ (hb.trans (hb'.mono hb.size)), ((HBz.out.trans (hb'.mono HBz.out.size)).cell hby1).trans hcy10, ((HBz.out.trans (hb'.mono HBz.out.size)).cell hby2).trans hcy20⟩
               have hw1 : IntKind.i64.wrap (1000 * (i0 : Int)) = 1000 * (i0 : Int) := i64_small _ (by omega) (by omega)
               have hw2 : IntKind.i64.wrap (1000 * (i0 : Int) + (j : Int)) = 1000 * (i0 : Int) + (j : Int) := i64_small _ (by omega) (by omega)
               clear hb hby1 hby2 hcy10 hcy20 
               go_wp2_with fail
               clear hlnb hctb
               refine wp_region_factsG [.is (.int .i64 (j : Int)), .is (.slice (some ⟨bT, oT, none⟩) N cN), .is (.int .i64 (i0 : Int)), .is (.pointer (some ⟨bT, oT + i0, none⟩)), .is (.slice (some ⟨by2, oy2, none⟩) l0 C0), .is (.int .i64 (l0 : Int)), .is (.bool true), .is (.bool true), .is (.slice (some ⟨bl, ol, none⟩) ql cl), .is (.int .i64 (m : Int)), .is (.pointer (some ⟨bl, ol + m, none⟩)), .is (.slice (some ⟨by1, oy1, none⟩) ln c0), .is (.int .i64 (j : Int)), .is (.pointer (some ⟨by1, oy1 + j, none⟩)), .is (.int .i64 (1000 * (i0 : Int) + (j : Int))), .is (.int .i64 (i0 : Int)), .is (.int .i64 (1000 * (i0 : Int))), .is (.int .i64 (j : Int)), .is (.int .i64 (1000 * (i0 : Int) + (j : Int))), .is (.bool false), .is (.bool false), .is (.slice (some ⟨bT, oT, none⟩) N cN), .is (.int .i64 (i0 : Int)), .is (.pointer (some ⟨bT, oT + i0, none⟩)), .is (.slice (some ⟨by2, oy2, none⟩) l0 C0), .is (.int .i64 (j : Int)), .is (.pointer (some ⟨by2, oy2 + j, none⟩)), .is (.int .i64 (1000 * (i0 : Int) + (j : Int))), .is (.int .i64 (i0 : Int)), .is (.int .i64 (1000 * (i0 : Int))), .is (.int .i64 (j : Int)), .is (.int .i64 (1000 * (i0 : Int) + (j : Int))), .is (.bool false), .is (.bool false), .is (.bool false), .is (.bool false), .is (.int .i64 (j : Int)), .is (.slice (some ⟨bT, oT, none⟩) N cN), .is (.int .i64 (i0 : Int)), .is (.pointer (some ⟨bT, oT + i0, none⟩)), .is (.slice (some ⟨by2, oy2, none⟩) l0 C0), .is (.int .i64 (l0 : Int)), .is (.bool false), .is (.bool false), .is (undef), .is (undef), .is (undef), .is (undef), .is (undef), .is (undef), .is (undef), .is (undef), .is (undef), .is (undef), .is (undef), .is (undef), .is (undef), .is (undef), .is (undef), .is (undef), .is (undef), .is (undef), .is (undef), .is (.bool false), .is (.bool false)] mixed (by kernel_rfl) (fun hdr => ⟨?_, ?_, ?_, ?_, ?_, ?_, ?_, ?_, ?_, ?_, ?_, ?_, ?_, ?_, ?_, ?_, ?_, ?_, ?_, ?_, ?_, ?_, ?_, ?_, ?_, ?_, ?_, ?_, ?_, ?_, ?_, ?_, ?_, ?_, ?_, ?_, ?_, ?_, ?_, ?_, ?_, ?_, ?_, ?_, ?_, ?_, ?_, ?_, ?_, ?_, ?_, ?_, ?_, ?_, ?_, ?_, ?_, ?_, ?_, ?_, ?_, ?_, ?_, ?_, ?_, trivial⟩) (fun wE hbE => ?_)
               · intro a w2 hb hs K hK; (repeat intro _); refine ⟨?_⟩
                 have h12 : a.tmps[12]?.getD undef = .int .i64 (j : Int) := hs 12 (by kernel_rfl)
                 rw [if_pos (by rfl)]
                 go_simp; exact hK.out _ _ (Below.refl _ _) rfl
               · intro a w2 hb hs K hK; (repeat intro _); refine ⟨?_⟩
                 have h0 : a.tmps[0]?.getD undef = .slice (some ⟨bT, oT, none⟩) N cN := hs 0 (by kernel_rfl)
                 rw [if_pos (by rfl)]
                 go_simp; exact hK.out _ _ (Below.refl _ _) rfl
               · intro a w2 hb hs K hK; (repeat intro _); refine ⟨?_⟩
                 have h11 : a.tmps[11]?.getD undef = .int .i64 (i0 : Int) := hs 11 (by kernel_rfl)
                 rw [if_pos (by rfl)]
                 go_simp; exact hK.out _ _ (Below.refl _ _) rfl
               · intro a w2 hb hs K hK; (repeat intro _); refine ⟨?_⟩
                 have h94 : a.tmps[94]?.getD undef = .slice (some ⟨bT, oT, none⟩) N cN := by assumption
                 have h95 : a.tmps[95]?.getD undef = .int .i64 (i0 : Int) := by assumption
                 rw [if_pos (by rfl)]
                 go_simp; exact hK.out _ _ (Below.refl _ _) rfl
               · intro a w2 hb hs K hK; (repeat intro _); refine ⟨?_⟩
                 have h96 : a.tmps[96]?.getD undef = .pointer (some ⟨bT, oT + i0, none⟩) := by assumption
                 rw [if_pos (by rfl)]
                 have hcc := (HX.out w2 (hdr.out.trans (hb.mono hdr.out.size))).2.1
                 go_simp; exact hK.out _ _ (Below.refl _ _) rfl
               · intro a w2 hb hs K hK; (repeat intro _); refine ⟨?_⟩
                 have h97 : a.tmps[97]?.getD undef = .slice (some ⟨by2, oy2, none⟩) l0 C0 := by assumption
                 rw [if_pos (by rfl)]
                 go_simp; exact hK.out _ _ (Below.refl _ _) rfl
               · intro a w2 hb hs K hK; (repeat intro _); refine ⟨?_⟩
                 have h93 : a.tmps[93]?.getD undef = .int .i64 (j : Int) := by assumption
                 have h98 : a.tmps[98]?.getD undef = .int .i64 (l0 : Int) := by assumption
                 rw [if_pos (by rfl)]
                 go_simp
                 first | exact hK.out _ _ (Below.refl _ _) rfl | exact hK.out _ _ (Below.refl _ _) (congrArg Value.bool (decide_eq_true (by omega)))
               · intro a w2 hb hs K hK; (repeat intro _); refine ⟨?_⟩
                 have h99 : a.tmps[99]?.getD undef = .bool true := by assumption
                 rw [if_pos (by rfl)]
                 go_simp; exact hK.out _ _ (Below.refl _ _) rfl
               · intro a w2 hb hs K hK; (repeat intro _); refine ⟨?_⟩
                 have h5 : a.tmps[5]?.getD undef = .slice (some ⟨bl, ol, none⟩) ql cl := hs 5 (by kernel_rfl)
                 rw [if_pos (wanted_yes (j := 7) (b := true) rfl rfl rfl (by assumption))]
                 go_simp; exact hK.out _ _ (Below.refl _ _) rfl
               · intro a w2 hb hs K hK; (repeat intro _); refine ⟨?_⟩
                 have h10 : a.tmps[10]?.getD undef = .int .i64 (m : Int) := hs 10 (by kernel_rfl)
                 rw [if_pos (wanted_yes (j := 7) (b := true) rfl rfl rfl (by assumption))]
                 go_simp; exact hK.out _ _ (Below.refl _ _) rfl
               · intro a w2 hb hs K hK; (repeat intro _); refine ⟨?_⟩
                 have h101 : a.tmps[101]?.getD undef = .slice (some ⟨bl, ol, none⟩) ql cl := by assumption
                 have h102 : a.tmps[102]?.getD undef = .int .i64 (m : Int) := by assumption
                 rw [if_pos (wanted_yes (j := 7) (b := true) rfl rfl rfl (by assumption))]
                 go_simp; exact hK.out _ _ (Below.refl _ _) rfl
               · intro a w2 hb hs K hK; (repeat intro _); refine ⟨?_⟩
                 have h103 : a.tmps[103]?.getD undef = .pointer (some ⟨bl, ol + m, none⟩) := by assumption
                 rw [if_pos (wanted_yes (j := 7) (b := true) rfl rfl rfl (by assumption))]
                 have hcc := (HX.out w2 (hdr.out.trans (hb.mono hdr.out.size))).1
                 go_simp; exact hK.out _ _ (Below.refl _ _) rfl
               · intro a w2 hb hs K hK; (repeat intro _); refine ⟨?_⟩
                 have h12 : a.tmps[12]?.getD undef = .int .i64 (j : Int) := hs 12 (by kernel_rfl)
                 rw [if_pos (wanted_yes (j := 7) (b := true) rfl rfl rfl (by assumption))]
                 go_simp; exact hK.out _ _ (Below.refl _ _) rfl
               · intro a w2 hb hs K hK; (repeat intro _); refine ⟨?_⟩
                 have h104 : a.tmps[104]?.getD undef = .slice (some ⟨by1, oy1, none⟩) ln c0 := by assumption
                 have h105 : a.tmps[105]?.getD undef = .int .i64 (j : Int) := by assumption
                 rw [if_pos (wanted_yes (j := 7) (b := true) rfl rfl rfl (by assumption))]
                 go_simp; exact hK.out _ _ (Below.refl _ _) rfl
               · intro a w2 hb hs K hK; (repeat intro _); refine ⟨?_⟩
                 have h106 : a.tmps[106]?.getD undef = .pointer (some ⟨by1, oy1 + j, none⟩) := by assumption
                 rw [if_pos (wanted_yes (j := 7) (b := true) rfl rfl rfl (by assumption))]
                 have hcc := (HX.out w2 (hdr.out.trans (hb.mono hdr.out.size))).2.2.1
                 go_simp; exact hK.out _ _ (Below.refl _ _) rfl
               · intro a w2 hb hs K hK; (repeat intro _); refine ⟨?_⟩
                 have h11 : a.tmps[11]?.getD undef = .int .i64 (i0 : Int) := hs 11 (by kernel_rfl)
                 rw [if_pos (wanted_yes (j := 7) (b := true) rfl rfl rfl (by assumption))]
                 go_simp; exact hK.out _ _ (Below.refl _ _) rfl
               · intro a w2 hb hs K hK; (repeat intro _); refine ⟨?_⟩
                 have h108 : a.tmps[108]?.getD undef = .int .i64 (i0 : Int) := by assumption
                 rw [if_pos (wanted_yes (j := 7) (b := true) rfl rfl rfl (by assumption))]
                 go_simp; exact hK.out _ _ (Below.refl _ _) rfl
               · intro a w2 hb hs K hK; (repeat intro _); refine ⟨?_⟩
                 have h12 : a.tmps[12]?.getD undef = .int .i64 (j : Int) := hs 12 (by kernel_rfl)
                 rw [if_pos (wanted_yes (j := 7) (b := true) rfl rfl rfl (by assumption))]
                 go_simp; exact hK.out _ _ (Below.refl _ _) rfl
               · intro a w2 hb hs K hK; (repeat intro _); refine ⟨?_⟩
                 have h109 : a.tmps[109]?.getD undef = .int .i64 (1000 * (i0 : Int)) := by assumption
                 have h110 : a.tmps[110]?.getD undef = .int .i64 (j : Int) := by assumption
                 rw [if_pos (wanted_yes (j := 7) (b := true) rfl rfl rfl (by assumption))]
                 go_simp; exact hK.out _ _ (Below.refl _ _) rfl
               · intro a w2 hb hs K hK; (repeat intro _); refine ⟨?_⟩
                 have h107 : a.tmps[107]?.getD undef = .int .i64 (1000 * (i0 : Int) + (j : Int)) := by assumption
                 have h111 : a.tmps[111]?.getD undef = .int .i64 (1000 * (i0 : Int) + (j : Int)) := by assumption
                 rw [if_pos (wanted_yes (j := 7) (b := true) rfl rfl rfl (by assumption))]
                 go_simp; exact hK.out _ _ (Below.refl _ _) rfl
               · intro a w2 hb hs K hK; (repeat intro _); refine ⟨?_⟩
                 have h112 : a.tmps[112]?.getD undef = .bool false := by assumption
                 rw [if_pos (wanted_yes (j := 7) (b := true) rfl rfl rfl (by assumption))]
                 go_simp; exact hK.out _ _ (Below.refl _ _) rfl
               · intro a w2 hb hs K hK; (repeat intro _); refine ⟨?_⟩
                 have h0 : a.tmps[0]?.getD undef = .slice (some ⟨bT, oT, none⟩) N cN := hs 0 (by kernel_rfl)
                 rw [if_pos (wanted_yes (j := 20) (b := false) rfl rfl rfl (by assumption))]
                 go_simp; exact hK.out _ _ (Below.refl _ _) rfl
               · intro a w2 hb hs K hK; (repeat intro _); refine ⟨?_⟩
                 have h11 : a.tmps[11]?.getD undef = .int .i64 (i0 : Int) := hs 11 (by kernel_rfl)
                 rw [if_pos (wanted_yes (j := 20) (b := false) rfl rfl rfl (by assumption))]
                 go_simp; exact hK.out _ _ (Below.refl _ _) rfl
               · intro a w2 hb hs K hK; (repeat intro _); refine ⟨?_⟩
                 have h114 : a.tmps[114]?.getD undef = .slice (some ⟨bT, oT, none⟩) N cN := by assumption
                 have h115 : a.tmps[115]?.getD undef = .int .i64 (i0 : Int) := by assumption
                 rw [if_pos (wanted_yes (j := 20) (b := false) rfl rfl rfl (by assumption))]
                 go_simp; exact hK.out _ _ (Below.refl _ _) rfl
               · intro a w2 hb hs K hK; (repeat intro _); refine ⟨?_⟩
                 have h116 : a.tmps[116]?.getD undef = .pointer (some ⟨bT, oT + i0, none⟩) := by assumption
                 rw [if_pos (wanted_yes (j := 20) (b := false) rfl rfl rfl (by assumption))]
                 have hcc := (HX.out w2 (hdr.out.trans (hb.mono hdr.out.size))).2.1
                 go_simp; exact hK.out _ _ (Below.refl _ _) rfl
               · intro a w2 hb hs K hK; (repeat intro _); refine ⟨?_⟩
                 have h12 : a.tmps[12]?.getD undef = .int .i64 (j : Int) := hs 12 (by kernel_rfl)
                 rw [if_pos (wanted_yes (j := 20) (b := false) rfl rfl rfl (by assumption))]
                 go_simp; exact hK.out _ _ (Below.refl _ _) rfl
               · intro a w2 hb hs K hK; (repeat intro _); refine ⟨?_⟩
                 have h117 : a.tmps[117]?.getD undef = .slice (some ⟨by2, oy2, none⟩) l0 C0 := by assumption
                 have h118 : a.tmps[118]?.getD undef = .int .i64 (j : Int) := by assumption
                 rw [if_pos (wanted_yes (j := 20) (b := false) rfl rfl rfl (by assumption))]
                 go_simp; exact hK.out _ _ (Below.refl _ _) rfl
               · intro a w2 hb hs K hK; (repeat intro _); refine ⟨?_⟩
                 have h119 : a.tmps[119]?.getD undef = .pointer (some ⟨by2, oy2 + j, none⟩) := by assumption
                 rw [if_pos (wanted_yes (j := 20) (b := false) rfl rfl rfl (by assumption))]
                 have hcc := (HX.out w2 (hdr.out.trans (hb.mono hdr.out.size))).2.2.2
                 go_simp; exact hK.out _ _ (Below.refl _ _) rfl
               · intro a w2 hb hs K hK; (repeat intro _); refine ⟨?_⟩
                 have h11 : a.tmps[11]?.getD undef = .int .i64 (i0 : Int) := hs 11 (by kernel_rfl)
                 rw [if_pos (wanted_yes (j := 20) (b := false) rfl rfl rfl (by assumption))]
                 go_simp; exact hK.out _ _ (Below.refl _ _) rfl
               · intro a w2 hb hs K hK; (repeat intro _); refine ⟨?_⟩
                 have h121 : a.tmps[121]?.getD undef = .int .i64 (i0 : Int) := by assumption
                 rw [if_pos (wanted_yes (j := 20) (b := false) rfl rfl rfl (by assumption))]
                 go_simp; exact hK.out _ _ (Below.refl _ _) rfl
               · intro a w2 hb hs K hK; (repeat intro _); refine ⟨?_⟩
                 have h12 : a.tmps[12]?.getD undef = .int .i64 (j : Int) := hs 12 (by kernel_rfl)
                 rw [if_pos (wanted_yes (j := 20) (b := false) rfl rfl rfl (by assumption))]
                 go_simp; exact hK.out _ _ (Below.refl _ _) rfl
               · intro a w2 hb hs K hK; (repeat intro _); refine ⟨?_⟩
                 have h122 : a.tmps[122]?.getD undef = .int .i64 (1000 * (i0 : Int)) := by assumption
                 have h123 : a.tmps[123]?.getD undef = .int .i64 (j : Int) := by assumption
                 rw [if_pos (wanted_yes (j := 20) (b := false) rfl rfl rfl (by assumption))]
                 go_simp; exact hK.out _ _ (Below.refl _ _) rfl
               · intro a w2 hb hs K hK; (repeat intro _); refine ⟨?_⟩
                 have h120 : a.tmps[120]?.getD undef = .int .i64 (1000 * (i0 : Int) + (j : Int)) := by assumption
                 have h124 : a.tmps[124]?.getD undef = .int .i64 (1000 * (i0 : Int) + (j : Int)) := by assumption
                 rw [if_pos (wanted_yes (j := 20) (b := false) rfl rfl rfl (by assumption))]
                 go_simp; exact hK.out _ _ (Below.refl _ _) rfl
               · intro a w2 hb hs K hK; (repeat intro _); refine ⟨?_⟩
                 have h113 : a.tmps[113]?.getD undef = .bool false := by assumption
                 have h125 : a.tmps[125]?.getD undef = .bool false := by assumption
                 rw [if_pos (wanted_yes (j := 7) (b := true) rfl rfl rfl (by assumption))]
                 go_simp; exact hK.out _ _ (Below.refl _ _) rfl
               · intro a w2 hb hs K hK; (repeat intro _); refine ⟨?_⟩
                 have h100 : a.tmps[100]?.getD undef = .bool true := by assumption
                 have h126 : a.tmps[126]?.getD undef = .bool false := by assumption
                 rw [if_pos (by rfl)]
                 go_simp; exact hK.out _ _ (Below.refl _ _) rfl
               · intro a w2 hb hs K hK; (repeat intro _); refine ⟨?_⟩
                 have h127 : a.tmps[127]?.getD undef = .bool false := by assumption
                 rw [if_pos (by rfl)]
                 go_simp; exact hK.out _ _ (Below.refl _ _) rfl
               · intro a w2 hb hs K hK; (repeat intro _); refine ⟨?_⟩
                 have h12 : a.tmps[12]?.getD undef = .int .i64 (j : Int) := hs 12 (by kernel_rfl)
                 rw [if_pos (wanted_yes (j := 35) (b := false) rfl rfl rfl (by assumption))]
                 go_simp; exact hK.out _ _ (Below.refl _ _) rfl
               · intro a w2 hb hs K hK; (repeat intro _); refine ⟨?_⟩
                 have h0 : a.tmps[0]?.getD undef = .slice (some ⟨bT, oT, none⟩) N cN := hs 0 (by kernel_rfl)
                 rw [if_pos (wanted_yes (j := 35) (b := false) rfl rfl rfl (by assumption))]
                 go_simp; exact hK.out _ _ (Below.refl _ _) rfl
               · intro a w2 hb hs K hK; (repeat intro _); refine ⟨?_⟩
                 have h11 : a.tmps[11]?.getD undef = .int .i64 (i0 : Int) := hs 11 (by kernel_rfl)
                 rw [if_pos (wanted_yes (j := 35) (b := false) rfl rfl rfl (by assumption))]
                 go_simp; exact hK.out _ _ (Below.refl _ _) rfl
               · intro a w2 hb hs K hK; (repeat intro _); refine ⟨?_⟩
                 have h130 : a.tmps[130]?.getD undef = .slice (some ⟨bT, oT, none⟩) N cN := by assumption
                 have h131 : a.tmps[131]?.getD undef = .int .i64 (i0 : Int) := by assumption
                 rw [if_pos (wanted_yes (j := 35) (b := false) rfl rfl rfl (by assumption))]
                 go_simp; exact hK.out _ _ (Below.refl _ _) rfl
               · intro a w2 hb hs K hK; (repeat intro _); refine ⟨?_⟩
                 have h132 : a.tmps[132]?.getD undef = .pointer (some ⟨bT, oT + i0, none⟩) := by assumption
                 rw [if_pos (wanted_yes (j := 35) (b := false) rfl rfl rfl (by assumption))]
                 have hcc := (HX.out w2 (hdr.out.trans (hb.mono hdr.out.size))).2.1
                 go_simp; exact hK.out _ _ (Below.refl _ _) rfl
               · intro a w2 hb hs K hK; (repeat intro _); refine ⟨?_⟩
                 have h133 : a.tmps[133]?.getD undef = .slice (some ⟨by2, oy2, none⟩) l0 C0 := by assumption
                 rw [if_pos (wanted_yes (j := 35) (b := false) rfl rfl rfl (by assumption))]
                 go_simp; exact hK.out _ _ (Below.refl _ _) rfl
               · intro a w2 hb hs K hK; (repeat intro _); refine ⟨?_⟩
                 have h129 : a.tmps[129]?.getD undef = .int .i64 (j : Int) := by assumption
                 have h134 : a.tmps[134]?.getD undef = .int .i64 (l0 : Int) := by assumption
                 rw [if_pos (wanted_yes (j := 35) (b := false) rfl rfl rfl (by assumption))]
                 go_simp
                 first | exact hK.out _ _ (Below.refl _ _) rfl | exact hK.out _ _ (Below.refl _ _) (congrArg Value.bool (decide_eq_false (by omega)))
               · intro a w2 hb hs K hK; (repeat intro _); refine ⟨?_⟩
                 have h135 : a.tmps[135]?.getD undef = .bool false := by assumption
                 rw [if_pos (wanted_yes (j := 35) (b := false) rfl rfl rfl (by assumption))]
                 go_simp; exact hK.out _ _ (Below.refl _ _) rfl
               iterate 19
                focus
                 intro a w2 hb hs K hK; (repeat intro _); refine ⟨?_⟩
                 rw [if_neg (wanted_no (j := 43) (b := true) rfl rfl rfl (by assumption))]
                 exact hK.out _ _ (Below.refl _ _) rfl
               · intro a w2 hb hs K hK; (repeat intro _); refine ⟨?_⟩
                 have h136 : a.tmps[136]?.getD undef = .bool false := by assumption
                 have h155 : a.tmps[155]?.getD undef = undef := by assumption
                 rw [if_pos (wanted_yes (j := 35) (b := false) rfl rfl rfl (by assumption))]
                 go_simp; exact hK.out _ _ (Below.refl _ _) rfl
               · intro a w2 hb hs K hK; (repeat intro _); refine ⟨?_⟩
                 have h128 : a.tmps[128]?.getD undef = .bool false := by assumption
                 have h156 : a.tmps[156]?.getD undef = .bool false := by assumption
                 rw [if_pos (by rfl)]
                 go_simp; exact hK.out _ _ (Below.refl _ _) rfl
               intro v0 f0 v1 f1 v2 f2 v3 f3 v4 f4 v5 f5 v6 f6 v7 f7 v8 f8 v9 f9 v10 f10 v11 f11 v12 f12 v13 f13 v14 f14 v15 f15 v16 f16 v17 f17 v18 f18 v19 f19 v20 f20 v21 f21 v22 f22 v23 f23 v24 f24 v25 f25 v26 f26 v27 f27 v28 f28 v29 f29 v30 f30 v31 f31 v32 f32 v33 f33 v34 f34 v35 f35 v36 f36 v37 f37 v38 f38 v39 f39 v40 f40 v41 f41 v42 f42 v43 f43 v44 f44 v45 f45 v46 f46 v47 f47 v48 f48 v49 f49 v50 f50 v51 f51 v52 f52 v53 f53 v54 f54 v55 f55 v56 f56 v57 f57 v58 f58 v59 f59 v60 f60 v61 f61 v62 f62 v63 f63 v64 f64
               refine NoPanic.normal ?_
               simp only [Act.put, List.setIfInBounds_toArray, List.set_cons_zero, List.set_cons_succ]
               obtain rfl : v64 = .bool false := f64
               clear f0 f1 f2 f3 f4 f5 f6 f7 f8 f9 f10 f11 f12 f13 f14 f15 f16 f17 f18 f19 f20 f21 f22 f23 f24 f25 f26 f27 f28 f29 f30 f31 f32 f33 f34 f35 f36 f37 f38 f39 f40 f41 f42 f43 f44 f45 f46 f47 f48 f49 f50 f51 f52 f53 f54 f55 f56 f57 f58 f59 f60 f61 f62 f63
               replace HBn := Lib.hid (HBn.out.trans (hbE.mono HBn.out.size))
               clear hbE
               go_wp2
               go_roundg (ln - (j + 1))
               case measure => omega
               case rel => exact ⟨j + 1, by omega, rfl, by go_num, HBn.out⟩
             · rw [if_neg hjl] at hcy10
               clear hcy1
               have HX : Hid (∀ w', Below wr.heap.size wr w' → w'.cell? ⟨bl, ol + m, none⟩ = some (.slice (some ⟨by1, oy1, none⟩) ln c0) ∧ w'.cell? ⟨bT, oT + i0, none⟩ = some (.slice S0 l0 C0) ∧ w'.cell? ⟨by1, oy1 + j, none⟩ = some (.int .i64 (-1000 * (i0 : Int) - ((j : Int) - (l0 : Int)) - 1))) := Lib.hid fun w' hb' => ⟨HCL.out _ (hb.trans (hb'.mono hb.size)), HCT.out _ (hb.trans (hb'.mono hb.size)), ((HBz.out.trans (hb'.mono HBz.out.size)).cell hby1).trans hcy10⟩
               have hw1 : IntKind.i64.wrap (-1000 * (i0 : Int)) = -1000 * (i0 : Int) := by rw [IntKind.wrap_i64]; omega
               have hw2 : IntKind.i64.wrap ((j : Int) - (l0 : Int)) = (j : Int) - (l0 : Int) := by rw [IntKind.wrap_i64]; omega
               have hw3 : IntKind.i64.wrap (-1000 * (i0 : Int) - ((j : Int) - (l0 : Int))) = -1000 * (i0 : Int) - ((j : Int) - (l0 : Int)) := by rw [IntKind.wrap_i64]; omega
               have hw4 : IntKind.i64.wrap (-1000 * (i0 : Int) - ((j : Int) - (l0 : Int)) - 1) = -1000 * (i0 : Int) - ((j : Int) - (l0 : Int)) - 1 := by rw [IntKind.wrap_i64]; omega
               clear hb hby1 hcy10 
               go_wp2_with fail
               clear hlnb hctb
               refine wp_region_factsG [.is (.int .i64 (j : Int)), .is (.slice (some ⟨bT, oT, none⟩) N cN), .is (.int .i64 (i0 : Int)), .is (.pointer (some ⟨bT, oT + i0, none⟩)), .is (.slice S0 l0 C0), .is (.int .i64 (l0 : Int)), .is (.bool false), .is (.bool false), .is (undef), .is (undef), .is (undef), .is (undef), .is (undef), .is (undef), .is (undef), .is (undef), .is (undef), .is (undef), .is (undef), .is (undef), .is (undef), .is (undef), .is (undef), .is (undef), .is (undef), .is (undef), .is (undef), .is (undef), .is (undef), .is (undef), .is (undef), .is (undef), .is (undef), .is (undef), .is (.bool false), .is (.bool false), .is (.int .i64 (j : Int)), .is (.slice (some ⟨bT, oT, none⟩) N cN), .is (.int .i64 (i0 : Int)), .is (.pointer (some ⟨bT, oT + i0, none⟩)), .is (.slice S0 l0 C0), .is (.int .i64 (l0 : Int)), .is (.bool true), .is (.bool true), .is (.slice (some ⟨bl, ol, none⟩) ql cl), .is (.int .i64 (m : Int)), .is (.pointer (some ⟨bl, ol + m, none⟩)), .is (.slice (some ⟨by1, oy1, none⟩) ln c0), .is (.int .i64 (j : Int)), .is (.pointer (some ⟨by1, oy1 + j, none⟩)), .is (.int .i64 (-1000 * (i0 : Int) - ((j : Int) - (l0 : Int)) - 1)), .is (.int .i64 (i0 : Int)), .is (.int .i64 (-1000 * (i0 : Int))), .is (.int .i64 (j : Int)), .is (.slice (some ⟨bT, oT, none⟩) N cN), .is (.int .i64 (i0 : Int)), .is (.pointer (some ⟨bT, oT + i0, none⟩)), .is (.slice S0 l0 C0), .is (.int .i64 (l0 : Int)), .is (.int .i64 ((j : Int) - (l0 : Int))), .is (.int .i64 (-1000 * (i0 : Int) - ((j : Int) - (l0 : Int)))), .is (.int .i64 (-1000 * (i0 : Int) - ((j : Int) - (l0 : Int)) - 1)), .is (.bool false), .is (.bool false), .is (.bool false)] mixed (by kernel_rfl) (fun hdr => ⟨?_, ?_, ?_, ?_, ?_, ?_, ?_, ?_, ?_, ?_, ?_, ?_, ?_, ?_, ?_, ?_, ?_, ?_, ?_, ?_, ?_, ?_, ?_, ?_, ?_, ?_, ?_, ?_, ?_, ?_, ?_, ?_, ?_, ?_, ?_, ?_, ?_, ?_, ?_, ?_, ?_, ?_, ?_, ?_, ?_, ?_, ?_, ?_, ?_, ?_, ?_, ?_, ?_, ?_, ?_, ?_, ?_, ?_, ?_, ?_, ?_, ?_, ?_, ?_, ?_, trivial⟩) (fun wE hbE => ?_)
               · intro a w2 hb hs K hK; (repeat intro _); refine ⟨?_⟩
                 have h12 : a.tmps[12]?.getD undef = .int .i64 (j : Int) := hs 12 (by kernel_rfl)
                 rw [if_pos (by rfl)]
                 go_simp; exact hK.out _ _ (Below.refl _ _) rfl
               · intro a w2 hb hs K hK; (repeat intro _); refine ⟨?_⟩
                 have h0 : a.tmps[0]?.getD undef = .slice (some ⟨bT, oT, none⟩) N cN := hs 0 (by kernel_rfl)
                 rw [if_pos (by rfl)]
                 go_simp; exact hK.out _ _ (Below.refl _ _) rfl
               · intro a w2 hb hs K hK; (repeat intro _); refine ⟨?_⟩
                 have h11 : a.tmps[11]?.getD undef = .int .i64 (i0 : Int) := hs 11 (by kernel_rfl)
                 rw [if_pos (by rfl)]
                 go_simp; exact hK.out _ _ (Below.refl _ _) rfl
               · intro a w2 hb hs K hK; (repeat intro _); refine ⟨?_⟩
                 have h94 : a.tmps[94]?.getD undef = .slice (some ⟨bT, oT, none⟩) N cN := by assumption
                 have h95 : a.tmps[95]?.getD undef = .int .i64 (i0 : Int) := by assumption
                 rw [if_pos (by rfl)]
                 go_simp; exact hK.out _ _ (Below.refl _ _) rfl
               · intro a w2 hb hs K hK; (repeat intro _); refine ⟨?_⟩
                 have h96 : a.tmps[96]?.getD undef = .pointer (some ⟨bT, oT + i0, none⟩) := by assumption
                 rw [if_pos (by rfl)]
                 have hcc := (HX.out w2 (hdr.out.trans (hb.mono hdr.out.size))).2.1
                 go_simp; exact hK.out _ _ (Below.refl _ _) rfl
               · intro a w2 hb hs K hK; (repeat intro _); refine ⟨?_⟩
                 have h97 : a.tmps[97]?.getD undef = .slice S0 l0 C0 := by assumption
                 rw [if_pos (by rfl)]
                 go_simp; exact hK.out _ _ (Below.refl _ _) rfl
               · intro a w2 hb hs K hK; (repeat intro _); refine ⟨?_⟩
                 have h93 : a.tmps[93]?.getD undef = .int .i64 (j : Int) := by assumption
                 have h98 : a.tmps[98]?.getD undef = .int .i64 (l0 : Int) := by assumption
                 rw [if_pos (by rfl)]
                 go_simp
                 first | exact hK.out _ _ (Below.refl _ _) rfl | exact hK.out _ _ (Below.refl _ _) (congrArg Value.bool (decide_eq_false (by omega)))
               · intro a w2 hb hs K hK; (repeat intro _); refine ⟨?_⟩
                 have h99 : a.tmps[99]?.getD undef = .bool false := by assumption
                 rw [if_pos (by rfl)]
                 go_simp; exact hK.out _ _ (Below.refl _ _) rfl
               iterate 13
                focus
                 intro a w2 hb hs K hK; (repeat intro _); refine ⟨?_⟩
                 rw [if_neg (wanted_no (j := 7) (b := true) rfl rfl rfl (by assumption))]
                 exact hK.out _ _ (Below.refl _ _) rfl
               iterate 12
                focus
                 intro a w2 hb hs K hK; (repeat intro _); refine ⟨?_⟩
                 rw [if_neg (wanted_unX (j := 20) (b := false) rfl rfl rfl (by assumption))]
                 exact hK.out _ _ (Below.refl _ _) rfl
               · intro a w2 hb hs K hK; (repeat intro _); refine ⟨?_⟩
                 rw [if_neg (wanted_no (j := 7) (b := true) rfl rfl rfl (by assumption))]
                 exact hK.out _ _ (Below.refl _ _) rfl
               · intro a w2 hb hs K hK; (repeat intro _); refine ⟨?_⟩
                 have h100 : a.tmps[100]?.getD undef = .bool false := by assumption
                 have h126 : a.tmps[126]?.getD undef = undef := by assumption
                 rw [if_pos (by rfl)]
                 go_simp; exact hK.out _ _ (Below.refl _ _) rfl
               · intro a w2 hb hs K hK; (repeat intro _); refine ⟨?_⟩
                 have h127 : a.tmps[127]?.getD undef = .bool false := by assumption
                 rw [if_pos (by rfl)]
                 go_simp; exact hK.out _ _ (Below.refl _ _) rfl
               · intro a w2 hb hs K hK; (repeat intro _); refine ⟨?_⟩
                 have h12 : a.tmps[12]?.getD undef = .int .i64 (j : Int) := hs 12 (by kernel_rfl)
                 rw [if_pos (wanted_yes (j := 35) (b := false) rfl rfl rfl (by assumption))]
                 go_simp; exact hK.out _ _ (Below.refl _ _) rfl
               · intro a w2 hb hs K hK; (repeat intro _); refine ⟨?_⟩
                 have h0 : a.tmps[0]?.getD undef = .slice (some ⟨bT, oT, none⟩) N cN := hs 0 (by kernel_rfl)
                 rw [if_pos (wanted_yes (j := 35) (b := false) rfl rfl rfl (by assumption))]
                 go_simp; exact hK.out _ _ (Below.refl _ _) rfl
               · intro a w2 hb hs K hK; (repeat intro _); refine ⟨?_⟩
                 have h11 : a.tmps[11]?.getD undef = .int .i64 (i0 : Int) := hs 11 (by kernel_rfl)
                 rw [if_pos (wanted_yes (j := 35) (b := false) rfl rfl rfl (by assumption))]
                 go_simp; exact hK.out _ _ (Below.refl _ _) rfl
               · intro a w2 hb hs K hK; (repeat intro _); refine ⟨?_⟩
                 have h130 : a.tmps[130]?.getD undef = .slice (some ⟨bT, oT, none⟩) N cN := by assumption
                 have h131 : a.tmps[131]?.getD undef = .int .i64 (i0 : Int) := by assumption
                 rw [if_pos (wanted_yes (j := 35) (b := false) rfl rfl rfl (by assumption))]
                 go_simp; exact hK.out _ _ (Below.refl _ _) rfl
               · intro a w2 hb hs K hK; (repeat intro _); refine ⟨?_⟩
                 have h132 : a.tmps[132]?.getD undef = .pointer (some ⟨bT, oT + i0, none⟩) := by assumption
                 rw [if_pos (wanted_yes (j := 35) (b := false) rfl rfl rfl (by assumption))]
                 have hcc := (HX.out w2 (hdr.out.trans (hb.mono hdr.out.size))).2.1
                 go_simp; exact hK.out _ _ (Below.refl _ _) rfl
               · intro a w2 hb hs K hK; (repeat intro _); refine ⟨?_⟩
                 have h133 : a.tmps[133]?.getD undef = .slice S0 l0 C0 := by assumption
                 rw [if_pos (wanted_yes (j := 35) (b := false) rfl rfl rfl (by assumption))]
                 go_simp; exact hK.out _ _ (Below.refl _ _) rfl
               · intro a w2 hb hs K hK; (repeat intro _); refine ⟨?_⟩
                 have h129 : a.tmps[129]?.getD undef = .int .i64 (j : Int) := by assumption
                 have h134 : a.tmps[134]?.getD undef = .int .i64 (l0 : Int) := by assumption
                 rw [if_pos (wanted_yes (j := 35) (b := false) rfl rfl rfl (by assumption))]
                 go_simp
                 first | exact hK.out _ _ (Below.refl _ _) rfl | exact hK.out _ _ (Below.refl _ _) (congrArg Value.bool (decide_eq_true (by omega)))
               · intro a w2 hb hs K hK; (repeat intro _); refine ⟨?_⟩
                 have h135 : a.tmps[135]?.getD undef = .bool true := by assumption
                 rw [if_pos (wanted_yes (j := 35) (b := false) rfl rfl rfl (by assumption))]
                 go_simp; exact hK.out _ _ (Below.refl _ _) rfl
               · intro a w2 hb hs K hK; (repeat intro _); refine ⟨?_⟩
                 have h5 : a.tmps[5]?.getD undef = .slice (some ⟨bl, ol, none⟩) ql cl := hs 5 (by kernel_rfl)
                 rw [if_pos (wanted_yes (j := 43) (b := true) rfl rfl rfl (by assumption))]
                 go_simp; exact hK.out _ _ (Below.refl _ _) rfl
               · intro a w2 hb hs K hK; (repeat intro _); refine ⟨?_⟩
                 have h10 : a.tmps[10]?.getD undef = .int .i64 (m : Int) := hs 10 (by kernel_rfl)
                 rw [if_pos (wanted_yes (j := 43) (b := true) rfl rfl rfl (by assumption))]
                 go_simp; exact hK.out _ _ (Below.refl _ _) rfl
               · intro a w2 hb hs K hK; (repeat intro _); refine ⟨?_⟩
                 have h137 : a.tmps[137]?.getD undef = .slice (some ⟨bl, ol, none⟩) ql cl := by assumption
                 have h138 : a.tmps[138]?.getD undef = .int .i64 (m : Int) := by assumption
                 rw [if_pos (wanted_yes (j := 43) (b := true) rfl rfl rfl (by assumption))]
                 go_simp; exact hK.out _ _ (Below.refl _ _) rfl
               · intro a w2 hb hs K hK; (repeat intro _); refine ⟨?_⟩
                 have h139 : a.tmps[139]?.getD undef = .pointer (some ⟨bl, ol + m, none⟩) := by assumption
                 rw [if_pos (wanted_yes (j := 43) (b := true) rfl rfl rfl (by assumption))]
                 have hcc := (HX.out w2 (hdr.out.trans (hb.mono hdr.out.size))).1
                 go_simp; exact hK.out _ _ (Below.refl _ _) rfl
               · intro a w2 hb hs K hK; (repeat intro _); refine ⟨?_⟩
                 have h12 : a.tmps[12]?.getD undef = .int .i64 (j : Int) := hs 12 (by kernel_rfl)
                 rw [if_pos (wanted_yes (j := 43) (b := true) rfl rfl rfl (by assumption))]
                 go_simp; exact hK.out _ _ (Below.refl _ _) rfl
               · intro a w2 hb hs K hK; (repeat intro _); refine ⟨?_⟩
                 have h140 : a.tmps[140]?.getD undef = .slice (some ⟨by1, oy1, none⟩) ln c0 := by assumption
                 have h141 : a.tmps[141]?.getD undef = .int .i64 (j : Int) := by assumption
                 rw [if_pos (wanted_yes (j := 43) (b := true) rfl rfl rfl (by assumption))]
                 go_simp; exact hK.out _ _ (Below.refl _ _) rfl
               · intro a w2 hb hs K hK; (repeat intro _); refine ⟨?_⟩
                 have h142 : a.tmps[142]?.getD undef = .pointer (some ⟨by1, oy1 + j, none⟩) := by assumption
                 rw [if_pos (wanted_yes (j := 43) (b := true) rfl rfl rfl (by assumption))]
                 have hcc := (HX.out w2 (hdr.out.trans (hb.mono hdr.out.size))).2.2
                 go_simp; exact hK.out _ _ (Below.refl _ _) rfl
               · intro a w2 hb hs K hK; (repeat intro _); refine ⟨?_⟩
                 have h11 : a.tmps[11]?.getD undef = .int .i64 (i0 : Int) := hs 11 (by kernel_rfl)
                 rw [if_pos (wanted_yes (j := 43) (b := true) rfl rfl rfl (by assumption))]
                 go_simp; exact hK.out _ _ (Below.refl _ _) rfl
               · intro a w2 hb hs K hK; (repeat intro _); refine ⟨?_⟩
                 have h144 : a.tmps[144]?.getD undef = .int .i64 (i0 : Int) := by assumption
                 rw [if_pos (wanted_yes (j := 43) (b := true) rfl rfl rfl (by assumption))]
                 go_simp; exact hK.out _ _ (Below.refl _ _) rfl
               · intro a w2 hb hs K hK; (repeat intro _); refine ⟨?_⟩
                 have h12 : a.tmps[12]?.getD undef = .int .i64 (j : Int) := hs 12 (by kernel_rfl)
                 rw [if_pos (wanted_yes (j := 43) (b := true) rfl rfl rfl (by assumption))]
                 go_simp; exact hK.out _ _ (Below.refl _ _) rfl
               · intro a w2 hb hs K hK; (repeat intro _); refine ⟨?_⟩
                 have h0 : a.tmps[0]?.getD undef = .slice (some ⟨bT, oT, none⟩) N cN := hs 0 (by kernel_rfl)
                 rw [if_pos (wanted_yes (j := 43) (b := true) rfl rfl rfl (by assumption))]
                 go_simp; exact hK.out _ _ (Below.refl _ _) rfl
               · intro a w2 hb hs K hK; (repeat intro _); refine ⟨?_⟩
                 have h11 : a.tmps[11]?.getD undef = .int .i64 (i0 : Int) := hs 11 (by kernel_rfl)
                 rw [if_pos (wanted_yes (j := 43) (b := true) rfl rfl rfl (by assumption))]
                 go_simp; exact hK.out _ _ (Below.refl _ _) rfl
               · intro a w2 hb hs K hK; (repeat intro _); refine ⟨?_⟩
                 have h147 : a.tmps[147]?.getD undef = .slice (some ⟨bT, oT, none⟩) N cN := by assumption
                 have h148 : a.tmps[148]?.getD undef = .int .i64 (i0 : Int) := by assumption
                 rw [if_pos (wanted_yes (j := 43) (b := true) rfl rfl rfl (by assumption))]
                 go_simp; exact hK.out _ _ (Below.refl _ _) rfl
               · intro a w2 hb hs K hK; (repeat intro _); refine ⟨?_⟩
                 have h149 : a.tmps[149]?.getD undef = .pointer (some ⟨bT, oT + i0, none⟩) := by assumption
                 rw [if_pos (wanted_yes (j := 43) (b := true) rfl rfl rfl (by assumption))]
                 have hcc := (HX.out w2 (hdr.out.trans (hb.mono hdr.out.size))).2.1
                 go_simp; exact hK.out _ _ (Below.refl _ _) rfl
               · intro a w2 hb hs K hK; (repeat intro _); refine ⟨?_⟩
                 have h150 : a.tmps[150]?.getD undef = .slice S0 l0 C0 := by assumption
                 rw [if_pos (wanted_yes (j := 43) (b := true) rfl rfl rfl (by assumption))]
                 go_simp; exact hK.out _ _ (Below.refl _ _) rfl
               · intro a w2 hb hs K hK; (repeat intro _); refine ⟨?_⟩
                 have h146 : a.tmps[146]?.getD undef = .int .i64 (j : Int) := by assumption
                 have h151 : a.tmps[151]?.getD undef = .int .i64 (l0 : Int) := by assumption
                 rw [if_pos (wanted_yes (j := 43) (b := true) rfl rfl rfl (by assumption))]
                 go_simp; exact hK.out _ _ (Below.refl _ _) rfl
               · intro a w2 hb hs K hK; (repeat intro _); refine ⟨?_⟩
                 have h145 : a.tmps[145]?.getD undef = .int .i64 (-1000 * (i0 : Int)) := by assumption
                 have h152 : a.tmps[152]?.getD undef = .int .i64 ((j : Int) - (l0 : Int)) := by assumption
                 rw [if_pos (wanted_yes (j := 43) (b := true) rfl rfl rfl (by assumption))]
                 go_simp; exact hK.out _ _ (Below.refl _ _) rfl
               · intro a w2 hb hs K hK; (repeat intro _); refine ⟨?_⟩
                 have h153 : a.tmps[153]?.getD undef = .int .i64 (-1000 * (i0 : Int) - ((j : Int) - (l0 : Int))) := by assumption
                 rw [if_pos (wanted_yes (j := 43) (b := true) rfl rfl rfl (by assumption))]
                 go_simp; exact hK.out _ _ (Below.refl _ _) rfl
               · intro a w2 hb hs K hK; (repeat intro _); refine ⟨?_⟩
                 have h143 : a.tmps[143]?.getD undef = .int .i64 (-1000 * (i0 : Int) - ((j : Int) - (l0 : Int)) - 1) := by assumption
                 have h154 : a.tmps[154]?.getD undef = .int .i64 (-1000 * (i0 : Int) - ((j : Int) - (l0 : Int)) - 1) := by assumption
                 rw [if_pos (wanted_yes (j := 43) (b := true) rfl rfl rfl (by assumption))]
                 go_simp; exact hK.out _ _ (Below.refl _ _) rfl
               · intro a w2 hb hs K hK; (repeat intro _); refine ⟨?_⟩
                 have h136 : a.tmps[136]?.getD undef = .bool true := by assumption
                 have h155 : a.tmps[155]?.getD undef = .bool false := by assumption
                 rw [if_pos (wanted_yes (j := 35) (b := false) rfl rfl rfl (by assumption))]
                 go_simp; exact hK.out _ _ (Below.refl _ _) rfl
               · intro a w2 hb hs K hK; (repeat intro _); refine ⟨?_⟩
                 have h128 : a.tmps[128]?.getD undef = .bool false := by assumption
                 have h156 : a.tmps[156]?.getD undef = .bool false := by assumption
                 rw [if_pos (by rfl)]
                 go_simp; exact hK.out _ _ (Below.refl _ _) rfl
               intro v0 f0 v1 f1 v2 f2 v3 f3 v4 f4 v5 f5 v6 f6 v7 f7 v8 f8 v9 f9 v10 f10 v11 f11 v12 f12 v13 f13 v14 f14 v15 f15 v16 f16 v17 f17 v18 f18 v19 f19 v20 f20 v21 f21 v22 f22 v23 f23 v24 f24 v25 f25 v26 f26 v27 f27 v28 f28 v29 f29 v30 f30 v31 f31 v32 f32 v33 f33 v34 f34 v35 f35 v36 f36 v37 f37 v38 f38 v39 f39 v40 f40 v41 f41 v42 f42 v43 f43 v44 f44 v45 f45 v46 f46 v47 f47 v48 f48 v49 f49 v50 f50 v51 f51 v52 f52 v53 f53 v54 f54 v55 f55 v56 f56 v57 f57 v58 f58 v59 f59 v60 f60 v61 f61 v62 f62 v63 f63 v64 f64
               refine NoPanic.normal ?_
               simp only [Act.put, List.setIfInBounds_toArray, List.set_cons_zero, List.set_cons_succ]
               obtain rfl : v64 = .bool false := f64
               clear f0 f1 f2 f3 f4 f5 f6 f7 f8 f9 f10 f11 f12 f13 f14 f15 f16 f17 f18 f19 f20 f21 f22 f23 f24 f25 f26 f27 f28 f29 f30 f31 f32 f33 f34 f35 f36 f37 f38 f39 f40 f41 f42 f43 f44 f45 f46 f47 f48 f49 f50 f51 f52 f53 f54 f55 f56 f57 f58 f59 f60 f61 f62 f63
               replace HBn := Lib.hid (HBn.out.trans (hbE.mono HBn.out.size))
               clear hbE
               go_wp2
               go_roundg (ln - (j + 1))
               case measure => omega
               case rel => exact ⟨j + 1, by omega, rfl, by go_num, HBn.out⟩
           · obtain rfl : ln = j := by omega
             clear hb
             go_wp2
             go_roundg (ql - (m + 1))
             case measure => omega
             case rel => exact ⟨m + 1, by omega, rfl, by go_num, HBz.out⟩
        · obtain rfl : ql = m := by omega
          have HF := Lib.hid (HG.out.only.below hb)
          clear hb
          go_wp2
          go_ret
          exact ⟨rfl, HF.out⟩
end Go.Proofs.Ytjaaldandgfkgaa
