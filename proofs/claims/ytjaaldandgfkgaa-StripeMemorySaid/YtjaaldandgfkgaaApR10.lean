/- apart of lists of rows: each place gets a row of its own, the lists are grown, all is looked at. Conditions: lists that lie apart, of no more than a hundred rows. -/
import Derived.Test.YtjaaldandgfkgaaApi
namespace Go.Proofs.Ytjaaldandgfkgaa
open Go.RowKit

/-- The row that is laid at place q of the list t. -/
def arE (L : Nat → Nat) (t q : Nat) : Array Value := if q < L t then #[.int .u8 ((t : Nat) : Int), .int .u8 ((q : Nat) : Int)] else #[.int .u8 ((t : Nat) : Int), .int .u8 ((q - L t : Nat) : Int), .int .u8 9]
theorem arE_lo {L : Nat → Nat} {t q : Nat} (h : q < L t) : arE L t q = #[.int .u8 ((t : Nat) : Int), .int .u8 ((q : Nat) : Int)] := if_pos h
theorem arE_hi {L : Nat → Nat} {t q : Nat} (h : ¬ q < L t) : arE L t q = #[.int .u8 ((t : Nat) : Int), .int .u8 ((q - L t : Nat) : Int), .int .u8 9] := if_neg h
theorem bytesInfoU : (Try.prog.info? 67).map (fun i => (i.zero, i.size, i.bytes)) = some (some (.slice none 0 0), 1, 24) := by kernel_rfl
/-- The bytes of a row that is laid. -/
def arB (i x : Nat) (c : Nat) : Nat := if c = 0 then i else if c = 1 then x else 9
theorem ar2 {i x : Nat} : ∀ c, c < 2 → (#[Value.int .u8 ((i : Nat) : Int), .int .u8 ((x : Nat) : Int)] : Array Value)[c]? = some (.int .u8 ((arB i x c : Nat) : Int))
 | 0, _ => rfl
 | 1, _ => rfl
theorem ar3 {i x : Nat} : ∀ c, c < 3 → (#[Value.int .u8 ((i : Nat) : Int), .int .u8 ((x : Nat) : Int), .int .u8 9] : Array Value)[c]? = some (.int .u8 ((arB i x c : Nat) : Int))
 | 0, _ => rfl
 | 1, _ => rfl
 | 2, _ => rfl
theorem arB_conv {w : World} {g i x : Nat} {C : Array Value} (n : Nat) (h : w.heap[g]? = some (.cells C 5)) (hC : ∀ c, c < n → C[c]? = some (.int .u8 ((arB i x c : Nat) : Int))) (hi : i < 256) (hx : x < 256) : (convert 43 9 (.slice (some ⟨g, 0, none⟩) n n)).run Try.prog w = .ok (.string (strN n (arB i x))) w :=
 conv_str (P := Try.prog) w 43 9 5 (some ⟨g, 0, none⟩) n n (arB i x) Try.underlying43 Try.underlying5 Try.underlying9 (fun c _ => by unfold arB; split; exact hi; split; exact hx; omega) (rd_blk h hC)
set_option maxRecDepth 100000 in
set_option maxHeartbeats 16000000 in
theorem apartR_any (AN : Option Addr) (N cN : Nat) (S : Nat → Option Addr) (L C : Nat → Nat) (f : Nat → Nat → Value) (Bt B0 : Nat) (w : World) (hN : N ≤ 120) (hL : ∀ t, t < N → L t ≤ 100) (hT : Own w Bt 67 1 (.slice AN N cN) N (fun t => [.slice (S t) (L t) (C t)])) (hR : ∀ t, t < N → Own w B0 43 1 (.slice (S t) (L t) (C t)) (L t) (fun q => [f t q])) (hA : Apt N S) (hB : B0 ≤ w.heap.size) :
 Calls Try.prog 41 #[.slice AN N cN] w fun e w' => e = .returned (.bool true) ∧ Only (RB N S) w w' := by
 have HTN := Lib.hid (top_ne hT hR (by decide))
 have HT := Lib.hid hT; have HA := Lib.hid hA; have HL := Lib.hid hL
 have HM0 : Hid (MEl w w B0 43 5 N S L C f (arE L) 0 0) := Lib.hid (MEl.start hR)
 have HIN : Hid (∀ t, t < N → ∀ s o, S t = some ⟨s, o, none⟩ → s < w.heap.size) := Lib.hid fun t ht s o es => ((hR t ht).lt s ((hR t ht).off es).2).2
 have HCELL : Hid (∀ w', Only (RB N S) w w' → ∀ t, t < N → ∃ b o, AN = some ⟨b, o, none⟩ ∧ w'.cell? ⟨b, o + t, none⟩ = some (.slice (S t) (L t) (C t))) := Lib.hid fun w' ho t ht => by
  obtain ⟨A', c', e1, _, _, hr, _⟩ := (ho.own HT.out HTN.out).rd
  injection e1 with e1 _ _
  subst e1
  obtain ⟨b, o, e2, _, hc⟩ := hr t ht
  exact ⟨b, o, e2, hc⟩
 clear hT hR hA hL
 go_enter Try.func41, Try.ntmps41
 go_wp2
 go_loopg [3, 4] N (fun gk vi _ wr => ∃ i : Nat, i ≤ N ∧ gk = N - i ∧ vi = .int .i64 i ∧ MEl w wr B0 43 5 N S L C f (arE L) i 0)
 case atStart => exact ⟨0, Nat.zero_le _, rfl, rfl, HM0.out⟩
 case round =>
  clear HM0
  obtain ⟨i, hi, rfl, rfl, hM⟩ := hrel
  by_cases hlt : i < N
  · obtain ⟨bT, oT, rfl, hcT⟩ := HCELL.out wr hM.only i hlt
    have hLi := HL.out i hlt
    obtain ⟨ln, hln⟩ : ∃ ln, ln = L i := ⟨_, rfl⟩
    rw [← hln] at hLi
    rw [← hln] at hcT
    have HLN := Lib.hid hln
    have HM := Lib.hid hM
    clear hM hln
    go_wp2
    go_loopg [4] ln (fun gk vj wr => ∃ j : Nat, j ≤ ln ∧ gk = ln - j ∧ vj = .int .i64 j ∧ MEl w wr B0 43 5 N S L C f (arE L) i j)
    case atStart => exact ⟨0, Nat.zero_le _, rfl, rfl, HM.out⟩
    case round =>
     clear HM hcT
     obtain ⟨j, hj, rfl, rfl, hM⟩ := hrel
     obtain ⟨b', o', e', hcT⟩ := HCELL.out wr hM.only i hlt
     injection e' with e'
     injection e' with e1 e2
     subst e1 e2
     rw [← HLN.out] at hcT
     by_cases hlj : j < ln
     · rcases hM.addr hlt with ⟨_, e0⟩ | ⟨g, hg, hgB, hgl⟩
       · have := HLN.out; omega
       · obtain ⟨u0, hcj, hfz⟩ : ∃ u0, wr.cell? ⟨g, j, none⟩ = some u0 ∧ wr.frozen? ⟨g, j, none⟩ = false := by
          obtain ⟨bk, h1, _⟩ := hM
          have hoi := h1.1 i hlt
          rw [hg] at hoi
          exact ⟨_, hoi.cell1 (by rw [← HLN.out]; exact hlj), own_freeX hoi j⟩
         rw [hg] at hcT
         have hlj2 : j < L i := by rw [← HLN.out]; exact hlj
         have hw1 : (i : Int) % 256 = (i : Int) := by omega
         have hw2 : (j : Int) % 256 = (j : Int) := by omega
         have HM2 := Lib.hid (hM.set HA.out hlt hlj2 hg (HIN.out i hlt g 0 hg) (arE_lo hlj2) rfl)
         clear hM hg hlj2
         go_wp2
         go_roundg (ln - (j + 1))
         case measure => omega
         case rel => exact ⟨j + 1, by omega, rfl, by go_num, HM2.out⟩
     · obtain rfl : ln = j := by omega
       have HM2 := Lib.hid (hM.row (by rw [← HLN.out]; exact Nat.le_refl _))
       clear hM
       go_wp2
       go_roundg (N - (i + 1))
       case measure => omega
       case rel => exact ⟨i + 1, by omega, rfl, by go_num, HM2.out⟩
  · obtain rfl : N = i := by omega
    obtain ⟨bk, hG⟩ := MEl.grow (eh := 67) (ti := 3) (W := 64) hM HIN.out
    have HGB := Lib.hid hG
    clear hM hG
    go_wp2
    go_loopg [5, 6, 7, 8, 9] N (fun gk vl vw vi _ _ wr => ∃ (i ql : Nat) (SL : Nat → Option Addr) (LL CL I : Nat → Nat) (bk : Nat → Nat → Nat), i ≤ N ∧ gk = N - i ∧ vi = .int .i64 i ∧ ql ≤ 64 * i ∧ HB w wr B0 43 5 67 3 N 64 S L C (arE L) i ql vl vw SL LL CL I bk)
    case atStart => exact ⟨0, 0, _, _, _, _, bk, Nat.zero_le _, rfl, rfl, Nat.le_refl _, HGB.out⟩
    case round =>
     clear HGB
     obtain ⟨i, ql, SL, LL, CL, I, bk, hi, rfl, rfl, hq, hG⟩ := hrel
     by_cases hlt : i < N
     · obtain ⟨bT, oT, rfl, hcT⟩ := HCELL.out wr hG.1.only i hlt
       have hLi := HL.out i hlt
       have HGS := Lib.hid (hG.start HA.out hlt)
       clear hG
       go_wp2
       go_loopg [5, 6, 8, 9] 64 (fun gk vl vw v vk wr => ∃ (k ql : Nat) (SL : Nat → Option Addr) (LL CL I : Nat → Nat) (bk : Nat → Nat → Nat), k ≤ 64 ∧ gk = 64 - k ∧ vk = .int .i64 k ∧ ql ≤ 64 * i + k ∧ HS w wr B0 43 5 67 3 N 64 S L C (arE L) i k v ql ql vl vw SL LL CL I bk k)
       case atStart => exact ⟨0, ql, SL, LL, CL, I, bk, Nat.zero_le _, rfl, rfl, hq, HGS.out⟩
       case round =>
        clear HGS hcT hq
        obtain ⟨k, ql, SL, LL, CL, I, bk, hk, rfl, rfl, hq, hG⟩ := hrel
        by_cases hlk : k < 64
        · have hsB : B0 ≤ (wr.alloc (.cells #[.int .u8 ((i : Nat) : Int), .int .u8 ((k : Nat) : Int), .int .u8 9] 5)).heap.size := Nat.le_trans hB (Nat.le_trans hG.1.1.only.size (by simp))
          have HG := Lib.hid (hG.elem (A := #[.int .u8 ((i : Nat) : Int), .int .u8 ((k : Nat) : Int), .int .u8 9]) (by rw [arE_hi (by omega), Nat.add_sub_cancel_left]))
          have hu : Hid ((#[Value.slice (some ⟨wr.heap.size, 0, none⟩) 3 3] : Array Value).toList = eF (arE L) (upd2 bk i (L i + k) wr.heap.size) i (L i + k)) := Lib.hid (by
           unfold eF eV
           rw [upd2_at, arE_hi (by omega)]
           rfl)
          have hw1 : (i : Int) % 256 = (i : Int) := by omega
          have hw2 : (k : Int) % 256 = (k : Int) := by omega
          clear hG
          by_cases hka : k < 16
          · clear hlk
            have hd1 : (k : Int) < 16 := by omega
            go_wp2_with (at_builtin; refine wpList_pushX _ rfl (.tmp 54) (.tmp 60) 67 rfl B0 43 1 24 (.slice none 0 0) #[.slice (some ⟨wr.heap.size, 0, none⟩) 3 3] Try.underlying67 bytesInfo rfl _ (L i + k) _ rfl HG.out.1.1.own hsB _ (by simp) rfl hu.out rfl rfl (by omega) (by omega) ?_)
            intro v1 w1 hown1 hbel1 hg1
            obtain ⟨A1, c1, rfl, _, _, _, _⟩ := Own.rd (f := eV (arE L) (upd2 bk i (L i + k) wr.heap.size) i) hown1
            have HG1 := Lib.hid (HG.out.push HA.out hlt (by decide) hown1 hg1)
            have hsw1 := HG1.out.1.1.only.size
            clear hown1 hbel1 hg1 HG hu
            have hl1 : Own w1 w.heap.size 67 1 _ ql (fun m => [.slice (upd SL ql A1 m) (upd LL ql (L i + k + 1) m) (upd CL ql c1 m)]) := HG1.out.1.1.long.congr fun m hm => by rw [upd_ne _ _ _ (by omega), upd_ne _ _ _ (by omega), upd_ne _ _ _ (by omega)]
            have HL1 := Lib.hid hl1
            have hu2 : Hid ((#[Value.slice A1 (L i + k + 1) c1] : Array Value).toList = [.slice (upd SL ql A1 ql) (upd LL ql (L i + k + 1) ql) (upd CL ql c1 ql)]) := Lib.hid (by rw [upd_at, upd_at, upd_at])
            clear hl1
            go_wp2_with (at_builtin; refine wpList_pushX _ rfl (.tmp 68) (.tmp 70) 80 rfl w.heap.size 67 1 24 (.slice none 0 0) #[.slice A1 (L i + k + 1) c1] Try.underlying80 bytesInfoU rfl _ ql _ rfl HL1.out hsw1 _ rfl rfl hu2.out rfl rfl (by omega) (by omega) ?_)
            intro v2 w2 hown2 hbel2 hg2
            have HG2 := Lib.hid (HG1.out.keepL rfl HA.out hlt (by decide) (by decide) (by omega) (by omega) hown2 hg2)
            have hsw2 := HG2.out.1.1.only.size
            have hu3 : Hid ((#[Value.int .i64 ((i : Nat) : Int)] : Array Value).toList = [.int .i64 ((upd I ql i ql : Nat) : Int)]) := Lib.hid (by rw [upd_at])
            clear hown2 hbel2 hg2 HG1 HL1 hu2
            go_wp2_with (at_builtin; refine wpList_pushX _ rfl (.tmp 72) (.tmp 74) 25 rfl w.heap.size 3 1 8 (.int .i64 0) #[.int .i64 ((i : Nat) : Int)] Try.underlying25 apInt rfl _ ql _ rfl HG2.out.1.1.who hsw2 _ rfl rfl hu3.out rfl rfl (by omega) (by omega) ?_)
            intro v3 w3 hown3 hbel3 hg3
            have HG3 := Lib.hid (HG2.out.keepW HA.out (by decide) (by decide) hown3 hg3)
            clear hown3 hbel3 hg3 HG2 hu3
            go_wp2
            go_roundg (64 - (k + 1))
            case measure => omega
            case rel => exact ⟨k + 1, ql + 1, _, _, _, _, _, by omega, rfl, by go_num, by omega, HG3.out⟩
          · by_cases hkb : k = 63
            · have hd1 : ¬ (k : Int) < 16 := by omega
              have hd2 : ((k : Int) == 63) = true := by rw [beq_iff_eq]; omega
              clear hkb
              go_wp2_with (at_builtin; refine wpList_pushX _ rfl (.tmp 54) (.tmp 60) 67 rfl B0 43 1 24 (.slice none 0 0) #[.slice (some ⟨wr.heap.size, 0, none⟩) 3 3] Try.underlying67 bytesInfo rfl _ (L i + k) _ rfl HG.out.1.1.own hsB _ (by simp) rfl hu.out rfl rfl (by omega) (by omega) ?_)
              intro v1 w1 hown1 hbel1 hg1
              obtain ⟨A1, c1, rfl, _, _, _, _⟩ := Own.rd (f := eV (arE L) (upd2 bk i (L i + k) wr.heap.size) i) hown1
              have HG1 := Lib.hid (HG.out.push HA.out hlt (by decide) hown1 hg1)
              have hsw1 := HG1.out.1.1.only.size
              clear hown1 hbel1 hg1 HG hu
              have hl1 : Own w1 w.heap.size 67 1 _ ql (fun m => [.slice (upd SL ql A1 m) (upd LL ql (L i + k + 1) m) (upd CL ql c1 m)]) := HG1.out.1.1.long.congr fun m hm => by rw [upd_ne _ _ _ (by omega), upd_ne _ _ _ (by omega), upd_ne _ _ _ (by omega)]
              have HL1 := Lib.hid hl1
              have hu2 : Hid ((#[Value.slice A1 (L i + k + 1) c1] : Array Value).toList = [.slice (upd SL ql A1 ql) (upd LL ql (L i + k + 1) ql) (upd CL ql c1 ql)]) := Lib.hid (by rw [upd_at, upd_at, upd_at])
              clear hl1
              go_wp2_with (at_builtin; refine wpList_pushX _ rfl (.tmp 68) (.tmp 70) 80 rfl w.heap.size 67 1 24 (.slice none 0 0) #[.slice A1 (L i + k + 1) c1] Try.underlying80 bytesInfoU rfl _ ql _ rfl HL1.out hsw1 _ rfl rfl hu2.out rfl rfl (by omega) (by omega) ?_)
              intro v2 w2 hown2 hbel2 hg2
              have HG2 := Lib.hid (HG1.out.keepL rfl HA.out hlt (by decide) (by decide) (by omega) (by omega) hown2 hg2)
              have hsw2 := HG2.out.1.1.only.size
              have hu3 : Hid ((#[Value.int .i64 ((i : Nat) : Int)] : Array Value).toList = [.int .i64 ((upd I ql i ql : Nat) : Int)]) := Lib.hid (by rw [upd_at])
              clear hown2 hbel2 hg2 HG1 HL1 hu2
              go_wp2_with (at_builtin; refine wpList_pushX _ rfl (.tmp 72) (.tmp 74) 25 rfl w.heap.size 3 1 8 (.int .i64 0) #[.int .i64 ((i : Nat) : Int)] Try.underlying25 apInt rfl _ ql _ rfl HG2.out.1.1.who hsw2 _ rfl rfl hu3.out rfl rfl (by omega) (by omega) ?_)
              intro v3 w3 hown3 hbel3 hg3
              have HG3 := Lib.hid (HG2.out.keepW HA.out (by decide) (by decide) hown3 hg3)
              clear hown3 hbel3 hg3 HG2 hu3
              go_wp2
              go_roundg (64 - (k + 1))
              case measure => omega
              case rel => exact ⟨k + 1, ql + 1, _, _, _, _, _, by omega, rfl, by go_num, by omega, HG3.out⟩
            · have hd1 : ¬ (k : Int) < 16 := by omega
              have hd2 : ((k : Int) == 63) = false := by rw [beq_eq_false_iff_ne]; omega
              clear hkb
              go_wp2_with (at_builtin; refine wpList_pushX _ rfl (.tmp 54) (.tmp 60) 67 rfl B0 43 1 24 (.slice none 0 0) #[.slice (some ⟨wr.heap.size, 0, none⟩) 3 3] Try.underlying67 bytesInfo rfl _ (L i + k) _ rfl HG.out.1.1.own hsB _ (by simp) rfl hu.out rfl rfl (by omega) (by omega) ?_)
              intro v1 w1 hown1 hbel1 hg1
              obtain ⟨A1, c1, rfl, _, _, _, _⟩ := Own.rd (f := eV (arE L) (upd2 bk i (L i + k) wr.heap.size) i) hown1
              have HG1 := Lib.hid (HG.out.push HA.out hlt (by decide) hown1 hg1)
              have hsw1 := HG1.out.1.1.only.size
              clear hown1 hbel1 hg1 HG hu
              go_wp2
              go_roundg (64 - (k + 1))
              case measure => omega
              case rel => exact ⟨k + 1, ql, SL, LL, CL, I, _, by omega, rfl, by go_num, by omega, HG1.out⟩
        · obtain rfl : k = 64 := by omega
          have HG2 := Lib.hid hG.stop
          clear hG
          go_wp2
          go_roundg (N - (i + 1))
          case measure => omega
          case rel => exact ⟨i + 1, ql, SL, LL, CL, I, bk, by omega, rfl, by go_num, by omega, HG2.out⟩
     · obtain rfl : N = i := by omega
       have HG := Lib.hid hG
       clear hG
       obtain ⟨Al, cl, rfl, _, _, hrl, _⟩ := HG.out.1.long.rd
       obtain ⟨Aw, cw, rfl, _, _, hrw, _⟩ := HG.out.1.who.rd
       obtain ⟨wz, hwz⟩ : ∃ wz, wz = wr := ⟨_, rfl⟩
       rw [← hwz] at HG hrl hrw ⊢
       have HRL := Lib.hid hrl; have HRW := Lib.hid hrw
       clear hwz hrl hrw
       go_wp2
       go_loopg [10, 11, 12, 13] ql (fun gk vn _ _ _ wr => ∃ m : Nat, m ≤ ql ∧ gk = ql - m ∧ vn = .int .i64 m ∧ Below wz.heap.size wz wr)
       case atStart => exact ⟨0, Nat.zero_le _, rfl, rfl, Below.refl _ _⟩
       case round =>
        obtain ⟨m, hm, rfl, rfl, hb⟩ := hrel
        by_cases hlt : m < ql
        · obtain ⟨bw, ow, rfl, hbw, hcw⟩ := HRW.out m hlt
          obtain ⟨bl, ol, rfl, hbl, hcl⟩ := HRL.out m hlt
          have hi0 := (HG.out.1.kept m hlt).1
          have hIt := fun j (hj : j < LL m) => (HG.out.item hlt hj).2
          have hlmx := (HG.out.2.2 m hlt).2
          obtain ⟨i0, hi0e⟩ : ∃ i0, i0 = I m := ⟨_, rfl⟩
          obtain ⟨A0, hA0⟩ : ∃ A0, A0 = SL m := ⟨_, rfl⟩
          obtain ⟨ln, hln⟩ : ∃ ln, ln = LL m := ⟨_, rfl⟩
          obtain ⟨c0, hc0⟩ : ∃ c0, c0 = CL m := ⟨_, rfl⟩
          have hcw2 : wr.cell? ⟨bw, ow + m, none⟩ = some (.int .i64 (i0 : Nat)) := by rw [hi0e]; exact (hb.cell hbw).trans hcw
          rw [← hi0e] at hi0 hIt hlmx
          rw [← hA0, ← hln] at hIt
          rw [← hln] at hlmx
          have HIT := Lib.hid hIt
          have HRS := Lib.hid fun j (hj : j < L i0) => HG.out.old hi0 hj
          have HCL : Hid (∀ w', Below wr.heap.size wr w' → w'.cell? ⟨bl, ol + m, none⟩ = some (.slice A0 ln c0)) := Lib.hid fun w' hb' => by
           rw [hA0, hln, hc0]
           exact ((hb.trans (hb'.mono hb.size)).cell hbl).trans hcl
          obtain ⟨l0, hl0⟩ : ∃ l0, l0 = L i0 := ⟨_, rfl⟩
          have HL0 := Lib.hid hl0
          obtain ⟨S0, hS0⟩ : ∃ S0, S0 = S i0 := ⟨_, rfl⟩
          obtain ⟨C0, hC0⟩ : ∃ C0, C0 = C i0 := ⟨_, rfl⟩
          obtain ⟨bT, oT, hATe, _⟩ := HCELL.out wr (HG.out.1.only.below hb) i0 hi0
          subst hATe
          have HCT : Hid (∀ w', Below wr.heap.size wr w' → w'.cell? ⟨bT, oT + i0, none⟩ = some (.slice S0 l0 C0)) := Lib.hid fun w' hb' => by
           obtain ⟨b', o', e', hc'⟩ := HCELL.out w' (HG.out.1.only.below (hb.trans (hb'.mono hb.size))) i0 hi0
           injection e' with e'
           injection e' with e1 e2
           subst e1 e2
           rw [hS0, hl0, hC0]
           exact hc'
          rw [← hS0, ← hl0] at HRS
          have hlnb := HCL.out wr (Below.refl _ _)
          have hl0b : l0 ≤ 100 := by rw [hl0]; exact HL.out i0 hi0
          have hlnn : ln ≤ 164 := by rw [← hl0] at hlmx; omega
          have HBz := Lib.hid hb
          clear hb hbw hcw hbl hcl hIt hi0e hA0 hln hc0 hl0 hS0 hC0 hlmx
          go_wp2
          go_loopg [12, 13] ln (fun gk vj _ wr' => ∃ j : Nat, j ≤ ln ∧ gk = ln - j ∧ vj = .int .i64 j ∧ Below wr.heap.size wr wr')
          case atStart => exact ⟨0, Nat.zero_le _, rfl, rfl, Below.refl _ _⟩
          case round =>
           clear hlnb hcw2
           obtain ⟨j, hj, rfl, rfl, hb⟩ := hrel
           have hlnb := HCL.out _ hb
           have hctb := HCT.out _ hb
           replace HBz := Lib.hid (HBz.out.trans (hb.mono HBz.out.size))
           by_cases hlj : j < ln
           · obtain ⟨by1, oy1, rfl, hby1, hcy10, hbj, hbjl⟩ := HIT.out j hlj
             have HBn := Lib.hid hb
             unfold eV at hcy10
             obtain ⟨bj, hbje⟩ : ∃ bj, bj = bk i0 j := ⟨_, rfl⟩
             rw [← hbje] at hcy10 hbj hbjl
             by_cases hjl : j < l0
             · obtain ⟨by2, oy2, rfl, hby2, hcy20, _, _⟩ := HRS.out j hjl
               unfold eV at hcy20
               rw [← hbje] at hcy20
               rw [arE_lo (by rw [← HL0.out]; exact hjl)] at hcy10 hbj hcy20
               replace hcy10 : wz.cell? ⟨by1, oy1 + j, none⟩ = some (.slice (some ⟨bj, 0, none⟩) 2 2) := hcy10
               replace hcy20 : wz.cell? ⟨by2, oy2 + j, none⟩ = some (.slice (some ⟨bj, 0, none⟩) 2 2) := hcy20
               clear hbje
               have hb0 : i0 < 256 := by omega
               have hb1 : j < 256 := by omega
               have hw1 : IntKind.u8.wrap (i0 : Int) = (i0 : Int) := by rw [IntKind.wrap_u8]; omega
               have hw2 : IntKind.u8.wrap (j : Int) = (j : Int) := by rw [IntKind.wrap_u8]; omega
               have HX : Hid (∀ w', Below wr.heap.size wr w' → w'.cell? ⟨bT, oT + i0, none⟩ = some (.slice (some ⟨by2, oy2, none⟩) l0 C0) ∧ w'.cell? ⟨by1, oy1 + j, none⟩ = some (.slice (some ⟨bj, 0, none⟩) 2 2) ∧ w'.cell? ⟨by2, oy2 + j, none⟩ = some (.slice (some ⟨bj, 0, none⟩) 2 2) ∧ w'.heap[bj]? = some (.cells #[.int .u8 ((i0 : Nat) : Int), .int .u8 ((j : Nat) : Int)] 5)) := Lib.hid fun w' hb' => ⟨HCT.out _ (hb.trans (hb'.mono hb.size)), ((HBz.out.trans (hb'.mono HBz.out.size)).cell hby1).trans hcy10, ((HBz.out.trans (hb'.mono HBz.out.size)).cell hby2).trans hcy20, ((HBz.out.trans (hb'.mono HBz.out.size)).block bj hbjl).trans hbj⟩
               have hc13 := (HX.out wr (Below.refl _ _)).2.1
               clear hb hby1 hby2 hcy20 hcy10 hbj hbjl
               go_wp2_with fail
               clear hlnb hctb hc13
               refine wp_region_factsG [.is (.int .i64 (j : Int)), .is (.slice (some ⟨bT, oT, none⟩) N cN), .is (.int .i64 (i0 : Int)), .is (.pointer (some ⟨bT, oT + i0, none⟩)), .is (.slice (some ⟨by2, oy2, none⟩) l0 C0), .is (.int .i64 (l0 : Int)), .is (.bool true), .is (.bool true), .is (.slice (some ⟨bj, 0, none⟩) 2 2), .is (.string (strN 2 (arB i0 j))), .is (.int .i64 (i0 : Int)), .is (.int .u8 (i0 : Int)), .is (.int .i64 (j : Int)), .is (.int .u8 (j : Int)), Fact.sl #[.int .u8 ((i0 : Nat) : Int), .int .u8 ((j : Nat) : Int)] 2 5, .is (.string (strN 2 (arB i0 j))), .is (.bool false), .is (.bool false), .is (.slice (some ⟨bT, oT, none⟩) N cN), .is (.int .i64 (i0 : Int)), .is (.pointer (some ⟨bT, oT + i0, none⟩)), .is (.slice (some ⟨by2, oy2, none⟩) l0 C0), .is (.int .i64 (j : Int)), .is (.pointer (some ⟨by2, oy2 + j, none⟩)), .is (.slice (some ⟨bj, 0, none⟩) 2 2), .is (.string (strN 2 (arB i0 j))), .is (.slice (some ⟨bj, 0, none⟩) 2 2), .is (.string (strN 2 (arB i0 j))), .is (.bool false), .is (.bool false), .is (.bool false)] mixed (by kernel_rfl) (fun hdr => ⟨?_, ?_, ?_, ?_, ?_, ?_, ?_, ?_, ?_, ?_, ?_, ?_, ?_, ?_, ?_, ?_, ?_, ?_, ?_, ?_, ?_, ?_, ?_, ?_, ?_, ?_, ?_, ?_, ?_, ?_, ?_, trivial⟩) (fun wE hbE => ?_)
               · intro a w2 hb hs K hK; (repeat intro _); refine ⟨?_⟩
                 have h12 : a.tmps[12]?.getD undef = .int .i64 (j : Int) := hs 12 (by kernel_rfl)
                 rw [if_pos (by rfl)]
                 go_simp; exact hK.out _ _ (Below.refl _ _) rfl
               · intro a w2 hb hs K hK; (repeat intro _); refine ⟨?_⟩
                 have h0 : a.tmps[0]?.getD undef = .slice (some ⟨bT, oT, none⟩) N cN := hs 0 (by kernel_rfl)
                 rw [if_pos (by rfl)]
                 go_simp; exact hK.out _ _ (Below.refl _ _) rfl
               · intro a w2 hb hs K hK; (repeat intro _); refine ⟨?_⟩
                 have h11 : a.tmps[11]?.getD undef = .int .i64 (i0 : Int) := hs 11 (by kernel_rfl)
                 rw [if_pos (by rfl)]
                 go_simp; exact hK.out _ _ (Below.refl _ _) rfl
               · intro a w2 hb hs K hK; (repeat intro _); refine ⟨?_⟩
                 have h103 : a.tmps[103]?.getD undef = .slice (some ⟨bT, oT, none⟩) N cN := by assumption
                 have h104 : a.tmps[104]?.getD undef = .int .i64 (i0 : Int) := by assumption
                 rw [if_pos (by rfl)]
                 go_simp; exact hK.out _ _ (Below.refl _ _) rfl
               · intro a w2 hb hs K hK; (repeat intro _); refine ⟨?_⟩
                 have h105 : a.tmps[105]?.getD undef = .pointer (some ⟨bT, oT + i0, none⟩) := by assumption
                 rw [if_pos (by rfl)]
                 have hcc := (HX.out w2 (hdr.out.trans (hb.mono hdr.out.size))).1
                 go_simp; exact hK.out _ _ (Below.refl _ _) rfl
               · intro a w2 hb hs K hK; (repeat intro _); refine ⟨?_⟩
                 have h106 : a.tmps[106]?.getD undef = .slice (some ⟨by2, oy2, none⟩) l0 C0 := by assumption
                 rw [if_pos (by rfl)]
                 go_simp; exact hK.out _ _ (Below.refl _ _) rfl
               · intro a w2 hb hs K hK; (repeat intro _); refine ⟨?_⟩
                 have h102 : a.tmps[102]?.getD undef = .int .i64 (j : Int) := by assumption
                 have h107 : a.tmps[107]?.getD undef = .int .i64 (l0 : Int) := by assumption
                 rw [if_pos (by rfl)]
                 go_simp
                 first | exact hK.out _ _ (Below.refl _ _) rfl | exact hK.out _ _ (Below.refl _ _) (congrArg Value.bool (decide_eq_true (by omega)))
               · intro a w2 hb hs K hK; (repeat intro _); refine ⟨?_⟩
                 have h108 : a.tmps[108]?.getD undef = .bool true := by assumption
                 rw [if_pos (by rfl)]
                 go_simp; exact hK.out _ _ (Below.refl _ _) rfl
               · intro a w2 hb hs K hK; (repeat intro _); refine ⟨?_⟩
                 have h13 : a.tmps[13]?.getD undef = .slice (some ⟨bj, 0, none⟩) 2 2 := hs 13 (by kernel_rfl)
                 rw [if_pos (wanted_yes (j := 7) (b := true) rfl rfl rfl (by assumption))]
                 go_simp; exact hK.out _ _ (Below.refl _ _) rfl
               · intro a w2 hb hs K hK; (repeat intro _); refine ⟨?_⟩
                 have h110 : a.tmps[110]?.getD undef = .slice (some ⟨bj, 0, none⟩) 2 2 := by assumption
                 rw [if_pos (wanted_yes (j := 7) (b := true) rfl rfl rfl (by assumption))]
                 have hcc := arB_conv (g := bj) 2 (HX.out w2 (hdr.out.trans (hb.mono hdr.out.size))).2.2.2 ar2 hb0 hb1
                 go_simp; exact hK.out _ _ (Below.refl _ _) rfl
               · intro a w2 hb hs K hK; (repeat intro _); refine ⟨?_⟩
                 have h11 : a.tmps[11]?.getD undef = .int .i64 (i0 : Int) := hs 11 (by kernel_rfl)
                 rw [if_pos (wanted_yes (j := 7) (b := true) rfl rfl rfl (by assumption))]
                 go_simp; exact hK.out _ _ (Below.refl _ _) rfl
               · intro a w2 hb hs K hK; (repeat intro _); refine ⟨?_⟩
                 have h112 : a.tmps[112]?.getD undef = .int .i64 (i0 : Int) := by assumption
                 rw [if_pos (wanted_yes (j := 7) (b := true) rfl rfl rfl (by assumption))]
                 go_simp; exact hK.out _ _ (Below.refl _ _) rfl
               · intro a w2 hb hs K hK; (repeat intro _); refine ⟨?_⟩
                 have h12 : a.tmps[12]?.getD undef = .int .i64 (j : Int) := hs 12 (by kernel_rfl)
                 rw [if_pos (wanted_yes (j := 7) (b := true) rfl rfl rfl (by assumption))]
                 go_simp; exact hK.out _ _ (Below.refl _ _) rfl
               · intro a w2 hb hs K hK; (repeat intro _); refine ⟨?_⟩
                 have h114 : a.tmps[114]?.getD undef = .int .i64 (j : Int) := by assumption
                 rw [if_pos (wanted_yes (j := 7) (b := true) rfl rfl rfl (by assumption))]
                 go_simp; exact hK.out _ _ (Below.refl _ _) rfl
               · intro a w2 hb hs K hK; (repeat intro _); refine ⟨?_⟩
                 have h113 : a.tmps[113]?.getD undef = .int .u8 (i0 : Int) := by assumption
                 have h115 : a.tmps[115]?.getD undef = .int .u8 (j : Int) := by assumption
                 rw [if_pos (wanted_yes (j := 7) (b := true) rfl rfl rfl (by assumption))]
                 go_simp
                 exact hK.out _ _ ((Below.refl _ _).alloc (Nat.le_refl _) _) ⟨_, rfl, heap_alloc_new _ _⟩
               · intro a w2 hb hs K hK; (repeat intro _); refine ⟨?_⟩
                 obtain ⟨g116, h116, k116⟩ : ∃ g, a.tmps[116]?.getD undef = .slice (some ⟨g, 0, none⟩) 2 2 ∧ w2.heap[g]? = some (.cells #[.int .u8 ((i0 : Nat) : Int), .int .u8 ((j : Nat) : Int)] 5) := by assumption
                 rw [if_pos (wanted_yes (j := 7) (b := true) rfl rfl rfl (by assumption))]
                 have hcc := arB_conv (g := g116) 2 k116 ar2 hb0 hb1
                 go_simp; exact hK.out _ _ (Below.refl _ _) rfl
               · intro a w2 hb hs K hK; (repeat intro _); refine ⟨?_⟩
                 have h111 : a.tmps[111]?.getD undef = .string (strN 2 (arB i0 j)) := by assumption
                 have h117 : a.tmps[117]?.getD undef = .string (strN 2 (arB i0 j)) := by assumption
                 rw [if_pos (wanted_yes (j := 7) (b := true) rfl rfl rfl (by assumption))]
                 go_simp
                 exact hK.out _ _ (Below.refl _ _) (by first | rfl | (show Value.bool _ = Value.bool _; simp))
               · intro a w2 hb hs K hK; (repeat intro _); refine ⟨?_⟩
                 have h118 : a.tmps[118]?.getD undef = .bool false := by assumption
                 rw [if_pos (wanted_yes (j := 7) (b := true) rfl rfl rfl (by assumption))]
                 go_simp; exact hK.out _ _ (Below.refl _ _) rfl
               · intro a w2 hb hs K hK; (repeat intro _); refine ⟨?_⟩
                 have h0 : a.tmps[0]?.getD undef = .slice (some ⟨bT, oT, none⟩) N cN := hs 0 (by kernel_rfl)
                 rw [if_pos (wanted_yes (j := 17) (b := false) rfl rfl rfl (by assumption))]
                 go_simp; exact hK.out _ _ (Below.refl _ _) rfl
               · intro a w2 hb hs K hK; (repeat intro _); refine ⟨?_⟩
                 have h11 : a.tmps[11]?.getD undef = .int .i64 (i0 : Int) := hs 11 (by kernel_rfl)
                 rw [if_pos (wanted_yes (j := 17) (b := false) rfl rfl rfl (by assumption))]
                 go_simp; exact hK.out _ _ (Below.refl _ _) rfl
               · intro a w2 hb hs K hK; (repeat intro _); refine ⟨?_⟩
                 have h120 : a.tmps[120]?.getD undef = .slice (some ⟨bT, oT, none⟩) N cN := by assumption
                 have h121 : a.tmps[121]?.getD undef = .int .i64 (i0 : Int) := by assumption
                 rw [if_pos (wanted_yes (j := 17) (b := false) rfl rfl rfl (by assumption))]
                 go_simp; exact hK.out _ _ (Below.refl _ _) rfl
               · intro a w2 hb hs K hK; (repeat intro _); refine ⟨?_⟩
                 have h122 : a.tmps[122]?.getD undef = .pointer (some ⟨bT, oT + i0, none⟩) := by assumption
                 rw [if_pos (wanted_yes (j := 17) (b := false) rfl rfl rfl (by assumption))]
                 have hcc := (HX.out w2 (hdr.out.trans (hb.mono hdr.out.size))).1
                 go_simp; exact hK.out _ _ (Below.refl _ _) rfl
               · intro a w2 hb hs K hK; (repeat intro _); refine ⟨?_⟩
                 have h12 : a.tmps[12]?.getD undef = .int .i64 (j : Int) := hs 12 (by kernel_rfl)
                 rw [if_pos (wanted_yes (j := 17) (b := false) rfl rfl rfl (by assumption))]
                 go_simp; exact hK.out _ _ (Below.refl _ _) rfl
               · intro a w2 hb hs K hK; (repeat intro _); refine ⟨?_⟩
                 have h123 : a.tmps[123]?.getD undef = .slice (some ⟨by2, oy2, none⟩) l0 C0 := by assumption
                 have h124 : a.tmps[124]?.getD undef = .int .i64 (j : Int) := by assumption
                 rw [if_pos (wanted_yes (j := 17) (b := false) rfl rfl rfl (by assumption))]
                 go_simp; exact hK.out _ _ (Below.refl _ _) rfl
               · intro a w2 hb hs K hK; (repeat intro _); refine ⟨?_⟩
                 have h125 : a.tmps[125]?.getD undef = .pointer (some ⟨by2, oy2 + j, none⟩) := by assumption
                 rw [if_pos (wanted_yes (j := 17) (b := false) rfl rfl rfl (by assumption))]
                 have hcc := (HX.out w2 (hdr.out.trans (hb.mono hdr.out.size))).2.2.1
                 go_simp; exact hK.out _ _ (Below.refl _ _) rfl
               · intro a w2 hb hs K hK; (repeat intro _); refine ⟨?_⟩
                 have h126 : a.tmps[126]?.getD undef = .slice (some ⟨bj, 0, none⟩) 2 2 := by assumption
                 rw [if_pos (wanted_yes (j := 17) (b := false) rfl rfl rfl (by assumption))]
                 have hcc := arB_conv (g := bj) 2 (HX.out w2 (hdr.out.trans (hb.mono hdr.out.size))).2.2.2 ar2 hb0 hb1
                 go_simp; exact hK.out _ _ (Below.refl _ _) rfl
               · intro a w2 hb hs K hK; (repeat intro _); refine ⟨?_⟩
                 have h13 : a.tmps[13]?.getD undef = .slice (some ⟨bj, 0, none⟩) 2 2 := hs 13 (by kernel_rfl)
                 rw [if_pos (wanted_yes (j := 17) (b := false) rfl rfl rfl (by assumption))]
                 go_simp; exact hK.out _ _ (Below.refl _ _) rfl
               · intro a w2 hb hs K hK; (repeat intro _); refine ⟨?_⟩
                 have h128 : a.tmps[128]?.getD undef = .slice (some ⟨bj, 0, none⟩) 2 2 := by assumption
                 rw [if_pos (wanted_yes (j := 17) (b := false) rfl rfl rfl (by assumption))]
                 have hcc := arB_conv (g := bj) 2 (HX.out w2 (hdr.out.trans (hb.mono hdr.out.size))).2.2.2 ar2 hb0 hb1
                 go_simp; exact hK.out _ _ (Below.refl _ _) rfl
               · intro a w2 hb hs K hK; (repeat intro _); refine ⟨?_⟩
                 have h127 : a.tmps[127]?.getD undef = .string (strN 2 (arB i0 j)) := by assumption
                 have h129 : a.tmps[129]?.getD undef = .string (strN 2 (arB i0 j)) := by assumption
                 rw [if_pos (wanted_yes (j := 17) (b := false) rfl rfl rfl (by assumption))]
                 go_simp
                 exact hK.out _ _ (Below.refl _ _) (by first | rfl | (show Value.bool _ = Value.bool _; simp))
               · intro a w2 hb hs K hK; (repeat intro _); refine ⟨?_⟩
                 have h119 : a.tmps[119]?.getD undef = .bool false := by assumption
                 have h130 : a.tmps[130]?.getD undef = .bool false := by assumption
                 rw [if_pos (wanted_yes (j := 7) (b := true) rfl rfl rfl (by assumption))]
                 go_simp; exact hK.out _ _ (Below.refl _ _) rfl
               · intro a w2 hb hs K hK; (repeat intro _); refine ⟨?_⟩
                 have h109 : a.tmps[109]?.getD undef = .bool true := by assumption
                 have h131 : a.tmps[131]?.getD undef = .bool false := by assumption
                 rw [if_pos (by rfl)]
                 go_simp; exact hK.out _ _ (Below.refl _ _) rfl
               intro v0 f0 v1 f1 v2 f2 v3 f3 v4 f4 v5 f5 v6 f6 v7 f7 v8 f8 v9 f9 v10 f10 v11 f11 v12 f12 v13 f13 v14 f14 v15 f15 v16 f16 v17 f17 v18 f18 v19 f19 v20 f20 v21 f21 v22 f22 v23 f23 v24 f24 v25 f25 v26 f26 v27 f27 v28 f28 v29 f29 v30 f30
               refine NoPanic.normal ?_
               simp only [Act.put, List.setIfInBounds_toArray, List.set_cons_zero, List.set_cons_succ]
               obtain rfl : v30 = .bool false := f30
               clear f0 f1 f2 f3 f4 f5 f6 f7 f8 f9 f10 f11 f12 f13 f14 f15 f16 f17 f18 f19 f20 f21 f22 f23 f24 f25 f26 f27 f28 f29
               replace HBn := Lib.hid (HBn.out.trans (hbE.mono HBn.out.size))
               have HX2 : Hid (∀ w', Below wE.heap.size wE w' → w'.cell? ⟨bT, oT + i0, none⟩ = some (.slice (some ⟨by2, oy2, none⟩) l0 C0) ∧ w'.cell? ⟨by1, oy1 + j, none⟩ = some (.slice (some ⟨bj, 0, none⟩) 2 2) ∧ w'.cell? ⟨by2, oy2 + j, none⟩ = some (.slice (some ⟨bj, 0, none⟩) 2 2) ∧ w'.heap[bj]? = some (.cells #[.int .u8 ((i0 : Nat) : Int), .int .u8 ((j : Nat) : Int)] 5)) := Lib.hid fun w' hb' => HX.out w' (hbE.trans (hb'.mono hbE.size))
               clear hbE HX
               go_wp2_with fail
               refine wp_region_factsG [.is (.int .i64 (j : Int)), .is (.slice (some ⟨bT, oT, none⟩) N cN), .is (.int .i64 (i0 : Int)), .is (.pointer (some ⟨bT, oT + i0, none⟩)), .is (.slice (some ⟨by2, oy2, none⟩) l0 C0), .is (.int .i64 (l0 : Int)), .is (.bool false), .is (.bool false), .is (undef), .is (undef), .is (undef), .is (undef), .is (undef), .is (undef), .is (undef), .is (undef), .is (undef), .is (undef), .is (undef), .is (undef), .is (undef), .is (undef), .is (undef), .is (.bool false)] mixed (by kernel_rfl) (fun hdr => ⟨?_, ?_, ?_, ?_, ?_, ?_, ?_, ?_, ?_, ?_, ?_, ?_, ?_, ?_, ?_, ?_, ?_, ?_, ?_, ?_, ?_, ?_, ?_, ?_, trivial⟩) (fun wE hbE => ?_)
               · intro a w2 hb hs K hK; (repeat intro _); refine ⟨?_⟩
                 have h12 : a.tmps[12]?.getD undef = .int .i64 (j : Int) := hs 12 (by kernel_rfl)
                 rw [if_pos (by rfl)]
                 go_simp; exact hK.out _ _ (Below.refl _ _) rfl
               · intro a w2 hb hs K hK; (repeat intro _); refine ⟨?_⟩
                 have h0 : a.tmps[0]?.getD undef = .slice (some ⟨bT, oT, none⟩) N cN := hs 0 (by kernel_rfl)
                 rw [if_pos (by rfl)]
                 go_simp; exact hK.out _ _ (Below.refl _ _) rfl
               · intro a w2 hb hs K hK; (repeat intro _); refine ⟨?_⟩
                 have h11 : a.tmps[11]?.getD undef = .int .i64 (i0 : Int) := hs 11 (by kernel_rfl)
                 rw [if_pos (by rfl)]
                 go_simp; exact hK.out _ _ (Below.refl _ _) rfl
               · intro a w2 hb hs K hK; (repeat intro _); refine ⟨?_⟩
                 have h134 : a.tmps[134]?.getD undef = .slice (some ⟨bT, oT, none⟩) N cN := by assumption
                 have h135 : a.tmps[135]?.getD undef = .int .i64 (i0 : Int) := by assumption
                 rw [if_pos (by rfl)]
                 go_simp; exact hK.out _ _ (Below.refl _ _) rfl
               · intro a w2 hb hs K hK; (repeat intro _); refine ⟨?_⟩
                 have h136 : a.tmps[136]?.getD undef = .pointer (some ⟨bT, oT + i0, none⟩) := by assumption
                 rw [if_pos (by rfl)]
                 have hcc := (HX2.out w2 (hdr.out.trans (hb.mono hdr.out.size))).1
                 go_simp; exact hK.out _ _ (Below.refl _ _) rfl
               · intro a w2 hb hs K hK; (repeat intro _); refine ⟨?_⟩
                 have h137 : a.tmps[137]?.getD undef = .slice (some ⟨by2, oy2, none⟩) l0 C0 := by assumption
                 rw [if_pos (by rfl)]
                 go_simp; exact hK.out _ _ (Below.refl _ _) rfl
               · intro a w2 hb hs K hK; (repeat intro _); refine ⟨?_⟩
                 have h133 : a.tmps[133]?.getD undef = .int .i64 (j : Int) := by assumption
                 have h138 : a.tmps[138]?.getD undef = .int .i64 (l0 : Int) := by assumption
                 rw [if_pos (by rfl)]
                 go_simp
                 first | exact hK.out _ _ (Below.refl _ _) rfl | exact hK.out _ _ (Below.refl _ _) (congrArg Value.bool (decide_eq_false (by omega)))
               · intro a w2 hb hs K hK; (repeat intro _); refine ⟨?_⟩
                 have h139 : a.tmps[139]?.getD undef = .bool false := by assumption
                 rw [if_pos (by rfl)]
                 go_simp; exact hK.out _ _ (Below.refl _ _) rfl
               iterate 15
                focus
                 intro a w2 hb hs K hK; (repeat intro _); refine ⟨?_⟩
                 rw [if_neg (wanted_no (j := 7) (b := true) rfl rfl rfl (by assumption))]
                 exact hK.out _ _ (Below.refl _ _) rfl
               · intro a w2 hb hs K hK; (repeat intro _); refine ⟨?_⟩
                 have h140 : a.tmps[140]?.getD undef = .bool false := by assumption
                 have h155 : a.tmps[155]?.getD undef = undef := by assumption
                 rw [if_pos (by rfl)]
                 go_simp; exact hK.out _ _ (Below.refl _ _) rfl
               intro v0 f0 v1 f1 v2 f2 v3 f3 v4 f4 v5 f5 v6 f6 v7 f7 v8 f8 v9 f9 v10 f10 v11 f11 v12 f12 v13 f13 v14 f14 v15 f15 v16 f16 v17 f17 v18 f18 v19 f19 v20 f20 v21 f21 v22 f22 v23 f23
               refine NoPanic.normal ?_
               simp only [Act.put, List.setIfInBounds_toArray, List.set_cons_zero, List.set_cons_succ]
               obtain rfl : v23 = .bool false := f23
               clear f0 f1 f2 f3 f4 f5 f6 f7 f8 f9 f10 f11 f12 f13 f14 f15 f16 f17 f18 f19 f20 f21 f22
               replace HBn := Lib.hid (HBn.out.trans (hbE.mono HBn.out.size))
               clear hbE HX2
               go_wp2
               go_roundg (ln - (j + 1))
               case measure => omega
               case rel => exact ⟨j + 1, by omega, rfl, by go_num, HBn.out⟩
             · rw [arE_hi (by rw [← HL0.out]; exact hjl), ← HL0.out] at hcy10 hbj
               replace hcy10 : wz.cell? ⟨by1, oy1 + j, none⟩ = some (.slice (some ⟨bj, 0, none⟩) 3 3) := hcy10
               clear hbje
               have hb0 : i0 < 256 := by omega
               have hb1 : (j - l0) < 256 := by omega
               have hw1 : IntKind.u8.wrap (i0 : Int) = (i0 : Int) := by rw [IntKind.wrap_u8]; omega
               have hw2 : IntKind.u8.wrap (j : Int) = (j : Int) := by rw [IntKind.wrap_u8]; omega
               have hw3 : IntKind.i64.wrap ((j : Int) - (l0 : Int)) = ((j - l0 : Nat) : Int) := by rw [IntKind.wrap_i64]; omega
               have hw4 : IntKind.u8.wrap ((j - l0 : Nat) : Int) = ((j - l0 : Nat) : Int) := by rw [IntKind.wrap_u8]; omega
               have HX : Hid (∀ w', Below wr.heap.size wr w' → w'.cell? ⟨bT, oT + i0, none⟩ = some (.slice S0 l0 C0) ∧ w'.cell? ⟨by1, oy1 + j, none⟩ = some (.slice (some ⟨bj, 0, none⟩) 3 3) ∧ True ∧ w'.heap[bj]? = some (.cells #[.int .u8 ((i0 : Nat) : Int), .int .u8 ((j - l0 : Nat) : Int), .int .u8 9] 5)) := Lib.hid fun w' hb' => ⟨HCT.out _ (hb.trans (hb'.mono hb.size)), ((HBz.out.trans (hb'.mono HBz.out.size)).cell hby1).trans hcy10, True.intro, ((HBz.out.trans (hb'.mono HBz.out.size)).block bj hbjl).trans hbj⟩
               have hc13 := (HX.out wr (Below.refl _ _)).2.1
               clear hb hby1 hcy10 hbj hbjl
               go_wp2_with fail
               clear hlnb hctb hc13
               refine wp_region_factsG [.is (.int .i64 (j : Int)), .is (.slice (some ⟨bT, oT, none⟩) N cN), .is (.int .i64 (i0 : Int)), .is (.pointer (some ⟨bT, oT + i0, none⟩)), .is (.slice S0 l0 C0), .is (.int .i64 (l0 : Int)), .is (.bool false), .is (.bool false), .is (undef), .is (undef), .is (undef), .is (undef), .is (undef), .is (undef), .is (undef), .is (undef), .is (undef), .is (undef), .is (undef), .is (undef), .is (undef), .is (undef), .is (undef), .is (undef), .is (undef), .is (undef), .is (undef), .is (undef), .is (undef), .is (undef), .is (.bool false)] mixed (by kernel_rfl) (fun hdr => ⟨?_, ?_, ?_, ?_, ?_, ?_, ?_, ?_, ?_, ?_, ?_, ?_, ?_, ?_, ?_, ?_, ?_, ?_, ?_, ?_, ?_, ?_, ?_, ?_, ?_, ?_, ?_, ?_, ?_, ?_, ?_, trivial⟩) (fun wE hbE => ?_)
               · intro a w2 hb hs K hK; (repeat intro _); refine ⟨?_⟩
                 have h12 : a.tmps[12]?.getD undef = .int .i64 (j : Int) := hs 12 (by kernel_rfl)
                 rw [if_pos (by rfl)]
                 go_simp; exact hK.out _ _ (Below.refl _ _) rfl
               · intro a w2 hb hs K hK; (repeat intro _); refine ⟨?_⟩
                 have h0 : a.tmps[0]?.getD undef = .slice (some ⟨bT, oT, none⟩) N cN := hs 0 (by kernel_rfl)
                 rw [if_pos (by rfl)]
                 go_simp; exact hK.out _ _ (Below.refl _ _) rfl
               · intro a w2 hb hs K hK; (repeat intro _); refine ⟨?_⟩
                 have h11 : a.tmps[11]?.getD undef = .int .i64 (i0 : Int) := hs 11 (by kernel_rfl)
                 rw [if_pos (by rfl)]
                 go_simp; exact hK.out _ _ (Below.refl _ _) rfl
               · intro a w2 hb hs K hK; (repeat intro _); refine ⟨?_⟩
                 have h103 : a.tmps[103]?.getD undef = .slice (some ⟨bT, oT, none⟩) N cN := by assumption
                 have h104 : a.tmps[104]?.getD undef = .int .i64 (i0 : Int) := by assumption
                 rw [if_pos (by rfl)]
                 go_simp; exact hK.out _ _ (Below.refl _ _) rfl
               · intro a w2 hb hs K hK; (repeat intro _); refine ⟨?_⟩
                 have h105 : a.tmps[105]?.getD undef = .pointer (some ⟨bT, oT + i0, none⟩) := by assumption
                 rw [if_pos (by rfl)]
                 have hcc := (HX.out w2 (hdr.out.trans (hb.mono hdr.out.size))).1
                 go_simp; exact hK.out _ _ (Below.refl _ _) rfl
               · intro a w2 hb hs K hK; (repeat intro _); refine ⟨?_⟩
                 have h106 : a.tmps[106]?.getD undef = .slice S0 l0 C0 := by assumption
                 rw [if_pos (by rfl)]
                 go_simp; exact hK.out _ _ (Below.refl _ _) rfl
               · intro a w2 hb hs K hK; (repeat intro _); refine ⟨?_⟩
                 have h102 : a.tmps[102]?.getD undef = .int .i64 (j : Int) := by assumption
                 have h107 : a.tmps[107]?.getD undef = .int .i64 (l0 : Int) := by assumption
                 rw [if_pos (by rfl)]
                 go_simp
                 first | exact hK.out _ _ (Below.refl _ _) rfl | exact hK.out _ _ (Below.refl _ _) (congrArg Value.bool (decide_eq_false (by omega)))
               · intro a w2 hb hs K hK; (repeat intro _); refine ⟨?_⟩
                 have h108 : a.tmps[108]?.getD undef = .bool false := by assumption
                 rw [if_pos (by rfl)]
                 go_simp; exact hK.out _ _ (Below.refl _ _) rfl
               iterate 10
                focus
                 intro a w2 hb hs K hK; (repeat intro _); refine ⟨?_⟩
                 rw [if_neg (wanted_no (j := 7) (b := true) rfl rfl rfl (by assumption))]
                 exact hK.out _ _ (Below.refl _ _) rfl
               iterate 11
                focus
                 intro a w2 hb hs K hK; (repeat intro _); refine ⟨?_⟩
                 rw [if_neg (wanted_unX (j := 17) (b := false) rfl rfl rfl (by assumption))]
                 exact hK.out _ _ (Below.refl _ _) rfl
               · intro a w2 hb hs K hK; (repeat intro _); refine ⟨?_⟩
                 rw [if_neg (wanted_no (j := 7) (b := true) rfl rfl rfl (by assumption))]
                 exact hK.out _ _ (Below.refl _ _) rfl
               · intro a w2 hb hs K hK; (repeat intro _); refine ⟨?_⟩
                 have h109 : a.tmps[109]?.getD undef = .bool false := by assumption
                 have h131 : a.tmps[131]?.getD undef = undef := by assumption
                 rw [if_pos (by rfl)]
                 go_simp; exact hK.out _ _ (Below.refl _ _) rfl
               intro v0 f0 v1 f1 v2 f2 v3 f3 v4 f4 v5 f5 v6 f6 v7 f7 v8 f8 v9 f9 v10 f10 v11 f11 v12 f12 v13 f13 v14 f14 v15 f15 v16 f16 v17 f17 v18 f18 v19 f19 v20 f20 v21 f21 v22 f22 v23 f23 v24 f24 v25 f25 v26 f26 v27 f27 v28 f28 v29 f29 v30 f30
               refine NoPanic.normal ?_
               simp only [Act.put, List.setIfInBounds_toArray, List.set_cons_zero, List.set_cons_succ]
               obtain rfl : v30 = .bool false := f30
               clear f0 f1 f2 f3 f4 f5 f6 f7 f8 f9 f10 f11 f12 f13 f14 f15 f16 f17 f18 f19 f20 f21 f22 f23 f24 f25 f26 f27 f28 f29
               replace HBn := Lib.hid (HBn.out.trans (hbE.mono HBn.out.size))
               have HX2 : Hid (∀ w', Below wE.heap.size wE w' → w'.cell? ⟨bT, oT + i0, none⟩ = some (.slice S0 l0 C0) ∧ w'.cell? ⟨by1, oy1 + j, none⟩ = some (.slice (some ⟨bj, 0, none⟩) 3 3) ∧ True ∧ w'.heap[bj]? = some (.cells #[.int .u8 ((i0 : Nat) : Int), .int .u8 ((j - l0 : Nat) : Int), .int .u8 9] 5)) := Lib.hid fun w' hb' => HX.out w' (hbE.trans (hb'.mono hbE.size))
               clear hbE HX
               go_wp2_with fail
               refine wp_region_factsG [.is (.int .i64 (j : Int)), .is (.slice (some ⟨bT, oT, none⟩) N cN), .is (.int .i64 (i0 : Int)), .is (.pointer (some ⟨bT, oT + i0, none⟩)), .is (.slice S0 l0 C0), .is (.int .i64 (l0 : Int)), .is (.bool true), .is (.bool true), .is (.slice (some ⟨bj, 0, none⟩) 3 3), .is (.string (strN 3 (arB i0 (j - l0)))), .is (.int .i64 (i0 : Int)), .is (.int .u8 (i0 : Int)), .is (.int .i64 (j : Int)), .is (.slice (some ⟨bT, oT, none⟩) N cN), .is (.int .i64 (i0 : Int)), .is (.pointer (some ⟨bT, oT + i0, none⟩)), .is (.slice S0 l0 C0), .is (.int .i64 (l0 : Int)), .is (.int .i64 ((j - l0 : Nat) : Int)), .is (.int .u8 ((j - l0 : Nat) : Int)), Fact.sl #[.int .u8 ((i0 : Nat) : Int), .int .u8 ((j - l0 : Nat) : Int), .int .u8 9] 3 5, .is (.string (strN 3 (arB i0 (j - l0)))), .is (.bool false), .is (.bool false)] mixed (by kernel_rfl) (fun hdr => ⟨?_, ?_, ?_, ?_, ?_, ?_, ?_, ?_, ?_, ?_, ?_, ?_, ?_, ?_, ?_, ?_, ?_, ?_, ?_, ?_, ?_, ?_, ?_, ?_, trivial⟩) (fun wE hbE => ?_)
               · intro a w2 hb hs K hK; (repeat intro _); refine ⟨?_⟩
                 have h12 : a.tmps[12]?.getD undef = .int .i64 (j : Int) := hs 12 (by kernel_rfl)
                 rw [if_pos (by rfl)]
                 go_simp; exact hK.out _ _ (Below.refl _ _) rfl
               · intro a w2 hb hs K hK; (repeat intro _); refine ⟨?_⟩
                 have h0 : a.tmps[0]?.getD undef = .slice (some ⟨bT, oT, none⟩) N cN := hs 0 (by kernel_rfl)
                 rw [if_pos (by rfl)]
                 go_simp; exact hK.out _ _ (Below.refl _ _) rfl
               · intro a w2 hb hs K hK; (repeat intro _); refine ⟨?_⟩
                 have h11 : a.tmps[11]?.getD undef = .int .i64 (i0 : Int) := hs 11 (by kernel_rfl)
                 rw [if_pos (by rfl)]
                 go_simp; exact hK.out _ _ (Below.refl _ _) rfl
               · intro a w2 hb hs K hK; (repeat intro _); refine ⟨?_⟩
                 have h134 : a.tmps[134]?.getD undef = .slice (some ⟨bT, oT, none⟩) N cN := by assumption
                 have h135 : a.tmps[135]?.getD undef = .int .i64 (i0 : Int) := by assumption
                 rw [if_pos (by rfl)]
                 go_simp; exact hK.out _ _ (Below.refl _ _) rfl
               · intro a w2 hb hs K hK; (repeat intro _); refine ⟨?_⟩
                 have h136 : a.tmps[136]?.getD undef = .pointer (some ⟨bT, oT + i0, none⟩) := by assumption
                 rw [if_pos (by rfl)]
                 have hcc := (HX2.out w2 (hdr.out.trans (hb.mono hdr.out.size))).1
                 go_simp; exact hK.out _ _ (Below.refl _ _) rfl
               · intro a w2 hb hs K hK; (repeat intro _); refine ⟨?_⟩
                 have h137 : a.tmps[137]?.getD undef = .slice S0 l0 C0 := by assumption
                 rw [if_pos (by rfl)]
                 go_simp; exact hK.out _ _ (Below.refl _ _) rfl
               · intro a w2 hb hs K hK; (repeat intro _); refine ⟨?_⟩
                 have h133 : a.tmps[133]?.getD undef = .int .i64 (j : Int) := by assumption
                 have h138 : a.tmps[138]?.getD undef = .int .i64 (l0 : Int) := by assumption
                 rw [if_pos (by rfl)]
                 go_simp
                 first | exact hK.out _ _ (Below.refl _ _) rfl | exact hK.out _ _ (Below.refl _ _) (congrArg Value.bool (decide_eq_true (by omega)))
               · intro a w2 hb hs K hK; (repeat intro _); refine ⟨?_⟩
                 have h139 : a.tmps[139]?.getD undef = .bool true := by assumption
                 rw [if_pos (by rfl)]
                 go_simp; exact hK.out _ _ (Below.refl _ _) rfl
               · intro a w2 hb hs K hK; (repeat intro _); refine ⟨?_⟩
                 have h13 : a.tmps[13]?.getD undef = .slice (some ⟨bj, 0, none⟩) 3 3 := hs 13 (by kernel_rfl)
                 rw [if_pos (wanted_yes (j := 7) (b := true) rfl rfl rfl (by assumption))]
                 go_simp; exact hK.out _ _ (Below.refl _ _) rfl
               · intro a w2 hb hs K hK; (repeat intro _); refine ⟨?_⟩
                 have h141 : a.tmps[141]?.getD undef = .slice (some ⟨bj, 0, none⟩) 3 3 := by assumption
                 rw [if_pos (wanted_yes (j := 7) (b := true) rfl rfl rfl (by assumption))]
                 have hcc := arB_conv (g := bj) 3 (HX2.out w2 (hdr.out.trans (hb.mono hdr.out.size))).2.2.2 ar3 hb0 hb1
                 go_simp; exact hK.out _ _ (Below.refl _ _) rfl
               · intro a w2 hb hs K hK; (repeat intro _); refine ⟨?_⟩
                 have h11 : a.tmps[11]?.getD undef = .int .i64 (i0 : Int) := hs 11 (by kernel_rfl)
                 rw [if_pos (wanted_yes (j := 7) (b := true) rfl rfl rfl (by assumption))]
                 go_simp; exact hK.out _ _ (Below.refl _ _) rfl
               · intro a w2 hb hs K hK; (repeat intro _); refine ⟨?_⟩
                 have h143 : a.tmps[143]?.getD undef = .int .i64 (i0 : Int) := by assumption
                 rw [if_pos (wanted_yes (j := 7) (b := true) rfl rfl rfl (by assumption))]
                 go_simp; exact hK.out _ _ (Below.refl _ _) rfl
               · intro a w2 hb hs K hK; (repeat intro _); refine ⟨?_⟩
                 have h12 : a.tmps[12]?.getD undef = .int .i64 (j : Int) := hs 12 (by kernel_rfl)
                 rw [if_pos (wanted_yes (j := 7) (b := true) rfl rfl rfl (by assumption))]
                 go_simp; exact hK.out _ _ (Below.refl _ _) rfl
               · intro a w2 hb hs K hK; (repeat intro _); refine ⟨?_⟩
                 have h0 : a.tmps[0]?.getD undef = .slice (some ⟨bT, oT, none⟩) N cN := hs 0 (by kernel_rfl)
                 rw [if_pos (wanted_yes (j := 7) (b := true) rfl rfl rfl (by assumption))]
                 go_simp; exact hK.out _ _ (Below.refl _ _) rfl
               · intro a w2 hb hs K hK; (repeat intro _); refine ⟨?_⟩
                 have h11 : a.tmps[11]?.getD undef = .int .i64 (i0 : Int) := hs 11 (by kernel_rfl)
                 rw [if_pos (wanted_yes (j := 7) (b := true) rfl rfl rfl (by assumption))]
                 go_simp; exact hK.out _ _ (Below.refl _ _) rfl
               · intro a w2 hb hs K hK; (repeat intro _); refine ⟨?_⟩
                 have h146 : a.tmps[146]?.getD undef = .slice (some ⟨bT, oT, none⟩) N cN := by assumption
                 have h147 : a.tmps[147]?.getD undef = .int .i64 (i0 : Int) := by assumption
                 rw [if_pos (wanted_yes (j := 7) (b := true) rfl rfl rfl (by assumption))]
                 go_simp; exact hK.out _ _ (Below.refl _ _) rfl
               · intro a w2 hb hs K hK; (repeat intro _); refine ⟨?_⟩
                 have h148 : a.tmps[148]?.getD undef = .pointer (some ⟨bT, oT + i0, none⟩) := by assumption
                 rw [if_pos (wanted_yes (j := 7) (b := true) rfl rfl rfl (by assumption))]
                 have hcc := (HX2.out w2 (hdr.out.trans (hb.mono hdr.out.size))).1
                 go_simp; exact hK.out _ _ (Below.refl _ _) rfl
               · intro a w2 hb hs K hK; (repeat intro _); refine ⟨?_⟩
                 have h149 : a.tmps[149]?.getD undef = .slice S0 l0 C0 := by assumption
                 rw [if_pos (wanted_yes (j := 7) (b := true) rfl rfl rfl (by assumption))]
                 go_simp; exact hK.out _ _ (Below.refl _ _) rfl
               · intro a w2 hb hs K hK; (repeat intro _); refine ⟨?_⟩
                 have h145 : a.tmps[145]?.getD undef = .int .i64 (j : Int) := by assumption
                 have h150 : a.tmps[150]?.getD undef = .int .i64 (l0 : Int) := by assumption
                 rw [if_pos (wanted_yes (j := 7) (b := true) rfl rfl rfl (by assumption))]
                 go_simp; exact hK.out _ _ (Below.refl _ _) rfl
               · intro a w2 hb hs K hK; (repeat intro _); refine ⟨?_⟩
                 have h151 : a.tmps[151]?.getD undef = .int .i64 ((j - l0 : Nat) : Int) := by assumption
                 rw [if_pos (wanted_yes (j := 7) (b := true) rfl rfl rfl (by assumption))]
                 go_simp; exact hK.out _ _ (Below.refl _ _) rfl
               · intro a w2 hb hs K hK; (repeat intro _); refine ⟨?_⟩
                 have h144 : a.tmps[144]?.getD undef = .int .u8 (i0 : Int) := by assumption
                 have h152 : a.tmps[152]?.getD undef = .int .u8 ((j - l0 : Nat) : Int) := by assumption
                 rw [if_pos (wanted_yes (j := 7) (b := true) rfl rfl rfl (by assumption))]
                 go_simp
                 exact hK.out _ _ ((Below.refl _ _).alloc (Nat.le_refl _) _) ⟨_, rfl, heap_alloc_new _ _⟩
               · intro a w2 hb hs K hK; (repeat intro _); refine ⟨?_⟩
                 obtain ⟨g153, h153, k153⟩ : ∃ g, a.tmps[153]?.getD undef = .slice (some ⟨g, 0, none⟩) 3 3 ∧ w2.heap[g]? = some (.cells #[.int .u8 ((i0 : Nat) : Int), .int .u8 ((j - l0 : Nat) : Int), .int .u8 9] 5) := by assumption
                 rw [if_pos (wanted_yes (j := 7) (b := true) rfl rfl rfl (by assumption))]
                 have hcc := arB_conv (g := g153) 3 k153 ar3 hb0 hb1
                 go_simp; exact hK.out _ _ (Below.refl _ _) rfl
               · intro a w2 hb hs K hK; (repeat intro _); refine ⟨?_⟩
                 have h142 : a.tmps[142]?.getD undef = .string (strN 3 (arB i0 (j - l0))) := by assumption
                 have h154 : a.tmps[154]?.getD undef = .string (strN 3 (arB i0 (j - l0))) := by assumption
                 rw [if_pos (wanted_yes (j := 7) (b := true) rfl rfl rfl (by assumption))]
                 go_simp
                 exact hK.out _ _ (Below.refl _ _) (by first | rfl | (show Value.bool _ = Value.bool _; simp))
               · intro a w2 hb hs K hK; (repeat intro _); refine ⟨?_⟩
                 have h140 : a.tmps[140]?.getD undef = .bool true := by assumption
                 have h155 : a.tmps[155]?.getD undef = .bool false := by assumption
                 rw [if_pos (by rfl)]
                 go_simp; exact hK.out _ _ (Below.refl _ _) rfl
               intro v0 f0 v1 f1 v2 f2 v3 f3 v4 f4 v5 f5 v6 f6 v7 f7 v8 f8 v9 f9 v10 f10 v11 f11 v12 f12 v13 f13 v14 f14 v15 f15 v16 f16 v17 f17 v18 f18 v19 f19 v20 f20 v21 f21 v22 f22 v23 f23
               refine NoPanic.normal ?_
               simp only [Act.put, List.setIfInBounds_toArray, List.set_cons_zero, List.set_cons_succ]
               obtain rfl : v23 = .bool false := f23
               clear f0 f1 f2 f3 f4 f5 f6 f7 f8 f9 f10 f11 f12 f13 f14 f15 f16 f17 f18 f19 f20 f21 f22
               replace HBn := Lib.hid (HBn.out.trans (hbE.mono HBn.out.size))
               clear hbE HX2
               go_wp2
               go_roundg (ln - (j + 1))
               case measure => omega
               case rel => exact ⟨j + 1, by omega, rfl, by go_num, HBn.out⟩
           · obtain rfl : ln = j := by omega
             clear hb
             go_wp2
             go_roundg (ql - (m + 1))
             case measure => omega
             case rel => exact ⟨m + 1, by omega, rfl, by go_num, HBz.out⟩
        · obtain rfl : ql = m := by omega
          have HF := Lib.hid (HG.out.1.only.below hb)
          clear hb
          go_wp2
          go_ret
          exact ⟨rfl, HF.out⟩
end Go.Proofs.Ytjaaldandgfkgaa
