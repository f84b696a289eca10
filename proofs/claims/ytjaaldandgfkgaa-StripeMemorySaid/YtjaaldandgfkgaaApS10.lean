/- apart of lists of shards: written full, grown, looked at. Conditions: rows that lie apart. -/
import Derived.Test.YtjaaldandgfkgaaApN10
import Derived.Test.YtjaaldandgfkgaaApi
namespace Go.Proofs.Ytjaaldandgfkgaa
open Go.RowKit

def asZ (x : Int) : Hd := { hd0 with size := x }
def asM (f : Nat → Nat → List Value) (i j t q : Nat) : List Value := if t < i ∨ (t = i ∧ q < j) then (f t q).set 12 (.int .i64 (1000 * (t : Int) + (q : Int))) else f t q
def asF (f : Nat → Nat → List Value) (L : Nat → Nat) (t q : Nat) : List Value := if q < L t then (f t q).set 12 (.int .i64 (1000 * (t : Int) + (q : Int))) else sdC (asZ (-1000 * (t : Int) - ((q : Int) - (L t : Int)))) (.slice none 0 0)
theorem asM_len {f : Nat → Nat → List Value} (hf : ∀ t q, (f t q).length = 17) (i j t q : Nat) : (asM f i j t q).length = 17 := by
 unfold asM
 split
 · rw [List.length_set]; exact hf t q
 · exact hf t q
theorem asF_len {f : Nat → Nat → List Value} (hf : ∀ t q, (f t q).length = 17) (L : Nat → Nat) (t q : Nat) : (asF f L t q).length = 17 := by
 unfold asF
 split
 · rw [List.length_set]; exact hf t q
 · exact sdC_len _ _
theorem asF_lo {f : Nat → Nat → List Value} (hf : ∀ t q, (f t q).length = 17) {L : Nat → Nat} {t q : Nat} (h : q < L t) : (asF f L t q)[12]? = some (.int .i64 (1000 * (t : Int) + (q : Int))) := by
 unfold asF
 rw [if_pos h, List.getElem?_set]
 simp [hf]
theorem asF_hi {f : Nat → Nat → List Value} {L : Nat → Nat} {t q : Nat} (h : ¬ q < L t) : (asF f L t q)[12]? = some (.int .i64 (-1000 * (t : Int) - ((q : Int) - (L t : Int)))) := by
 unfold asF
 rw [if_neg h]
 rfl
def MKS (w0 w : World) (B0 e N : Nat) (S : Nat → Option Addr) (L C : Nat → Nat) (f : Nat → Nat → List Value) : Prop := (∀ t, t < N → Own w B0 e 17 (.slice (S t) (L t) (C t)) (L t) (f t)) ∧ Only (RB N S) w0 w
theorem MKS.congr {w0 w : World} {B0 e N : Nat} {S : Nat → Option Addr} {L C : Nat → Nat} {f f' : Nat → Nat → List Value} (h : MKS w0 w B0 e N S L C f) (hf : ∀ t, t < N → ∀ q, q < L t → f' t q = f t q) : MKS w0 w B0 e N S L C f' :=
 ⟨fun t ht => (h.1 t ht).congr fun q hq => (hf t ht q hq).symm, h.2⟩
theorem MKS.set {w0 w : World} {B0 e N g i j : Nat} {S : Nat → Option Addr} {L C : Nat → Nat} {f f' : Nat → Nat → List Value} {u : Value} (h : MKS w0 w B0 e N S L C f) (hl : ∀ t q, (f t q).length = 17) (hA : Apt N S) (hi : i < N) (hj : j < L i) (hg : S i = some ⟨g, 0, none⟩) (hf : ∀ t, t < N → ∀ q, q < L t → f' t q = if t = i ∧ q = j then (f t q).set 12 u else f t q) : MKS w0 (w.setCell ⟨g, j * 17 + 12, none⟩ u) B0 e N S L C f' := by
 refine ⟨fun t ht => ?_, h.2.setCell (.inl ⟨i, 0, hi, hg⟩) u⟩
 by_cases et : t = i
 · subst et
   have ho := h.1 t ht
   rw [hg] at ho ⊢
   refine (ho.setN (fun q _ => hl t q) hj (show 12 < 17 by decide) u).congr fun q hq => ?_
   rw [hf t ht q hq]
   by_cases eq : q = j
   · rw [if_pos eq, if_pos ⟨rfl, eq⟩, eq]
   · rw [if_neg eq, if_neg (fun e => eq e.2)]
 · refine ((h.1 t ht).setOther (a := ⟨g, j * 17 + 12, none⟩) (fun e1 => et (hA t i ht hi g 0 0 ((h.1 t ht).blkA e1) hg)) u).congr fun q hq => ?_
   rw [hf t ht q hq, if_neg (fun e => et e.1)]
theorem top_neS {w : World} {B0 Bt e eh N n : Nat} {S : Nat → Option Addr} {L C : Nat → Nat} {f : Nat → Nat → List Value} {v : Value} {F : Nat → List Value} (hT : Own w Bt eh 1 v n F) (hR : ∀ t, t < N → Own w B0 e 17 (.slice (S t) (L t) (C t)) (L t) (f t)) (hne : eh ≠ e) : ∀ k, v.ownBlock = some k → ¬ RB N S k := fun k hk ⟨t, o, ht, hs⟩ => by
 have h2 := ((hR t ht).off hs).2
 rcases own_ne hT (hR t ht) hne with h | h
 · rw [hk] at h; cases h
 · exact h (by rw [hk, h2])
theorem shardsInfoU : (Try.prog.info? 45).map (fun i => (i.zero, i.size, i.bytes)) = some (some (.slice none 0 0), 1, 24) := by kernel_rfl
set_option maxRecDepth 100000 in
set_option maxHeartbeats 8000000 in
theorem apartS_any (AN : Option Addr) (N cN : Nat) (S : Nat → Option Addr) (L C : Nat → Nat) (f : Nat → Nat → List Value) (hf : ∀ t q, (f t q).length = 17) (Bt B0 : Nat) (w : World) (hN : N ≤ 140) (hL : ∀ t, t < N → L t ≤ 1000000000) (hT : Own w Bt 45 1 (.slice AN N cN) N (fun t => [.slice (S t) (L t) (C t)])) (hR : ∀ t, t < N → Own w B0 69 17 (.slice (S t) (L t) (C t)) (L t) (f t)) (hA : Apt N S) (hB : B0 ≤ w.heap.size) :
 Calls Try.prog 42 #[.slice AN N cN] w fun e w' => e = .returned (.bool true) ∧ Only (RB N S) w w' := by
 have HTN := Lib.hid (top_neS hT hR (by decide))
 have HT := Lib.hid hT; have HA := Lib.hid hA; have HL := Lib.hid hL
 have HR := Lib.hid hR
 have HM0 : Hid (MKS w w B0 69 N S L C (asM f 0 0)) := Lib.hid (MKS.congr ⟨hR, Only.refl _ _⟩ fun t _ q _ => by unfold asM; rw [if_neg (by omega)])
 have HIN : Hid (∀ t, t < N → ∀ s o, S t = some ⟨s, o, none⟩ → s < w.heap.size) := Lib.hid fun t ht s o es => ((hR t ht).lt s ((hR t ht).off es).2).2
 have HCELL : Hid (∀ w', Only (RB N S) w w' → ∀ t, t < N → ∃ b o, AN = some ⟨b, o, none⟩ ∧ w'.cell? ⟨b, o + t, none⟩ = some (.slice (S t) (L t) (C t))) := Lib.hid fun w' ho t ht => by
  obtain ⟨A', c', e1, _, _, hr, _⟩ := (ho.own HT.out HTN.out).rd
  injection e1 with e1 _ _
  subst e1
  obtain ⟨b, o, e2, _, hc⟩ := hr t ht
  exact ⟨b, o, e2, hc⟩
 clear hT hR hA hL
 go_enter Try.func42, Try.ntmps42
 go_wp2
 go_loopg [3, 4] N (fun gk vi _ wr => ∃ i : Nat, i ≤ N ∧ gk = N - i ∧ vi = .int .i64 i ∧ MKS w wr B0 69 N S L C (asM f i 0))
 case atStart => exact ⟨0, Nat.zero_le _, rfl, rfl, HM0.out⟩
 case round =>
  clear HM0
  obtain ⟨i, hi, rfl, rfl, hM⟩ := hrel
  by_cases hlt : i < N
  · obtain ⟨bT, oT, rfl, hcT⟩ := HCELL.out wr hM.2 i hlt
    have hLi := HL.out i hlt
    obtain ⟨ln, hln⟩ : ∃ ln, ln = L i := ⟨_, rfl⟩
    rw [← hln] at hLi
    rw [← hln] at hcT
    have HLN := Lib.hid hln
    have HM := Lib.hid hM
    clear hM hln
    go_wp2
    go_loopg [4] ln (fun gk vj wr => ∃ j : Nat, j ≤ ln ∧ gk = ln - j ∧ vj = .int .i64 j ∧ MKS w wr B0 69 N S L C (asM f i j))
    case atStart => exact ⟨0, Nat.zero_le _, rfl, rfl, HM.out⟩
    case round =>
     clear HM hcT
     obtain ⟨j, hj, rfl, rfl, hM⟩ := hrel
     obtain ⟨b', o', e', hcT⟩ := HCELL.out wr hM.2 i hlt
     injection e' with e'
     injection e' with e1 e2
     subst e1 e2
     rw [← HLN.out] at hcT
     by_cases hlj : j < ln
     · have hoi := hM.1 i hlt
       rcases hoi.addr with ⟨_, e0⟩ | ⟨g, hg, hgB, hgl⟩
       · have := HLN.out; omega
       · rw [hg] at hcT
         have hlj2 : j < L i := by rw [← HLN.out]; exact hlj
         rw [hg] at hoi
         obtain ⟨u0, hu0⟩ : ∃ u0, (asM f i j i j)[12]? = some u0 := ⟨_, List.getElem?_eq_getElem (by rw [asM_len hf]; decide)⟩
         have hcj := hoi.cellA (asM_len hf i j i) hlj2 hu0
         have hfz := own_free hoi (j * 17 + 12)
         have hjm : j * 17 + 17 ≤ ln * 17 := by omega
         have HM2 := Lib.hid (hM.set (asM_len hf i j) HA.out hlt hlj2 hg (u := .int .i64 (1000 * (i : Int) + (j : Int))) (f' := asM f i (j + 1)) fun t _ q _ => by
          unfold asM
          by_cases e : t = i ∧ q = j
          · rw [if_pos e, if_pos (by omega), if_neg (by omega), e.1, e.2]
          · rw [if_neg e]
            by_cases h1 : t < i ∨ (t = i ∧ q < j)
            · rw [if_pos h1, if_pos (by omega)]
            · rw [if_neg h1, if_neg (by omega)])
         clear hM hoi hg hlj2 hu0
         go_wp2
         go_roundg (ln - (j + 1))
         case measure => omega
         case rel => exact ⟨j + 1, by omega, rfl, by go_num, HM2.out⟩
     · obtain rfl : ln = j := by omega
       have HM2 := Lib.hid (hM.congr (f' := asM f (i + 1) 0) fun t _ q hq => by
        unfold asM
        by_cases h1 : t < i ∨ (t = i ∧ q < ln)
        · rw [if_pos h1, if_pos (by omega)]
        · rw [if_neg h1, if_neg (by
           have h5 := HLN.out
           rintro (h2 | ⟨_, h2⟩)
           · have : t = i := by omega
             subst this
             omega
           · omega)])
       clear hM
       go_wp2
       go_roundg (N - (i + 1))
       case measure => omega
       case rel => exact ⟨i + 1, by omega, rfl, by go_num, HM2.out⟩
  · obtain rfl : N = i := by omega
    have HGB : Hid (GB w wr B0 17 69 45 3 N S L C (asF f L) 0 0 0 (.slice none 0 0) (.slice none 0 0) (fun _ => none) (fun _ => 0) (fun _ => 0) (fun _ => 0)) := Lib.hid (by
     have hrow : ∀ t, t < N → Own wr B0 69 17 (.slice (S t) (L t) (C t)) (L t) (asF f L t) := fun t ht => (hM.1 t ht).congr fun q hq => by
      unfold asM asF
      rw [if_pos (.inl ht), if_pos hq]
     exact ⟨fun t _ => hrow t, fun t ht => It.of_own (asF_len hf L) (hrow t ht) (fun s _ hs => by cases hs), HIN.out, Own.nil _ _ _ _ _, Own.nil _ _ _ _ _, fun m hm => absurd hm (Nat.not_lt_zero _), fun m hm => absurd hm (Nat.not_lt_zero _), fun m hm => absurd hm (Nat.not_lt_zero _), fun m hm => absurd hm (Nat.not_lt_zero _), hM.2⟩)
    clear hM
    go_wp2
    go_loopg [5, 6, 7, 8, 9] N (fun gk vl vw vi _ _ wr => ∃ (i ql : Nat) (SL : Nat → Option Addr) (LL CL I : Nat → Nat), i ≤ N ∧ gk = N - i ∧ vi = .int .i64 i ∧ ql ≤ 64 * i ∧ GB w wr B0 17 69 45 3 N S L C (asF f L) i ql ql vl vw SL LL CL I)
    case atStart => exact ⟨0, 0, _, _, _, _, Nat.zero_le _, rfl, rfl, Nat.le_refl _, HGB.out⟩
    case round =>
     clear HGB
     obtain ⟨i, ql, SL, LL, CL, I, hi, rfl, rfl, hq, hG⟩ := hrel
     by_cases hlt : i < N
     · obtain ⟨bT, oT, rfl, hcT⟩ := HCELL.out wr hG.only i hlt
       have hLi := HL.out i hlt
       have HGS := Lib.hid (hG.start HA.out hlt)
       clear hG
       go_wp2
       go_loopg [5, 6, 8, 9] 64 (fun gk vl vw v vk wr => ∃ (k ql : Nat) (SL : Nat → Option Addr) (LL CL I : Nat → Nat), k ≤ 64 ∧ gk = 64 - k ∧ vk = .int .i64 k ∧ ql ≤ 64 * i + k ∧ GS w wr B0 17 69 45 3 N S L C (asF f L) i (L i + k) v ql ql vl vw SL LL CL I)
       case atStart => exact ⟨0, ql, SL, LL, CL, I, Nat.zero_le _, rfl, rfl, hq, HGS.out⟩
       case round =>
        clear HGS hcT hq
        obtain ⟨k, ql, SL, LL, CL, I, hk, rfl, rfl, hq, hG⟩ := hrel
        by_cases hlk : k < 64
        · have HG := Lib.hid hG
          have hsB : B0 ≤ wr.heap.size := Nat.le_trans hB hG.only.size
          have hu : Hid ((#[.int .u8 0, .int .u8 0, .int .u8 0, .int .u8 0, .int .u8 0, .int .u8 0, .int .u8 0, .int .u8 0, .int .i64 0, .int .i64 0, .int .i64 0, .string ⟨#[]⟩, .int .i64 (-1000 * (i : Int) - (k : Int)), .int .i64 0, .int .i64 0, .int .i64 0, .slice none 0 0] : Array Value).toList = asF f L i (L i + k)) := Lib.hid (by
           unfold asF
           rw [if_neg (by omega), show ((L i + k : Nat) : Int) - (L i : Int) = (k : Int) from by omega]
           rfl)
          clear hG
          by_cases hka : k < 16
          · clear hlk
            have hd1 : (k : Int) < 16 := by omega
            go_wp2_with (at_builtin; refine wpList_pushX _ rfl (.tmp 54) (.tmp 61) 45 rfl B0 69 17 104 _ #[.int .u8 0, .int .u8 0, .int .u8 0, .int .u8 0, .int .u8 0, .int .u8 0, .int .u8 0, .int .u8 0, .int .i64 0, .int .i64 0, .int .i64 0, .string ⟨#[]⟩, .int .i64 (-1000 * (i : Int) - (k : Int)), .int .i64 0, .int .i64 0, .int .i64 0, .slice none 0 0] Try.underlying45 shardInfo rfl _ (L i + k) _ rfl HG.out.own hsB _ rfl rfl hu.out rfl rfl (by omega) (by omega) ?_)
            intro v1 w1 hown1 hbel1 hg1
            obtain ⟨g1, c1, rfl, _, _, _, _⟩ := hown1.form (Nat.succ_pos _)
            obtain ⟨A1, hA1⟩ : ∃ A1 : Option Addr, A1 = some ⟨g1, 0, none⟩ := ⟨_, rfl⟩
            rw [← hA1] at hown1 hg1 ⊢
            clear hA1
            have HG1 := Lib.hid (HG.out.push (asF_len hf L) HA.out hlt hown1 hg1)
            have hsw1 := HG1.out.only.size
            clear hown1 hbel1 hg1 HG hu
            have hl1 : Own w1 w.heap.size 45 1 _ ql (fun m => [.slice (upd SL ql A1 m) (upd LL ql (L i + k + 1) m) (upd CL ql c1 m)]) := HG1.out.long.congr fun m hm => by rw [upd_ne _ _ _ (by omega), upd_ne _ _ _ (by omega), upd_ne _ _ _ (by omega)]
            have HL1 := Lib.hid hl1
            have hu2 : Hid ((#[Value.slice A1 (L i + k + 1) c1] : Array Value).toList = [.slice (upd SL ql A1 ql) (upd LL ql (L i + k + 1) ql) (upd CL ql c1 ql)]) := Lib.hid (by rw [upd_at, upd_at, upd_at])
            clear hl1
            go_wp2_with (at_builtin; refine wpList_pushX _ rfl (.tmp 69) (.tmp 71) 84 rfl w.heap.size 45 1 24 (.slice none 0 0) #[.slice A1 (L i + k + 1) c1] Try.underlying84 shardsInfoU rfl _ ql _ rfl HL1.out hsw1 _ rfl rfl hu2.out rfl rfl (by omega) (by omega) ?_)
            intro v2 w2 hown2 hbel2 hg2
            have HG2 := Lib.hid (HG1.out.keepL (asF_len hf L) HA.out hlt (by decide) (by omega) hown2 hg2)
            have hsw2 := HG2.out.only.size
            have hu3 : Hid ((#[Value.int .i64 ((i : Nat) : Int)] : Array Value).toList = [.int .i64 ((upd I ql i ql : Nat) : Int)]) := Lib.hid (by rw [upd_at])
            clear hown2 hbel2 hg2 HG1 HL1 hu2
            go_wp2_with (at_builtin; refine wpList_pushX _ rfl (.tmp 73) (.tmp 75) 25 rfl w.heap.size 3 1 8 (.int .i64 0) #[.int .i64 ((i : Nat) : Int)] Try.underlying25 intInfo rfl _ ql _ rfl HG2.out.who hsw2 _ rfl rfl hu3.out rfl rfl (by omega) (by omega) ?_)
            intro v3 w3 hown3 hbel3 hg3
            have HG3 := Lib.hid (HG2.out.keepW HA.out (by decide) hown3 hg3)
            clear hown3 hbel3 hg3 HG2 hu3
            go_wp2
            go_roundg (64 - (k + 1))
            case measure => omega
            case rel => exact ⟨k + 1, ql + 1, _, _, _, _, by omega, rfl, by go_num, by omega, HG3.out⟩
          · by_cases hkb : k = 63
            · have hd1 : ¬ (k : Int) < 16 := by omega
              have hd2 : ((k : Int) == 63) = true := by rw [beq_iff_eq]; omega
              clear hkb
              go_wp2_with (at_builtin; refine wpList_pushX _ rfl (.tmp 54) (.tmp 61) 45 rfl B0 69 17 104 _ #[.int .u8 0, .int .u8 0, .int .u8 0, .int .u8 0, .int .u8 0, .int .u8 0, .int .u8 0, .int .u8 0, .int .i64 0, .int .i64 0, .int .i64 0, .string ⟨#[]⟩, .int .i64 (-1000 * (i : Int) - (k : Int)), .int .i64 0, .int .i64 0, .int .i64 0, .slice none 0 0] Try.underlying45 shardInfo rfl _ (L i + k) _ rfl HG.out.own hsB _ rfl rfl hu.out rfl rfl (by omega) (by omega) ?_)
              intro v1 w1 hown1 hbel1 hg1
              obtain ⟨g1, c1, rfl, _, _, _, _⟩ := hown1.form (Nat.succ_pos _)
              obtain ⟨A1, hA1⟩ : ∃ A1 : Option Addr, A1 = some ⟨g1, 0, none⟩ := ⟨_, rfl⟩
              rw [← hA1] at hown1 hg1 ⊢
              clear hA1
              have HG1 := Lib.hid (HG.out.push (asF_len hf L) HA.out hlt hown1 hg1)
              have hsw1 := HG1.out.only.size
              clear hown1 hbel1 hg1 HG hu
              have hl1 : Own w1 w.heap.size 45 1 _ ql (fun m => [.slice (upd SL ql A1 m) (upd LL ql (L i + k + 1) m) (upd CL ql c1 m)]) := HG1.out.long.congr fun m hm => by rw [upd_ne _ _ _ (by omega), upd_ne _ _ _ (by omega), upd_ne _ _ _ (by omega)]
              have HL1 := Lib.hid hl1
              have hu2 : Hid ((#[Value.slice A1 (L i + k + 1) c1] : Array Value).toList = [.slice (upd SL ql A1 ql) (upd LL ql (L i + k + 1) ql) (upd CL ql c1 ql)]) := Lib.hid (by rw [upd_at, upd_at, upd_at])
              clear hl1
              go_wp2_with (at_builtin; refine wpList_pushX _ rfl (.tmp 69) (.tmp 71) 84 rfl w.heap.size 45 1 24 (.slice none 0 0) #[.slice A1 (L i + k + 1) c1] Try.underlying84 shardsInfoU rfl _ ql _ rfl HL1.out hsw1 _ rfl rfl hu2.out rfl rfl (by omega) (by omega) ?_)
              intro v2 w2 hown2 hbel2 hg2
              have HG2 := Lib.hid (HG1.out.keepL (asF_len hf L) HA.out hlt (by decide) (by omega) hown2 hg2)
              have hsw2 := HG2.out.only.size
              have hu3 : Hid ((#[Value.int .i64 ((i : Nat) : Int)] : Array Value).toList = [.int .i64 ((upd I ql i ql : Nat) : Int)]) := Lib.hid (by rw [upd_at])
              clear hown2 hbel2 hg2 HG1 HL1 hu2
              go_wp2_with (at_builtin; refine wpList_pushX _ rfl (.tmp 73) (.tmp 75) 25 rfl w.heap.size 3 1 8 (.int .i64 0) #[.int .i64 ((i : Nat) : Int)] Try.underlying25 intInfo rfl _ ql _ rfl HG2.out.who hsw2 _ rfl rfl hu3.out rfl rfl (by omega) (by omega) ?_)
              intro v3 w3 hown3 hbel3 hg3
              have HG3 := Lib.hid (HG2.out.keepW HA.out (by decide) hown3 hg3)
              clear hown3 hbel3 hg3 HG2 hu3
              go_wp2
              go_roundg (64 - (k + 1))
              case measure => omega
              case rel => exact ⟨k + 1, ql + 1, _, _, _, _, by omega, rfl, by go_num, by omega, HG3.out⟩
            · have hd1 : ¬ (k : Int) < 16 := by omega
              have hd2 : ((k : Int) == 63) = false := by rw [beq_eq_false_iff_ne]; omega
              clear hkb
              go_wp2_with (at_builtin; refine wpList_pushX _ rfl (.tmp 54) (.tmp 61) 45 rfl B0 69 17 104 _ #[.int .u8 0, .int .u8 0, .int .u8 0, .int .u8 0, .int .u8 0, .int .u8 0, .int .u8 0, .int .u8 0, .int .i64 0, .int .i64 0, .int .i64 0, .string ⟨#[]⟩, .int .i64 (-1000 * (i : Int) - (k : Int)), .int .i64 0, .int .i64 0, .int .i64 0, .slice none 0 0] Try.underlying45 shardInfo rfl _ (L i + k) _ rfl HG.out.own hsB _ rfl rfl hu.out rfl rfl (by omega) (by omega) ?_)
              intro v1 w1 hown1 hbel1 hg1
              obtain ⟨g1, c1, rfl, _, _, _, _⟩ := hown1.form (Nat.succ_pos _)
              obtain ⟨A1, hA1⟩ : ∃ A1 : Option Addr, A1 = some ⟨g1, 0, none⟩ := ⟨_, rfl⟩
              rw [← hA1] at hown1 hg1 ⊢
              clear hA1
              have HG1 := Lib.hid (HG.out.push (asF_len hf L) HA.out hlt hown1 hg1)
              have hsw1 := HG1.out.only.size
              clear hown1 hbel1 hg1 HG hu
              go_wp2
              go_roundg (64 - (k + 1))
              case measure => omega
              case rel => exact ⟨k + 1, ql, SL, LL, CL, I, by omega, rfl, by go_num, by omega, HG1.out⟩
        · obtain rfl : k = 64 := by omega
          have HG2 := Lib.hid hG.stop
          clear hG
          go_wp2
          go_roundg (N - (i + 1))
          case measure => omega
          case rel => exact ⟨i + 1, ql, SL, LL, CL, I, by omega, rfl, by go_num, by omega, HG2.out⟩
     · obtain rfl : N = i := by omega
       have HG := Lib.hid hG
       clear hG
       obtain ⟨Al, cl, rfl, _, _, hrl, _⟩ := HG.out.long.rd
       obtain ⟨Aw, cw, rfl, _, _, hrw, _⟩ := HG.out.who.rd
       obtain ⟨wz, hwz⟩ : ∃ wz, wz = wr := ⟨_, rfl⟩
       rw [← hwz] at HG hrl hrw ⊢
       have HRL := Lib.hid hrl; have HRW := Lib.hid hrw
       clear hwz hrl hrw
       go_wp2
       go_loopg [10, 11, 12] ql (fun gk vn _ _ wr => ∃ m : Nat, m ≤ ql ∧ gk = ql - m ∧ vn = .int .i64 m ∧ Below wz.heap.size wz wr)
       case atStart => exact ⟨0, Nat.zero_le _, rfl, rfl, Below.refl _ _⟩
       case round =>
        obtain ⟨m, hm, rfl, rfl, hb⟩ := hrel
        by_cases hlt : m < ql
        · obtain ⟨bw, ow, rfl, hbw, hcw⟩ := HRW.out m hlt
          obtain ⟨bl, ol, rfl, hbl, hcl⟩ := HRL.out m hlt
          obtain ⟨hi0, hIt, _⟩ := HG.out.kept m hlt
          obtain ⟨i0, hi0e⟩ : ∃ i0, i0 = I m := ⟨_, rfl⟩
          obtain ⟨A0, hA0⟩ : ∃ A0, A0 = SL m := ⟨_, rfl⟩
          obtain ⟨ln, hln⟩ : ∃ ln, ln = LL m := ⟨_, rfl⟩
          obtain ⟨c0, hc0⟩ : ∃ c0, c0 = CL m := ⟨_, rfl⟩
          have hcw2 : wr.cell? ⟨bw, ow + m, none⟩ = some (.int .i64 (i0 : Nat)) := by rw [hi0e]; exact (hb.cell hbw).trans hcw
          rw [← hi0e] at hi0 hIt
          rw [← hA0, ← hln] at hIt
          have HRA := Lib.hid hIt.1
          have HRS := Lib.hid (HG.out.base i0 hi0).1
          have HCL : Hid (∀ w', Below wr.heap.size wr w' → w'.cell? ⟨bl, ol + m, none⟩ = some (.slice A0 ln c0)) := Lib.hid fun w' hb' => by
           rw [hA0, hln, hc0]
           exact ((hb.trans (hb'.mono hb.size)).cell hbl).trans hcl
          obtain ⟨l0, hl0⟩ : ∃ l0, l0 = L i0 := ⟨_, rfl⟩
          have HL0 := Lib.hid hl0
          obtain ⟨S0, hS0⟩ : ∃ S0, S0 = S i0 := ⟨_, rfl⟩
          obtain ⟨C0, hC0⟩ : ∃ C0, C0 = C i0 := ⟨_, rfl⟩
          obtain ⟨bT, oT, hATe, _⟩ := HCELL.out wr (HG.out.only.below hb) i0 hi0
          subst hATe
          have HCT : Hid (∀ w', Below wr.heap.size wr w' → w'.cell? ⟨bT, oT + i0, none⟩ = some (.slice S0 l0 C0)) := Lib.hid fun w' hb' => by
           obtain ⟨b', o', e', hc'⟩ := HCELL.out w' (HG.out.only.below (hb.trans (hb'.mono hb.size))) i0 hi0
           injection e' with e'
           injection e' with e1 e2
           subst e1 e2
           rw [hS0, hl0, hC0]
           exact hc'
          rw [← hS0, ← hl0] at HRS
          have hlnb := HCL.out wr (Below.refl _ _)
          have hlnn : ln ≤ 1000000000000000 := by rw [hln]; exact HG.out.lenb m hlt
          have hl0b : l0 ≤ 1000000000 := by rw [hl0]; exact HL.out i0 hi0
          have HBz := Lib.hid hb
          clear hb hbw hcw hbl hcl hIt hi0e hA0 hln hc0 hl0 hS0 hC0
          go_wp2
          go_loopg [12] ln (fun gk vj wr' => ∃ j : Nat, j ≤ ln ∧ gk = ln - j ∧ vj = .int .i64 j ∧ Below wr.heap.size wr wr')
          case atStart => exact ⟨0, Nat.zero_le _, rfl, rfl, Below.refl _ _⟩
          case round =>
           clear hlnb hcw2
           obtain ⟨j, hj, rfl, rfl, hb⟩ := hrel
           have hlnb := HCL.out _ hb
           have hctb := HCT.out _ hb
           replace HBz := Lib.hid (HBz.out.trans (hb.mono HBz.out.size))
           by_cases hlj : j < ln
           · obtain ⟨by1, oy1, rfl, hby1, hcy1⟩ := HRA.out j hlj
             have HBn := Lib.hid hb
             by_cases hjl : j < l0
             · obtain ⟨by2, oy2, rfl, hby2, hcy2⟩ := HRS.out j hjl
               have hcy20 := hcy2 12 _ (asF_lo hf (by rw [← HL0.out]; exact hjl))
               have hcy10 := hcy1 12 _ (asF_lo hf (by rw [← HL0.out]; exact hjl))
               clear hcy1 hcy2
               have HX : Hid (∀ w', Below wr.heap.size wr w' → w'.cell? ⟨bl, ol + m, none⟩ = some (.slice (some ⟨by1, oy1, none⟩) ln c0) ∧ w'.cell? ⟨bT, oT + i0, none⟩ = some (.slice (some ⟨by2, oy2, none⟩) l0 C0) ∧ w'.cell? ⟨by1, oy1 + j * 17 + 12, none⟩ = some (.int .i64 (1000 * (i0 : Int) + (j : Int))) ∧ w'.cell? ⟨by2, oy2 + j * 17 + 12, none⟩ = some (.int .i64 (1000 * (i0 : Int) + (j : Int)))) := Lib.hid fun w' hb' => ⟨HCL.out _ (hb.trans (hb'.mono hb.size)), HCT.out _ (hb.trans (hb'.mono hb.size)), ((HBz.out.trans (hb'.mono HBz.out.size)).cell (p := ⟨by1, oy1 + j * 17 + 12, none⟩) hby1).trans hcy10, ((HBz.out.trans (hb'.mono HBz.out.size)).cell (p := ⟨by2, oy2 + j * 17 + 12, none⟩) hby2).trans hcy20⟩
               have hw1 : IntKind.i64.wrap (1000 * (i0 : Int)) = 1000 * (i0 : Int) := i64_small _ (by omega) (by omega)
               have hw2 : IntKind.i64.wrap (1000 * (i0 : Int) + (j : Int)) = 1000 * (i0 : Int) + (j : Int) := i64_small _ (by omega) (by omega)
               clear hb hby1 hby2 hcy10 hcy20 
               go_wp2_with fail
               clear hlnb hctb
               refine wp_region_factsG [.is (.int .i64 (j : Int)), .is (.slice (some ⟨bT, oT, none⟩) N cN), .is (.int .i64 (i0 : Int)), .is (.pointer (some ⟨bT, oT + i0, none⟩)), .is (.slice (some ⟨by2, oy2, none⟩) l0 C0), .is (.int .i64 (l0 : Int)), .is (.bool true), .is (.bool true), .is (.slice (some ⟨bl, ol, none⟩) ql cl), .is (.int .i64 (m : Int)), .is (.pointer (some ⟨bl, ol + m, none⟩)), .is (.slice (some ⟨by1, oy1, none⟩) ln c0), .is (.int .i64 (j : Int)), .is (.pointer (some ⟨by1, oy1 + j * 17, none⟩)), .is (.pointer (some ⟨by1, oy1 + j * 17, none⟩)), .is (.pointer (some ⟨by1, oy1 + j * 17 + 12, none⟩)), .is (.int .i64 (1000 * (i0 : Int) + (j : Int))), .is (.int .i64 (i0 : Int)), .is (.int .i64 (1000 * (i0 : Int))), .is (.int .i64 (j : Int)), .is (.int .i64 (1000 * (i0 : Int) + (j : Int))), .is (.bool false), .is (.bool false), .is (.slice (some ⟨bT, oT, none⟩) N cN), .is (.int .i64 (i0 : Int)), .is (.pointer (some ⟨bT, oT + i0, none⟩)), .is (.slice (some ⟨by2, oy2, none⟩) l0 C0), .is (.int .i64 (j : Int)), .is (.pointer (some ⟨by2, oy2 + j * 17, none⟩)), .is (.pointer (some ⟨by2, oy2 + j * 17, none⟩)), .is (.pointer (some ⟨by2, oy2 + j * 17 + 12, none⟩)), .is (.int .i64 (1000 * (i0 : Int) + (j : Int))), .is (.int .i64 (i0 : Int)), .is (.int .i64 (1000 * (i0 : Int))), .is (.int .i64 (j : Int)), .is (.int .i64 (1000 * (i0 : Int) + (j : Int))), .is (.bool false), .is (.bool false), .is (.bool false), .is (.bool false), .is (.int .i64 (j : Int)), .is (.slice (some ⟨bT, oT, none⟩) N cN), .is (.int .i64 (i0 : Int)), .is (.pointer (some ⟨bT, oT + i0, none⟩)), .is (.slice (some ⟨by2, oy2, none⟩) l0 C0), .is (.int .i64 (l0 : Int)), .is (.bool false), .is (.bool false), .is (undef), .is (undef), .is (undef), .is (undef), .is (undef), .is (undef), .is (undef), .is (undef), .is (undef), .is (undef), .is (undef), .is (undef), .is (undef), .is (undef), .is (undef), .is (undef), .is (undef), .is (undef), .is (undef), .is (undef), .is (.bool false), .is (.bool false)] mixed (by kernel_rfl) (fun hdr => ⟨?_, ?_, ?_, ?_, ?_, ?_, ?_, ?_, ?_, ?_, ?_, ?_, ?_, ?_, ?_, ?_, ?_, ?_, ?_, ?_, ?_, ?_, ?_, ?_, ?_, ?_, ?_, ?_, ?_, ?_, ?_, ?_, ?_, ?_, ?_, ?_, ?_, ?_, ?_, ?_, ?_, ?_, ?_, ?_, ?_, ?_, ?_, ?_, ?_, ?_, ?_, ?_, ?_, ?_, ?_, ?_, ?_, ?_, ?_, ?_, ?_, ?_, ?_, ?_, ?_, ?_, ?_, ?_, ?_, ?_, trivial⟩) (fun wE hbE => ?_)
               · intro a w2 hb hs K hK; (repeat intro _); refine ⟨?_⟩
                 have h12 : a.tmps[12]?.getD undef = .int .i64 (j : Int) := hs 12 (by kernel_rfl)
                 rw [if_pos (by rfl)]
                 go_simp; exact hK.out _ _ (Below.refl _ _) rfl
               · intro a w2 hb hs K hK; (repeat intro _); refine ⟨?_⟩
                 have h0 : a.tmps[0]?.getD undef = .slice (some ⟨bT, oT, none⟩) N cN := hs 0 (by kernel_rfl)
                 rw [if_pos (by rfl)]
                 go_simp; exact hK.out _ _ (Below.refl _ _) rfl
               · intro a w2 hb hs K hK; (repeat intro _); refine ⟨?_⟩
                 have h11 : a.tmps[11]?.getD undef = .int .i64 (i0 : Int) := hs 11 (by kernel_rfl)
                 rw [if_pos (by rfl)]
                 go_simp; exact hK.out _ _ (Below.refl _ _) rfl
               · intro a w2 hb hs K hK; (repeat intro _); refine ⟨?_⟩
                 have h97 : a.tmps[97]?.getD undef = .slice (some ⟨bT, oT, none⟩) N cN := by assumption
                 have h98 : a.tmps[98]?.getD undef = .int .i64 (i0 : Int) := by assumption
                 rw [if_pos (by rfl)]
                 go_simp; exact hK.out _ _ (Below.refl _ _) rfl
               · intro a w2 hb hs K hK; (repeat intro _); refine ⟨?_⟩
                 have h99 : a.tmps[99]?.getD undef = .pointer (some ⟨bT, oT + i0, none⟩) := by assumption
                 rw [if_pos (by rfl)]
                 have hcc := (HX.out w2 (hdr.out.trans (hb.mono hdr.out.size))).2.1
                 go_simp; exact hK.out _ _ (Below.refl _ _) rfl
               · intro a w2 hb hs K hK; (repeat intro _); refine ⟨?_⟩
                 have h100 : a.tmps[100]?.getD undef = .slice (some ⟨by2, oy2, none⟩) l0 C0 := by assumption
                 rw [if_pos (by rfl)]
                 go_simp; exact hK.out _ _ (Below.refl _ _) rfl
               · intro a w2 hb hs K hK; (repeat intro _); refine ⟨?_⟩
                 have h96 : a.tmps[96]?.getD undef = .int .i64 (j : Int) := by assumption
                 have h101 : a.tmps[101]?.getD undef = .int .i64 (l0 : Int) := by assumption
                 rw [if_pos (by rfl)]
                 go_simp
                 first | exact hK.out _ _ (Below.refl _ _) rfl | exact hK.out _ _ (Below.refl _ _) (congrArg Value.bool (decide_eq_true (by omega)))
               · intro a w2 hb hs K hK; (repeat intro _); refine ⟨?_⟩
                 have h102 : a.tmps[102]?.getD undef = .bool true := by assumption
                 rw [if_pos (by rfl)]
                 go_simp; exact hK.out _ _ (Below.refl _ _) rfl
               · intro a w2 hb hs K hK; (repeat intro _); refine ⟨?_⟩
                 have h5 : a.tmps[5]?.getD undef = .slice (some ⟨bl, ol, none⟩) ql cl := hs 5 (by kernel_rfl)
                 rw [if_pos (wanted_yes (j := 7) (b := true) rfl rfl rfl (by assumption))]
                 go_simp; exact hK.out _ _ (Below.refl _ _) rfl
               · intro a w2 hb hs K hK; (repeat intro _); refine ⟨?_⟩
                 have h10 : a.tmps[10]?.getD undef = .int .i64 (m : Int) := hs 10 (by kernel_rfl)
                 rw [if_pos (wanted_yes (j := 7) (b := true) rfl rfl rfl (by assumption))]
                 go_simp; exact hK.out _ _ (Below.refl _ _) rfl
               · intro a w2 hb hs K hK; (repeat intro _); refine ⟨?_⟩
                 have h104 : a.tmps[104]?.getD undef = .slice (some ⟨bl, ol, none⟩) ql cl := by assumption
                 have h105 : a.tmps[105]?.getD undef = .int .i64 (m : Int) := by assumption
                 rw [if_pos (wanted_yes (j := 7) (b := true) rfl rfl rfl (by assumption))]
                 go_simp; exact hK.out _ _ (Below.refl _ _) rfl
               · intro a w2 hb hs K hK; (repeat intro _); refine ⟨?_⟩
                 have h106 : a.tmps[106]?.getD undef = .pointer (some ⟨bl, ol + m, none⟩) := by assumption
                 rw [if_pos (wanted_yes (j := 7) (b := true) rfl rfl rfl (by assumption))]
                 have hcc := (HX.out w2 (hdr.out.trans (hb.mono hdr.out.size))).1
                 go_simp; exact hK.out _ _ (Below.refl _ _) rfl
               · intro a w2 hb hs K hK; (repeat intro _); refine ⟨?_⟩
                 have h12 : a.tmps[12]?.getD undef = .int .i64 (j : Int) := hs 12 (by kernel_rfl)
                 rw [if_pos (wanted_yes (j := 7) (b := true) rfl rfl rfl (by assumption))]
                 go_simp; exact hK.out _ _ (Below.refl _ _) rfl
               · intro a w2 hb hs K hK; (repeat intro _); refine ⟨?_⟩
                 have h107 : a.tmps[107]?.getD undef = .slice (some ⟨by1, oy1, none⟩) ln c0 := by assumption
                 have h108 : a.tmps[108]?.getD undef = .int .i64 (j : Int) := by assumption
                 rw [if_pos (wanted_yes (j := 7) (b := true) rfl rfl rfl (by assumption))]
                 go_simp; exact hK.out _ _ (Below.refl _ _) rfl
               · intro a w2 hb hs K hK; (repeat intro _); refine ⟨?_⟩
                 have h109 : a.tmps[109]?.getD undef = .pointer (some ⟨by1, oy1 + j * 17, none⟩) := by assumption
                 rw [if_pos (wanted_yes (j := 7) (b := true) rfl rfl rfl (by assumption))]
                 go_simp; exact hK.out _ _ (Below.refl _ _) rfl
               · intro a w2 hb hs K hK; (repeat intro _); refine ⟨?_⟩
                 have h110 : a.tmps[110]?.getD undef = .pointer (some ⟨by1, oy1 + j * 17, none⟩) := by assumption
                 rw [if_pos (wanted_yes (j := 7) (b := true) rfl rfl rfl (by assumption))]
                 go_simp; exact hK.out _ _ (Below.refl _ _) rfl
               · intro a w2 hb hs K hK; (repeat intro _); refine ⟨?_⟩
                 have h111 : a.tmps[111]?.getD undef = .pointer (some ⟨by1, oy1 + j * 17 + 12, none⟩) := by assumption
                 rw [if_pos (wanted_yes (j := 7) (b := true) rfl rfl rfl (by assumption))]
                 have hcc := (HX.out w2 (hdr.out.trans (hb.mono hdr.out.size))).2.2.1
                 go_simp; exact hK.out _ _ (Below.refl _ _) rfl
               · intro a w2 hb hs K hK; (repeat intro _); refine ⟨?_⟩
                 have h11 : a.tmps[11]?.getD undef = .int .i64 (i0 : Int) := hs 11 (by kernel_rfl)
                 rw [if_pos (wanted_yes (j := 7) (b := true) rfl rfl rfl (by assumption))]
                 go_simp; exact hK.out _ _ (Below.refl _ _) rfl
               · intro a w2 hb hs K hK; (repeat intro _); refine ⟨?_⟩
                 have h113 : a.tmps[113]?.getD undef = .int .i64 (i0 : Int) := by assumption
                 rw [if_pos (wanted_yes (j := 7) (b := true) rfl rfl rfl (by assumption))]
                 go_simp; exact hK.out _ _ (Below.refl _ _) rfl
               · intro a w2 hb hs K hK; (repeat intro _); refine ⟨?_⟩
                 have h12 : a.tmps[12]?.getD undef = .int .i64 (j : Int) := hs 12 (by kernel_rfl)
                 rw [if_pos (wanted_yes (j := 7) (b := true) rfl rfl rfl (by assumption))]
                 go_simp; exact hK.out _ _ (Below.refl _ _) rfl
               · intro a w2 hb hs K hK; (repeat intro _); refine ⟨?_⟩
                 have h114 : a.tmps[114]?.getD undef = .int .i64 (1000 * (i0 : Int)) := by assumption
                 have h115 : a.tmps[115]?.getD undef = .int .i64 (j : Int) := by assumption
                 rw [if_pos (wanted_yes (j := 7) (b := true) rfl rfl rfl (by assumption))]
                 go_simp; exact hK.out _ _ (Below.refl _ _) rfl
               · intro a w2 hb hs K hK; (repeat intro _); refine ⟨?_⟩
                 have h112 : a.tmps[112]?.getD undef = .int .i64 (1000 * (i0 : Int) + (j : Int)) := by assumption
                 have h116 : a.tmps[116]?.getD undef = .int .i64 (1000 * (i0 : Int) + (j : Int)) := by assumption
                 rw [if_pos (wanted_yes (j := 7) (b := true) rfl rfl rfl (by assumption))]
                 go_simp; exact hK.out _ _ (Below.refl _ _) rfl
               · intro a w2 hb hs K hK; (repeat intro _); refine ⟨?_⟩
                 have h117 : a.tmps[117]?.getD undef = .bool false := by assumption
                 rw [if_pos (wanted_yes (j := 7) (b := true) rfl rfl rfl (by assumption))]
                 go_simp; exact hK.out _ _ (Below.refl _ _) rfl
               · intro a w2 hb hs K hK; (repeat intro _); refine ⟨?_⟩
                 have h0 : a.tmps[0]?.getD undef = .slice (some ⟨bT, oT, none⟩) N cN := hs 0 (by kernel_rfl)
                 rw [if_pos (wanted_yes (j := 22) (b := false) rfl rfl rfl (by assumption))]
                 go_simp; exact hK.out _ _ (Below.refl _ _) rfl
               · intro a w2 hb hs K hK; (repeat intro _); refine ⟨?_⟩
                 have h11 : a.tmps[11]?.getD undef = .int .i64 (i0 : Int) := hs 11 (by kernel_rfl)
                 rw [if_pos (wanted_yes (j := 22) (b := false) rfl rfl rfl (by assumption))]
                 go_simp; exact hK.out _ _ (Below.refl _ _) rfl
               · intro a w2 hb hs K hK; (repeat intro _); refine ⟨?_⟩
                 have h119 : a.tmps[119]?.getD undef = .slice (some ⟨bT, oT, none⟩) N cN := by assumption
                 have h120 : a.tmps[120]?.getD undef = .int .i64 (i0 : Int) := by assumption
                 rw [if_pos (wanted_yes (j := 22) (b := false) rfl rfl rfl (by assumption))]
                 go_simp; exact hK.out _ _ (Below.refl _ _) rfl
               · intro a w2 hb hs K hK; (repeat intro _); refine ⟨?_⟩
                 have h121 : a.tmps[121]?.getD undef = .pointer (some ⟨bT, oT + i0, none⟩) := by assumption
                 rw [if_pos (wanted_yes (j := 22) (b := false) rfl rfl rfl (by assumption))]
                 have hcc := (HX.out w2 (hdr.out.trans (hb.mono hdr.out.size))).2.1
                 go_simp; exact hK.out _ _ (Below.refl _ _) rfl
               · intro a w2 hb hs K hK; (repeat intro _); refine ⟨?_⟩
                 have h12 : a.tmps[12]?.getD undef = .int .i64 (j : Int) := hs 12 (by kernel_rfl)
                 rw [if_pos (wanted_yes (j := 22) (b := false) rfl rfl rfl (by assumption))]
                 go_simp; exact hK.out _ _ (Below.refl _ _) rfl
               · intro a w2 hb hs K hK; (repeat intro _); refine ⟨?_⟩
                 have h122 : a.tmps[122]?.getD undef = .slice (some ⟨by2, oy2, none⟩) l0 C0 := by assumption
                 have h123 : a.tmps[123]?.getD undef = .int .i64 (j : Int) := by assumption
                 rw [if_pos (wanted_yes (j := 22) (b := false) rfl rfl rfl (by assumption))]
                 go_simp; exact hK.out _ _ (Below.refl _ _) rfl
               · intro a w2 hb hs K hK; (repeat intro _); refine ⟨?_⟩
                 have h124 : a.tmps[124]?.getD undef = .pointer (some ⟨by2, oy2 + j * 17, none⟩) := by assumption
                 rw [if_pos (wanted_yes (j := 22) (b := false) rfl rfl rfl (by assumption))]
                 go_simp; exact hK.out _ _ (Below.refl _ _) rfl
               · intro a w2 hb hs K hK; (repeat intro _); refine ⟨?_⟩
                 have h125 : a.tmps[125]?.getD undef = .pointer (some ⟨by2, oy2 + j * 17, none⟩) := by assumption
                 rw [if_pos (wanted_yes (j := 22) (b := false) rfl rfl rfl (by assumption))]
                 go_simp; exact hK.out _ _ (Below.refl _ _) rfl
               · intro a w2 hb hs K hK; (repeat intro _); refine ⟨?_⟩
                 have h126 : a.tmps[126]?.getD undef = .pointer (some ⟨by2, oy2 + j * 17 + 12, none⟩) := by assumption
                 rw [if_pos (wanted_yes (j := 22) (b := false) rfl rfl rfl (by assumption))]
                 have hcc := (HX.out w2 (hdr.out.trans (hb.mono hdr.out.size))).2.2.2
                 go_simp; exact hK.out _ _ (Below.refl _ _) rfl
               · intro a w2 hb hs K hK; (repeat intro _); refine ⟨?_⟩
                 have h11 : a.tmps[11]?.getD undef = .int .i64 (i0 : Int) := hs 11 (by kernel_rfl)
                 rw [if_pos (wanted_yes (j := 22) (b := false) rfl rfl rfl (by assumption))]
                 go_simp; exact hK.out _ _ (Below.refl _ _) rfl
               · intro a w2 hb hs K hK; (repeat intro _); refine ⟨?_⟩
                 have h128 : a.tmps[128]?.getD undef = .int .i64 (i0 : Int) := by assumption
                 rw [if_pos (wanted_yes (j := 22) (b := false) rfl rfl rfl (by assumption))]
                 go_simp; exact hK.out _ _ (Below.refl _ _) rfl
               · intro a w2 hb hs K hK; (repeat intro _); refine ⟨?_⟩
                 have h12 : a.tmps[12]?.getD undef = .int .i64 (j : Int) := hs 12 (by kernel_rfl)
                 rw [if_pos (wanted_yes (j := 22) (b := false) rfl rfl rfl (by assumption))]
                 go_simp; exact hK.out _ _ (Below.refl _ _) rfl
               · intro a w2 hb hs K hK; (repeat intro _); refine ⟨?_⟩
                 have h129 : a.tmps[129]?.getD undef = .int .i64 (1000 * (i0 : Int)) := by assumption
                 have h130 : a.tmps[130]?.getD undef = .int .i64 (j : Int) := by assumption
                 rw [if_pos (wanted_yes (j := 22) (b := false) rfl rfl rfl (by assumption))]
                 go_simp; exact hK.out _ _ (Below.refl _ _) rfl
               · intro a w2 hb hs K hK; (repeat intro _); refine ⟨?_⟩
                 have h127 : a.tmps[127]?.getD undef = .int .i64 (1000 * (i0 : Int) + (j : Int)) := by assumption
                 have h131 : a.tmps[131]?.getD undef = .int .i64 (1000 * (i0 : Int) + (j : Int)) := by assumption
                 rw [if_pos (wanted_yes (j := 22) (b := false) rfl rfl rfl (by assumption))]
                 go_simp; exact hK.out _ _ (Below.refl _ _) rfl
               · intro a w2 hb hs K hK; (repeat intro _); refine ⟨?_⟩
                 have h118 : a.tmps[118]?.getD undef = .bool false := by assumption
                 have h132 : a.tmps[132]?.getD undef = .bool false := by assumption
                 rw [if_pos (wanted_yes (j := 7) (b := true) rfl rfl rfl (by assumption))]
                 go_simp; exact hK.out _ _ (Below.refl _ _) rfl
               · intro a w2 hb hs K hK; (repeat intro _); refine ⟨?_⟩
                 have h103 : a.tmps[103]?.getD undef = .bool true := by assumption
                 have h133 : a.tmps[133]?.getD undef = .bool false := by assumption
                 rw [if_pos (by rfl)]
                 go_simp; exact hK.out _ _ (Below.refl _ _) rfl
               · intro a w2 hb hs K hK; (repeat intro _); refine ⟨?_⟩
                 have h134 : a.tmps[134]?.getD undef = .bool false := by assumption
                 rw [if_pos (by rfl)]
                 go_simp; exact hK.out _ _ (Below.refl _ _) rfl
               · intro a w2 hb hs K hK; (repeat intro _); refine ⟨?_⟩
                 have h12 : a.tmps[12]?.getD undef = .int .i64 (j : Int) := hs 12 (by kernel_rfl)
                 rw [if_pos (wanted_yes (j := 39) (b := false) rfl rfl rfl (by assumption))]
                 go_simp; exact hK.out _ _ (Below.refl _ _) rfl
               · intro a w2 hb hs K hK; (repeat intro _); refine ⟨?_⟩
                 have h0 : a.tmps[0]?.getD undef = .slice (some ⟨bT, oT, none⟩) N cN := hs 0 (by kernel_rfl)
                 rw [if_pos (wanted_yes (j := 39) (b := false) rfl rfl rfl (by assumption))]
                 go_simp; exact hK.out _ _ (Below.refl _ _) rfl
               · intro a w2 hb hs K hK; (repeat intro _); refine ⟨?_⟩
                 have h11 : a.tmps[11]?.getD undef = .int .i64 (i0 : Int) := hs 11 (by kernel_rfl)
                 rw [if_pos (wanted_yes (j := 39) (b := false) rfl rfl rfl (by assumption))]
                 go_simp; exact hK.out _ _ (Below.refl _ _) rfl
               · intro a w2 hb hs K hK; (repeat intro _); refine ⟨?_⟩
                 have h137 : a.tmps[137]?.getD undef = .slice (some ⟨bT, oT, none⟩) N cN := by assumption
                 have h138 : a.tmps[138]?.getD undef = .int .i64 (i0 : Int) := by assumption
                 rw [if_pos (wanted_yes (j := 39) (b := false) rfl rfl rfl (by assumption))]
                 go_simp; exact hK.out _ _ (Below.refl _ _) rfl
               · intro a w2 hb hs K hK; (repeat intro _); refine ⟨?_⟩
                 have h139 : a.tmps[139]?.getD undef = .pointer (some ⟨bT, oT + i0, none⟩) := by assumption
                 rw [if_pos (wanted_yes (j := 39) (b := false) rfl rfl rfl (by assumption))]
                 have hcc := (HX.out w2 (hdr.out.trans (hb.mono hdr.out.size))).2.1
                 go_simp; exact hK.out _ _ (Below.refl _ _) rfl
               · intro a w2 hb hs K hK; (repeat intro _); refine ⟨?_⟩
                 have h140 : a.tmps[140]?.getD undef = .slice (some ⟨by2, oy2, none⟩) l0 C0 := by assumption
                 rw [if_pos (wanted_yes (j := 39) (b := false) rfl rfl rfl (by assumption))]
                 go_simp; exact hK.out _ _ (Below.refl _ _) rfl
               · intro a w2 hb hs K hK; (repeat intro _); refine ⟨?_⟩
                 have h136 : a.tmps[136]?.getD undef = .int .i64 (j : Int) := by assumption
                 have h141 : a.tmps[141]?.getD undef = .int .i64 (l0 : Int) := by assumption
                 rw [if_pos (wanted_yes (j := 39) (b := false) rfl rfl rfl (by assumption))]
                 go_simp
                 first | exact hK.out _ _ (Below.refl _ _) rfl | exact hK.out _ _ (Below.refl _ _) (congrArg Value.bool (decide_eq_false (by omega)))
               · intro a w2 hb hs K hK; (repeat intro _); refine ⟨?_⟩
                 have h142 : a.tmps[142]?.getD undef = .bool false := by assumption
                 rw [if_pos (wanted_yes (j := 39) (b := false) rfl rfl rfl (by assumption))]
                 go_simp; exact hK.out _ _ (Below.refl _ _) rfl
               iterate 20
                focus
                 intro a w2 hb hs K hK; (repeat intro _); refine ⟨?_⟩
                 rw [if_neg (wanted_no (j := 47) (b := true) rfl rfl rfl (by assumption))]
                 exact hK.out _ _ (Below.refl _ _) rfl
               · intro a w2 hb hs K hK; (repeat intro _); refine ⟨?_⟩
                 have h143 : a.tmps[143]?.getD undef = .bool false := by assumption
                 have h163 : a.tmps[163]?.getD undef = undef := by assumption
                 rw [if_pos (wanted_yes (j := 39) (b := false) rfl rfl rfl (by assumption))]
                 go_simp; exact hK.out _ _ (Below.refl _ _) rfl
               · intro a w2 hb hs K hK; (repeat intro _); refine ⟨?_⟩
                 have h135 : a.tmps[135]?.getD undef = .bool false := by assumption
                 have h164 : a.tmps[164]?.getD undef = .bool false := by assumption
                 rw [if_pos (by rfl)]
                 go_simp; exact hK.out _ _ (Below.refl _ _) rfl
               intro v0 f0 v1 f1 v2 f2 v3 f3 v4 f4 v5 f5 v6 f6 v7 f7 v8 f8 v9 f9 v10 f10 v11 f11 v12 f12 v13 f13 v14 f14 v15 f15 v16 f16 v17 f17 v18 f18 v19 f19 v20 f20 v21 f21 v22 f22 v23 f23 v24 f24 v25 f25 v26 f26 v27 f27 v28 f28 v29 f29 v30 f30 v31 f31 v32 f32 v33 f33 v34 f34 v35 f35 v36 f36 v37 f37 v38 f38 v39 f39 v40 f40 v41 f41 v42 f42 v43 f43 v44 f44 v45 f45 v46 f46 v47 f47 v48 f48 v49 f49 v50 f50 v51 f51 v52 f52 v53 f53 v54 f54 v55 f55 v56 f56 v57 f57 v58 f58 v59 f59 v60 f60 v61 f61 v62 f62 v63 f63 v64 f64 v65 f65 v66 f66 v67 f67 v68 f68 v69 f69
               refine NoPanic.normal ?_
               simp only [Act.put, List.setIfInBounds_toArray, List.set_cons_zero, List.set_cons_succ]
               obtain rfl : v69 = .bool false := f69
               clear f0 f1 f2 f3 f4 f5 f6 f7 f8 f9 f10 f11 f12 f13 f14 f15 f16 f17 f18 f19 f20 f21 f22 f23 f24 f25 f26 f27 f28 f29 f30 f31 f32 f33 f34 f35 f36 f37 f38 f39 f40 f41 f42 f43 f44 f45 f46 f47 f48 f49 f50 f51 f52 f53 f54 f55 f56 f57 f58 f59 f60 f61 f62 f63 f64 f65 f66 f67 f68
               replace HBn := Lib.hid (HBn.out.trans (hbE.mono HBn.out.size))
               clear hbE
               go_wp2
               go_roundg (ln - (j + 1))
               case measure => omega
               case rel => exact ⟨j + 1, by omega, rfl, by go_num, HBn.out⟩
             · have hcy10 := hcy1 12 _ (asF_hi (f := f) (by rw [← HL0.out]; exact hjl))
               rw [← HL0.out] at hcy10
               clear hcy1
               have HX : Hid (∀ w', Below wr.heap.size wr w' → w'.cell? ⟨bl, ol + m, none⟩ = some (.slice (some ⟨by1, oy1, none⟩) ln c0) ∧ w'.cell? ⟨bT, oT + i0, none⟩ = some (.slice S0 l0 C0) ∧ w'.cell? ⟨by1, oy1 + j * 17 + 12, none⟩ = some (.int .i64 (-1000 * (i0 : Int) - ((j : Int) - (l0 : Int))))) := Lib.hid fun w' hb' => ⟨HCL.out _ (hb.trans (hb'.mono hb.size)), HCT.out _ (hb.trans (hb'.mono hb.size)), ((HBz.out.trans (hb'.mono HBz.out.size)).cell (p := ⟨by1, oy1 + j * 17 + 12, none⟩) hby1).trans hcy10⟩
               have hw1 : IntKind.i64.wrap (-1000 * (i0 : Int)) = -1000 * (i0 : Int) := by rw [IntKind.wrap_i64]; omega
               have hw2 : IntKind.i64.wrap ((j : Int) - (l0 : Int)) = (j : Int) - (l0 : Int) := by rw [IntKind.wrap_i64]; omega
               have hw3 : IntKind.i64.wrap (-1000 * (i0 : Int) - ((j : Int) - (l0 : Int))) = -1000 * (i0 : Int) - ((j : Int) - (l0 : Int)) := by rw [IntKind.wrap_i64]; omega
               clear hb hby1 hcy10 
               go_wp2_with fail
               clear hlnb hctb
               refine wp_region_factsG [.is (.int .i64 (j : Int)), .is (.slice (some ⟨bT, oT, none⟩) N cN), .is (.int .i64 (i0 : Int)), .is (.pointer (some ⟨bT, oT + i0, none⟩)), .is (.slice S0 l0 C0), .is (.int .i64 (l0 : Int)), .is (.bool false), .is (.bool false), .is (undef), .is (undef), .is (undef), .is (undef), .is (undef), .is (undef), .is (undef), .is (undef), .is (undef), .is (undef), .is (undef), .is (undef), .is (undef), .is (undef), .is (undef), .is (undef), .is (undef), .is (undef), .is (undef), .is (undef), .is (undef), .is (undef), .is (undef), .is (undef), .is (undef), .is (undef), .is (undef), .is (undef), .is (undef), .is (undef), .is (.bool false), .is (.bool false), .is (.int .i64 (j : Int)), .is (.slice (some ⟨bT, oT, none⟩) N cN), .is (.int .i64 (i0 : Int)), .is (.pointer (some ⟨bT, oT + i0, none⟩)), .is (.slice S0 l0 C0), .is (.int .i64 (l0 : Int)), .is (.bool true), .is (.bool true), .is (.slice (some ⟨bl, ol, none⟩) ql cl), .is (.int .i64 (m : Int)), .is (.pointer (some ⟨bl, ol + m, none⟩)), .is (.slice (some ⟨by1, oy1, none⟩) ln c0), .is (.int .i64 (j : Int)), .is (.pointer (some ⟨by1, oy1 + j * 17, none⟩)), .is (.pointer (some ⟨by1, oy1 + j * 17, none⟩)), .is (.pointer (some ⟨by1, oy1 + j * 17 + 12, none⟩)), .is (.int .i64 (-1000 * (i0 : Int) - ((j : Int) - (l0 : Int)))), .is (.int .i64 (i0 : Int)), .is (.int .i64 (-1000 * (i0 : Int))), .is (.int .i64 (j : Int)), .is (.slice (some ⟨bT, oT, none⟩) N cN), .is (.int .i64 (i0 : Int)), .is (.pointer (some ⟨bT, oT + i0, none⟩)), .is (.slice S0 l0 C0), .is (.int .i64 (l0 : Int)), .is (.int .i64 ((j : Int) - (l0 : Int))), .is (.int .i64 (-1000 * (i0 : Int) - ((j : Int) - (l0 : Int)))), .is (.bool false), .is (.bool false), .is (.bool false)] mixed (by kernel_rfl) (fun hdr => ⟨?_, ?_, ?_, ?_, ?_, ?_, ?_, ?_, ?_, ?_, ?_, ?_, ?_, ?_, ?_, ?_, ?_, ?_, ?_, ?_, ?_, ?_, ?_, ?_, ?_, ?_, ?_, ?_, ?_, ?_, ?_, ?_, ?_, ?_, ?_, ?_, ?_, ?_, ?_, ?_, ?_, ?_, ?_, ?_, ?_, ?_, ?_, ?_, ?_, ?_, ?_, ?_, ?_, ?_, ?_, ?_, ?_, ?_, ?_, ?_, ?_, ?_, ?_, ?_, ?_, ?_, ?_, ?_, ?_, ?_, trivial⟩) (fun wE hbE => ?_)
               · intro a w2 hb hs K hK; (repeat intro _); refine ⟨?_⟩
                 have h12 : a.tmps[12]?.getD undef = .int .i64 (j : Int) := hs 12 (by kernel_rfl)
                 rw [if_pos (by rfl)]
                 go_simp; exact hK.out _ _ (Below.refl _ _) rfl
               · intro a w2 hb hs K hK; (repeat intro _); refine ⟨?_⟩
                 have h0 : a.tmps[0]?.getD undef = .slice (some ⟨bT, oT, none⟩) N cN := hs 0 (by kernel_rfl)
                 rw [if_pos (by rfl)]
                 go_simp; exact hK.out _ _ (Below.refl _ _) rfl
               · intro a w2 hb hs K hK; (repeat intro _); refine ⟨?_⟩
                 have h11 : a.tmps[11]?.getD undef = .int .i64 (i0 : Int) := hs 11 (by kernel_rfl)
                 rw [if_pos (by rfl)]
                 go_simp; exact hK.out _ _ (Below.refl _ _) rfl
               · intro a w2 hb hs K hK; (repeat intro _); refine ⟨?_⟩
                 have h97 : a.tmps[97]?.getD undef = .slice (some ⟨bT, oT, none⟩) N cN := by assumption
                 have h98 : a.tmps[98]?.getD undef = .int .i64 (i0 : Int) := by assumption
                 rw [if_pos (by rfl)]
                 go_simp; exact hK.out _ _ (Below.refl _ _) rfl
               · intro a w2 hb hs K hK; (repeat intro _); refine ⟨?_⟩
                 have h99 : a.tmps[99]?.getD undef = .pointer (some ⟨bT, oT + i0, none⟩) := by assumption
                 rw [if_pos (by rfl)]
                 have hcc := (HX.out w2 (hdr.out.trans (hb.mono hdr.out.size))).2.1
                 go_simp; exact hK.out _ _ (Below.refl _ _) rfl
               · intro a w2 hb hs K hK; (repeat intro _); refine ⟨?_⟩
                 have h100 : a.tmps[100]?.getD undef = .slice S0 l0 C0 := by assumption
                 rw [if_pos (by rfl)]
                 go_simp; exact hK.out _ _ (Below.refl _ _) rfl
               · intro a w2 hb hs K hK; (repeat intro _); refine ⟨?_⟩
                 have h96 : a.tmps[96]?.getD undef = .int .i64 (j : Int) := by assumption
                 have h101 : a.tmps[101]?.getD undef = .int .i64 (l0 : Int) := by assumption
                 rw [if_pos (by rfl)]
                 go_simp
                 first | exact hK.out _ _ (Below.refl _ _) rfl | exact hK.out _ _ (Below.refl _ _) (congrArg Value.bool (decide_eq_false (by omega)))
               · intro a w2 hb hs K hK; (repeat intro _); refine ⟨?_⟩
                 have h102 : a.tmps[102]?.getD undef = .bool false := by assumption
                 rw [if_pos (by rfl)]
                 go_simp; exact hK.out _ _ (Below.refl _ _) rfl
               iterate 15
                focus
                 intro a w2 hb hs K hK; (repeat intro _); refine ⟨?_⟩
                 rw [if_neg (wanted_no (j := 7) (b := true) rfl rfl rfl (by assumption))]
                 exact hK.out _ _ (Below.refl _ _) rfl
               iterate 14
                focus
                 intro a w2 hb hs K hK; (repeat intro _); refine ⟨?_⟩
                 rw [if_neg (wanted_unX (j := 22) (b := false) rfl rfl rfl (by assumption))]
                 exact hK.out _ _ (Below.refl _ _) rfl
               · intro a w2 hb hs K hK; (repeat intro _); refine ⟨?_⟩
                 rw [if_neg (wanted_no (j := 7) (b := true) rfl rfl rfl (by assumption))]
                 exact hK.out _ _ (Below.refl _ _) rfl
               · intro a w2 hb hs K hK; (repeat intro _); refine ⟨?_⟩
                 have h103 : a.tmps[103]?.getD undef = .bool false := by assumption
                 have h133 : a.tmps[133]?.getD undef = undef := by assumption
                 rw [if_pos (by rfl)]
                 go_simp; exact hK.out _ _ (Below.refl _ _) rfl
               · intro a w2 hb hs K hK; (repeat intro _); refine ⟨?_⟩
                 have h134 : a.tmps[134]?.getD undef = .bool false := by assumption
                 rw [if_pos (by rfl)]
                 go_simp; exact hK.out _ _ (Below.refl _ _) rfl
               · intro a w2 hb hs K hK; (repeat intro _); refine ⟨?_⟩
                 have h12 : a.tmps[12]?.getD undef = .int .i64 (j : Int) := hs 12 (by kernel_rfl)
                 rw [if_pos (wanted_yes (j := 39) (b := false) rfl rfl rfl (by assumption))]
                 go_simp; exact hK.out _ _ (Below.refl _ _) rfl
               · intro a w2 hb hs K hK; (repeat intro _); refine ⟨?_⟩
                 have h0 : a.tmps[0]?.getD undef = .slice (some ⟨bT, oT, none⟩) N cN := hs 0 (by kernel_rfl)
                 rw [if_pos (wanted_yes (j := 39) (b := false) rfl rfl rfl (by assumption))]
                 go_simp; exact hK.out _ _ (Below.refl _ _) rfl
               · intro a w2 hb hs K hK; (repeat intro _); refine ⟨?_⟩
                 have h11 : a.tmps[11]?.getD undef = .int .i64 (i0 : Int) := hs 11 (by kernel_rfl)
                 rw [if_pos (wanted_yes (j := 39) (b := false) rfl rfl rfl (by assumption))]
                 go_simp; exact hK.out _ _ (Below.refl _ _) rfl
               · intro a w2 hb hs K hK; (repeat intro _); refine ⟨?_⟩
                 have h137 : a.tmps[137]?.getD undef = .slice (some ⟨bT, oT, none⟩) N cN := by assumption
                 have h138 : a.tmps[138]?.getD undef = .int .i64 (i0 : Int) := by assumption
                 rw [if_pos (wanted_yes (j := 39) (b := false) rfl rfl rfl (by assumption))]
                 go_simp; exact hK.out _ _ (Below.refl _ _) rfl
               · intro a w2 hb hs K hK; (repeat intro _); refine ⟨?_⟩
                 have h139 : a.tmps[139]?.getD undef = .pointer (some ⟨bT, oT + i0, none⟩) := by assumption
                 rw [if_pos (wanted_yes (j := 39) (b := false) rfl rfl rfl (by assumption))]
                 have hcc := (HX.out w2 (hdr.out.trans (hb.mono hdr.out.size))).2.1
                 go_simp; exact hK.out _ _ (Below.refl _ _) rfl
               · intro a w2 hb hs K hK; (repeat intro _); refine ⟨?_⟩
                 have h140 : a.tmps[140]?.getD undef = .slice S0 l0 C0 := by assumption
                 rw [if_pos (wanted_yes (j := 39) (b := false) rfl rfl rfl (by assumption))]
                 go_simp; exact hK.out _ _ (Below.refl _ _) rfl
               · intro a w2 hb hs K hK; (repeat intro _); refine ⟨?_⟩
                 have h136 : a.tmps[136]?.getD undef = .int .i64 (j : Int) := by assumption
                 have h141 : a.tmps[141]?.getD undef = .int .i64 (l0 : Int) := by assumption
                 rw [if_pos (wanted_yes (j := 39) (b := false) rfl rfl rfl (by assumption))]
                 go_simp
                 first | exact hK.out _ _ (Below.refl _ _) rfl | exact hK.out _ _ (Below.refl _ _) (congrArg Value.bool (decide_eq_true (by omega)))
               · intro a w2 hb hs K hK; (repeat intro _); refine ⟨?_⟩
                 have h142 : a.tmps[142]?.getD undef = .bool true := by assumption
                 rw [if_pos (wanted_yes (j := 39) (b := false) rfl rfl rfl (by assumption))]
                 go_simp; exact hK.out _ _ (Below.refl _ _) rfl
               · intro a w2 hb hs K hK; (repeat intro _); refine ⟨?_⟩
                 have h5 : a.tmps[5]?.getD undef = .slice (some ⟨bl, ol, none⟩) ql cl := hs 5 (by kernel_rfl)
                 rw [if_pos (wanted_yes (j := 47) (b := true) rfl rfl rfl (by assumption))]
                 go_simp; exact hK.out _ _ (Below.refl _ _) rfl
               · intro a w2 hb hs K hK; (repeat intro _); refine ⟨?_⟩
                 have h10 : a.tmps[10]?.getD undef = .int .i64 (m : Int) := hs 10 (by kernel_rfl)
                 rw [if_pos (wanted_yes (j := 47) (b := true) rfl rfl rfl (by assumption))]
                 go_simp; exact hK.out _ _ (Below.refl _ _) rfl
               · intro a w2 hb hs K hK; (repeat intro _); refine ⟨?_⟩
                 have h144 : a.tmps[144]?.getD undef = .slice (some ⟨bl, ol, none⟩) ql cl := by assumption
                 have h145 : a.tmps[145]?.getD undef = .int .i64 (m : Int) := by assumption
                 rw [if_pos (wanted_yes (j := 47) (b := true) rfl rfl rfl (by assumption))]
                 go_simp; exact hK.out _ _ (Below.refl _ _) rfl
               · intro a w2 hb hs K hK; (repeat intro _); refine ⟨?_⟩
                 have h146 : a.tmps[146]?.getD undef = .pointer (some ⟨bl, ol + m, none⟩) := by assumption
                 rw [if_pos (wanted_yes (j := 47) (b := true) rfl rfl rfl (by assumption))]
                 have hcc := (HX.out w2 (hdr.out.trans (hb.mono hdr.out.size))).1
                 go_simp; exact hK.out _ _ (Below.refl _ _) rfl
               · intro a w2 hb hs K hK; (repeat intro _); refine ⟨?_⟩
                 have h12 : a.tmps[12]?.getD undef = .int .i64 (j : Int) := hs 12 (by kernel_rfl)
                 rw [if_pos (wanted_yes (j := 47) (b := true) rfl rfl rfl (by assumption))]
                 go_simp; exact hK.out _ _ (Below.refl _ _) rfl
               · intro a w2 hb hs K hK; (repeat intro _); refine ⟨?_⟩
                 have h147 : a.tmps[147]?.getD undef = .slice (some ⟨by1, oy1, none⟩) ln c0 := by assumption
                 have h148 : a.tmps[148]?.getD undef = .int .i64 (j : Int) := by assumption
                 rw [if_pos (wanted_yes (j := 47) (b := true) rfl rfl rfl (by assumption))]
                 go_simp; exact hK.out _ _ (Below.refl _ _) rfl
               · intro a w2 hb hs K hK; (repeat intro _); refine ⟨?_⟩
                 have h149 : a.tmps[149]?.getD undef = .pointer (some ⟨by1, oy1 + j * 17, none⟩) := by assumption
                 rw [if_pos (wanted_yes (j := 47) (b := true) rfl rfl rfl (by assumption))]
                 go_simp; exact hK.out _ _ (Below.refl _ _) rfl
               · intro a w2 hb hs K hK; (repeat intro _); refine ⟨?_⟩
                 have h150 : a.tmps[150]?.getD undef = .pointer (some ⟨by1, oy1 + j * 17, none⟩) := by assumption
                 rw [if_pos (wanted_yes (j := 47) (b := true) rfl rfl rfl (by assumption))]
                 go_simp; exact hK.out _ _ (Below.refl _ _) rfl
               · intro a w2 hb hs K hK; (repeat intro _); refine ⟨?_⟩
                 have h151 : a.tmps[151]?.getD undef = .pointer (some ⟨by1, oy1 + j * 17 + 12, none⟩) := by assumption
                 rw [if_pos (wanted_yes (j := 47) (b := true) rfl rfl rfl (by assumption))]
                 have hcc := (HX.out w2 (hdr.out.trans (hb.mono hdr.out.size))).2.2
                 go_simp; exact hK.out _ _ (Below.refl _ _) rfl
               · intro a w2 hb hs K hK; (repeat intro _); refine ⟨?_⟩
                 have h11 : a.tmps[11]?.getD undef = .int .i64 (i0 : Int) := hs 11 (by kernel_rfl)
                 rw [if_pos (wanted_yes (j := 47) (b := true) rfl rfl rfl (by assumption))]
                 go_simp; exact hK.out _ _ (Below.refl _ _) rfl
               · intro a w2 hb hs K hK; (repeat intro _); refine ⟨?_⟩
                 have h153 : a.tmps[153]?.getD undef = .int .i64 (i0 : Int) := by assumption
                 rw [if_pos (wanted_yes (j := 47) (b := true) rfl rfl rfl (by assumption))]
                 go_simp; exact hK.out _ _ (Below.refl _ _) rfl
               · intro a w2 hb hs K hK; (repeat intro _); refine ⟨?_⟩
                 have h12 : a.tmps[12]?.getD undef = .int .i64 (j : Int) := hs 12 (by kernel_rfl)
                 rw [if_pos (wanted_yes (j := 47) (b := true) rfl rfl rfl (by assumption))]
                 go_simp; exact hK.out _ _ (Below.refl _ _) rfl
               · intro a w2 hb hs K hK; (repeat intro _); refine ⟨?_⟩
                 have h0 : a.tmps[0]?.getD undef = .slice (some ⟨bT, oT, none⟩) N cN := hs 0 (by kernel_rfl)
                 rw [if_pos (wanted_yes (j := 47) (b := true) rfl rfl rfl (by assumption))]
                 go_simp; exact hK.out _ _ (Below.refl _ _) rfl
               · intro a w2 hb hs K hK; (repeat intro _); refine ⟨?_⟩
                 have h11 : a.tmps[11]?.getD undef = .int .i64 (i0 : Int) := hs 11 (by kernel_rfl)
                 rw [if_pos (wanted_yes (j := 47) (b := true) rfl rfl rfl (by assumption))]
                 go_simp; exact hK.out _ _ (Below.refl _ _) rfl
               · intro a w2 hb hs K hK; (repeat intro _); refine ⟨?_⟩
                 have h156 : a.tmps[156]?.getD undef = .slice (some ⟨bT, oT, none⟩) N cN := by assumption
                 have h157 : a.tmps[157]?.getD undef = .int .i64 (i0 : Int) := by assumption
                 rw [if_pos (wanted_yes (j := 47) (b := true) rfl rfl rfl (by assumption))]
                 go_simp; exact hK.out _ _ (Below.refl _ _) rfl
               · intro a w2 hb hs K hK; (repeat intro _); refine ⟨?_⟩
                 have h158 : a.tmps[158]?.getD undef = .pointer (some ⟨bT, oT + i0, none⟩) := by assumption
                 rw [if_pos (wanted_yes (j := 47) (b := true) rfl rfl rfl (by assumption))]
                 have hcc := (HX.out w2 (hdr.out.trans (hb.mono hdr.out.size))).2.1
                 go_simp; exact hK.out _ _ (Below.refl _ _) rfl
               · intro a w2 hb hs K hK; (repeat intro _); refine ⟨?_⟩
                 have h159 : a.tmps[159]?.getD undef = .slice S0 l0 C0 := by assumption
                 rw [if_pos (wanted_yes (j := 47) (b := true) rfl rfl rfl (by assumption))]
                 go_simp; exact hK.out _ _ (Below.refl _ _) rfl
               · intro a w2 hb hs K hK; (repeat intro _); refine ⟨?_⟩
                 have h155 : a.tmps[155]?.getD undef = .int .i64 (j : Int) := by assumption
                 have h160 : a.tmps[160]?.getD undef = .int .i64 (l0 : Int) := by assumption
                 rw [if_pos (wanted_yes (j := 47) (b := true) rfl rfl rfl (by assumption))]
                 go_simp; exact hK.out _ _ (Below.refl _ _) rfl
               · intro a w2 hb hs K hK; (repeat intro _); refine ⟨?_⟩
                 have h154 : a.tmps[154]?.getD undef = .int .i64 (-1000 * (i0 : Int)) := by assumption
                 have h161 : a.tmps[161]?.getD undef = .int .i64 ((j : Int) - (l0 : Int)) := by assumption
                 rw [if_pos (wanted_yes (j := 47) (b := true) rfl rfl rfl (by assumption))]
                 go_simp; exact hK.out _ _ (Below.refl _ _) rfl
               · intro a w2 hb hs K hK; (repeat intro _); refine ⟨?_⟩
                 have h152 : a.tmps[152]?.getD undef = .int .i64 (-1000 * (i0 : Int) - ((j : Int) - (l0 : Int))) := by assumption
                 have h162 : a.tmps[162]?.getD undef = .int .i64 (-1000 * (i0 : Int) - ((j : Int) - (l0 : Int))) := by assumption
                 rw [if_pos (wanted_yes (j := 47) (b := true) rfl rfl rfl (by assumption))]
                 go_simp; exact hK.out _ _ (Below.refl _ _) rfl
               · intro a w2 hb hs K hK; (repeat intro _); refine ⟨?_⟩
                 have h143 : a.tmps[143]?.getD undef = .bool true := by assumption
                 have h163 : a.tmps[163]?.getD undef = .bool false := by assumption
                 rw [if_pos (wanted_yes (j := 39) (b := false) rfl rfl rfl (by assumption))]
                 go_simp; exact hK.out _ _ (Below.refl _ _) rfl
               · intro a w2 hb hs K hK; (repeat intro _); refine ⟨?_⟩
                 have h135 : a.tmps[135]?.getD undef = .bool false := by assumption
                 have h164 : a.tmps[164]?.getD undef = .bool false := by assumption
                 rw [if_pos (by rfl)]
                 go_simp; exact hK.out _ _ (Below.refl _ _) rfl
               intro v0 f0 v1 f1 v2 f2 v3 f3 v4 f4 v5 f5 v6 f6 v7 f7 v8 f8 v9 f9 v10 f10 v11 f11 v12 f12 v13 f13 v14 f14 v15 f15 v16 f16 v17 f17 v18 f18 v19 f19 v20 f20 v21 f21 v22 f22 v23 f23 v24 f24 v25 f25 v26 f26 v27 f27 v28 f28 v29 f29 v30 f30 v31 f31 v32 f32 v33 f33 v34 f34 v35 f35 v36 f36 v37 f37 v38 f38 v39 f39 v40 f40 v41 f41 v42 f42 v43 f43 v44 f44 v45 f45 v46 f46 v47 f47 v48 f48 v49 f49 v50 f50 v51 f51 v52 f52 v53 f53 v54 f54 v55 f55 v56 f56 v57 f57 v58 f58 v59 f59 v60 f60 v61 f61 v62 f62 v63 f63 v64 f64 v65 f65 v66 f66 v67 f67 v68 f68 v69 f69
               refine NoPanic.normal ?_
               simp only [Act.put, List.setIfInBounds_toArray, List.set_cons_zero, List.set_cons_succ]
               obtain rfl : v69 = .bool false := f69
               clear f0 f1 f2 f3 f4 f5 f6 f7 f8 f9 f10 f11 f12 f13 f14 f15 f16 f17 f18 f19 f20 f21 f22 f23 f24 f25 f26 f27 f28 f29 f30 f31 f32 f33 f34 f35 f36 f37 f38 f39 f40 f41 f42 f43 f44 f45 f46 f47 f48 f49 f50 f51 f52 f53 f54 f55 f56 f57 f58 f59 f60 f61 f62 f63 f64 f65 f66 f67 f68
               replace HBn := Lib.hid (HBn.out.trans (hbE.mono HBn.out.size))
               clear hbE
               go_wp2
               go_roundg (ln - (j + 1))
               case measure => omega
               case rel => exact ⟨j + 1, by omega, rfl, by go_num, HBn.out⟩
           · obtain rfl : ln = j := by omega
             clear hb
             go_wp2
             go_roundg (ql - (m + 1))
             case measure => omega
             case rel => exact ⟨m + 1, by omega, rfl, by go_num, HBz.out⟩
        · obtain rfl : ql = m := by omega
          have HF := Lib.hid (HG.out.only.below hb)
          clear hb
          go_wp2
          go_ret
          exact ⟨rfl, HF.out⟩
end Go.Proofs.Ytjaaldandgfkgaa
