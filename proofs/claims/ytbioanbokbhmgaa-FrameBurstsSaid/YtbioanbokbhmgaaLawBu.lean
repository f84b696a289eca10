/- FrameBursts: the law's walk. Conditions: a shard that memory bears, a pattern of 32 bits. -/
import Derived.Test.YtbioanbokbhmgaaCm8
import Derived.Test.YtbioanbokbhmgaaBrq
namespace Go.Proofs.Ytbioanbokbhmgaa
open Go.RowKit

set_option maxRecDepth 100000 in
set_option maxHeartbeats 8000000 in
theorem lawBu (h : Hd) (A : Option Addr) (c : Nat) (BL : List (List Nat)) (AT : Int) (pat : Nat) (w : World) (hw : HdW h) (hB : HdB h) (hBL : ∀ l ∈ BL, ∀ x ∈ l, x < 256) (hn : BL.length ≤ 140737488351232) (hln : ∀ l ∈ BL, l.length ≤ 140737488351232) (hA : RLL w A BL) (_hat0 : -9223372036854775808 ≤ AT ∧ AT ≤ 9223372036854775807) (hpat : pat < 4294967296) :
    Calls Try.prog 10 #[.agg #[.int .u8 h.s0, .int .u8 h.s1, .int .u8 h.s2, .int .u8 h.s3, .int .u8 h.s4, .int .u8 h.s5, .int .u8 h.s6, .int .u8 h.s7, .int .i64 h.K, .int .i64 h.M, .int .i64 h.B, .string h.key, .int .i64 h.size, .int .i64 h.idx, .int .i64 h.ep, .int .i64 h.ct, .slice A BL.length c], .int .i64 AT, .int .u32 (pat : Int)] w fun e w' => e = .returned (.bool true) ∧ Below w.heap.size w w' := by
  have HA := Lib.hid hA
  have HBD := Lib.hid hB; have HBL := Lib.hid hBL; have HLN := Lib.hid hln; have HW := Lib.hid hw
  have HF := Lib.hid (Below.refl w.heap.size w)
  clear hA hB hBL hln hw
  go_enter Try.func10, Try.ntmps10
  go_wp2_with fail
  have hbn := (Below.refl w.heap.size w).alloc (Nat.le_refl _) (.cells #[.int .u8 h.s0, .int .u8 h.s1, .int .u8 h.s2, .int .u8 h.s3, .int .u8 h.s4, .int .u8 h.s5, .int .u8 h.s6, .int .u8 h.s7, .int .i64 h.K, .int .i64 h.M, .int .i64 h.B, .string h.key, .int .i64 h.size, .int .i64 h.idx, .int .i64 h.ep, .int .i64 h.ct, .slice A BL.length c] 46)
  replace HF := Lib.hid (HF.out.trans (hbn.mono HF.out.size))
  replace HA := Lib.hid (RLL.below HA.out hbn)
  have HZ3 := Lib.hid (heap_alloc_new w (.cells #[.int .u8 h.s0, .int .u8 h.s1, .int .u8 h.s2, .int .u8 h.s3, .int .u8 h.s4, .int .u8 h.s5, .int .u8 h.s6, .int .u8 h.s7, .int .i64 h.K, .int .i64 h.M, .int .i64 h.B, .string h.key, .int .i64 h.size, .int .i64 h.idx, .int .i64 h.ep, .int .i64 h.ct, .slice A BL.length c] 46))
  obtain ⟨bHZ3, hbk⟩ : ∃ bHZ3, bHZ3 = w.heap.size := ⟨_, rfl⟩
  rw [← hbk] at HZ3 ⊢
  clear hbk
  clear hbn
  generalize w.alloc (.cells #[.int .u8 h.s0, .int .u8 h.s1, .int .u8 h.s2, .int .u8 h.s3, .int .u8 h.s4, .int .u8 h.s5, .int .u8 h.s6, .int .u8 h.s7, .int .i64 h.K, .int .i64 h.M, .int .i64 h.B, .string h.key, .int .i64 h.size, .int .i64 h.idx, .int .i64 h.ep, .int .i64 h.ct, .slice A BL.length c] 46) = w1 at *
  refine (awake_any _).mono ?_
  rintro e w2 ⟨rfl, hb⟩
  replace HF := Lib.hid (HF.out.trans (hb.mono HF.out.size))
  replace HA := Lib.hid (RLL.below HA.out hb)
  replace HZ3 := Lib.hid ((hb.block _ (Array.getElem?_eq_some_iff.1 HZ3.out).1).trans HZ3.out)
  clear hb
  go_wp2_with (refine wpList_loadS rfl (.tmp 3) rfl bHZ3 rfl #[.int .u8 h.s0, .int .u8 h.s1, .int .u8 h.s2, .int .u8 h.s3, .int .u8 h.s4, .int .u8 h.s5, .int .u8 h.s6, .int .u8 h.s7, .int .i64 h.K, .int .i64 h.M, .int .i64 h.B, .string h.key, .int .i64 h.size, .int .i64 h.idx, .int .i64 h.ep, .int .i64 h.ct, .slice A BL.length c] rfl HZ3.out ?_)
  refine (fit_any h A c BL _ hn HLN.out HA.out).mono ?_
  rintro e w3 ⟨F1, n1, d1, rfl, hO, hb⟩
  replace HF := Lib.hid (HF.out.trans (hb.mono HF.out.size))
  replace HA := Lib.hid (RLL.below HA.out hb)
  replace HZ3 := Lib.hid ((hb.block _ (Array.getElem?_eq_some_iff.1 HZ3.out).1).trans HZ3.out)
  have HO1 := Lib.hid hO
  obtain ⟨q1, hq⟩ : ∃ q, q = decide (checkE h = 0) := ⟨_, rfl⟩
  rw [← hq]
  have HQ1 := Lib.hid hq
  clear hq hO
  clear hb
  by_cases hqt : q1 = false
  · subst hqt
    go_wp2_with (refine wpList_storeNewS rfl (.tmp 8) (.tmp 31) rfl #[.int .u8 h.s0, .int .u8 h.s1, .int .u8 h.s2, .int .u8 h.s3, .int .u8 h.s4, .int .u8 h.s5, .int .u8 h.s6, .int .u8 h.s7, .int .i64 h.K, .int .i64 h.M, .int .i64 h.B, .string h.key, .int .i64 h.size, .int .i64 h.idx, .int .i64 h.ep, .int .i64 h.ct, .slice F1 n1 d1] rfl rfl rfl rfl rfl ?_; have hbn := (Below.refl w3.heap.size w3).alloc (Nat.le_refl _) (.cells #[.int .u8 h.s0, .int .u8 h.s1, .int .u8 h.s2, .int .u8 h.s3, .int .u8 h.s4, .int .u8 h.s5, .int .u8 h.s6, .int .u8 h.s7, .int .i64 h.K, .int .i64 h.M, .int .i64 h.B, .string h.key, .int .i64 h.size, .int .i64 h.idx, .int .i64 h.ep, .int .i64 h.ct, .slice F1 n1 d1] 46); replace HF := Lib.hid (HF.out.trans (hbn.mono HF.out.size)); replace HA := Lib.hid (RLL.below HA.out hbn); replace HZ3 := Lib.hid ((hbn.block _ (Array.getElem?_eq_some_iff.1 HZ3.out).1).trans HZ3.out); replace HO1 := Lib.hid ((fun z => (HO1.out z).kept hbn)); have HZ8 := Lib.hid (heap_alloc_new w3 (.cells #[.int .u8 h.s0, .int .u8 h.s1, .int .u8 h.s2, .int .u8 h.s3, .int .u8 h.s4, .int .u8 h.s5, .int .u8 h.s6, .int .u8 h.s7, .int .i64 h.K, .int .i64 h.M, .int .i64 h.B, .string h.key, .int .i64 h.size, .int .i64 h.idx, .int .i64 h.ep, .int .i64 h.ct, .slice F1 n1 d1] 46)); clear hbn; generalize w3.alloc (.cells #[.int .u8 h.s0, .int .u8 h.s1, .int .u8 h.s2, .int .u8 h.s3, .int .u8 h.s4, .int .u8 h.s5, .int .u8 h.s6, .int .u8 h.s7, .int .i64 h.K, .int .i64 h.M, .int .i64 h.B, .string h.key, .int .i64 h.size, .int .i64 h.idx, .int .i64 h.ep, .int .i64 h.ct, .slice F1 n1 d1] 46) = w4 at *)
    go_ret
    exact ⟨rfl, HF.out⟩
  obtain rfl : q1 = true := eq_true_of_ne_false hqt
  clear hqt
  have HE1 := Lib.hid (of_decide_eq_true HQ1.out.symm)
  have hO := HO1.out HE1.out
  obtain ⟨FL1, hFL⟩ : ∃ FL, FL = fitL h BL := ⟨_, rfl⟩
  rw [← hFL] at hO
  have HFF1 := Lib.hid (show fitsB h FL1 from hFL ▸ fitL_fits h BL)
  have HX1 := Lib.hid (show ∀ l ∈ FL1, ∀ x ∈ l, x < 256 from hFL ▸ fitL_lt (h := h) HBL.out)
  obtain ⟨Ax, cx, ev, _, hr⟩ := hO.ll.rd
  injection ev with e1 e2 e3
  subst e1 e2 e3
  have HR1 := Lib.hid hr
  have HOO1 := Lib.hid hO
  have hfl := fits_len HE1.out HFF1.out
  have HM1 := Lib.hid (show FL1.length ≤ 140737488351232 ∧ (∀ l ∈ FL1, l.length ≤ 140737488351232) from ⟨by omega, fun l hl => by have := hfl.2 l hl; omega⟩)
  have hm1 : FL1.length ≤ 4096 := hfl.1
  clear hO hr hfl hFL HO1 HQ1
  go_wp2_with (first | (refine wpList_storeNewS rfl (.tmp 8) (.tmp 31) rfl #[.int .u8 h.s0, .int .u8 h.s1, .int .u8 h.s2, .int .u8 h.s3, .int .u8 h.s4, .int .u8 h.s5, .int .u8 h.s6, .int .u8 h.s7, .int .i64 h.K, .int .i64 h.M, .int .i64 h.B, .string h.key, .int .i64 h.size, .int .i64 h.idx, .int .i64 h.ep, .int .i64 h.ct, .slice F1 FL1.length d1] rfl rfl rfl rfl rfl ?_; have hbn := (Below.refl w3.heap.size w3).alloc (Nat.le_refl _) (.cells #[.int .u8 h.s0, .int .u8 h.s1, .int .u8 h.s2, .int .u8 h.s3, .int .u8 h.s4, .int .u8 h.s5, .int .u8 h.s6, .int .u8 h.s7, .int .i64 h.K, .int .i64 h.M, .int .i64 h.B, .string h.key, .int .i64 h.size, .int .i64 h.idx, .int .i64 h.ep, .int .i64 h.ct, .slice F1 FL1.length d1] 46); replace HF := Lib.hid (HF.out.trans (hbn.mono HF.out.size)); replace HA := Lib.hid (RLL.below HA.out hbn); replace HZ3 := Lib.hid ((hbn.block _ (Array.getElem?_eq_some_iff.1 HZ3.out).1).trans HZ3.out); replace HR1 := Lib.hid (RLL.below HR1.out hbn); replace HOO1 := Lib.hid (HOO1.out.kept hbn); have HZ8 := Lib.hid (heap_alloc_new w3 (.cells #[.int .u8 h.s0, .int .u8 h.s1, .int .u8 h.s2, .int .u8 h.s3, .int .u8 h.s4, .int .u8 h.s5, .int .u8 h.s6, .int .u8 h.s7, .int .i64 h.K, .int .i64 h.M, .int .i64 h.B, .string h.key, .int .i64 h.size, .int .i64 h.idx, .int .i64 h.ep, .int .i64 h.ct, .slice F1 FL1.length d1] 46)); clear hbn; generalize w3.alloc (.cells #[.int .u8 h.s0, .int .u8 h.s1, .int .u8 h.s2, .int .u8 h.s3, .int .u8 h.s4, .int .u8 h.s5, .int .u8 h.s6, .int .u8 h.s7, .int .i64 h.K, .int .i64 h.M, .int .i64 h.B, .string h.key, .int .i64 h.size, .int .i64 h.idx, .int .i64 h.ep, .int .i64 h.ct, .slice F1 FL1.length d1] 46) = w4 at *) | (refine wpList_loadS rfl (.tmp 8) rfl (w3.heap.size) rfl #[.int .u8 h.s0, .int .u8 h.s1, .int .u8 h.s2, .int .u8 h.s3, .int .u8 h.s4, .int .u8 h.s5, .int .u8 h.s6, .int .u8 h.s7, .int .i64 h.K, .int .i64 h.M, .int .i64 h.B, .string h.key, .int .i64 h.size, .int .i64 h.idx, .int .i64 h.ep, .int .i64 h.ct, .slice F1 FL1.length d1] rfl HZ8.out ?_))
  have SNHF := HF
  have SNHA := HA
  have SNHZ3 := HZ3
  have SNHR1 := HR1
  have SNHOO1 := HOO1
  have SNHZ8 := HZ8
  refine (enc_any h F1 d1 FL1 _ HBD.out HX1.out HM1.out.1 HM1.out.2 HR1.out).mono ?_
  rintro e w5 ⟨o, e1, l1, rfl, hP, hO, hb⟩
  replace HF := Lib.hid (HF.out.trans (hb.mono HF.out.size))
  replace HA := Lib.hid (RLL.below HA.out hb)
  replace HZ3 := Lib.hid ((hb.block _ (Array.getElem?_eq_some_iff.1 HZ3.out).1).trans HZ3.out)
  replace HR1 := Lib.hid (RLL.below HR1.out hb)
  replace HOO1 := Lib.hid (HOO1.out.kept hb)
  replace HZ8 := Lib.hid ((hb.block _ (Array.getElem?_eq_some_iff.1 HZ8.out).1).trans HZ8.out)
  obtain ⟨rfl, hl⟩ := enc_fit hP HE1.out HFF1.out
  have HL1 := Lib.hid hl
  have HB1 := Lib.hid (hP.lt HBD.out HX1.out)
  have hlen1 := hP.len
  obtain ⟨E1, x1, hcap1, hBg1, hgl1, hcm1, rfl⟩ := own_at hO (by rw [hl]; have := form_pos HE1.out HFF1.out; omega)
  have OB1 := Lib.hid hO
  have hpos1 : 40 ≤ l1.length := by rw [hl]; have := form_pos HE1.out HFF1.out; omega
  clear hO hP hl
  have HB45 := Lib.hid hb
  clear hb
  go_wp2_with fail
  refine (num_any 0 w5).mono ?_
  rintro e wn ⟨rfl, rfl⟩
  have hl0 : ((l1.length : Int) == 0) = false := by
    rw [beq_eq_false_iff_ne]; omega
  have hw8 : IntKind.i64.wrap (8 * (l1.length : Int)) = 8 * (l1.length : Int) := by rw [IntKind.wrap_i64]; omega
  have hnz : ¬ 8 * (l1.length : Int) = 0 := by omega
  have hr1 := Int.tmod_lt_of_pos AT (b := 8 * (l1.length : Int)) (by omega)
  have hr0 : - (8 * (l1.length : Int)) < AT.tmod (8 * (l1.length : Int)) := by
    have := Int.tmod_lt_of_pos (-AT) (b := 8 * (l1.length : Int)) (by omega)
    rw [Int.neg_tmod] at this
    omega
  obtain ⟨r, hr⟩ : ∃ r, r = AT.tmod (8 * (l1.length : Int)) := ⟨_, rfl⟩
  rw [← hr] at hr1 hr0
  replace hr := hr.symm
  have hwr : IntKind.i64.wrap r = r := by rw [IntKind.wrap_i64]; omega
  by_cases hneg : r < 0
  · obtain ⟨bit, hbit⟩ : ∃ bit : Nat, (bit : Int) = r + 8 * (l1.length : Int) := ⟨(r + 8 * (l1.length : Int)).toNat, by omega⟩
    have hwn : IntKind.i64.wrap (r + 8 * (l1.length : Int)) = (bit : Int) := by rw [IntKind.wrap_i64]; omega
    have hbl : bit ≤ 10000000000 := by omega
    clear hbit
    go_wp2_with fail
    have hT := turned_any pat bit 0 l1.length w5 hpat hbl (by omega) (by omega)
    rw [Nat.zero_add] at hT
    refine hT.mono ?_
    rintro e wn ⟨rfl, he⟩
    replace he := he.symm
    subst he
    clear hT
    by_cases hst : still pat bit 0 l1.length
    · have hd : (!decide (still pat bit 0 l1.length)) = false := by rw [decide_eq_true hst]; rfl
      go_wp2
      go_ret
      exact ⟨rfl, HF.out⟩
    have hd : (!decide (still pat bit 0 l1.length)) = true := by rw [decide_eq_false hst]; rfl
    have HST := Lib.hid hst
    clear hst
    have HOC0 := Lib.hid (show OwnB w5 w4.heap.size (.slice (some ⟨E1, 0, none⟩) l1.length x1) (burst l1 (pat % 2 ^ 0) bit) by rw [Nat.pow_zero, Nat.mod_one, burst_zero]; exact OB1.out)
    have HBW0 := Lib.hid (Below.refl w4.heap.size w5)
    go_wp2
    clear hd
    go_loopg [14, 15] 32 (fun gk t14 _ wr => ∃ k : Nat, k ≤ 32 ∧ gk = 32 - k ∧ t14 = .int .i64 k ∧ OwnB wr w4.heap.size (.slice (some ⟨E1, 0, none⟩) l1.length x1) (burst l1 (pat % 2 ^ k) bit) ∧ Below w4.heap.size w5 wr)
    case atStart => exact ⟨0, Nat.zero_le _, rfl, rfl, HOC0.out, HBW0.out⟩
    case round =>
      clear HOC0 HBW0
      obtain ⟨k, hk, rfl, rfl, hoc, hbw⟩ := hrel
      have HOC := Lib.hid hoc; have HBW := Lib.hid hbw
      clear hoc hbw
      by_cases hlt : k < 32
      · have hk32 : (k : Int) < 32 := by omega
        have hk0 : (0 : Int) ≤ (k : Int) := by omega
        have hcv : IntKind.u64.wrap (k : Int) = (k : Int) := by rw [IntKind.wrap_u64]; omega
        obtain ⟨s, hs⟩ : ∃ s, s = bit + k := ⟨_, rfl⟩
        have hw1 : IntKind.i64.wrap ((bit : Int) + (k : Int)) = (s : Int) := by rw [IntKind.wrap_i64]; omega
        have hsl : s ≤ 10000000100 := by omega
        have hand : bits .and .u32 ((pat : Int) / 2 ^ k) 1 = ((pat / 2 ^ k % 2 : Nat) : Int) := by
          rw [show ((pat : Int) / 2 ^ k) = ((pat / 2 ^ k : Nat) : Int) by rw [Int.natCast_ediv, Int.natCast_pow]; rfl, show (1 : Int) = ((1 : Nat) : Int) from rfl, u32_and_nat _ 1 (Nat.lt_of_le_of_lt (Nat.div_le_self _ _) hpat) (by decide), Nat.and_one_is_mod]
        have HSE := Lib.hid hs
        clear hs
        have HSK := Lib.hid (fun (hq : pat / 2 ^ k % 2 = 0 ∨ l1.length ≤ s / 8) => (show burst l1 (pat % 2 ^ (k + 1)) bit = burst l1 (pat % 2 ^ k) bit from burst_skip (by rw [← HSE.out]; exact hq)))
        by_cases h1 : pat / 2 ^ k % 2 = 1
        · rw [h1] at hand
          replace hand : bits .and .u32 ((pat : Int) / 2 ^ k) 1 = 1 := hand
          by_cases h2 : s / 8 < l1.length
          · obtain ⟨p, hp⟩ : ∃ p, p = s / 8 := ⟨_, rfl⟩
            have hp' : (s : Int) / 8 = (p : Int) := by omega
            rw [← hp] at h2
            have h2' : (p : Int) < (l1.length : Int) := by omega
            have hp0 : (0 : Int) ≤ (p : Int) := by omega
            have HMO := Lib.hid (show (burst l1 (pat % 2 ^ k) bit).set p ((burst l1 (pat % 2 ^ k) bit).getD p 0 ^^^ 2 ^ (s % 8)) = burst l1 (pat % 2 ^ (k + 1)) bit by
              rw [hp, HSE.out]; exact burst_more h1 (by rw [← HSE.out, ← hp]; exact h2))
            have hbln := burst_length l1 (pat % 2 ^ k) bit
            obtain ⟨ca, cb⟩ := own_cell HOC.out hbln.symm (i := p) (by rw [hbln]; exact h2)
            obtain ⟨x, hx⟩ : ∃ x, x = (burst l1 (pat % 2 ^ k) bit).getD p 0 := ⟨_, rfl⟩
            have hx256 : x < 256 := by rw [hx]; exact getD_256 (burst_lt HB1.out) p
            rw [← hx] at ca HMO
            obtain ⟨y, hy⟩ : ∃ y, y = x ^^^ 2 ^ (s % 8) := ⟨_, rfl⟩
            have hxor : bits .xor .u8 (x : Int) ((2 : Int) ^ (s % 8) % 256) = (y : Int) := by
              rw [hy]; exact xor_bit x s hx256
            rw [← hy] at HMO
            have HON := Lib.hid (show OwnB (wr.setCell ⟨E1, p, none⟩ (.int .u8 (y : Int))) w4.heap.size (.slice (some ⟨E1, 0, none⟩) l1.length x1) (burst l1 (pat % 2 ^ (k + 1)) bit) by rw [← HMO.out]; exact OwnB.set HOC.out hbln.symm h2 y)
            have HBN := Lib.hid (HBW.out.setCell (p := ⟨E1, p, none⟩) hBg1 (.int .u8 (y : Int)))
            clear hp hx h1 HOC HBW HMO HSK hy
            go_wp2
            go_roundg (32 - (k + 1))
            case measure => omega
            case rel => exact ⟨k + 1, by omega, rfl, by go_num, HON.out, HBN.out⟩
          · have h2' : ¬ (s : Int) / 8 < (l1.length : Int) := by omega
            have hsk := HSK.out (.inr (by omega))
            have HON := Lib.hid (show OwnB wr w4.heap.size (.slice (some ⟨E1, 0, none⟩) l1.length x1) (burst l1 (pat % 2 ^ (k + 1)) bit) by rw [hsk]; exact HOC.out)
            clear h1 h2 hsk
            go_wp2
            go_roundg (32 - (k + 1))
            case measure => omega
            case rel => exact ⟨k + 1, by omega, rfl, by go_num, HON.out, HBW.out⟩
        · have h0 : pat / 2 ^ k % 2 = 0 := by omega
          rw [h0] at hand
          replace hand : bits .and .u32 ((pat : Int) / 2 ^ k) 1 = 0 := hand
          have hsk := HSK.out (.inl h0)
          have HON := Lib.hid (show OwnB wr w4.heap.size (.slice (some ⟨E1, 0, none⟩) l1.length x1) (burst l1 (pat % 2 ^ (k + 1)) bit) by rw [hsk]; exact HOC.out)
          clear h1 h0 hsk
          go_wp2
          go_roundg (32 - (k + 1))
          case measure => omega
          case rel => exact ⟨k + 1, by omega, rfl, by go_num, HON.out, HBW.out⟩
      · obtain rfl : k = 32 := by omega
        have hb := HB45.out.trans HBW.out
        replace HF := Lib.hid (SNHF.out.trans (hb.mono SNHF.out.size))
        replace HA := Lib.hid (RLL.below SNHA.out hb)
        replace HZ3 := Lib.hid ((hb.block _ (Array.getElem?_eq_some_iff.1 SNHZ3.out).1).trans SNHZ3.out)
        replace HR1 := Lib.hid (RLL.below SNHR1.out hb)
        replace HOO1 := Lib.hid (SNHOO1.out.kept hb)
        replace HZ8 := Lib.hid ((hb.block _ (Array.getElem?_eq_some_iff.1 SNHZ8.out).1).trans SNHZ8.out)
        clear SNHF SNHA SNHZ3 SNHR1 SNHOO1 SNHZ8
        obtain ⟨S6, hS6⟩ : ∃ S6, S6 = burst l1 pat bit := ⟨_, rfl⟩
        have hpm : pat % 2 ^ 32 = pat := Nat.mod_eq_of_lt hpat
        rw [hpm, ← hS6] at HOC
        have hSl : S6.length = l1.length := by rw [hS6, burst_length]
        have HSX := Lib.hid (show ∀ x ∈ S6, x < 256 from hS6 ▸ burst_lt HB1.out)
        obtain ⟨bp1, bp2⟩ := burst_prs (bit := bit) HBD.out HE1.out HFF1.out HX1.out hpat (by rw [← HL1.out]; exact HST.out)
        rw [← HL1.out, ← hS6] at bp1 bp2
        have HBB := Lib.hid (fun (k : Nat) (hk : k < FL1.length) (hs : still pat bit 0 (offF h 0)) => burst_bad HBD.out HE1.out HFF1.out HX1.out hpat hs hk)
        rw [← HL1.out, ← hS6] at HBB
        have BP1 := Lib.hid bp1; have BP2 := Lib.hid bp2
        clear hS6 hpm bp1 bp2 hb HBW HB45
        go_wp2_with (refine wpList_loadS rfl (.tmp 8) rfl (w3.heap.size) rfl #[.int .u8 h.s0, .int .u8 h.s1, .int .u8 h.s2, .int .u8 h.s3, .int .u8 h.s4, .int .u8 h.s5, .int .u8 h.s6, .int .u8 h.s7, .int .i64 h.K, .int .i64 h.M, .int .i64 h.B, .string h.key, .int .i64 h.size, .int .i64 h.idx, .int .i64 h.ep, .int .i64 h.ct, .slice F1 FL1.length d1] rfl HZ8.out ?_)
        refine (begins_any h F1 d1 FL1 _ HE1.out HFF1.out HR1.out).mono ?_
        rintro e w6 ⟨v, rfl, hO, hb⟩
        replace HF := Lib.hid (HF.out.trans (hb.mono HF.out.size))
        replace HA := Lib.hid (RLL.below HA.out hb)
        replace HZ3 := Lib.hid ((hb.block _ (Array.getElem?_eq_some_iff.1 HZ3.out).1).trans HZ3.out)
        replace HR1 := Lib.hid (RLL.below HR1.out hb)
        replace HOO1 := Lib.hid (HOO1.out.kept hb)
        replace HZ8 := Lib.hid ((hb.block _ (Array.getElem?_eq_some_iff.1 HZ8.out).1).trans HZ8.out)
        replace HOC := Lib.hid (HOC.out.kept hb)
        obtain ⟨gB, cB, rfl, hgB1, hgB2, hcB, -⟩ := Own.form hO (by rw [offL_length]; omega)
        obtain ⟨N1, hN1⟩ : ∃ N1, N1 = (offL h FL1.length).length := ⟨_, rfl⟩
        rw [← hN1] at hcB ⊢
        have hN1' : N1 ≤ FL1.length + 1 := by rw [hN1, offL_length]; exact Nat.le_refl _
        have hN2' : FL1.length + 1 ≤ N1 := by rw [hN1, offL_length]; exact Nat.le_refl _
        have HCL := Lib.hid (fun (i : Nat) (hi : i ≤ FL1.length) => (show Cl w6 ⟨gB, i, none⟩ (.int .i64 ((offF h i : Nat) : Int)) from ⟨hgB2, by have := Own.cell1 hO (i := i) (by rw [offL_length]; omega); rw [offL_get hi] at this; exact this⟩))
        clear hO hN1
        clear hb
        obtain ⟨o0, ho0⟩ : ∃ o0, o0 = offF h 0 := ⟨_, rfl⟩
        have K0 := HCL.out 0 (by omega)
        rw [← ho0] at K0 BP1 BP2 HBB
        have HK0 := Lib.hid K0
        have hol := fun k => offF_le2 (h := h) (k := k) HE1.out
        have hob : o0 ≤ 300 := by rw [ho0]; have := hol 0; omega
        have hN0 : (0 : Int) < (N1 : Int) := by omega
        have HOL := Lib.hid hol
        have HO0 := Lib.hid ho0
        clear hol ho0 K0
        have HCA := Lib.hid (fun (w' : World) (hb : Below w6.heap.size w6 w') (i : Nat) (hi : i ≤ FL1.length) => ((HCL.out i hi).below hb).2)
        clear HCL
        have HBWB := Lib.hid (Below.refl w6.heap.size w6)
        obtain ⟨pe, hpe⟩ : ∃ pe, pe = prsE S6 := ⟨_, rfl⟩
        obtain ⟨he, hhe⟩ : ∃ he, he = headE S6 := ⟨_, rfl⟩
        obtain ⟨P, hPp⟩ : ∃ P, P = prsH S6 := ⟨_, rfl⟩
        obtain ⟨H, hHp⟩ : ∃ H, H = rdH S6 := ⟨_, rfl⟩
        obtain ⟨np, hnp⟩ : ∃ np, np = (prsB S6).length := ⟨_, rfl⟩
        obtain ⟨ns, hns⟩ : ∃ ns, ns = (sptL S6).length := ⟨_, rfl⟩
        rw [← hpe, ← hhe] at BP1 BP2
        have HPE := Lib.hid hpe; have HHE := Lib.hid hhe; have HPP := Lib.hid hPp; have HHP := Lib.hid hHp; have HNP := Lib.hid hnp; have HNS := Lib.hid hns
        clear hpe hhe hPp hHp hnp hns
        go_wp2_with fail
        have hP := prs_any opn_all (some ⟨E1, 0, none⟩) x1 S6 w6 HSX.out (by omega) (by omega) hcm1 (own_rl HOC.out)
        unfold PrsPost at hP
        rw [← HPE.out, ← HPP.out, hSl] at hP
        refine (hP).mono ?_
        rintro e w7 ⟨v, rfl, hO, hb⟩
        replace HF := Lib.hid (HF.out.trans (hb.mono HF.out.size))
        replace HA := Lib.hid (RLL.below HA.out hb)
        replace HZ3 := Lib.hid ((hb.block _ (Array.getElem?_eq_some_iff.1 HZ3.out).1).trans HZ3.out)
        replace HR1 := Lib.hid (RLL.below HR1.out hb)
        replace HOO1 := Lib.hid (HOO1.out.kept hb)
        replace HZ8 := Lib.hid ((hb.block _ (Array.getElem?_eq_some_iff.1 HZ8.out).1).trans HZ8.out)
        replace HOC := Lib.hid (HOC.out.kept hb)
        replace HK0 := Lib.hid (Cl.below HK0.out hb)
        replace HBWB := Lib.hid (HBWB.out.trans (hb.mono HBWB.out.size))
        obtain ⟨A9, c9, ev, _⟩ := hO.rd
        rw [← HNP.out] at ev
        subst ev
        clear hP hO
        clear hb
        go_wp2_with (refine wpList_storeNewS rfl (.tmp 17) (.tmp 106) rfl #[.int .u8 P.s0, .int .u8 P.s1, .int .u8 P.s2, .int .u8 P.s3, .int .u8 P.s4, .int .u8 P.s5, .int .u8 P.s6, .int .u8 P.s7, .int .i64 P.K, .int .i64 P.M, .int .i64 P.B, .string P.key, .int .i64 P.size, .int .i64 P.idx, .int .i64 P.ep, .int .i64 P.ct, .slice A9 np c9] rfl rfl rfl rfl rfl ?_; have hbn := (Below.refl w7.heap.size w7).alloc (Nat.le_refl _) (.cells #[.int .u8 P.s0, .int .u8 P.s1, .int .u8 P.s2, .int .u8 P.s3, .int .u8 P.s4, .int .u8 P.s5, .int .u8 P.s6, .int .u8 P.s7, .int .i64 P.K, .int .i64 P.M, .int .i64 P.B, .string P.key, .int .i64 P.size, .int .i64 P.idx, .int .i64 P.ep, .int .i64 P.ct, .slice A9 np c9] 46); replace HF := Lib.hid (HF.out.trans (hbn.mono HF.out.size)); replace HA := Lib.hid (RLL.below HA.out hbn); replace HZ3 := Lib.hid ((hbn.block _ (Array.getElem?_eq_some_iff.1 HZ3.out).1).trans HZ3.out); replace HR1 := Lib.hid (RLL.below HR1.out hbn); replace HOO1 := Lib.hid (HOO1.out.kept hbn); replace HZ8 := Lib.hid ((hbn.block _ (Array.getElem?_eq_some_iff.1 HZ8.out).1).trans HZ8.out); replace HOC := Lib.hid (HOC.out.kept hbn); replace HK0 := Lib.hid (Cl.below HK0.out hbn); replace HBWB := Lib.hid (HBWB.out.trans (hbn.mono HBWB.out.size)); have HZ17 := Lib.hid (heap_alloc_new w7 (.cells #[.int .u8 P.s0, .int .u8 P.s1, .int .u8 P.s2, .int .u8 P.s3, .int .u8 P.s4, .int .u8 P.s5, .int .u8 P.s6, .int .u8 P.s7, .int .i64 P.K, .int .i64 P.M, .int .i64 P.B, .string P.key, .int .i64 P.size, .int .i64 P.idx, .int .i64 P.ep, .int .i64 P.ct, .slice A9 np c9] 46)); clear hbn; generalize w7.alloc (.cells #[.int .u8 P.s0, .int .u8 P.s1, .int .u8 P.s2, .int .u8 P.s3, .int .u8 P.s4, .int .u8 P.s5, .int .u8 P.s6, .int .u8 P.s7, .int .i64 P.K, .int .i64 P.M, .int .i64 P.B, .string P.key, .int .i64 P.size, .int .i64 P.idx, .int .i64 P.ep, .int .i64 P.ct, .slice A9 np c9] 46) = w8 at *)
        have hP := ph_any opn_all (some ⟨E1, 0, none⟩) x1 S6 w8 HSX.out (by omega) (by omega) hcm1 (own_rl HOC.out)
        unfold RphPost at hP
        rw [← HHP.out, ← HHE.out, hSl] at hP
        refine (hP).mono ?_
        rintro e w9 ⟨rfl, hb⟩
        replace HF := Lib.hid (HF.out.trans (hb.mono HF.out.size))
        replace HA := Lib.hid (RLL.below HA.out hb)
        replace HZ3 := Lib.hid ((hb.block _ (Array.getElem?_eq_some_iff.1 HZ3.out).1).trans HZ3.out)
        replace HR1 := Lib.hid (RLL.below HR1.out hb)
        replace HOO1 := Lib.hid (HOO1.out.kept hb)
        replace HZ8 := Lib.hid ((hb.block _ (Array.getElem?_eq_some_iff.1 HZ8.out).1).trans HZ8.out)
        replace HOC := Lib.hid (HOC.out.kept hb)
        replace HK0 := Lib.hid (Cl.below HK0.out hb)
        replace HBWB := Lib.hid (HBWB.out.trans (hb.mono HBWB.out.size))
        replace HZ17 := Lib.hid ((hb.block _ (Array.getElem?_eq_some_iff.1 HZ17.out).1).trans HZ17.out)
        clear hP
        clear hb
        go_wp2_with (refine wpList_storeNewH rfl (.tmp 19) (.tmp 111) rfl #[.int .u8 H.s0, .int .u8 H.s1, .int .u8 H.s2, .int .u8 H.s3, .int .u8 H.s4, .int .u8 H.s5, .int .u8 H.s6, .int .u8 H.s7, .int .i64 H.K, .int .i64 H.M, .int .i64 H.B, .string H.key, .int .i64 H.size, .int .i64 H.idx, .int .i64 H.ep, .int .i64 H.ct] rfl rfl rfl rfl rfl ?_; have hbn := (Below.refl w9.heap.size w9).alloc (Nat.le_refl _) (.cells #[.int .u8 H.s0, .int .u8 H.s1, .int .u8 H.s2, .int .u8 H.s3, .int .u8 H.s4, .int .u8 H.s5, .int .u8 H.s6, .int .u8 H.s7, .int .i64 H.K, .int .i64 H.M, .int .i64 H.B, .string H.key, .int .i64 H.size, .int .i64 H.idx, .int .i64 H.ep, .int .i64 H.ct] 28); replace HF := Lib.hid (HF.out.trans (hbn.mono HF.out.size)); replace HA := Lib.hid (RLL.below HA.out hbn); replace HZ3 := Lib.hid ((hbn.block _ (Array.getElem?_eq_some_iff.1 HZ3.out).1).trans HZ3.out); replace HR1 := Lib.hid (RLL.below HR1.out hbn); replace HOO1 := Lib.hid (HOO1.out.kept hbn); replace HZ8 := Lib.hid ((hbn.block _ (Array.getElem?_eq_some_iff.1 HZ8.out).1).trans HZ8.out); replace HOC := Lib.hid (HOC.out.kept hbn); replace HK0 := Lib.hid (Cl.below HK0.out hbn); replace HBWB := Lib.hid (HBWB.out.trans (hbn.mono HBWB.out.size)); replace HZ17 := Lib.hid ((hbn.block _ (Array.getElem?_eq_some_iff.1 HZ17.out).1).trans HZ17.out); have HZ19 := Lib.hid (heap_alloc_new w9 (.cells #[.int .u8 H.s0, .int .u8 H.s1, .int .u8 H.s2, .int .u8 H.s3, .int .u8 H.s4, .int .u8 H.s5, .int .u8 H.s6, .int .u8 H.s7, .int .i64 H.K, .int .i64 H.M, .int .i64 H.B, .string H.key, .int .i64 H.size, .int .i64 H.idx, .int .i64 H.ep, .int .i64 H.ct] 28)); clear hbn; generalize w9.alloc (.cells #[.int .u8 H.s0, .int .u8 H.s1, .int .u8 H.s2, .int .u8 H.s3, .int .u8 H.s4, .int .u8 H.s5, .int .u8 H.s6, .int .u8 H.s7, .int .i64 H.K, .int .i64 H.M, .int .i64 H.B, .string H.key, .int .i64 H.size, .int .i64 H.idx, .int .i64 H.ep, .int .i64 H.ct] 28) = w10 at *)
        have hP := spt_any opn_all (some ⟨E1, 0, none⟩) x1 S6 w10 HSX.out (by omega) (by omega) hcm1 (own_rl HOC.out)
        unfold SptPost at hP
        rw [← HHE.out, hSl] at hP
        refine (hP).mono ?_
        rintro e w11 ⟨v, rfl, hO, hb⟩
        replace HF := Lib.hid (HF.out.trans (hb.mono HF.out.size))
        replace HA := Lib.hid (RLL.below HA.out hb)
        replace HZ3 := Lib.hid ((hb.block _ (Array.getElem?_eq_some_iff.1 HZ3.out).1).trans HZ3.out)
        replace HR1 := Lib.hid (RLL.below HR1.out hb)
        replace HOO1 := Lib.hid (HOO1.out.kept hb)
        replace HZ8 := Lib.hid ((hb.block _ (Array.getElem?_eq_some_iff.1 HZ8.out).1).trans HZ8.out)
        replace HOC := Lib.hid (HOC.out.kept hb)
        replace HK0 := Lib.hid (Cl.below HK0.out hb)
        replace HBWB := Lib.hid (HBWB.out.trans (hb.mono HBWB.out.size))
        replace HZ17 := Lib.hid ((hb.block _ (Array.getElem?_eq_some_iff.1 HZ17.out).1).trans HZ17.out)
        replace HZ19 := Lib.hid ((hb.block _ (Array.getElem?_eq_some_iff.1 HZ19.out).1).trans HZ19.out)
        obtain ⟨A8, c8, ev, hnc, _, hr, _⟩ := Own.rd hO
        rw [← HNS.out] at ev
        subst ev
        have HR8 := Lib.hid hr
        clear hP hO hr hnc
        clear hb
        have hp0 : (pe == 0) = false := by
          rw [beq_eq_false_iff_ne]
          by_cases hs : still pat bit 0 o0
          · rw [(BP2.out hs).2.1]; decide
          · exact (BP1.out hs).2
        have hk0 := HK0.out.2
        go_wp2_with fail
        refine (num_any pe w11).mono ?_
        rintro e wn ⟨rfl, rfl⟩
        go_wp2_with fail
        clear hk0
        have hT := turned_any pat bit 0 o0 w11 hpat hbl (by omega) (by omega)
        rw [Nat.zero_add] at hT
        refine hT.mono ?_
        rintro e wn ⟨rfl, he0⟩
        replace he0 := he0.symm
        subst he0
        clear hT
        by_cases hst : still pat bit 0 o0
        · have hd : (!decide (still pat bit 0 o0)) = false := by rw [decide_eq_true hst]; rfl
          obtain ⟨t1, t2, t3⟩ := BP2.out hst
          obtain rfl : he = 0 := t1
          obtain rfl : pe = 82 := t2
          have HTS := Lib.hid hst
          have HSP := Lib.hid (show sptL S6 = badL S6 FL1.length by unfold sptL; rw [if_pos HHE.out.symm, t3, ← HFF1.out.1])
          clear hst t3 hp0
          obtain ⟨n, hnn⟩ : ∃ n, n = FL1.length := ⟨_, rfl⟩
          have hn4 : n ≤ 4096 := by omega
          have hN1n : N1 ≤ n + 1 := by omega
          have hN2n : n + 1 ≤ N1 := by omega
          rw [← hnn] at HSP
          have HNN := Lib.hid hnn
          clear hnn
          have HBS := Lib.hid (Below.refl w11.heap.size w11)
          go_wp2
          clear hd
          go_loopg [23, 24] n (fun gk v t24 wr => ∃ k : Nat, k ≤ n ∧ gk = n - k ∧ t24 = .int .i64 k ∧ OwnI wr w11.heap.size v (badL S6 k) ∧ Below w11.heap.size w11 wr)
          case atStart => exact ⟨0, Nat.zero_le _, rfl, rfl, OwnI.nil _ _, HBS.out⟩
          case round =>
            clear HBS
            obtain ⟨k, hk, rfl, rfl, hov, hbr⟩ := hrel
            have HOV := Lib.hid hov
            have HBR := Lib.hid hbr
            clear hov hbr
            have HZ := Lib.hid ((HBR.out.block _ (Array.getElem?_eq_some_iff.1 HZ8.out).1).trans HZ8.out)
            obtain ⟨_, _, _, _, _, _, _, _, _, _, _, _, _, _, _, _, c16⟩ := cells_ofS HZ.out
            rw [← HNN.out] at c16
            by_cases hlt : k < n
            · have hkn : (k : Int) < (n : Int) := by omega
              have hk0 : (0 : Int) ≤ (k : Int) := by omega
              have hkN : (k : Int) < (N1 : Int) := by omega
              obtain ⟨k1, hk1⟩ : ∃ k1, k1 = k + 1 := ⟨_, rfl⟩
              have hw1 : IntKind.i64.wrap ((k : Int) + 1) = (k1 : Int) := by rw [IntKind.wrap_i64]; omega
              have hk10 : (0 : Int) ≤ (k1 : Int) := by omega
              have hk1N : (k1 : Int) < (N1 : Int) := by omega
              have hA := HCA.out wr (HBWB.out.trans (HBR.out.mono HBWB.out.size))
              have ca := hA k (by rw [← HNN.out]; omega)
              have cb := hA k1 (by rw [← HNN.out]; omega)
              obtain ⟨o, ho⟩ : ∃ o, o = offF h k := ⟨_, rfl⟩
              obtain ⟨o1, ho1⟩ : ∃ o1, o1 = offF h k1 := ⟨_, rfl⟩
              rw [← ho] at ca
              rw [← ho1] at cb
              have hoo : o1 = o + (lenF h k + 4) := by rw [ho1, hk1, offF_next, ho]; omega
              have hob2 : o1 ≤ 300000000 := by rw [ho1]; have := HOL.out k1; omega
              have HT := Lib.hid (fun w' => show Calls Try.prog 39 #[.int .i64 (o : Int), .int .i64 (o1 : Int), .int .i64 (bit : Int), .int .u32 (pat : Int)] w' fun e w'' => e = .returned (.bool (!decide (still pat bit o (lenF h k + 4)))) ∧ w'' = w' by
                rw [hoo]; exact turned_any pat bit o (lenF h k + 4) w' hpat hbl (by omega) (by omega))
              have HBF := Lib.hid (show badF S6 k = decide (¬ still pat bit o (lenF h k + 4)) by rw [ho]; exact HBB.out k (by rw [← HNN.out]; exact hlt) HTS.out)
              have HK1 := Lib.hid hk1
              obtain ⟨ln, hlnn⟩ : ∃ ln, ln = lenF h k + 4 := ⟨_, rfl⟩
              rw [← hlnn] at HT HBF
              clear hA ho ho1 hoo hk1 hlnn
              go_wp2
              go_quiet ((go_at_call 39; exact Calls.quiet_of_same (HT.out _)))
              have HOV := Lib.hid (HOV.out.kept (((Dr.refl wr).drewN nq).below wr.heap.size))
              have HBR := Lib.hid (((Dr.refl wr).drewN nq).below' HBR.out)
              clear ca cb c16 HZ
              generalize wr.drewN nq = wa at *
              have hsr := HBR.out.size
              by_cases hst : still pat bit o ln
              · have hd : (!decide (still pat bit o ln)) = false := by rw [decide_eq_true hst]; rfl
                have hbf : badF S6 k = false := by rw [HBF.out]; simp [hst]
                have HON := Lib.hid (show OwnI wa w11.heap.size u23 (badL S6 (k + 1)) by rw [badL_no hbf]; exact HOV.out)
                have hd2 : decide (still pat bit o ln) = true := decide_eq_true hst
                clear hbf
                simp only [hd]
                go_wp2
                go_roundg (n - (k + 1))
                case measure => omega
                case rel => exact ⟨k + 1, by omega, rfl, by have := HK1.out; go_num, HON.out, HBR.out⟩
              · have hd : (!decide (still pat bit o ln)) = true := by rw [decide_eq_false hst]; rfl
                have hbf : badF S6 k = true := by rw [HBF.out]; simp [hst]
                have hbl2 := badL_length S6 k
                have HP := Lib.hid (show Own wa w11.heap.size 3 1 u23 (badL S6 k).length (fun i => [.int .i64 (((badL S6 (k + 1)).getD i 0 : Nat) : Int)]) from Own.congr HOV.out fun i hi => by rw [badL_yes hbf, getD_app_l hi])
                have HU := Lib.hid (show (#[Value.int .i64 (k : Int)] : Array Value).toList = [.int .i64 (((badL S6 (k + 1)).getD (badL S6 k).length 0 : Nat) : Int)] by rw [badL_yes hbf, getD_app_r])
                have HBY := Lib.hid (badL_yes hbf)
                have hd2 : decide (still pat bit o ln) = false := decide_eq_false hst
                clear hbf
                simp only [hd]
                go_wp2_with (at_builtin; refine wpList_push wa rfl (.tmp 154) (.tmp 156) 30 rfl w11.heap.size 3 1 8 (.int .i64 0) #[.int .i64 (k : Int)] Try.underlying30 intInfo rfl (by decide) u23 (badL S6 k).length _ rfl HP.out hsr _ rfl rfl HU.out rfl rfl (by omega) (by omega) ?_)
                intro v' w' hown hb' hg hat
                have HON := Lib.hid (show OwnI w' w11.heap.size v' (badL S6 (k + 1)) by unfold OwnI; rw [HBY.out, List.length_append]; rw [HBY.out] at hown; exact hown)
                have HBN := Lib.hid (HBR.out.trans hb')
                clear hown hb' hg hat HP HU
                go_wp2
                go_roundg (n - (k + 1))
                case measure => omega
                case rel => exact ⟨k + 1, by omega, rfl, by have := HK1.out; go_num, HON.out, HBN.out⟩
            · obtain rfl : k = n := by omega
              have hb := HBR.out
              replace HF := Lib.hid (HF.out.trans (hb.mono HF.out.size))
              replace HA := Lib.hid (RLL.below HA.out hb)
              replace HZ3 := Lib.hid ((hb.block _ (Array.getElem?_eq_some_iff.1 HZ3.out).1).trans HZ3.out)
              replace HR1 := Lib.hid (RLL.below HR1.out hb)
              replace HOO1 := Lib.hid (HOO1.out.kept hb)
              replace HZ8 := Lib.hid ((hb.block _ (Array.getElem?_eq_some_iff.1 HZ8.out).1).trans HZ8.out)
              replace HOC := Lib.hid (HOC.out.kept hb)
              replace HK0 := Lib.hid (Cl.below HK0.out hb)
              replace HBWB := Lib.hid (HBWB.out.trans (hb.mono HBWB.out.size))
              replace HZ17 := Lib.hid ((hb.block _ (Array.getElem?_eq_some_iff.1 HZ17.out).1).trans HZ17.out)
              replace HZ19 := Lib.hid ((hb.block _ (Array.getElem?_eq_some_iff.1 HZ19.out).1).trans HZ19.out)
              replace HR8 := Lib.hid (Rd.below HR8.out hb)
              clear hb
              obtain ⟨Aw, cw, ev, _, _, hrw, _⟩ := Own.rd HOV.out
              have HRW := Lib.hid hrw
              obtain ⟨nb, hnb⟩ : ∃ nb, nb = (badL S6 k).length := ⟨_, rfl⟩
              have hnn : ns = nb := by rw [HNS.out, HSP.out, hnb]
              have hnb4 : nb ≤ 4096 := by have := badL_length S6 k; omega
              rw [← hnb] at ev HRW
              subst ev
              rw [HSP.out, ← hnb] at HR8
              subst hnn
              clear hrw hnb
              go_wp2_with fail
              refine (num_any 82 wr).mono ?_
              rintro e wn ⟨rfl, rfl⟩
              go_wp2_with fail
              refine (num_any 0 wr).mono ?_
              rintro e wn ⟨rfl, rfl⟩
              go_wp2_with fail
              refine (num_any 0 wr).mono ?_
              rintro e wn ⟨rfl, rfl⟩
              go_wp2_with fail
              refine (sameInts_any A8 Aw ns c8 cw (fun i => (((badL S6 k).getD i 0 : Nat) : Int)) _ (by omega) HR8.out HRW.out).mono ?_
              rintro e w9 ⟨rfl, hd⟩
              have HF := Lib.hid (hd.below' HF.out)
              clear hd
              go_wp2
              go_ret
              exact ⟨rfl, HF.out⟩
        · have hd : (!decide (still pat bit 0 o0)) = true := by rw [decide_eq_false hst]; rfl
          have hne : (he != 0) = true := by rw [bne_iff_ne]; exact (BP1.out hst).1
          clear hst
          go_wp2_with fail
          refine (num_any he w11).mono ?_
          rintro e wn ⟨rfl, rfl⟩
          go_wp2_with fail
          refine (num_any he w11).mono ?_
          rintro e wn ⟨rfl, rfl⟩
          go_wp2
          go_ret
          exact ⟨rfl, HF.out⟩
  · obtain ⟨bit, rfl⟩ : ∃ bit : Nat, r = (bit : Int) := ⟨r.toNat, by omega⟩
    have hbl : bit ≤ 10000000000 := by omega
    go_wp2_with fail
    have hT := turned_any pat bit 0 l1.length w5 hpat hbl (by omega) (by omega)
    rw [Nat.zero_add] at hT
    refine hT.mono ?_
    rintro e wn ⟨rfl, he⟩
    replace he := he.symm
    subst he
    clear hT
    by_cases hst : still pat bit 0 l1.length
    · have hd : (!decide (still pat bit 0 l1.length)) = false := by rw [decide_eq_true hst]; rfl
      go_wp2
      go_ret
      exact ⟨rfl, HF.out⟩
    have hd : (!decide (still pat bit 0 l1.length)) = true := by rw [decide_eq_false hst]; rfl
    have HST := Lib.hid hst
    clear hst
    have HOC0 := Lib.hid (show OwnB w5 w4.heap.size (.slice (some ⟨E1, 0, none⟩) l1.length x1) (burst l1 (pat % 2 ^ 0) bit) by rw [Nat.pow_zero, Nat.mod_one, burst_zero]; exact OB1.out)
    have HBW0 := Lib.hid (Below.refl w4.heap.size w5)
    go_wp2
    clear hd
    go_loopg [14, 15] 32 (fun gk t14 _ wr => ∃ k : Nat, k ≤ 32 ∧ gk = 32 - k ∧ t14 = .int .i64 k ∧ OwnB wr w4.heap.size (.slice (some ⟨E1, 0, none⟩) l1.length x1) (burst l1 (pat % 2 ^ k) bit) ∧ Below w4.heap.size w5 wr)
    case atStart => exact ⟨0, Nat.zero_le _, rfl, rfl, HOC0.out, HBW0.out⟩
    case round =>
      clear HOC0 HBW0
      obtain ⟨k, hk, rfl, rfl, hoc, hbw⟩ := hrel
      have HOC := Lib.hid hoc; have HBW := Lib.hid hbw
      clear hoc hbw
      by_cases hlt : k < 32
      · have hk32 : (k : Int) < 32 := by omega
        have hk0 : (0 : Int) ≤ (k : Int) := by omega
        have hcv : IntKind.u64.wrap (k : Int) = (k : Int) := by rw [IntKind.wrap_u64]; omega
        obtain ⟨s, hs⟩ : ∃ s, s = bit + k := ⟨_, rfl⟩
        have hw1 : IntKind.i64.wrap ((bit : Int) + (k : Int)) = (s : Int) := by rw [IntKind.wrap_i64]; omega
        have hsl : s ≤ 10000000100 := by omega
        have hand : bits .and .u32 ((pat : Int) / 2 ^ k) 1 = ((pat / 2 ^ k % 2 : Nat) : Int) := by
          rw [show ((pat : Int) / 2 ^ k) = ((pat / 2 ^ k : Nat) : Int) by rw [Int.natCast_ediv, Int.natCast_pow]; rfl, show (1 : Int) = ((1 : Nat) : Int) from rfl, u32_and_nat _ 1 (Nat.lt_of_le_of_lt (Nat.div_le_self _ _) hpat) (by decide), Nat.and_one_is_mod]
        have HSE := Lib.hid hs
        clear hs
        have HSK := Lib.hid (fun (hq : pat / 2 ^ k % 2 = 0 ∨ l1.length ≤ s / 8) => (show burst l1 (pat % 2 ^ (k + 1)) bit = burst l1 (pat % 2 ^ k) bit from burst_skip (by rw [← HSE.out]; exact hq)))
        by_cases h1 : pat / 2 ^ k % 2 = 1
        · rw [h1] at hand
          replace hand : bits .and .u32 ((pat : Int) / 2 ^ k) 1 = 1 := hand
          by_cases h2 : s / 8 < l1.length
          · obtain ⟨p, hp⟩ : ∃ p, p = s / 8 := ⟨_, rfl⟩
            have hp' : (s : Int) / 8 = (p : Int) := by omega
            rw [← hp] at h2
            have h2' : (p : Int) < (l1.length : Int) := by omega
            have hp0 : (0 : Int) ≤ (p : Int) := by omega
            have HMO := Lib.hid (show (burst l1 (pat % 2 ^ k) bit).set p ((burst l1 (pat % 2 ^ k) bit).getD p 0 ^^^ 2 ^ (s % 8)) = burst l1 (pat % 2 ^ (k + 1)) bit by
              rw [hp, HSE.out]; exact burst_more h1 (by rw [← HSE.out, ← hp]; exact h2))
            have hbln := burst_length l1 (pat % 2 ^ k) bit
            obtain ⟨ca, cb⟩ := own_cell HOC.out hbln.symm (i := p) (by rw [hbln]; exact h2)
            obtain ⟨x, hx⟩ : ∃ x, x = (burst l1 (pat % 2 ^ k) bit).getD p 0 := ⟨_, rfl⟩
            have hx256 : x < 256 := by rw [hx]; exact getD_256 (burst_lt HB1.out) p
            rw [← hx] at ca HMO
            obtain ⟨y, hy⟩ : ∃ y, y = x ^^^ 2 ^ (s % 8) := ⟨_, rfl⟩
            have hxor : bits .xor .u8 (x : Int) ((2 : Int) ^ (s % 8) % 256) = (y : Int) := by
              rw [hy]; exact xor_bit x s hx256
            rw [← hy] at HMO
            have HON := Lib.hid (show OwnB (wr.setCell ⟨E1, p, none⟩ (.int .u8 (y : Int))) w4.heap.size (.slice (some ⟨E1, 0, none⟩) l1.length x1) (burst l1 (pat % 2 ^ (k + 1)) bit) by rw [← HMO.out]; exact OwnB.set HOC.out hbln.symm h2 y)
            have HBN := Lib.hid (HBW.out.setCell (p := ⟨E1, p, none⟩) hBg1 (.int .u8 (y : Int)))
            clear hp hx h1 HOC HBW HMO HSK hy
            go_wp2
            go_roundg (32 - (k + 1))
            case measure => omega
            case rel => exact ⟨k + 1, by omega, rfl, by go_num, HON.out, HBN.out⟩
          · have h2' : ¬ (s : Int) / 8 < (l1.length : Int) := by omega
            have hsk := HSK.out (.inr (by omega))
            have HON := Lib.hid (show OwnB wr w4.heap.size (.slice (some ⟨E1, 0, none⟩) l1.length x1) (burst l1 (pat % 2 ^ (k + 1)) bit) by rw [hsk]; exact HOC.out)
            clear h1 h2 hsk
            go_wp2
            go_roundg (32 - (k + 1))
            case measure => omega
            case rel => exact ⟨k + 1, by omega, rfl, by go_num, HON.out, HBW.out⟩
        · have h0 : pat / 2 ^ k % 2 = 0 := by omega
          rw [h0] at hand
          replace hand : bits .and .u32 ((pat : Int) / 2 ^ k) 1 = 0 := hand
          have hsk := HSK.out (.inl h0)
          have HON := Lib.hid (show OwnB wr w4.heap.size (.slice (some ⟨E1, 0, none⟩) l1.length x1) (burst l1 (pat % 2 ^ (k + 1)) bit) by rw [hsk]; exact HOC.out)
          clear h1 h0 hsk
          go_wp2
          go_roundg (32 - (k + 1))
          case measure => omega
          case rel => exact ⟨k + 1, by omega, rfl, by go_num, HON.out, HBW.out⟩
      · obtain rfl : k = 32 := by omega
        have hb := HB45.out.trans HBW.out
        replace HF := Lib.hid (SNHF.out.trans (hb.mono SNHF.out.size))
        replace HA := Lib.hid (RLL.below SNHA.out hb)
        replace HZ3 := Lib.hid ((hb.block _ (Array.getElem?_eq_some_iff.1 SNHZ3.out).1).trans SNHZ3.out)
        replace HR1 := Lib.hid (RLL.below SNHR1.out hb)
        replace HOO1 := Lib.hid (SNHOO1.out.kept hb)
        replace HZ8 := Lib.hid ((hb.block _ (Array.getElem?_eq_some_iff.1 SNHZ8.out).1).trans SNHZ8.out)
        clear SNHF SNHA SNHZ3 SNHR1 SNHOO1 SNHZ8
        obtain ⟨S6, hS6⟩ : ∃ S6, S6 = burst l1 pat bit := ⟨_, rfl⟩
        have hpm : pat % 2 ^ 32 = pat := Nat.mod_eq_of_lt hpat
        rw [hpm, ← hS6] at HOC
        have hSl : S6.length = l1.length := by rw [hS6, burst_length]
        have HSX := Lib.hid (show ∀ x ∈ S6, x < 256 from hS6 ▸ burst_lt HB1.out)
        obtain ⟨bp1, bp2⟩ := burst_prs (bit := bit) HBD.out HE1.out HFF1.out HX1.out hpat (by rw [← HL1.out]; exact HST.out)
        rw [← HL1.out, ← hS6] at bp1 bp2
        have HBB := Lib.hid (fun (k : Nat) (hk : k < FL1.length) (hs : still pat bit 0 (offF h 0)) => burst_bad HBD.out HE1.out HFF1.out HX1.out hpat hs hk)
        rw [← HL1.out, ← hS6] at HBB
        have BP1 := Lib.hid bp1; have BP2 := Lib.hid bp2
        clear hS6 hpm bp1 bp2 hb HBW HB45
        go_wp2_with (refine wpList_loadS rfl (.tmp 8) rfl (w3.heap.size) rfl #[.int .u8 h.s0, .int .u8 h.s1, .int .u8 h.s2, .int .u8 h.s3, .int .u8 h.s4, .int .u8 h.s5, .int .u8 h.s6, .int .u8 h.s7, .int .i64 h.K, .int .i64 h.M, .int .i64 h.B, .string h.key, .int .i64 h.size, .int .i64 h.idx, .int .i64 h.ep, .int .i64 h.ct, .slice F1 FL1.length d1] rfl HZ8.out ?_)
        refine (begins_any h F1 d1 FL1 _ HE1.out HFF1.out HR1.out).mono ?_
        rintro e w6 ⟨v, rfl, hO, hb⟩
        replace HF := Lib.hid (HF.out.trans (hb.mono HF.out.size))
        replace HA := Lib.hid (RLL.below HA.out hb)
        replace HZ3 := Lib.hid ((hb.block _ (Array.getElem?_eq_some_iff.1 HZ3.out).1).trans HZ3.out)
        replace HR1 := Lib.hid (RLL.below HR1.out hb)
        replace HOO1 := Lib.hid (HOO1.out.kept hb)
        replace HZ8 := Lib.hid ((hb.block _ (Array.getElem?_eq_some_iff.1 HZ8.out).1).trans HZ8.out)
        replace HOC := Lib.hid (HOC.out.kept hb)
        obtain ⟨gB, cB, rfl, hgB1, hgB2, hcB, -⟩ := Own.form hO (by rw [offL_length]; omega)
        obtain ⟨N1, hN1⟩ : ∃ N1, N1 = (offL h FL1.length).length := ⟨_, rfl⟩
        rw [← hN1] at hcB ⊢
        have hN1' : N1 ≤ FL1.length + 1 := by rw [hN1, offL_length]; exact Nat.le_refl _
        have hN2' : FL1.length + 1 ≤ N1 := by rw [hN1, offL_length]; exact Nat.le_refl _
        have HCL := Lib.hid (fun (i : Nat) (hi : i ≤ FL1.length) => (show Cl w6 ⟨gB, i, none⟩ (.int .i64 ((offF h i : Nat) : Int)) from ⟨hgB2, by have := Own.cell1 hO (i := i) (by rw [offL_length]; omega); rw [offL_get hi] at this; exact this⟩))
        clear hO hN1
        clear hb
        obtain ⟨o0, ho0⟩ : ∃ o0, o0 = offF h 0 := ⟨_, rfl⟩
        have K0 := HCL.out 0 (by omega)
        rw [← ho0] at K0 BP1 BP2 HBB
        have HK0 := Lib.hid K0
        have hol := fun k => offF_le2 (h := h) (k := k) HE1.out
        have hob : o0 ≤ 300 := by rw [ho0]; have := hol 0; omega
        have hN0 : (0 : Int) < (N1 : Int) := by omega
        have HOL := Lib.hid hol
        have HO0 := Lib.hid ho0
        clear hol ho0 K0
        have HCA := Lib.hid (fun (w' : World) (hb : Below w6.heap.size w6 w') (i : Nat) (hi : i ≤ FL1.length) => ((HCL.out i hi).below hb).2)
        clear HCL
        have HBWB := Lib.hid (Below.refl w6.heap.size w6)
        obtain ⟨pe, hpe⟩ : ∃ pe, pe = prsE S6 := ⟨_, rfl⟩
        obtain ⟨he, hhe⟩ : ∃ he, he = headE S6 := ⟨_, rfl⟩
        obtain ⟨P, hPp⟩ : ∃ P, P = prsH S6 := ⟨_, rfl⟩
        obtain ⟨H, hHp⟩ : ∃ H, H = rdH S6 := ⟨_, rfl⟩
        obtain ⟨np, hnp⟩ : ∃ np, np = (prsB S6).length := ⟨_, rfl⟩
        obtain ⟨ns, hns⟩ : ∃ ns, ns = (sptL S6).length := ⟨_, rfl⟩
        rw [← hpe, ← hhe] at BP1 BP2
        have HPE := Lib.hid hpe; have HHE := Lib.hid hhe; have HPP := Lib.hid hPp; have HHP := Lib.hid hHp; have HNP := Lib.hid hnp; have HNS := Lib.hid hns
        clear hpe hhe hPp hHp hnp hns
        go_wp2_with fail
        have hP := prs_any opn_all (some ⟨E1, 0, none⟩) x1 S6 w6 HSX.out (by omega) (by omega) hcm1 (own_rl HOC.out)
        unfold PrsPost at hP
        rw [← HPE.out, ← HPP.out, hSl] at hP
        refine (hP).mono ?_
        rintro e w7 ⟨v, rfl, hO, hb⟩
        replace HF := Lib.hid (HF.out.trans (hb.mono HF.out.size))
        replace HA := Lib.hid (RLL.below HA.out hb)
        replace HZ3 := Lib.hid ((hb.block _ (Array.getElem?_eq_some_iff.1 HZ3.out).1).trans HZ3.out)
        replace HR1 := Lib.hid (RLL.below HR1.out hb)
        replace HOO1 := Lib.hid (HOO1.out.kept hb)
        replace HZ8 := Lib.hid ((hb.block _ (Array.getElem?_eq_some_iff.1 HZ8.out).1).trans HZ8.out)
        replace HOC := Lib.hid (HOC.out.kept hb)
        replace HK0 := Lib.hid (Cl.below HK0.out hb)
        replace HBWB := Lib.hid (HBWB.out.trans (hb.mono HBWB.out.size))
        obtain ⟨A9, c9, ev, _⟩ := hO.rd
        rw [← HNP.out] at ev
        subst ev
        clear hP hO
        clear hb
        go_wp2_with (refine wpList_storeNewS rfl (.tmp 17) (.tmp 106) rfl #[.int .u8 P.s0, .int .u8 P.s1, .int .u8 P.s2, .int .u8 P.s3, .int .u8 P.s4, .int .u8 P.s5, .int .u8 P.s6, .int .u8 P.s7, .int .i64 P.K, .int .i64 P.M, .int .i64 P.B, .string P.key, .int .i64 P.size, .int .i64 P.idx, .int .i64 P.ep, .int .i64 P.ct, .slice A9 np c9] rfl rfl rfl rfl rfl ?_; have hbn := (Below.refl w7.heap.size w7).alloc (Nat.le_refl _) (.cells #[.int .u8 P.s0, .int .u8 P.s1, .int .u8 P.s2, .int .u8 P.s3, .int .u8 P.s4, .int .u8 P.s5, .int .u8 P.s6, .int .u8 P.s7, .int .i64 P.K, .int .i64 P.M, .int .i64 P.B, .string P.key, .int .i64 P.size, .int .i64 P.idx, .int .i64 P.ep, .int .i64 P.ct, .slice A9 np c9] 46); replace HF := Lib.hid (HF.out.trans (hbn.mono HF.out.size)); replace HA := Lib.hid (RLL.below HA.out hbn); replace HZ3 := Lib.hid ((hbn.block _ (Array.getElem?_eq_some_iff.1 HZ3.out).1).trans HZ3.out); replace HR1 := Lib.hid (RLL.below HR1.out hbn); replace HOO1 := Lib.hid (HOO1.out.kept hbn); replace HZ8 := Lib.hid ((hbn.block _ (Array.getElem?_eq_some_iff.1 HZ8.out).1).trans HZ8.out); replace HOC := Lib.hid (HOC.out.kept hbn); replace HK0 := Lib.hid (Cl.below HK0.out hbn); replace HBWB := Lib.hid (HBWB.out.trans (hbn.mono HBWB.out.size)); have HZ17 := Lib.hid (heap_alloc_new w7 (.cells #[.int .u8 P.s0, .int .u8 P.s1, .int .u8 P.s2, .int .u8 P.s3, .int .u8 P.s4, .int .u8 P.s5, .int .u8 P.s6, .int .u8 P.s7, .int .i64 P.K, .int .i64 P.M, .int .i64 P.B, .string P.key, .int .i64 P.size, .int .i64 P.idx, .int .i64 P.ep, .int .i64 P.ct, .slice A9 np c9] 46)); clear hbn; generalize w7.alloc (.cells #[.int .u8 P.s0, .int .u8 P.s1, .int .u8 P.s2, .int .u8 P.s3, .int .u8 P.s4, .int .u8 P.s5, .int .u8 P.s6, .int .u8 P.s7, .int .i64 P.K, .int .i64 P.M, .int .i64 P.B, .string P.key, .int .i64 P.size, .int .i64 P.idx, .int .i64 P.ep, .int .i64 P.ct, .slice A9 np c9] 46) = w8 at *)
        have hP := ph_any opn_all (some ⟨E1, 0, none⟩) x1 S6 w8 HSX.out (by omega) (by omega) hcm1 (own_rl HOC.out)
        unfold RphPost at hP
        rw [← HHP.out, ← HHE.out, hSl] at hP
        refine (hP).mono ?_
        rintro e w9 ⟨rfl, hb⟩
        replace HF := Lib.hid (HF.out.trans (hb.mono HF.out.size))
        replace HA := Lib.hid (RLL.below HA.out hb)
        replace HZ3 := Lib.hid ((hb.block _ (Array.getElem?_eq_some_iff.1 HZ3.out).1).trans HZ3.out)
        replace HR1 := Lib.hid (RLL.below HR1.out hb)
        replace HOO1 := Lib.hid (HOO1.out.kept hb)
        replace HZ8 := Lib.hid ((hb.block _ (Array.getElem?_eq_some_iff.1 HZ8.out).1).trans HZ8.out)
        replace HOC := Lib.hid (HOC.out.kept hb)
        replace HK0 := Lib.hid (Cl.below HK0.out hb)
        replace HBWB := Lib.hid (HBWB.out.trans (hb.mono HBWB.out.size))
        replace HZ17 := Lib.hid ((hb.block _ (Array.getElem?_eq_some_iff.1 HZ17.out).1).trans HZ17.out)
        clear hP
        clear hb
        go_wp2_with (refine wpList_storeNewH rfl (.tmp 19) (.tmp 111) rfl #[.int .u8 H.s0, .int .u8 H.s1, .int .u8 H.s2, .int .u8 H.s3, .int .u8 H.s4, .int .u8 H.s5, .int .u8 H.s6, .int .u8 H.s7, .int .i64 H.K, .int .i64 H.M, .int .i64 H.B, .string H.key, .int .i64 H.size, .int .i64 H.idx, .int .i64 H.ep, .int .i64 H.ct] rfl rfl rfl rfl rfl ?_; have hbn := (Below.refl w9.heap.size w9).alloc (Nat.le_refl _) (.cells #[.int .u8 H.s0, .int .u8 H.s1, .int .u8 H.s2, .int .u8 H.s3, .int .u8 H.s4, .int .u8 H.s5, .int .u8 H.s6, .int .u8 H.s7, .int .i64 H.K, .int .i64 H.M, .int .i64 H.B, .string H.key, .int .i64 H.size, .int .i64 H.idx, .int .i64 H.ep, .int .i64 H.ct] 28); replace HF := Lib.hid (HF.out.trans (hbn.mono HF.out.size)); replace HA := Lib.hid (RLL.below HA.out hbn); replace HZ3 := Lib.hid ((hbn.block _ (Array.getElem?_eq_some_iff.1 HZ3.out).1).trans HZ3.out); replace HR1 := Lib.hid (RLL.below HR1.out hbn); replace HOO1 := Lib.hid (HOO1.out.kept hbn); replace HZ8 := Lib.hid ((hbn.block _ (Array.getElem?_eq_some_iff.1 HZ8.out).1).trans HZ8.out); replace HOC := Lib.hid (HOC.out.kept hbn); replace HK0 := Lib.hid (Cl.below HK0.out hbn); replace HBWB := Lib.hid (HBWB.out.trans (hbn.mono HBWB.out.size)); replace HZ17 := Lib.hid ((hbn.block _ (Array.getElem?_eq_some_iff.1 HZ17.out).1).trans HZ17.out); have HZ19 := Lib.hid (heap_alloc_new w9 (.cells #[.int .u8 H.s0, .int .u8 H.s1, .int .u8 H.s2, .int .u8 H.s3, .int .u8 H.s4, .int .u8 H.s5, .int .u8 H.s6, .int .u8 H.s7, .int .i64 H.K, .int .i64 H.M, .int .i64 H.B, .string H.key, .int .i64 H.size, .int .i64 H.idx, .int .i64 H.ep, .int .i64 H.ct] 28)); clear hbn; generalize w9.alloc (.cells #[.int .u8 H.s0, .int .u8 H.s1, .int .u8 H.s2, .int .u8 H.s3, .int .u8 H.s4, .int .u8 H.s5, .int .u8 H.s6, .int .u8 H.s7, .int .i64 H.K, .int .i64 H.M, .int .i64 H.B, .string H.key, .int .i64 H.size, .int .i64 H.idx, .int .i64 H.ep, .int .i64 H.ct] 28) = w10 at *)
        have hP := spt_any opn_all (some ⟨E1, 0, none⟩) x1 S6 w10 HSX.out (by omega) (by omega) hcm1 (own_rl HOC.out)
        unfold SptPost at hP
        rw [← HHE.out, hSl] at hP
        refine (hP).mono ?_
        rintro e w11 ⟨v, rfl, hO, hb⟩
        replace HF := Lib.hid (HF.out.trans (hb.mono HF.out.size))
        replace HA := Lib.hid (RLL.below HA.out hb)
        replace HZ3 := Lib.hid ((hb.block _ (Array.getElem?_eq_some_iff.1 HZ3.out).1).trans HZ3.out)
        replace HR1 := Lib.hid (RLL.below HR1.out hb)
        replace HOO1 := Lib.hid (HOO1.out.kept hb)
        replace HZ8 := Lib.hid ((hb.block _ (Array.getElem?_eq_some_iff.1 HZ8.out).1).trans HZ8.out)
        replace HOC := Lib.hid (HOC.out.kept hb)
        replace HK0 := Lib.hid (Cl.below HK0.out hb)
        replace HBWB := Lib.hid (HBWB.out.trans (hb.mono HBWB.out.size))
        replace HZ17 := Lib.hid ((hb.block _ (Array.getElem?_eq_some_iff.1 HZ17.out).1).trans HZ17.out)
        replace HZ19 := Lib.hid ((hb.block _ (Array.getElem?_eq_some_iff.1 HZ19.out).1).trans HZ19.out)
        obtain ⟨A8, c8, ev, hnc, _, hr, _⟩ := Own.rd hO
        rw [← HNS.out] at ev
        subst ev
        have HR8 := Lib.hid hr
        clear hP hO hr hnc
        clear hb
        have hp0 : (pe == 0) = false := by
          rw [beq_eq_false_iff_ne]
          by_cases hs : still pat bit 0 o0
          · rw [(BP2.out hs).2.1]; decide
          · exact (BP1.out hs).2
        have hk0 := HK0.out.2
        go_wp2_with fail
        refine (num_any pe w11).mono ?_
        rintro e wn ⟨rfl, rfl⟩
        go_wp2_with fail
        clear hk0
        have hT := turned_any pat bit 0 o0 w11 hpat hbl (by omega) (by omega)
        rw [Nat.zero_add] at hT
        refine hT.mono ?_
        rintro e wn ⟨rfl, he0⟩
        replace he0 := he0.symm
        subst he0
        clear hT
        by_cases hst : still pat bit 0 o0
        · have hd : (!decide (still pat bit 0 o0)) = false := by rw [decide_eq_true hst]; rfl
          obtain ⟨t1, t2, t3⟩ := BP2.out hst
          obtain rfl : he = 0 := t1
          obtain rfl : pe = 82 := t2
          have HTS := Lib.hid hst
          have HSP := Lib.hid (show sptL S6 = badL S6 FL1.length by unfold sptL; rw [if_pos HHE.out.symm, t3, ← HFF1.out.1])
          clear hst t3 hp0
          obtain ⟨n, hnn⟩ : ∃ n, n = FL1.length := ⟨_, rfl⟩
          have hn4 : n ≤ 4096 := by omega
          have hN1n : N1 ≤ n + 1 := by omega
          have hN2n : n + 1 ≤ N1 := by omega
          rw [← hnn] at HSP
          have HNN := Lib.hid hnn
          clear hnn
          have HBS := Lib.hid (Below.refl w11.heap.size w11)
          go_wp2
          clear hd
          go_loopg [23, 24] n (fun gk v t24 wr => ∃ k : Nat, k ≤ n ∧ gk = n - k ∧ t24 = .int .i64 k ∧ OwnI wr w11.heap.size v (badL S6 k) ∧ Below w11.heap.size w11 wr)
          case atStart => exact ⟨0, Nat.zero_le _, rfl, rfl, OwnI.nil _ _, HBS.out⟩
          case round =>
            clear HBS
            obtain ⟨k, hk, rfl, rfl, hov, hbr⟩ := hrel
            have HOV := Lib.hid hov
            have HBR := Lib.hid hbr
            clear hov hbr
            have HZ := Lib.hid ((HBR.out.block _ (Array.getElem?_eq_some_iff.1 HZ8.out).1).trans HZ8.out)
            obtain ⟨_, _, _, _, _, _, _, _, _, _, _, _, _, _, _, _, c16⟩ := cells_ofS HZ.out
            rw [← HNN.out] at c16
            by_cases hlt : k < n
            · have hkn : (k : Int) < (n : Int) := by omega
              have hk0 : (0 : Int) ≤ (k : Int) := by omega
              have hkN : (k : Int) < (N1 : Int) := by omega
              obtain ⟨k1, hk1⟩ : ∃ k1, k1 = k + 1 := ⟨_, rfl⟩
              have hw1 : IntKind.i64.wrap ((k : Int) + 1) = (k1 : Int) := by rw [IntKind.wrap_i64]; omega
              have hk10 : (0 : Int) ≤ (k1 : Int) := by omega
              have hk1N : (k1 : Int) < (N1 : Int) := by omega
              have hA := HCA.out wr (HBWB.out.trans (HBR.out.mono HBWB.out.size))
              have ca := hA k (by rw [← HNN.out]; omega)
              have cb := hA k1 (by rw [← HNN.out]; omega)
              obtain ⟨o, ho⟩ : ∃ o, o = offF h k := ⟨_, rfl⟩
              obtain ⟨o1, ho1⟩ : ∃ o1, o1 = offF h k1 := ⟨_, rfl⟩
              rw [← ho] at ca
              rw [← ho1] at cb
              have hoo : o1 = o + (lenF h k + 4) := by rw [ho1, hk1, offF_next, ho]; omega
              have hob2 : o1 ≤ 300000000 := by rw [ho1]; have := HOL.out k1; omega
              have HT := Lib.hid (fun w' => show Calls Try.prog 39 #[.int .i64 (o : Int), .int .i64 (o1 : Int), .int .i64 (bit : Int), .int .u32 (pat : Int)] w' fun e w'' => e = .returned (.bool (!decide (still pat bit o (lenF h k + 4)))) ∧ w'' = w' by
                rw [hoo]; exact turned_any pat bit o (lenF h k + 4) w' hpat hbl (by omega) (by omega))
              have HBF := Lib.hid (show badF S6 k = decide (¬ still pat bit o (lenF h k + 4)) by rw [ho]; exact HBB.out k (by rw [← HNN.out]; exact hlt) HTS.out)
              have HK1 := Lib.hid hk1
              obtain ⟨ln, hlnn⟩ : ∃ ln, ln = lenF h k + 4 := ⟨_, rfl⟩
              rw [← hlnn] at HT HBF
              clear hA ho ho1 hoo hk1 hlnn
              go_wp2
              go_quiet ((go_at_call 39; exact Calls.quiet_of_same (HT.out _)))
              have HOV := Lib.hid (HOV.out.kept (((Dr.refl wr).drewN nq).below wr.heap.size))
              have HBR := Lib.hid (((Dr.refl wr).drewN nq).below' HBR.out)
              clear ca cb c16 HZ
              generalize wr.drewN nq = wa at *
              have hsr := HBR.out.size
              by_cases hst : still pat bit o ln
              · have hd : (!decide (still pat bit o ln)) = false := by rw [decide_eq_true hst]; rfl
                have hbf : badF S6 k = false := by rw [HBF.out]; simp [hst]
                have HON := Lib.hid (show OwnI wa w11.heap.size u23 (badL S6 (k + 1)) by rw [badL_no hbf]; exact HOV.out)
                have hd2 : decide (still pat bit o ln) = true := decide_eq_true hst
                clear hbf
                simp only [hd]
                go_wp2
                go_roundg (n - (k + 1))
                case measure => omega
                case rel => exact ⟨k + 1, by omega, rfl, by have := HK1.out; go_num, HON.out, HBR.out⟩
              · have hd : (!decide (still pat bit o ln)) = true := by rw [decide_eq_false hst]; rfl
                have hbf : badF S6 k = true := by rw [HBF.out]; simp [hst]
                have hbl2 := badL_length S6 k
                have HP := Lib.hid (show Own wa w11.heap.size 3 1 u23 (badL S6 k).length (fun i => [.int .i64 (((badL S6 (k + 1)).getD i 0 : Nat) : Int)]) from Own.congr HOV.out fun i hi => by rw [badL_yes hbf, getD_app_l hi])
                have HU := Lib.hid (show (#[Value.int .i64 (k : Int)] : Array Value).toList = [.int .i64 (((badL S6 (k + 1)).getD (badL S6 k).length 0 : Nat) : Int)] by rw [badL_yes hbf, getD_app_r])
                have HBY := Lib.hid (badL_yes hbf)
                have hd2 : decide (still pat bit o ln) = false := decide_eq_false hst
                clear hbf
                simp only [hd]
                go_wp2_with (at_builtin; refine wpList_push wa rfl (.tmp 154) (.tmp 156) 30 rfl w11.heap.size 3 1 8 (.int .i64 0) #[.int .i64 (k : Int)] Try.underlying30 intInfo rfl (by decide) u23 (badL S6 k).length _ rfl HP.out hsr _ rfl rfl HU.out rfl rfl (by omega) (by omega) ?_)
                intro v' w' hown hb' hg hat
                have HON := Lib.hid (show OwnI w' w11.heap.size v' (badL S6 (k + 1)) by unfold OwnI; rw [HBY.out, List.length_append]; rw [HBY.out] at hown; exact hown)
                have HBN := Lib.hid (HBR.out.trans hb')
                clear hown hb' hg hat HP HU
                go_wp2
                go_roundg (n - (k + 1))
                case measure => omega
                case rel => exact ⟨k + 1, by omega, rfl, by have := HK1.out; go_num, HON.out, HBN.out⟩
            · obtain rfl : k = n := by omega
              have hb := HBR.out
              replace HF := Lib.hid (HF.out.trans (hb.mono HF.out.size))
              replace HA := Lib.hid (RLL.below HA.out hb)
              replace HZ3 := Lib.hid ((hb.block _ (Array.getElem?_eq_some_iff.1 HZ3.out).1).trans HZ3.out)
              replace HR1 := Lib.hid (RLL.below HR1.out hb)
              replace HOO1 := Lib.hid (HOO1.out.kept hb)
              replace HZ8 := Lib.hid ((hb.block _ (Array.getElem?_eq_some_iff.1 HZ8.out).1).trans HZ8.out)
              replace HOC := Lib.hid (HOC.out.kept hb)
              replace HK0 := Lib.hid (Cl.below HK0.out hb)
              replace HBWB := Lib.hid (HBWB.out.trans (hb.mono HBWB.out.size))
              replace HZ17 := Lib.hid ((hb.block _ (Array.getElem?_eq_some_iff.1 HZ17.out).1).trans HZ17.out)
              replace HZ19 := Lib.hid ((hb.block _ (Array.getElem?_eq_some_iff.1 HZ19.out).1).trans HZ19.out)
              replace HR8 := Lib.hid (Rd.below HR8.out hb)
              clear hb
              obtain ⟨Aw, cw, ev, _, _, hrw, _⟩ := Own.rd HOV.out
              have HRW := Lib.hid hrw
              obtain ⟨nb, hnb⟩ : ∃ nb, nb = (badL S6 k).length := ⟨_, rfl⟩
              have hnn : ns = nb := by rw [HNS.out, HSP.out, hnb]
              have hnb4 : nb ≤ 4096 := by have := badL_length S6 k; omega
              rw [← hnb] at ev HRW
              subst ev
              rw [HSP.out, ← hnb] at HR8
              subst hnn
              clear hrw hnb
              go_wp2_with fail
              refine (num_any 82 wr).mono ?_
              rintro e wn ⟨rfl, rfl⟩
              go_wp2_with fail
              refine (num_any 0 wr).mono ?_
              rintro e wn ⟨rfl, rfl⟩
              go_wp2_with fail
              refine (num_any 0 wr).mono ?_
              rintro e wn ⟨rfl, rfl⟩
              go_wp2_with fail
              refine (sameInts_any A8 Aw ns c8 cw (fun i => (((badL S6 k).getD i 0 : Nat) : Int)) _ (by omega) HR8.out HRW.out).mono ?_
              rintro e w9 ⟨rfl, hd⟩
              have HF := Lib.hid (hd.below' HF.out)
              clear hd
              go_wp2
              go_ret
              exact ⟨rfl, HF.out⟩
        · have hd : (!decide (still pat bit 0 o0)) = true := by rw [decide_eq_false hst]; rfl
          have hne : (he != 0) = true := by rw [bne_iff_ne]; exact (BP1.out hst).1
          clear hst
          go_wp2_with fail
          refine (num_any he w11).mono ?_
          rintro e wn ⟨rfl, rfl⟩
          go_wp2_with fail
          refine (num_any he w11).mono ?_
          rintro e wn ⟨rfl, rfl⟩
          go_wp2
          go_ret
          exact ⟨rfl, HF.out⟩
end Go.Proofs.Ytbioanbokbhmgaa
