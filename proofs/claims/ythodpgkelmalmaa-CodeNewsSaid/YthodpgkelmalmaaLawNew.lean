/- CodeNews: the law's walk. Conditions: none. -/
import Derived.Test.YthodpgkelmalmaaNew1
namespace Go.Proofs.Ythodpgkelmalmaa
open Go.RowKit

theorem Own.rdV {w : World} {B e n c : Nat} {A : Option Addr} {f : Nat → Value} (h : Own w B e 1 (.slice A n c) n fun i => [f i]) : Rd w A n f := by
  obtain ⟨A', c', e1, _, _, hr, _⟩ := h.rd
  injection e1 with e1 _ _
  rw [e1]; exact hr
theorem zero_any (w : World) : Calls Try.prog 48 #[] w fun e w' => e = .returned (.bool true) ∧ Below w.heap.size w w' := by
  have HN : Hid (NilC (w.alloc (.cells #[.int .i64 0, .int .i64 0, .slice none 0 0] 81)) (.pointer (some ⟨w.heap.size, 0, none⟩))) := .inr ⟨_, rfl, by simp, by simp⟩
  go_enter Try.func48, Try.ntmps48
  go_wp2_with fail
  refine (nil_enc _ _ HN.out).mono ?_
  rintro e w1 ⟨rfl, rfl⟩
  go_wp2_with fail
  refine (nil_reb _ _ HN.out).mono ?_
  rintro e w1 ⟨rfl, rfl⟩
  go_wp2_with fail
  refine (nil_chk _ _ HN.out).mono ?_
  rintro e w1 ⟨rfl, rfl⟩
  go_wp2_with fail
  refine (nil_trn _ _ HN.out).mono ?_
  rintro e w1 ⟨rfl, rfl⟩
  go_wp2_with fail
  refine (nil_mat _ _ HN.out).mono ?_
  rintro e w1 ⟨rfl, rfl⟩
  go_wp2
  go_ret
  exact ⟨rfl, (Below.refl _ _).alloc (Nat.le_refl _) _⟩
set_option maxRecDepth 20000 in
set_option maxHeartbeats 1000000 in
theorem lawNew (K M : Int) (w : World) :
    Calls Try.prog 14 #[.int .i64 K, .int .i64 M] w fun e w' => e = .returned (.bool true) ∧ Below w.heap.size w w' := by
  by_cases hm : may K M
  · have HMAY := Lib.hid hm
    obtain ⟨h1, h2, h3, h4⟩ := hm
    obtain ⟨k, rfl⟩ := Int.eq_ofNat_of_zero_le (show 0 ≤ K by omega)
    obtain ⟨m, rfl⟩ := Int.eq_ofNat_of_zero_le (show 0 ≤ M by omega)
    have h1' : 1 ≤ m := by omega
    have h2' : m ≤ k := by omega
    have h3' : k ≤ 254 := by omega
    have h4' : k + m ≤ 255 := by omega
    clear h1 h2 h3 h4
    go_enter Try.func14, Try.ntmps14
    go_wp2_with fail
    refine (new_ok k m _ h1' h2' h3' h4').mono ?_
    rintro e w1 ⟨p, rfl, hC, hp, hb1⟩
    have HC := Lib.hid hC; have HB1 := Lib.hid hb1
    clear hC hb1
    go_wp2_with fail
    refine (maybe_t _ _ _ HMAY.out).mono ?_
    rintro e w2 ⟨rfl, rfl⟩
    go_wp2_with fail
    refine (mat_any p k (k + m) w1 HC.out (by omega) (by omega) (by omega)).mono ?_
    rintro e w2 ⟨b, S, C, rfl, hbw, hT, hR, _, hb2⟩
    have HM : Hid (RdM w2 (some ⟨b, 0, none⟩) (k + m) (fun _ => k) (fun i j => .int .u8 ((gE.cM el k i j).val : Nat))) := ⟨S, C, row_rd hT, fun i hi => (hR i hi).rdV⟩
    have HB2 := Lib.hid (HB1.out.trans (hb2.mono HB1.out.size))
    clear hT hR hb2 HC HB1
    go_wp2_with fail
    refine (refM_any k m w2 (by omega)).mono ?_
    rintro e w3 ⟨A3, c3, rfl, hM3, hb3⟩
    have HB3 := Lib.hid (HB2.out.trans (hb3.mono HB2.out.size))
    have HM3 := Lib.hid hM3
    have HM2 := Lib.hid (RdM.below HM.out hb3)
    clear hM3 hb3 HM HB2
    go_wp2_with fail
    refine (same_any (some ⟨b, 0, none⟩) A3 (k + m) (k + m) c3 (fun _ => k) (fun i j => (gE.cM el k i j).val) w3 (by omega) (fun i _ j _ => (gE.cM el k i j).isLt) HM2.out HM3.out).mono ?_
    rintro e w4 ⟨rfl, hd⟩
    go_wp2
    go_ret
    exact ⟨rfl, hd.below' HB3.out⟩
  · have HMAY := Lib.hid hm; clear hm
    have HN : Hid (NilC w (.pointer none)) := .inl rfl
    go_enter Try.func14, Try.ntmps14
    go_wp2_with fail
    refine (new_bad K M _ HMAY.out).mono ?_
    rintro e w1 ⟨rfl, rfl⟩
    go_wp2_with fail
    refine (maybe_f K M _ HMAY.out).mono ?_
    rintro e w1 ⟨rfl, rfl⟩
    go_wp2_with fail
    refine (nil_enc _ _ HN.out).mono ?_
    rintro e w1 ⟨rfl, rfl⟩
    go_wp2_with fail
    refine (nil_reb _ _ HN.out).mono ?_
    rintro e w1 ⟨rfl, rfl⟩
    go_wp2_with fail
    refine (nil_chk _ _ HN.out).mono ?_
    rintro e w1 ⟨rfl, rfl⟩
    go_wp2_with fail
    refine (nil_trn _ _ HN.out).mono ?_
    rintro e w1 ⟨rfl, rfl⟩
    go_wp2_with fail
    refine (nil_mat _ _ HN.out).mono ?_
    rintro e w1 ⟨rfl, rfl⟩
    go_wp2_with fail
    refine (zero_any _).mono ?_
    rintro e w1 ⟨rfl, hb1⟩
    have HB := Lib.hid hb1; clear hb1
    go_wp2
    go_ret
    exact ⟨rfl, HB.out⟩
end Go.Proofs.Ythodpgkelmalmaa
