/- CodeLinear: the law's walk. Conditions: none. -/
import Derived.Test.YthodpgkelmalmaaAwk
import Derived.Test.YthodpgkelmalmaaPlus
import Derived.Test.YthodpgkelmalmaaTurn4
import Derived.Test.YthodpgkelmalmaaLawFar
namespace Go.Proofs.Ythodpgkelmalmaa
open Go.RowKit

theorem tuE_ok {n k len : Nat} {a : Int} (h0 : 0 ≤ a) (h1 : a < k) : tuE n k n (fun _ => len) a len = 0 := by
  unfold tuE
  rw [if_pos rfl, evB_iff.2 fun _ _ => rfl, if_pos rfl, if_neg (by omega), if_pos rfl]
theorem cell_lt {w : World} {b o : Nat} {v : Value} (h : w.cell? ⟨b, o, none⟩ = some v) : b < w.heap.size := by
  unfold World.cell? at h
  cases hh : w.heap[b]? with
  | none => simp [hh] at h
  | some x => exact (Array.getElem?_eq_some_iff.1 hh).1
set_option maxRecDepth 40000 in
set_option maxHeartbeats 4000000 in
theorem lawLin (K M : Int) (A : Option Addr) (nb cA : Nat) (f : Nat → Nat) (P : Option Addr) (np cP : Nat) (pi : Nat → Int) (Y : Option Addr) (ny cY : Nat) (g : Nat → Nat) (s : Nat) (w : World)
    (hA : Rd w A nb fun i => .int .u8 (f i : Nat)) (hn : nb ≤ 140737488351232) (hcA : nb ≤ cA) (hf : ∀ i, i < nb → f i < 256) (hP : Rd w P np fun i => .int .i64 (pi i))
    (hY : Rd w Y ny fun i => .int .u8 (g i : Nat)) (hny : ny ≤ 140737488351232) (hcY : ny ≤ cY) (hg : ∀ i, i < ny → g i < 256) (hs : s < 256) :
    Calls Try.prog 8 #[.agg #[.int .i64 K, .int .i64 M, .slice A nb cA, .slice P np cP], .slice Y ny cY, .int .u8 (s : Nat)] w fun e w' => e = .returned (.bool true) ∧ Below w.heap.size w w' := by
  have hsv : ((el s).val : Int) = (s : Int) := by rw [el_val hs]
  have hb0 : Below w.heap.size w (w.alloc (.cells #[.int .i64 K, .int .i64 M, .slice A nb cA, .slice P np cP] 42)) := (Below.refl _ _).alloc (Nat.le_refl _) _
  have HA := Lib.hid hA; have HY := Lib.hid hY; have HF := Lib.hid hf; have HG := Lib.hid hg; have HB0 := Lib.hid hb0
  have HPI := Lib.hid hP
  clear hA hY hf hg hb0 hP
  have CF : Hid (∀ w, Calls Try.prog 25 #[.agg #[.int .i64 K, .int .i64 M, .slice A nb cA, .slice P np cP]] w fun e w' => e = .returned (.tuple #[.int .i64 (fitK K : Nat), .int .i64 (fitM K M : Nat)]) ∧ Below w.heap.size w w') := fun w => fit_any K M (.slice A nb cA) (.slice P np cP) rfl rfl w
  obtain ⟨hm1, hmk, hk4, hkm⟩ := fit_facts K M
  generalize fitK K = k at *
  generalize fitM K M = m at *
  rcases Nat.lt_trichotomy nb ny with hlt | hlt | hlt
  · have hmn : (nb : Int) < (ny : Int) := by omega
    have hlen : nb / k * k ≤ nb := Nat.div_mul_le_self nb k
    have hll : nb / k ≤ nb := Nat.div_le_self nb k
    have hix : ∀ i j, i < k → j < nb / k → i * (nb / k) + j < nb := fun i j hi hj => by
      have h1 : (i + 1) * (nb / k) ≤ k * (nb / k) := Nat.mul_le_mul_right _ hi
      rw [Nat.succ_mul, Nat.mul_comm k] at h1
      omega
    have hfa : ∀ i, i < k → ∀ j, j < nb / k → f (i * (nb / k) + j) < 256 := fun i hi j hj => HF.out _ (by have := hix i j hi hj; omega)
    have hga : ∀ i, i < k → ∀ j, j < nb / k → g (i * (nb / k) + j) < 256 := fun i hi j hj => HG.out _ (by have := hix i j hi hj; omega)
    have CUTA := Lib.hid (fun w' (hb : Below w.heap.size w w') => cut_any A nb cA k f w' (by omega) (by omega) (by omega) (by omega) (fun i hi => HA.out.below hb i (by omega)))
    have CUTY := Lib.hid (fun w' (hb : Below w.heap.size w w') => cut_any Y nb cY k g w' (by omega) (by omega) (by omega) (by omega) (fun i hi => HY.out.below hb i (by omega)))
    have HFA := Lib.hid hfa; have HGA := Lib.hid hga
    clear hix hfa hga hlen
    generalize nb / k = len at *
    go_enter Try.func8, Try.ntmps8
    go_wp2_with fail
    refine (awake_any _).mono ?_
    rintro e w1 ⟨rfl, hb1⟩
    have hc0 : w1.cell? ⟨w.heap.size, 0, none⟩ = some (.int .i64 K) := by rw [hb1.cell (by simp)]; go_simp
    have hc1 : w1.cell? ⟨w.heap.size, 1, none⟩ = some (.int .i64 M) := by rw [hb1.cell (by simp)]; go_simp
    have hc2 : w1.cell? ⟨w.heap.size, 2, none⟩ = some (.slice A nb cA) := by rw [hb1.cell (by simp)]; go_simp
    have hc3 : w1.cell? ⟨w.heap.size, 3, none⟩ = some (.slice P np cP) := by rw [hb1.cell (by simp)]; go_simp
    have hlw : w.heap.size < w1.heap.size := by have := hb1.size; simp at this; omega
    have HB1 := Lib.hid (HB0.out.trans (hb1.mono (by simp)))
    have HPK : Hid (w.heap.size < w1.heap.size ∧ w1.cell? ⟨w.heap.size, 3, none⟩ = some (.slice P np cP)) := ⟨hlw, hc3⟩
    clear hb1 HB0
    go_wp2_with fail
    refine (CF.out w1).mono ?_
    rintro e w2 ⟨rfl, hb2⟩
    have HB2 := Lib.hid (HB1.out.trans (hb2.mono HB1.out.size))
    have hd2 : w2.cell? ⟨w.heap.size, 2, none⟩ = some (.slice A nb cA) := (hb2.cell hlw).trans hc2
    have hs1 : (0 : Int) ≤ (nb : Int) := by omega
    have hs2 : (nb : Int) ≤ (cA : Int) := by omega
    have hs3 : (nb : Int) ≤ (cY : Int) := by omega
    have t_ : Hid (w.heap.size < w2.heap.size ∧ w2.cell? ⟨w.heap.size, 3, none⟩ = some (.slice P np cP)) := ⟨Nat.lt_of_lt_of_le HPK.out.1 hb2.size, (hb2.cell HPK.out.1).trans HPK.out.2⟩
    clear HPK; have HPK := t_; clear t_
    clear hc0 hc1 hc2 hc3 hb2
    go_wp2_with fail
    refine (CUTA.out w2 HB2.out).mono ?_
    rintro e w3 ⟨A3, c3, rfl, hcc3, hR3, hb3⟩
    have HB3 := Lib.hid (HB2.out.trans (hb3.mono HB2.out.size))
    have HR3 := Lib.hid hR3
    have t_ : Hid (w.heap.size < w3.heap.size ∧ w3.cell? ⟨w.heap.size, 3, none⟩ = some (.slice P np cP)) := ⟨Nat.lt_of_lt_of_le HPK.out.1 hb3.size, (hb3.cell HPK.out.1).trans HPK.out.2⟩
    clear HPK; have HPK := t_; clear t_
    clear hd2 hb3 hR3 HB2 CUTA
    go_wp2_with fail
    refine (CUTY.out w3 HB3.out).mono ?_
    rintro e w4 ⟨A4, c4, rfl, hcc4, hR4, hb4⟩
    have HB4 := Lib.hid (HB3.out.trans (hb4.mono HB3.out.size))
    have HR34 := Lib.hid (RdM.below HR3.out hb4)
    have HR4 := Lib.hid hR4
    have t_ : Hid (w.heap.size < w4.heap.size ∧ w4.cell? ⟨w.heap.size, 3, none⟩ = some (.slice P np cP)) := ⟨Nat.lt_of_lt_of_le HPK.out.1 hb4.size, (hb4.cell HPK.out.1).trans HPK.out.2⟩
    clear HPK; have HPK := t_; clear t_
    clear hb4 hR4 HB3 HR3 CUTY
    go_wp2_with fail
    refine (new_ok k m w4 hm1 hmk hk4 hkm).mono ?_
    rintro e w5 ⟨p, rfl, hC, hp, hb5⟩
    have HB5 := Lib.hid (HB4.out.trans (hb5.mono HB4.out.size))
    have HR35 := Lib.hid (RdM.below HR34.out hb5)
    have HR45 := Lib.hid (RdM.below HR4.out hb5)
    have HC := Lib.hid hC
    have t_ : Hid (w.heap.size < w5.heap.size ∧ w5.cell? ⟨w.heap.size, 3, none⟩ = some (.slice P np cP)) := ⟨Nat.lt_of_lt_of_le HPK.out.1 hb5.size, (hb5.cell HPK.out.1).trans HPK.out.2⟩
    clear HPK; have HPK := t_; clear t_
    clear hb5 HB4 HR34 HR4 hC
    have HRA := HR35; have HRB := HR45; have HB := HB5
    clear HR35 HR45 HB5
    have HSF : Hid (∀ i, i < k → ∀ j, j < len → (fun i c => (gE.m (el (f (i * len + c))) (el s)).val) i j < 256) := fun _ _ _ _ => Fin.isLt _
    have HPF : Hid (∀ i, i < k → ∀ j, j < len → (fun i c => (gE.a (el (f (i * len + c))) (el (g (i * len + c)))).val) i j < 256) := fun _ _ _ _ => Fin.isLt _
    go_wp2
    go_loopg [14, 16] k (fun gk v q wr => ∃ (i : Nat) (S : Nat → Option Addr) (C : Nat → Nat), i ≤ k ∧ gk = k - i ∧ q = .int .i64 i ∧ OwnM wr w5.heap.size 24 5 v i S C (fun _ => len) (fun i c => .int .u8 ((gE.m (el ((fun i c => f (i * len + c)) i c)) (el s)).val : Nat)) ∧ Below w5.heap.size w5 wr)
    case atStart => exact ⟨0, fun _ => none, fun _ => 0, Nat.zero_le _, rfl, rfl, OwnM.nil _ _ _ _ _ _ _ _, Below.refl _ _⟩
    case round =>
      obtain ⟨i, S, C, hi, rfl, rfl, hO, hb⟩ := hrel
      have hsz := hb.size
      by_cases hlt : i < k
      · have HO := Lib.hid hO; have HBl := Lib.hid hb
        have hRR := RdM.below HRA.out hb
        clear hO hb
        obtain ⟨SX, CX, hX1, hX2⟩ := hRR
        obtain ⟨bX, oX, hAX, hbX, hxX⟩ := hX1 i hlt
        have hrw := (hX2 i hlt).congr (g := fun c => .int .u8 ((el ((fun i c => f (i * len + c)) i c)).val : Nat)) fun c hc => by show Value.int .u8 (((fun i c => f (i * len + c)) i c : Nat) : Int) = Value.int .u8 ((el ((fun i c => f (i * len + c)) i c)).val : Int); rw [el_val (HFA.out i hlt c hc)]
        have CSC := Lib.hid (scale_any (SX i) len (CX i) (fun c => el ((fun i c => f (i * len + c)) i c)) (el s) wr (by omega) hrw)
        rw [hsv] at CSC
        subst hAX
        clear hX1 hX2 hrw
        go_wp2_with fail
        refine CSC.out.mono ?_
        rintro e w9 ⟨rfl, hq9, hb9⟩
        have hO1 := (HO.out.kept hb9).next (some ⟨wr.heap.size, 0, none⟩) len
        have hr : Own w9 w5.heap.size 5 1 (.slice (upd S i (some ⟨wr.heap.size, 0, none⟩) i) len (upd C i len i)) len (fun c => [.int .u8 ((gE.m (el ((fun i c => f (i * len + c)) i c)) (el s)).val : Nat)]) := by
          rw [upd_at, upd_at]; exact own_of_row hq9 hsz (by unfold maxLen; omega)
        have hu : Hid ((#[Value.slice (some ⟨wr.heap.size, 0, none⟩) len len] : Array Value).toList = [.slice (upd S i (some ⟨wr.heap.size, 0, none⟩) i) len (upd C i len i)]) := by rw [upd_at, upd_at]; rfl
        have hbb := HBl.out.trans (hb9.mono hsz)
        have hsz1 := hbb.size
        have HRow := Lib.hid hr
        clear HO HBl hq9 hb9 hr CSC hxX
        go_wp2_with (at_builtin; refine wpList_push _ rfl (.tmp 73) (.tmp 80) 23 rfl w5.heap.size 24 1 24 (.slice none 0 0) #[.slice (some ⟨wr.heap.size, 0, none⟩) len len] Try.underlying23 bytesInfo rfl (by decide) _ i _ rfl hO1.1 hsz1 _ rfl rfl hu.out rfl rfl (by omega) (by omega) ?_)
        intro v' w10 hown2 hbel2 hg2 _
        have hO2 := hO1.push (by decide) HRow.out hown2 hg2
        have hbF := hbb.trans hbel2
        clear hO1 HRow hown2 hg2 hbel2 hbb hu
        go_wp2
        go_roundg (k - (i + 1))
        case measure => omega
        case rel => exact ⟨i + 1, _, _, by omega, rfl, by go_num, hO2, hbF⟩
      · have hin : i = k := by omega
        subst i
        obtain ⟨AS, cAS, hv, _, hM⟩ := hO.rdm
        subst hv
        have HAS := Lib.hid hM
        have hbx := hb
        clear hO hb hM
        have t_ := Lib.hid (RdM.below HRA.out hbx); clear HRA; have HRA := t_; clear t_
        have t_ := Lib.hid (RdM.below HRB.out hbx); clear HRB; have HRB := t_; clear t_
        have t_ := Lib.hid (HC.out.below hbx); clear HC; have HC := t_; clear t_
        have t_ := And.intro (Nat.lt_of_lt_of_le HPK.out.1 hbx.size) ((hbx.cell HPK.out.1).trans HPK.out.2)
        have HPK2 := Lib.hid t_; clear t_ HPK; have HPK := HPK2; clear HPK2
        have t_ := Lib.hid (HB.out.trans (hbx.mono HB.out.size)); clear HB; have HB := t_; clear t_
        clear hbx
        obtain ⟨w6, rfl⟩ : ∃ w6 : World, w6 = wr := ⟨_, rfl⟩
        go_wp2_with fail
        refine (enc_any p k (k + m) A3 k c3 (fun _ => len) (fun i c => f (i * len + c)) w6 (by omega) (by omega) hkm (by omega) (fun _ _ => by omega) HFA.out HC.out HRA.out).mono ?_
        rintro e w7 ⟨er, AV, R, cAV, rfl, hE, hR, hM, hbx⟩
        have he : er = 0 := hE.uniq (.inr (.inr ⟨rfl, fun _ _ => rfl, rfl⟩))
        subst he
        rw [if_pos rfl] at hR
        subst hR
        have HAV := Lib.hid hM
        clear hM hE
        have t_ := Lib.hid (RdM.below HRA.out hbx); clear HRA; have HRA := t_; clear t_
        have t_ := Lib.hid (RdM.below HRB.out hbx); clear HRB; have HRB := t_; clear t_
        have t_ := Lib.hid (RdM.below HAS.out hbx); clear HAS; have HAS := t_; clear t_
        have t_ := Lib.hid (HC.out.below hbx); clear HC; have HC := t_; clear t_
        have t_ := And.intro (Nat.lt_of_lt_of_le HPK.out.1 hbx.size) ((hbx.cell HPK.out.1).trans HPK.out.2)
        have HPK2 := Lib.hid t_; clear t_ HPK; have HPK := HPK2; clear HPK2
        have t_ := Lib.hid (HB.out.trans (hbx.mono HB.out.size)); clear HB; have HB := t_; clear t_
        clear hbx
        go_wp2_with fail
        refine (enc_any p k (k + m) A4 k c4 (fun _ => len) (fun i c => g (i * len + c)) w7 (by omega) (by omega) hkm (by omega) (fun _ _ => by omega) HGA.out HC.out HRB.out).mono ?_
        rintro e w8 ⟨er, AW, R, cAW, rfl, hE, hR, hM, hbx⟩
        have he : er = 0 := hE.uniq (.inr (.inr ⟨rfl, fun _ _ => rfl, rfl⟩))
        subst he
        rw [if_pos rfl] at hR
        subst hR
        have HAW := Lib.hid hM
        clear hM hE
        have t_ := Lib.hid (RdM.below HRA.out hbx); clear HRA; have HRA := t_; clear t_
        have t_ := Lib.hid (RdM.below HRB.out hbx); clear HRB; have HRB := t_; clear t_
        have t_ := Lib.hid (RdM.below HAS.out hbx); clear HAS; have HAS := t_; clear t_
        have t_ := Lib.hid (RdM.below HAV.out hbx); clear HAV; have HAV := t_; clear t_
        have t_ := Lib.hid (HC.out.below hbx); clear HC; have HC := t_; clear t_
        have t_ := And.intro (Nat.lt_of_lt_of_le HPK.out.1 hbx.size) ((hbx.cell HPK.out.1).trans HPK.out.2)
        have HPK2 := Lib.hid t_; clear t_ HPK; have HPK := HPK2; clear HPK2
        have t_ := Lib.hid (HB.out.trans (hbx.mono HB.out.size)); clear HB; have HB := t_; clear t_
        clear hbx
        go_wp2_with fail
        refine (plus_any A3 A4 k c3 c4 len (fun i c => f (i * len + c)) (fun i c => g (i * len + c)) w8 (by omega) (by omega) HFA.out HGA.out HRA.out HRB.out).mono ?_
        rintro e w9 ⟨AP, cAP, rfl, hM, hbx⟩
        have HAP := Lib.hid hM
        clear hM
        have t_ := Lib.hid (RdM.below HRA.out hbx); clear HRA; have HRA := t_; clear t_
        have t_ := Lib.hid (RdM.below HRB.out hbx); clear HRB; have HRB := t_; clear t_
        have t_ := Lib.hid (RdM.below HAS.out hbx); clear HAS; have HAS := t_; clear t_
        have t_ := Lib.hid (RdM.below HAV.out hbx); clear HAV; have HAV := t_; clear t_
        have t_ := Lib.hid (RdM.below HAW.out hbx); clear HAW; have HAW := t_; clear t_
        have t_ := Lib.hid (HC.out.below hbx); clear HC; have HC := t_; clear t_
        have t_ := And.intro (Nat.lt_of_lt_of_le HPK.out.1 hbx.size) ((hbx.cell HPK.out.1).trans HPK.out.2)
        have HPK2 := Lib.hid t_; clear t_ HPK; have HPK := HPK2; clear HPK2
        have t_ := Lib.hid (HB.out.trans (hbx.mono HB.out.size)); clear HB; have HB := t_; clear t_
        clear hbx
        go_wp2_with fail
        refine (enc_any p k (k + m) AP k cAP (fun _ => len) (fun i c => (gE.a (el (f (i * len + c))) (el (g (i * len + c)))).val) w9 (by omega) (by omega) hkm (by omega) (fun _ _ => by omega) HPF.out HC.out HAP.out).mono ?_
        rintro e w10 ⟨er, AU, R, cAU, rfl, hE, hR, hM, hbx⟩
        have he : er = 0 := hE.uniq (.inr (.inr ⟨rfl, fun _ _ => rfl, rfl⟩))
        subst he
        rw [if_pos rfl] at hR
        subst hR
        have HAU := Lib.hid hM
        clear hM hE
        have t_ := Lib.hid (RdM.below HRA.out hbx); clear HRA; have HRA := t_; clear t_
        have t_ := Lib.hid (RdM.below HRB.out hbx); clear HRB; have HRB := t_; clear t_
        have t_ := Lib.hid (RdM.below HAS.out hbx); clear HAS; have HAS := t_; clear t_
        have t_ := Lib.hid (RdM.below HAV.out hbx); clear HAV; have HAV := t_; clear t_
        have t_ := Lib.hid (RdM.below HAW.out hbx); clear HAW; have HAW := t_; clear t_
        have t_ := Lib.hid (RdM.below HAP.out hbx); clear HAP; have HAP := t_; clear t_
        have t_ := Lib.hid (HC.out.below hbx); clear HC; have HC := t_; clear t_
        have t_ := And.intro (Nat.lt_of_lt_of_le HPK.out.1 hbx.size) ((hbx.cell HPK.out.1).trans HPK.out.2)
        have HPK2 := Lib.hid t_; clear t_ HPK; have HPK := HPK2; clear HPK2
        have t_ := Lib.hid (HB.out.trans (hbx.mono HB.out.size)); clear HB; have HB := t_; clear t_
        clear hbx
        go_wp2_with fail
        refine (enc_any p k (k + m) AS k cAS (fun _ => len) (fun i c => (gE.m (el (f (i * len + c))) (el s)).val) w10 (by omega) (by omega) hkm (by omega) (fun _ _ => by omega) HSF.out HC.out HAS.out).mono ?_
        rintro e w11 ⟨er, AZ, R, cAZ, rfl, hE, hR, hM, hbx⟩
        have he : er = 0 := hE.uniq (.inr (.inr ⟨rfl, fun _ _ => rfl, rfl⟩))
        subst he
        rw [if_pos rfl] at hR
        subst hR
        have HAZ := Lib.hid hM
        clear hM hE
        have t_ := Lib.hid (RdM.below HRA.out hbx); clear HRA; have HRA := t_; clear t_
        have t_ := Lib.hid (RdM.below HRB.out hbx); clear HRB; have HRB := t_; clear t_
        have t_ := Lib.hid (RdM.below HAS.out hbx); clear HAS; have HAS := t_; clear t_
        have t_ := Lib.hid (RdM.below HAV.out hbx); clear HAV; have HAV := t_; clear t_
        have t_ := Lib.hid (RdM.below HAW.out hbx); clear HAW; have HAW := t_; clear t_
        have t_ := Lib.hid (RdM.below HAP.out hbx); clear HAP; have HAP := t_; clear t_
        have t_ := Lib.hid (RdM.below HAU.out hbx); clear HAU; have HAU := t_; clear t_
        have t_ := Lib.hid (HC.out.below hbx); clear HC; have HC := t_; clear t_
        have t_ := And.intro (Nat.lt_of_lt_of_le HPK.out.1 hbx.size) ((hbx.cell HPK.out.1).trans HPK.out.2)
        have HPK2 := Lib.hid t_; clear t_ HPK; have HPK := HPK2; clear HPK2
        have t_ := Lib.hid (HB.out.trans (hbx.mono HB.out.size)); clear HB; have HB := t_; clear t_
        clear hbx
        have HWV : Hid (∀ i, i < k + m → ∀ j, j < len → wrd k (fun i c => f (i * len + c)) i j < 256) := fun _ _ _ _ => wrd_lt
        go_wp2
        go_loopg [15, 24] (k + m) (fun gk v q wr => ∃ (i : Nat) (S : Nat → Option Addr) (C : Nat → Nat), i ≤ (k + m) ∧ gk = (k + m) - i ∧ q = .int .i64 i ∧ OwnM wr w11.heap.size 24 5 v i S C (fun _ => len) (fun i c => .int .u8 ((gE.m (el ((wrd k (fun i c => f (i * len + c))) i c)) (el s)).val : Nat)) ∧ Below w11.heap.size w11 wr)
        case atStart => exact ⟨0, fun _ => none, fun _ => 0, Nat.zero_le _, rfl, rfl, OwnM.nil _ _ _ _ _ _ _ _, Below.refl _ _⟩
        case round =>
          obtain ⟨i, S, C, hi, rfl, rfl, hO, hb⟩ := hrel
          have hsz := hb.size
          by_cases hlt : i < (k + m)
          · have HO := Lib.hid hO; have HBl := Lib.hid hb
            have hRR := RdM.below HAV.out hb
            clear hO hb
            obtain ⟨SX, CX, hX1, hX2⟩ := hRR
            obtain ⟨bX, oX, hAX, hbX, hxX⟩ := hX1 i hlt
            have hrw := (hX2 i hlt).congr (g := fun c => .int .u8 ((el ((wrd k (fun i c => f (i * len + c))) i c)).val : Nat)) fun c hc => by show Value.int .u8 (((wrd k (fun i c => f (i * len + c))) i c : Nat) : Int) = Value.int .u8 ((el ((wrd k (fun i c => f (i * len + c))) i c)).val : Int); rw [el_val (HWV.out i hlt c hc)]
            have CSC := Lib.hid (scale_any (SX i) len (CX i) (fun c => el ((wrd k (fun i c => f (i * len + c))) i c)) (el s) wr (by omega) hrw)
            rw [hsv] at CSC
            subst hAX
            clear hX1 hX2 hrw
            go_wp2_with fail
            refine CSC.out.mono ?_
            rintro e w9 ⟨rfl, hq9, hb9⟩
            have hO1 := (HO.out.kept hb9).next (some ⟨wr.heap.size, 0, none⟩) len
            have hr : Own w9 w11.heap.size 5 1 (.slice (upd S i (some ⟨wr.heap.size, 0, none⟩) i) len (upd C i len i)) len (fun c => [.int .u8 ((gE.m (el ((wrd k (fun i c => f (i * len + c))) i c)) (el s)).val : Nat)]) := by
              rw [upd_at, upd_at]; exact own_of_row hq9 hsz (by unfold maxLen; omega)
            have hu : Hid ((#[Value.slice (some ⟨wr.heap.size, 0, none⟩) len len] : Array Value).toList = [.slice (upd S i (some ⟨wr.heap.size, 0, none⟩) i) len (upd C i len i)]) := by rw [upd_at, upd_at]; rfl
            have hbb := HBl.out.trans (hb9.mono hsz)
            have hsz1 := hbb.size
            have HRow := Lib.hid hr
            clear HO HBl hq9 hb9 hr CSC hxX
            go_wp2_with (at_builtin; refine wpList_push _ rfl (.tmp 136) (.tmp 143) 23 rfl w11.heap.size 24 1 24 (.slice none 0 0) #[.slice (some ⟨wr.heap.size, 0, none⟩) len len] Try.underlying23 bytesInfo rfl (by decide) _ i _ rfl hO1.1 hsz1 _ rfl rfl hu.out rfl rfl (by omega) (by omega) ?_)
            intro v' w10 hown2 hbel2 hg2 _
            have hO2 := hO1.push (by decide) HRow.out hown2 hg2
            have hbF := hbb.trans hbel2
            clear hO1 HRow hown2 hg2 hbel2 hbb hu
            go_wp2
            go_roundg ((k + m) - (i + 1))
            case measure => omega
            case rel => exact ⟨i + 1, _, _, by omega, rfl, by go_num, hO2, hbF⟩
          · have hin : i = (k + m) := by omega
            subst i
            obtain ⟨AX, cAX, hv, _, hM⟩ := hO.rdm
            subst hv
            have HAX := Lib.hid hM
            have hbx := hb
            clear hO hb hM
            have t_ := Lib.hid (RdM.below HRA.out hbx); clear HRA; have HRA := t_; clear t_
            have t_ := Lib.hid (RdM.below HRB.out hbx); clear HRB; have HRB := t_; clear t_
            have t_ := Lib.hid (RdM.below HAS.out hbx); clear HAS; have HAS := t_; clear t_
            have t_ := Lib.hid (RdM.below HAV.out hbx); clear HAV; have HAV := t_; clear t_
            have t_ := Lib.hid (RdM.below HAW.out hbx); clear HAW; have HAW := t_; clear t_
            have t_ := Lib.hid (RdM.below HAP.out hbx); clear HAP; have HAP := t_; clear t_
            have t_ := Lib.hid (RdM.below HAU.out hbx); clear HAU; have HAU := t_; clear t_
            have t_ := Lib.hid (RdM.below HAZ.out hbx); clear HAZ; have HAZ := t_; clear t_
            have t_ := Lib.hid (HC.out.below hbx); clear HC; have HC := t_; clear t_
            have t_ := And.intro (Nat.lt_of_lt_of_le HPK.out.1 hbx.size) ((hbx.cell HPK.out.1).trans HPK.out.2)
            have HPK2 := Lib.hid t_; clear t_ HPK; have HPK := HPK2; clear HPK2
            have t_ := Lib.hid (HB.out.trans (hbx.mono HB.out.size)); clear HB; have HB := t_; clear t_
            clear hbx
            obtain ⟨w12, rfl⟩ : ∃ w12 : World, w12 = wr := ⟨_, rfl⟩
            have hpk := HPK.out.2
            by_cases hnp : np = 0
            · have hnp0 : (np : Int) = 0 := by omega
              have hq : 0 < k := by omega
              obtain ⟨SBx, CBx, hBx1, hBx2⟩ := HRB.out
              obtain ⟨bB, oB, rfl, hbB, hxB⟩ := hBx1 0 hq
              have hxB0 := hxB
              rw [Nat.add_zero] at hxB0
              go_wp2_with fail
              refine (pturn_any p AV (SBx (0)) k (k + m) (k + m) cAV len (CBx (0)) 0 (fun _ => len) (wrd k (fun i c => f (i * len + c))) (fun c => g ((0) * len + c)) w12 (by omega) (by omega) hkm HC.out (by omega) (fun _ _ => by omega) HWV.out (HGA.out (0) hq) HAV.out (hBx2 (0) hq)).mono ?_
              rintro e w13 ⟨er, AT, RT, cAT, rfl, hE, hR, hM, hbx⟩
              have hE2 : er = 0 := by rw [hE]; exact tuE_ok (by omega) (by omega)
              subst hE2
              rw [if_pos rfl] at hR
              subst hR
              have hMT : RdM w13 AT (k + m) (fun _ => len) (fun i c => .int .u8 (tw k (0) (wrd k (fun i c => f (i * len + c))) (fun c => g ((0) * len + c)) i c : Nat)) := hM
              have HAT := Lib.hid hMT
              have HBR0 := Lib.hid (hBx2 (0) hq)
              have HBZ := Lib.hid hbx
              have HBZ2 := Lib.hid hbx.size
              have hyb : w13.cell? ⟨bB, oB + (0), none⟩ = some (.slice (SBx (0)) len (CBx (0))) := (hbx.cell hbB).trans hxB
              clear hM hE hMT hBx1 hBx2 hxB
              have t_ := Lib.hid (RdM.below HRA.out hbx); clear HRA; have HRA := t_; clear t_
              have t_ := Lib.hid (RdM.below HRB.out hbx); clear HRB; have HRB := t_; clear t_
              have t_ := Lib.hid (RdM.below HAS.out hbx); clear HAS; have HAS := t_; clear t_
              have t_ := Lib.hid (RdM.below HAV.out hbx); clear HAV; have HAV := t_; clear t_
              have t_ := Lib.hid (RdM.below HAW.out hbx); clear HAW; have HAW := t_; clear t_
              have t_ := Lib.hid (RdM.below HAP.out hbx); clear HAP; have HAP := t_; clear t_
              have t_ := Lib.hid (RdM.below HAU.out hbx); clear HAU; have HAU := t_; clear t_
              have t_ := Lib.hid (RdM.below HAZ.out hbx); clear HAZ; have HAZ := t_; clear t_
              have t_ := Lib.hid (RdM.below HAX.out hbx); clear HAX; have HAX := t_; clear t_
              have t_ := Lib.hid (HC.out.below hbx); clear HC; have HC := t_; clear t_
              have t_ := And.intro (Nat.lt_of_lt_of_le HPK.out.1 hbx.size) ((hbx.cell HPK.out.1).trans HPK.out.2)
              have HPK2 := Lib.hid t_; clear t_ HPK; have HPK := HPK2; clear HPK2
              have t_ := Lib.hid (HB.out.trans (hbx.mono HB.out.size)); clear HB; have HB := t_; clear t_
              clear hbx
              go_wp2_with fail
              refine (copied_own A3 k c3 len (fun i c => f (i * len + c)) w13 (by omega) (by omega) HRA.out).mono ?_
              rintro e w14 ⟨vD, SD, CD, rfl, hCO, hbx⟩
              obtain ⟨TD, cTD, rfl, hTB, hTl, _, hTf⟩ := hCO.own.1.form (by omega)
              have hcl := hCO.own.1.cell1 hq
              have hfz := hTf (0)
              have hybx : w14.cell? ⟨bB, oB + (0), none⟩ = some (.slice (SBx (0)) len (CBx (0))) := (hbx.cell (cell_lt hyb)).trans hyb
              rw [Nat.add_zero] at hybx
              have t_ := Lib.hid (HBZ.out.trans (hbx.mono HBZ.out.size)); clear HBZ; have HBZ := t_; clear t_
              have HSZ := Lib.hid hbx.size
              have HCO := Lib.hid hCO
              have HTB := Lib.hid hTB
              have HX14 := Lib.hid hbx
              clear hyb hCO hTf hTB hbx
              have HRD := Lib.hid (HCO.out.put (q := 0) (cq := CBx (0)) (Sq := SBx (0)) (d := fun c => g ((0) * len + c)) hq (HBR0.out.below (HBZ.out.setCell (p := ⟨TD, 0, none⟩) (Nat.le_trans HBZ2.out HTB.out) (.slice (SBx (0)) len (CBx (0))))))
              have hb15 := HX14.out.setCell (p := ⟨TD, 0, none⟩) HTB.out (.slice (SBx (0)) len (CBx (0)))
              have t_ := Lib.hid (RdM.below HRA.out hb15); clear HRA; have HRA := t_; clear t_
              have t_ := Lib.hid (RdM.below HRB.out hb15); clear HRB; have HRB := t_; clear t_
              have t_ := Lib.hid (RdM.below HAS.out hb15); clear HAS; have HAS := t_; clear t_
              have t_ := Lib.hid (RdM.below HAV.out hb15); clear HAV; have HAV := t_; clear t_
              have t_ := Lib.hid (RdM.below HAW.out hb15); clear HAW; have HAW := t_; clear t_
              have t_ := Lib.hid (RdM.below HAP.out hb15); clear HAP; have HAP := t_; clear t_
              have t_ := Lib.hid (RdM.below HAU.out hb15); clear HAU; have HAU := t_; clear t_
              have t_ := Lib.hid (RdM.below HAZ.out hb15); clear HAZ; have HAZ := t_; clear t_
              have t_ := Lib.hid (RdM.below HAX.out hb15); clear HAX; have HAX := t_; clear t_
              have t_ := Lib.hid (RdM.below HAT.out hb15); clear HAT; have HAT := t_; clear t_
              have t_ := Lib.hid (HC.out.below hb15); clear HC; have HC := t_; clear t_
              have t_ := And.intro (Nat.lt_of_lt_of_le HPK.out.1 hb15.size) ((hb15.cell HPK.out.1).trans HPK.out.2)
              have HPK2 := Lib.hid t_; clear t_ HPK; have HPK := HPK2; clear HPK2
              have t_ := Lib.hid (HB.out.trans (hb15.mono HB.out.size)); clear HB; have HB := t_; clear t_
              clear hb15 HX14 HBZ HBZ2 HBR0 HCO
              have HDF : Hid (∀ i, i < k → ∀ j, j < len → (fun i c => if i = (0) then g ((0) * len + c) else f (i * len + c)) i j < 256) := fun i hi j hj => by
                show (if i = (0) then g ((0) * len + j) else f (i * len + j)) < 256
                split
                · exact HGA.out (0) hq j hj
                · exact HFA.out i hi j hj
              go_wp2_with fail
              refine (enc_any p k (k + m) (some ⟨TD, 0, none⟩) k cTD (fun _ => len) (fun i c => if i = (0) then g ((0) * len + c) else f (i * len + c)) _ (by omega) (by omega) hkm (by omega) (fun _ _ => by omega) HDF.out HC.out HRD.out).mono ?_
              rintro e w16 ⟨er, AR, R, cAR, rfl, hE, hR, hM, hbx⟩
              have he : er = 0 := hE.uniq (.inr (.inr ⟨rfl, fun _ _ => rfl, rfl⟩))
              subst he
              rw [if_pos rfl] at hR
              subst hR
              have HAR := Lib.hid hM
              clear hM hE
              have t_ := Lib.hid (RdM.below HRA.out hbx); clear HRA; have HRA := t_; clear t_
              have t_ := Lib.hid (RdM.below HRB.out hbx); clear HRB; have HRB := t_; clear t_
              have t_ := Lib.hid (RdM.below HAS.out hbx); clear HAS; have HAS := t_; clear t_
              have t_ := Lib.hid (RdM.below HAV.out hbx); clear HAV; have HAV := t_; clear t_
              have t_ := Lib.hid (RdM.below HAW.out hbx); clear HAW; have HAW := t_; clear t_
              have t_ := Lib.hid (RdM.below HAP.out hbx); clear HAP; have HAP := t_; clear t_
              have t_ := Lib.hid (RdM.below HAU.out hbx); clear HAU; have HAU := t_; clear t_
              have t_ := Lib.hid (RdM.below HAZ.out hbx); clear HAZ; have HAZ := t_; clear t_
              have t_ := Lib.hid (RdM.below HAX.out hbx); clear HAX; have HAX := t_; clear t_
              have t_ := Lib.hid (RdM.below HAT.out hbx); clear HAT; have HAT := t_; clear t_
              have t_ := Lib.hid (HC.out.below hbx); clear HC; have HC := t_; clear t_
              have t_ := And.intro (Nat.lt_of_lt_of_le HPK.out.1 hbx.size) ((hbx.cell HPK.out.1).trans HPK.out.2)
              have HPK2 := Lib.hid t_; clear t_ HPK; have HPK := HPK2; clear HPK2
              have t_ := Lib.hid (HB.out.trans (hbx.mono HB.out.size)); clear HB; have HB := t_; clear t_
              clear hbx
              go_wp2_with fail
              refine (plus_any AV AW (k + m) cAV cAW len (wrd k (fun i c => f (i * len + c))) (wrd k (fun i c => g (i * len + c))) w16 (by omega) (by omega) (fun _ _ _ _ => wrd_lt) (fun _ _ _ _ => wrd_lt) HAV.out HAW.out).mono ?_
              rintro e w17 ⟨AQ, cAQ, rfl, hM, hbx⟩
              have HAQ := Lib.hid hM
              clear hM
              have t_ := Lib.hid (RdM.below HRA.out hbx); clear HRA; have HRA := t_; clear t_
              have t_ := Lib.hid (RdM.below HRB.out hbx); clear HRB; have HRB := t_; clear t_
              have t_ := Lib.hid (RdM.below HAS.out hbx); clear HAS; have HAS := t_; clear t_
              have t_ := Lib.hid (RdM.below HAV.out hbx); clear HAV; have HAV := t_; clear t_
              have t_ := Lib.hid (RdM.below HAW.out hbx); clear HAW; have HAW := t_; clear t_
              have t_ := Lib.hid (RdM.below HAP.out hbx); clear HAP; have HAP := t_; clear t_
              have t_ := Lib.hid (RdM.below HAU.out hbx); clear HAU; have HAU := t_; clear t_
              have t_ := Lib.hid (RdM.below HAZ.out hbx); clear HAZ; have HAZ := t_; clear t_
              have t_ := Lib.hid (RdM.below HAX.out hbx); clear HAX; have HAX := t_; clear t_
              have t_ := Lib.hid (RdM.below HAT.out hbx); clear HAT; have HAT := t_; clear t_
              have t_ := Lib.hid (RdM.below HAR.out hbx); clear HAR; have HAR := t_; clear t_
              have t_ := Lib.hid (HC.out.below hbx); clear HC; have HC := t_; clear t_
              have t_ := And.intro (Nat.lt_of_lt_of_le HPK.out.1 hbx.size) ((hbx.cell HPK.out.1).trans HPK.out.2)
              have HPK2 := Lib.hid t_; clear t_ HPK; have HPK := HPK2; clear HPK2
              have t_ := Lib.hid (HB.out.trans (hbx.mono HB.out.size)); clear HB; have HB := t_; clear t_
              clear hbx
              have HAU2 : Hid (RdM w17 AU (k + m) (fun _ => len) (fun i c => .int .u8 ((fun i c => (gE.a (el ((wrd k (fun i c => f (i * len + c))) i c)) (el ((wrd k (fun i c => g (i * len + c))) i c))).val) i c : Nat))) := HAU.out.congr fun i _ c _ => by
                show Value.int .u8 ((wrd k (fun i c => (gE.a (el (f (i * len + c))) (el (g (i * len + c)))).val) i c : Nat) : Int) = Value.int .u8 (((fun i c => (gE.a (el ((wrd k (fun i c => f (i * len + c))) i c)) (el ((wrd k (fun i c => g (i * len + c))) i c))).val) i c : Nat) : Int)
                rw [wrd_plus]
              have HAZ2 : Hid (RdM w17 AZ (k + m) (fun _ => len) (fun i c => .int .u8 ((fun i c => (gE.m (el ((wrd k (fun i c => f (i * len + c))) i c)) (el s)).val) i c : Nat))) := HAZ.out.congr fun i _ c _ => by
                show Value.int .u8 ((wrd k (fun i c => (gE.m (el (f (i * len + c))) (el s)).val) i c : Nat) : Int) = Value.int .u8 (((fun i c => (gE.m (el ((wrd k (fun i c => f (i * len + c))) i c)) (el s)).val) i c : Nat) : Int)
                rw [wrd_scale]
              have HAR2 : Hid (RdM w17 AR (k + m) (fun _ => len) (fun i c => .int .u8 ((fun i c => tw k (0) (wrd k (fun i c => f (i * len + c))) (fun c => g ((0) * len + c)) i c) i c : Nat))) := HAR.out.congr fun i _ c hc => by
                show Value.int .u8 ((wrd k (fun i c => if i = (0) then g ((0) * len + c) else f (i * len + c)) i c : Nat) : Int) = Value.int .u8 (((fun i c => tw k (0) (wrd k (fun i c => f (i * len + c))) (fun c => g ((0) * len + c)) i c) i c : Nat) : Int)
                rw [show (fun i c => tw k (0) (wrd k (fun i c => f (i * len + c))) (fun c => g ((0) * len + c)) i c) i c = _ from wrd_turn hq (fun j hj => HFA.out j hj c hc) (HGA.out (0) hq c hc)]
              have HTL : Hid (∀ i, i < k + m → ∀ c, c < len → (fun i c => tw k (0) (wrd k (fun i c => f (i * len + c))) (fun c => g ((0) * len + c)) i c) i c < 256) := fun i _ c hc => by
                show tw k (0) (wrd k (fun i c => f (i * len + c))) (fun c => g ((0) * len + c)) i c < 256
                rw [show tw k (0) (wrd k (fun i c => f (i * len + c))) (fun c => g ((0) * len + c)) i c = _ from wrd_turn (d := fun c => g ((0) * len + c)) hq (fun j hj => HFA.out j hj c hc) (HGA.out (0) hq c hc)]
                exact wrd_lt
              go_wp2_with fail
              refine (same_any AU AQ (k + m) cAU cAQ (fun _ => len) (fun i c => (gE.a (el ((wrd k (fun i c => f (i * len + c))) i c)) (el ((wrd k (fun i c => g (i * len + c))) i c))).val) w17 (by omega) (fun _ _ _ _ => Fin.isLt _) HAU2.out HAQ.out).mono ?_
              rintro e w18 ⟨rfl, hd1⟩
              have HD1 := Lib.hid hd1
              clear hd1
              go_wp2_with fail
              refine (same_any AZ AX (k + m) cAZ cAX (fun _ => len) (fun i c => (gE.m (el ((wrd k (fun i c => f (i * len + c))) i c)) (el s)).val) w18 (by omega) (fun _ _ _ _ => Fin.isLt _) (RdM.below HAZ2.out (HD1.out.below _)) (RdM.below HAX.out (HD1.out.below _))).mono ?_
              rintro e w19 ⟨rfl, hd2⟩
              have HD2 := Lib.hid (HD1.out.trans hd2)
              clear hd2 HD1
              go_wp2_with fail
              refine (same_any AT AR (k + m) cAT cAR (fun _ => len) (fun i c => tw k (0) (wrd k (fun i c => f (i * len + c))) (fun c => g ((0) * len + c)) i c) w19 (by omega) HTL.out (RdM.below HAT.out (HD2.out.below _)) (RdM.below HAR2.out (HD2.out.below _))).mono ?_
              rintro e w20 ⟨rfl, hd3⟩
              have HBF := Lib.hid (HB.out.trans (((HD2.out.trans hd3).below _).mono HB.out.size))
              clear hd3 HD2
              go_wp2
              go_ret
              exact ⟨rfl, HBF.out⟩
            · have hnp0 : (0 : Int) < (np : Int) := by omega
              have hnp1 : 0 < np := by omega
              obtain ⟨bP, oP, rfl, hbP, hxP⟩ := HPI.out 0 hnp1
              have hyP : w12.cell? ⟨bP, oP, none⟩ = some (.int .i64 (pi 0)) := (HB.out.cell hbP).trans (by rw [Nat.add_zero] at hxP; exact hxP)
              have HPKK := Lib.hid (fun w => pick_any (pi 0) k w (by omega) (by omega))
              have hq := pickN_lt (k := pi 0) (n := k) (by omega)
              generalize pickN (pi 0) k = q at *
              obtain ⟨SBx, CBx, hBx1, hBx2⟩ := HRB.out
              obtain ⟨bB, oB, rfl, hbB, hxB⟩ := hBx1 q hq
              go_wp2_with fail
              refine (HPKK.out _).mono ?_
              rintro e wq ⟨rfl, rfl⟩
              go_wp2_with fail
              refine (pturn_any p AV (SBx (q)) k (k + m) (k + m) cAV len (CBx (q)) (q : Nat) (fun _ => len) (wrd k (fun i c => f (i * len + c))) (fun c => g ((q) * len + c)) w12 (by omega) (by omega) hkm HC.out (by omega) (fun _ _ => by omega) HWV.out (HGA.out (q) hq) HAV.out (hBx2 (q) hq)).mono ?_
              rintro e w13 ⟨er, AT, RT, cAT, rfl, hE, hR, hM, hbx⟩
              have hE2 : er = 0 := by rw [hE]; exact tuE_ok (by omega) (by omega)
              subst hE2
              rw [if_pos rfl] at hR
              subst hR
              have hMT : RdM w13 AT (k + m) (fun _ => len) (fun i c => .int .u8 (tw k (q) (wrd k (fun i c => f (i * len + c))) (fun c => g ((q) * len + c)) i c : Nat)) := hM
              have HAT := Lib.hid hMT
              have HBR0 := Lib.hid (hBx2 (q) hq)
              have HBZ := Lib.hid hbx
              have HBZ2 := Lib.hid hbx.size
              have hyb : w13.cell? ⟨bB, oB + (q), none⟩ = some (.slice (SBx (q)) len (CBx (q))) := (hbx.cell hbB).trans hxB
              clear hM hE hMT hBx1 hBx2 hxB
              have t_ := Lib.hid (RdM.below HRA.out hbx); clear HRA; have HRA := t_; clear t_
              have t_ := Lib.hid (RdM.below HRB.out hbx); clear HRB; have HRB := t_; clear t_
              have t_ := Lib.hid (RdM.below HAS.out hbx); clear HAS; have HAS := t_; clear t_
              have t_ := Lib.hid (RdM.below HAV.out hbx); clear HAV; have HAV := t_; clear t_
              have t_ := Lib.hid (RdM.below HAW.out hbx); clear HAW; have HAW := t_; clear t_
              have t_ := Lib.hid (RdM.below HAP.out hbx); clear HAP; have HAP := t_; clear t_
              have t_ := Lib.hid (RdM.below HAU.out hbx); clear HAU; have HAU := t_; clear t_
              have t_ := Lib.hid (RdM.below HAZ.out hbx); clear HAZ; have HAZ := t_; clear t_
              have t_ := Lib.hid (RdM.below HAX.out hbx); clear HAX; have HAX := t_; clear t_
              have t_ := Lib.hid (HC.out.below hbx); clear HC; have HC := t_; clear t_
              have t_ := And.intro (Nat.lt_of_lt_of_le HPK.out.1 hbx.size) ((hbx.cell HPK.out.1).trans HPK.out.2)
              have HPK2 := Lib.hid t_; clear t_ HPK; have HPK := HPK2; clear HPK2
              have t_ := Lib.hid (HB.out.trans (hbx.mono HB.out.size)); clear HB; have HB := t_; clear t_
              clear hbx
              go_wp2_with fail
              refine (copied_own A3 k c3 len (fun i c => f (i * len + c)) w13 (by omega) (by omega) HRA.out).mono ?_
              rintro e w14 ⟨vD, SD, CD, rfl, hCO, hbx⟩
              obtain ⟨TD, cTD, rfl, hTB, hTl, _, hTf⟩ := hCO.own.1.form (by omega)
              have hcl := hCO.own.1.cell1 hq
              have hfz := hTf (q)
              have hybx : w14.cell? ⟨bB, oB + (q), none⟩ = some (.slice (SBx (q)) len (CBx (q))) := (hbx.cell (cell_lt hyb)).trans hyb
              skip
              have t_ := Lib.hid (HBZ.out.trans (hbx.mono HBZ.out.size)); clear HBZ; have HBZ := t_; clear t_
              have HSZ := Lib.hid hbx.size
              have HCO := Lib.hid hCO
              have HTB := Lib.hid hTB
              have HX14 := Lib.hid hbx
              clear hyb hCO hTf hTB hbx
              have HRD := Lib.hid (HCO.out.put (q := q) (cq := CBx (q)) (Sq := SBx (q)) (d := fun c => g ((q) * len + c)) hq (HBR0.out.below (HBZ.out.setCell (p := ⟨TD, q, none⟩) (Nat.le_trans HBZ2.out HTB.out) (.slice (SBx (q)) len (CBx (q))))))
              have hb15 := HX14.out.setCell (p := ⟨TD, q, none⟩) HTB.out (.slice (SBx (q)) len (CBx (q)))
              have t_ := Lib.hid (RdM.below HRA.out hb15); clear HRA; have HRA := t_; clear t_
              have t_ := Lib.hid (RdM.below HRB.out hb15); clear HRB; have HRB := t_; clear t_
              have t_ := Lib.hid (RdM.below HAS.out hb15); clear HAS; have HAS := t_; clear t_
              have t_ := Lib.hid (RdM.below HAV.out hb15); clear HAV; have HAV := t_; clear t_
              have t_ := Lib.hid (RdM.below HAW.out hb15); clear HAW; have HAW := t_; clear t_
              have t_ := Lib.hid (RdM.below HAP.out hb15); clear HAP; have HAP := t_; clear t_
              have t_ := Lib.hid (RdM.below HAU.out hb15); clear HAU; have HAU := t_; clear t_
              have t_ := Lib.hid (RdM.below HAZ.out hb15); clear HAZ; have HAZ := t_; clear t_
              have t_ := Lib.hid (RdM.below HAX.out hb15); clear HAX; have HAX := t_; clear t_
              have t_ := Lib.hid (RdM.below HAT.out hb15); clear HAT; have HAT := t_; clear t_
              have t_ := Lib.hid (HC.out.below hb15); clear HC; have HC := t_; clear t_
              have t_ := And.intro (Nat.lt_of_lt_of_le HPK.out.1 hb15.size) ((hb15.cell HPK.out.1).trans HPK.out.2)
              have HPK2 := Lib.hid t_; clear t_ HPK; have HPK := HPK2; clear HPK2
              have t_ := Lib.hid (HB.out.trans (hb15.mono HB.out.size)); clear HB; have HB := t_; clear t_
              clear hb15 HX14 HBZ HBZ2 HBR0 HCO
              have HDF : Hid (∀ i, i < k → ∀ j, j < len → (fun i c => if i = (q) then g ((q) * len + c) else f (i * len + c)) i j < 256) := fun i hi j hj => by
                show (if i = (q) then g ((q) * len + j) else f (i * len + j)) < 256
                split
                · exact HGA.out (q) hq j hj
                · exact HFA.out i hi j hj
              go_wp2_with fail
              refine (enc_any p k (k + m) (some ⟨TD, 0, none⟩) k cTD (fun _ => len) (fun i c => if i = (q) then g ((q) * len + c) else f (i * len + c)) _ (by omega) (by omega) hkm (by omega) (fun _ _ => by omega) HDF.out HC.out HRD.out).mono ?_
              rintro e w16 ⟨er, AR, R, cAR, rfl, hE, hR, hM, hbx⟩
              have he : er = 0 := hE.uniq (.inr (.inr ⟨rfl, fun _ _ => rfl, rfl⟩))
              subst he
              rw [if_pos rfl] at hR
              subst hR
              have HAR := Lib.hid hM
              clear hM hE
              have t_ := Lib.hid (RdM.below HRA.out hbx); clear HRA; have HRA := t_; clear t_
              have t_ := Lib.hid (RdM.below HRB.out hbx); clear HRB; have HRB := t_; clear t_
              have t_ := Lib.hid (RdM.below HAS.out hbx); clear HAS; have HAS := t_; clear t_
              have t_ := Lib.hid (RdM.below HAV.out hbx); clear HAV; have HAV := t_; clear t_
              have t_ := Lib.hid (RdM.below HAW.out hbx); clear HAW; have HAW := t_; clear t_
              have t_ := Lib.hid (RdM.below HAP.out hbx); clear HAP; have HAP := t_; clear t_
              have t_ := Lib.hid (RdM.below HAU.out hbx); clear HAU; have HAU := t_; clear t_
              have t_ := Lib.hid (RdM.below HAZ.out hbx); clear HAZ; have HAZ := t_; clear t_
              have t_ := Lib.hid (RdM.below HAX.out hbx); clear HAX; have HAX := t_; clear t_
              have t_ := Lib.hid (RdM.below HAT.out hbx); clear HAT; have HAT := t_; clear t_
              have t_ := Lib.hid (HC.out.below hbx); clear HC; have HC := t_; clear t_
              have t_ := And.intro (Nat.lt_of_lt_of_le HPK.out.1 hbx.size) ((hbx.cell HPK.out.1).trans HPK.out.2)
              have HPK2 := Lib.hid t_; clear t_ HPK; have HPK := HPK2; clear HPK2
              have t_ := Lib.hid (HB.out.trans (hbx.mono HB.out.size)); clear HB; have HB := t_; clear t_
              clear hbx
              go_wp2_with fail
              refine (plus_any AV AW (k + m) cAV cAW len (wrd k (fun i c => f (i * len + c))) (wrd k (fun i c => g (i * len + c))) w16 (by omega) (by omega) (fun _ _ _ _ => wrd_lt) (fun _ _ _ _ => wrd_lt) HAV.out HAW.out).mono ?_
              rintro e w17 ⟨AQ, cAQ, rfl, hM, hbx⟩
              have HAQ := Lib.hid hM
              clear hM
              have t_ := Lib.hid (RdM.below HRA.out hbx); clear HRA; have HRA := t_; clear t_
              have t_ := Lib.hid (RdM.below HRB.out hbx); clear HRB; have HRB := t_; clear t_
              have t_ := Lib.hid (RdM.below HAS.out hbx); clear HAS; have HAS := t_; clear t_
              have t_ := Lib.hid (RdM.below HAV.out hbx); clear HAV; have HAV := t_; clear t_
              have t_ := Lib.hid (RdM.below HAW.out hbx); clear HAW; have HAW := t_; clear t_
              have t_ := Lib.hid (RdM.below HAP.out hbx); clear HAP; have HAP := t_; clear t_
              have t_ := Lib.hid (RdM.below HAU.out hbx); clear HAU; have HAU := t_; clear t_
              have t_ := Lib.hid (RdM.below HAZ.out hbx); clear HAZ; have HAZ := t_; clear t_
              have t_ := Lib.hid (RdM.below HAX.out hbx); clear HAX; have HAX := t_; clear t_
              have t_ := Lib.hid (RdM.below HAT.out hbx); clear HAT; have HAT := t_; clear t_
              have t_ := Lib.hid (RdM.below HAR.out hbx); clear HAR; have HAR := t_; clear t_
              have t_ := Lib.hid (HC.out.below hbx); clear HC; have HC := t_; clear t_
              have t_ := And.intro (Nat.lt_of_lt_of_le HPK.out.1 hbx.size) ((hbx.cell HPK.out.1).trans HPK.out.2)
              have HPK2 := Lib.hid t_; clear t_ HPK; have HPK := HPK2; clear HPK2
              have t_ := Lib.hid (HB.out.trans (hbx.mono HB.out.size)); clear HB; have HB := t_; clear t_
              clear hbx
              have HAU2 : Hid (RdM w17 AU (k + m) (fun _ => len) (fun i c => .int .u8 ((fun i c => (gE.a (el ((wrd k (fun i c => f (i * len + c))) i c)) (el ((wrd k (fun i c => g (i * len + c))) i c))).val) i c : Nat))) := HAU.out.congr fun i _ c _ => by
                show Value.int .u8 ((wrd k (fun i c => (gE.a (el (f (i * len + c))) (el (g (i * len + c)))).val) i c : Nat) : Int) = Value.int .u8 (((fun i c => (gE.a (el ((wrd k (fun i c => f (i * len + c))) i c)) (el ((wrd k (fun i c => g (i * len + c))) i c))).val) i c : Nat) : Int)
                rw [wrd_plus]
              have HAZ2 : Hid (RdM w17 AZ (k + m) (fun _ => len) (fun i c => .int .u8 ((fun i c => (gE.m (el ((wrd k (fun i c => f (i * len + c))) i c)) (el s)).val) i c : Nat))) := HAZ.out.congr fun i _ c _ => by
                show Value.int .u8 ((wrd k (fun i c => (gE.m (el (f (i * len + c))) (el s)).val) i c : Nat) : Int) = Value.int .u8 (((fun i c => (gE.m (el ((wrd k (fun i c => f (i * len + c))) i c)) (el s)).val) i c : Nat) : Int)
                rw [wrd_scale]
              have HAR2 : Hid (RdM w17 AR (k + m) (fun _ => len) (fun i c => .int .u8 ((fun i c => tw k (q) (wrd k (fun i c => f (i * len + c))) (fun c => g ((q) * len + c)) i c) i c : Nat))) := HAR.out.congr fun i _ c hc => by
                show Value.int .u8 ((wrd k (fun i c => if i = (q) then g ((q) * len + c) else f (i * len + c)) i c : Nat) : Int) = Value.int .u8 (((fun i c => tw k (q) (wrd k (fun i c => f (i * len + c))) (fun c => g ((q) * len + c)) i c) i c : Nat) : Int)
                rw [show (fun i c => tw k (q) (wrd k (fun i c => f (i * len + c))) (fun c => g ((q) * len + c)) i c) i c = _ from wrd_turn hq (fun j hj => HFA.out j hj c hc) (HGA.out (q) hq c hc)]
              have HTL : Hid (∀ i, i < k + m → ∀ c, c < len → (fun i c => tw k (q) (wrd k (fun i c => f (i * len + c))) (fun c => g ((q) * len + c)) i c) i c < 256) := fun i _ c hc => by
                show tw k (q) (wrd k (fun i c => f (i * len + c))) (fun c => g ((q) * len + c)) i c < 256
                rw [show tw k (q) (wrd k (fun i c => f (i * len + c))) (fun c => g ((q) * len + c)) i c = _ from wrd_turn (d := fun c => g ((q) * len + c)) hq (fun j hj => HFA.out j hj c hc) (HGA.out (q) hq c hc)]
                exact wrd_lt
              go_wp2_with fail
              refine (same_any AU AQ (k + m) cAU cAQ (fun _ => len) (fun i c => (gE.a (el ((wrd k (fun i c => f (i * len + c))) i c)) (el ((wrd k (fun i c => g (i * len + c))) i c))).val) w17 (by omega) (fun _ _ _ _ => Fin.isLt _) HAU2.out HAQ.out).mono ?_
              rintro e w18 ⟨rfl, hd1⟩
              have HD1 := Lib.hid hd1
              clear hd1
              go_wp2_with fail
              refine (same_any AZ AX (k + m) cAZ cAX (fun _ => len) (fun i c => (gE.m (el ((wrd k (fun i c => f (i * len + c))) i c)) (el s)).val) w18 (by omega) (fun _ _ _ _ => Fin.isLt _) (RdM.below HAZ2.out (HD1.out.below _)) (RdM.below HAX.out (HD1.out.below _))).mono ?_
              rintro e w19 ⟨rfl, hd2⟩
              have HD2 := Lib.hid (HD1.out.trans hd2)
              clear hd2 HD1
              go_wp2_with fail
              refine (same_any AT AR (k + m) cAT cAR (fun _ => len) (fun i c => tw k (q) (wrd k (fun i c => f (i * len + c))) (fun c => g ((q) * len + c)) i c) w19 (by omega) HTL.out (RdM.below HAT.out (HD2.out.below _)) (RdM.below HAR2.out (HD2.out.below _))).mono ?_
              rintro e w20 ⟨rfl, hd3⟩
              have HBF := Lib.hid (HB.out.trans (((HD2.out.trans hd3).below _).mono HB.out.size))
              clear hd3 HD2
              go_wp2
              go_ret
              exact ⟨rfl, HBF.out⟩
  · subst hlt
    have hlen : nb / k * k ≤ nb := Nat.div_mul_le_self nb k
    have hll : nb / k ≤ nb := Nat.div_le_self nb k
    have hix : ∀ i j, i < k → j < nb / k → i * (nb / k) + j < nb := fun i j hi hj => by
      have h1 : (i + 1) * (nb / k) ≤ k * (nb / k) := Nat.mul_le_mul_right _ hi
      rw [Nat.succ_mul, Nat.mul_comm k] at h1
      omega
    have hfa : ∀ i, i < k → ∀ j, j < nb / k → f (i * (nb / k) + j) < 256 := fun i hi j hj => HF.out _ (by have := hix i j hi hj; omega)
    have hga : ∀ i, i < k → ∀ j, j < nb / k → g (i * (nb / k) + j) < 256 := fun i hi j hj => HG.out _ (by have := hix i j hi hj; omega)
    have CUTA := Lib.hid (fun w' (hb : Below w.heap.size w w') => cut_any A nb cA k f w' (by omega) (by omega) (by omega) (by omega) (fun i hi => HA.out.below hb i (by omega)))
    have CUTY := Lib.hid (fun w' (hb : Below w.heap.size w w') => cut_any Y nb cY k g w' (by omega) (by omega) (by omega) (by omega) (fun i hi => HY.out.below hb i (by omega)))
    have HFA := Lib.hid hfa; have HGA := Lib.hid hga
    clear hix hfa hga hlen
    generalize nb / k = len at *
    go_enter Try.func8, Try.ntmps8
    go_wp2_with fail
    refine (awake_any _).mono ?_
    rintro e w1 ⟨rfl, hb1⟩
    have hc0 : w1.cell? ⟨w.heap.size, 0, none⟩ = some (.int .i64 K) := by rw [hb1.cell (by simp)]; go_simp
    have hc1 : w1.cell? ⟨w.heap.size, 1, none⟩ = some (.int .i64 M) := by rw [hb1.cell (by simp)]; go_simp
    have hc2 : w1.cell? ⟨w.heap.size, 2, none⟩ = some (.slice A nb cA) := by rw [hb1.cell (by simp)]; go_simp
    have hc3 : w1.cell? ⟨w.heap.size, 3, none⟩ = some (.slice P np cP) := by rw [hb1.cell (by simp)]; go_simp
    have hlw : w.heap.size < w1.heap.size := by have := hb1.size; simp at this; omega
    have HB1 := Lib.hid (HB0.out.trans (hb1.mono (by simp)))
    have HPK : Hid (w.heap.size < w1.heap.size ∧ w1.cell? ⟨w.heap.size, 3, none⟩ = some (.slice P np cP)) := ⟨hlw, hc3⟩
    clear hb1 HB0
    go_wp2_with fail
    refine (CF.out w1).mono ?_
    rintro e w2 ⟨rfl, hb2⟩
    have HB2 := Lib.hid (HB1.out.trans (hb2.mono HB1.out.size))
    have hd2 : w2.cell? ⟨w.heap.size, 2, none⟩ = some (.slice A nb cA) := (hb2.cell hlw).trans hc2
    have hs1 : (0 : Int) ≤ (nb : Int) := by omega
    have hs2 : (nb : Int) ≤ (cA : Int) := by omega
    have hs3 : (nb : Int) ≤ (cY : Int) := by omega
    have t_ : Hid (w.heap.size < w2.heap.size ∧ w2.cell? ⟨w.heap.size, 3, none⟩ = some (.slice P np cP)) := ⟨Nat.lt_of_lt_of_le HPK.out.1 hb2.size, (hb2.cell HPK.out.1).trans HPK.out.2⟩
    clear HPK; have HPK := t_; clear t_
    clear hc0 hc1 hc2 hc3 hb2
    go_wp2_with fail
    refine (CUTA.out w2 HB2.out).mono ?_
    rintro e w3 ⟨A3, c3, rfl, hcc3, hR3, hb3⟩
    have HB3 := Lib.hid (HB2.out.trans (hb3.mono HB2.out.size))
    have HR3 := Lib.hid hR3
    have t_ : Hid (w.heap.size < w3.heap.size ∧ w3.cell? ⟨w.heap.size, 3, none⟩ = some (.slice P np cP)) := ⟨Nat.lt_of_lt_of_le HPK.out.1 hb3.size, (hb3.cell HPK.out.1).trans HPK.out.2⟩
    clear HPK; have HPK := t_; clear t_
    clear hd2 hb3 hR3 HB2 CUTA
    go_wp2_with fail
    refine (CUTY.out w3 HB3.out).mono ?_
    rintro e w4 ⟨A4, c4, rfl, hcc4, hR4, hb4⟩
    have HB4 := Lib.hid (HB3.out.trans (hb4.mono HB3.out.size))
    have HR34 := Lib.hid (RdM.below HR3.out hb4)
    have HR4 := Lib.hid hR4
    have t_ : Hid (w.heap.size < w4.heap.size ∧ w4.cell? ⟨w.heap.size, 3, none⟩ = some (.slice P np cP)) := ⟨Nat.lt_of_lt_of_le HPK.out.1 hb4.size, (hb4.cell HPK.out.1).trans HPK.out.2⟩
    clear HPK; have HPK := t_; clear t_
    clear hb4 hR4 HB3 HR3 CUTY
    go_wp2_with fail
    refine (new_ok k m w4 hm1 hmk hk4 hkm).mono ?_
    rintro e w5 ⟨p, rfl, hC, hp, hb5⟩
    have HB5 := Lib.hid (HB4.out.trans (hb5.mono HB4.out.size))
    have HR35 := Lib.hid (RdM.below HR34.out hb5)
    have HR45 := Lib.hid (RdM.below HR4.out hb5)
    have HC := Lib.hid hC
    have t_ : Hid (w.heap.size < w5.heap.size ∧ w5.cell? ⟨w.heap.size, 3, none⟩ = some (.slice P np cP)) := ⟨Nat.lt_of_lt_of_le HPK.out.1 hb5.size, (hb5.cell HPK.out.1).trans HPK.out.2⟩
    clear HPK; have HPK := t_; clear t_
    clear hb5 HB4 HR34 HR4 hC
    have HRA := HR35; have HRB := HR45; have HB := HB5
    clear HR35 HR45 HB5
    have HSF : Hid (∀ i, i < k → ∀ j, j < len → (fun i c => (gE.m (el (f (i * len + c))) (el s)).val) i j < 256) := fun _ _ _ _ => Fin.isLt _
    have HPF : Hid (∀ i, i < k → ∀ j, j < len → (fun i c => (gE.a (el (f (i * len + c))) (el (g (i * len + c)))).val) i j < 256) := fun _ _ _ _ => Fin.isLt _
    go_wp2
    go_loopg [14, 16] k (fun gk v q wr => ∃ (i : Nat) (S : Nat → Option Addr) (C : Nat → Nat), i ≤ k ∧ gk = k - i ∧ q = .int .i64 i ∧ OwnM wr w5.heap.size 24 5 v i S C (fun _ => len) (fun i c => .int .u8 ((gE.m (el ((fun i c => f (i * len + c)) i c)) (el s)).val : Nat)) ∧ Below w5.heap.size w5 wr)
    case atStart => exact ⟨0, fun _ => none, fun _ => 0, Nat.zero_le _, rfl, rfl, OwnM.nil _ _ _ _ _ _ _ _, Below.refl _ _⟩
    case round =>
      obtain ⟨i, S, C, hi, rfl, rfl, hO, hb⟩ := hrel
      have hsz := hb.size
      by_cases hlt : i < k
      · have HO := Lib.hid hO; have HBl := Lib.hid hb
        have hRR := RdM.below HRA.out hb
        clear hO hb
        obtain ⟨SX, CX, hX1, hX2⟩ := hRR
        obtain ⟨bX, oX, hAX, hbX, hxX⟩ := hX1 i hlt
        have hrw := (hX2 i hlt).congr (g := fun c => .int .u8 ((el ((fun i c => f (i * len + c)) i c)).val : Nat)) fun c hc => by show Value.int .u8 (((fun i c => f (i * len + c)) i c : Nat) : Int) = Value.int .u8 ((el ((fun i c => f (i * len + c)) i c)).val : Int); rw [el_val (HFA.out i hlt c hc)]
        have CSC := Lib.hid (scale_any (SX i) len (CX i) (fun c => el ((fun i c => f (i * len + c)) i c)) (el s) wr (by omega) hrw)
        rw [hsv] at CSC
        subst hAX
        clear hX1 hX2 hrw
        go_wp2_with fail
        refine CSC.out.mono ?_
        rintro e w9 ⟨rfl, hq9, hb9⟩
        have hO1 := (HO.out.kept hb9).next (some ⟨wr.heap.size, 0, none⟩) len
        have hr : Own w9 w5.heap.size 5 1 (.slice (upd S i (some ⟨wr.heap.size, 0, none⟩) i) len (upd C i len i)) len (fun c => [.int .u8 ((gE.m (el ((fun i c => f (i * len + c)) i c)) (el s)).val : Nat)]) := by
          rw [upd_at, upd_at]; exact own_of_row hq9 hsz (by unfold maxLen; omega)
        have hu : Hid ((#[Value.slice (some ⟨wr.heap.size, 0, none⟩) len len] : Array Value).toList = [.slice (upd S i (some ⟨wr.heap.size, 0, none⟩) i) len (upd C i len i)]) := by rw [upd_at, upd_at]; rfl
        have hbb := HBl.out.trans (hb9.mono hsz)
        have hsz1 := hbb.size
        have HRow := Lib.hid hr
        clear HO HBl hq9 hb9 hr CSC hxX
        go_wp2_with (at_builtin; refine wpList_push _ rfl (.tmp 73) (.tmp 80) 23 rfl w5.heap.size 24 1 24 (.slice none 0 0) #[.slice (some ⟨wr.heap.size, 0, none⟩) len len] Try.underlying23 bytesInfo rfl (by decide) _ i _ rfl hO1.1 hsz1 _ rfl rfl hu.out rfl rfl (by omega) (by omega) ?_)
        intro v' w10 hown2 hbel2 hg2 _
        have hO2 := hO1.push (by decide) HRow.out hown2 hg2
        have hbF := hbb.trans hbel2
        clear hO1 HRow hown2 hg2 hbel2 hbb hu
        go_wp2
        go_roundg (k - (i + 1))
        case measure => omega
        case rel => exact ⟨i + 1, _, _, by omega, rfl, by go_num, hO2, hbF⟩
      · have hin : i = k := by omega
        subst i
        obtain ⟨AS, cAS, hv, _, hM⟩ := hO.rdm
        subst hv
        have HAS := Lib.hid hM
        have hbx := hb
        clear hO hb hM
        have t_ := Lib.hid (RdM.below HRA.out hbx); clear HRA; have HRA := t_; clear t_
        have t_ := Lib.hid (RdM.below HRB.out hbx); clear HRB; have HRB := t_; clear t_
        have t_ := Lib.hid (HC.out.below hbx); clear HC; have HC := t_; clear t_
        have t_ := And.intro (Nat.lt_of_lt_of_le HPK.out.1 hbx.size) ((hbx.cell HPK.out.1).trans HPK.out.2)
        have HPK2 := Lib.hid t_; clear t_ HPK; have HPK := HPK2; clear HPK2
        have t_ := Lib.hid (HB.out.trans (hbx.mono HB.out.size)); clear HB; have HB := t_; clear t_
        clear hbx
        obtain ⟨w6, rfl⟩ : ∃ w6 : World, w6 = wr := ⟨_, rfl⟩
        go_wp2_with fail
        refine (enc_any p k (k + m) A3 k c3 (fun _ => len) (fun i c => f (i * len + c)) w6 (by omega) (by omega) hkm (by omega) (fun _ _ => by omega) HFA.out HC.out HRA.out).mono ?_
        rintro e w7 ⟨er, AV, R, cAV, rfl, hE, hR, hM, hbx⟩
        have he : er = 0 := hE.uniq (.inr (.inr ⟨rfl, fun _ _ => rfl, rfl⟩))
        subst he
        rw [if_pos rfl] at hR
        subst hR
        have HAV := Lib.hid hM
        clear hM hE
        have t_ := Lib.hid (RdM.below HRA.out hbx); clear HRA; have HRA := t_; clear t_
        have t_ := Lib.hid (RdM.below HRB.out hbx); clear HRB; have HRB := t_; clear t_
        have t_ := Lib.hid (RdM.below HAS.out hbx); clear HAS; have HAS := t_; clear t_
        have t_ := Lib.hid (HC.out.below hbx); clear HC; have HC := t_; clear t_
        have t_ := And.intro (Nat.lt_of_lt_of_le HPK.out.1 hbx.size) ((hbx.cell HPK.out.1).trans HPK.out.2)
        have HPK2 := Lib.hid t_; clear t_ HPK; have HPK := HPK2; clear HPK2
        have t_ := Lib.hid (HB.out.trans (hbx.mono HB.out.size)); clear HB; have HB := t_; clear t_
        clear hbx
        go_wp2_with fail
        refine (enc_any p k (k + m) A4 k c4 (fun _ => len) (fun i c => g (i * len + c)) w7 (by omega) (by omega) hkm (by omega) (fun _ _ => by omega) HGA.out HC.out HRB.out).mono ?_
        rintro e w8 ⟨er, AW, R, cAW, rfl, hE, hR, hM, hbx⟩
        have he : er = 0 := hE.uniq (.inr (.inr ⟨rfl, fun _ _ => rfl, rfl⟩))
        subst he
        rw [if_pos rfl] at hR
        subst hR
        have HAW := Lib.hid hM
        clear hM hE
        have t_ := Lib.hid (RdM.below HRA.out hbx); clear HRA; have HRA := t_; clear t_
        have t_ := Lib.hid (RdM.below HRB.out hbx); clear HRB; have HRB := t_; clear t_
        have t_ := Lib.hid (RdM.below HAS.out hbx); clear HAS; have HAS := t_; clear t_
        have t_ := Lib.hid (RdM.below HAV.out hbx); clear HAV; have HAV := t_; clear t_
        have t_ := Lib.hid (HC.out.below hbx); clear HC; have HC := t_; clear t_
        have t_ := And.intro (Nat.lt_of_lt_of_le HPK.out.1 hbx.size) ((hbx.cell HPK.out.1).trans HPK.out.2)
        have HPK2 := Lib.hid t_; clear t_ HPK; have HPK := HPK2; clear HPK2
        have t_ := Lib.hid (HB.out.trans (hbx.mono HB.out.size)); clear HB; have HB := t_; clear t_
        clear hbx
        go_wp2_with fail
        refine (plus_any A3 A4 k c3 c4 len (fun i c => f (i * len + c)) (fun i c => g (i * len + c)) w8 (by omega) (by omega) HFA.out HGA.out HRA.out HRB.out).mono ?_
        rintro e w9 ⟨AP, cAP, rfl, hM, hbx⟩
        have HAP := Lib.hid hM
        clear hM
        have t_ := Lib.hid (RdM.below HRA.out hbx); clear HRA; have HRA := t_; clear t_
        have t_ := Lib.hid (RdM.below HRB.out hbx); clear HRB; have HRB := t_; clear t_
        have t_ := Lib.hid (RdM.below HAS.out hbx); clear HAS; have HAS := t_; clear t_
        have t_ := Lib.hid (RdM.below HAV.out hbx); clear HAV; have HAV := t_; clear t_
        have t_ := Lib.hid (RdM.below HAW.out hbx); clear HAW; have HAW := t_; clear t_
        have t_ := Lib.hid (HC.out.below hbx); clear HC; have HC := t_; clear t_
        have t_ := And.intro (Nat.lt_of_lt_of_le HPK.out.1 hbx.size) ((hbx.cell HPK.out.1).trans HPK.out.2)
        have HPK2 := Lib.hid t_; clear t_ HPK; have HPK := HPK2; clear HPK2
        have t_ := Lib.hid (HB.out.trans (hbx.mono HB.out.size)); clear HB; have HB := t_; clear t_
        clear hbx
        go_wp2_with fail
        refine (enc_any p k (k + m) AP k cAP (fun _ => len) (fun i c => (gE.a (el (f (i * len + c))) (el (g (i * len + c)))).val) w9 (by omega) (by omega) hkm (by omega) (fun _ _ => by omega) HPF.out HC.out HAP.out).mono ?_
        rintro e w10 ⟨er, AU, R, cAU, rfl, hE, hR, hM, hbx⟩
        have he : er = 0 := hE.uniq (.inr (.inr ⟨rfl, fun _ _ => rfl, rfl⟩))
        subst he
        rw [if_pos rfl] at hR
        subst hR
        have HAU := Lib.hid hM
        clear hM hE
        have t_ := Lib.hid (RdM.below HRA.out hbx); clear HRA; have HRA := t_; clear t_
        have t_ := Lib.hid (RdM.below HRB.out hbx); clear HRB; have HRB := t_; clear t_
        have t_ := Lib.hid (RdM.below HAS.out hbx); clear HAS; have HAS := t_; clear t_
        have t_ := Lib.hid (RdM.below HAV.out hbx); clear HAV; have HAV := t_; clear t_
        have t_ := Lib.hid (RdM.below HAW.out hbx); clear HAW; have HAW := t_; clear t_
        have t_ := Lib.hid (RdM.below HAP.out hbx); clear HAP; have HAP := t_; clear t_
        have t_ := Lib.hid (HC.out.below hbx); clear HC; have HC := t_; clear t_
        have t_ := And.intro (Nat.lt_of_lt_of_le HPK.out.1 hbx.size) ((hbx.cell HPK.out.1).trans HPK.out.2)
        have HPK2 := Lib.hid t_; clear t_ HPK; have HPK := HPK2; clear HPK2
        have t_ := Lib.hid (HB.out.trans (hbx.mono HB.out.size)); clear HB; have HB := t_; clear t_
        clear hbx
        go_wp2_with fail
        refine (enc_any p k (k + m) AS k cAS (fun _ => len) (fun i c => (gE.m (el (f (i * len + c))) (el s)).val) w10 (by omega) (by omega) hkm (by omega) (fun _ _ => by omega) HSF.out HC.out HAS.out).mono ?_
        rintro e w11 ⟨er, AZ, R, cAZ, rfl, hE, hR, hM, hbx⟩
        have he : er = 0 := hE.uniq (.inr (.inr ⟨rfl, fun _ _ => rfl, rfl⟩))
        subst he
        rw [if_pos rfl] at hR
        subst hR
        have HAZ := Lib.hid hM
        clear hM hE
        have t_ := Lib.hid (RdM.below HRA.out hbx); clear HRA; have HRA := t_; clear t_
        have t_ := Lib.hid (RdM.below HRB.out hbx); clear HRB; have HRB := t_; clear t_
        have t_ := Lib.hid (RdM.below HAS.out hbx); clear HAS; have HAS := t_; clear t_
        have t_ := Lib.hid (RdM.below HAV.out hbx); clear HAV; have HAV := t_; clear t_
        have t_ := Lib.hid (RdM.below HAW.out hbx); clear HAW; have HAW := t_; clear t_
        have t_ := Lib.hid (RdM.below HAP.out hbx); clear HAP; have HAP := t_; clear t_
        have t_ := Lib.hid (RdM.below HAU.out hbx); clear HAU; have HAU := t_; clear t_
        have t_ := Lib.hid (HC.out.below hbx); clear HC; have HC := t_; clear t_
        have t_ := And.intro (Nat.lt_of_lt_of_le HPK.out.1 hbx.size) ((hbx.cell HPK.out.1).trans HPK.out.2)
        have HPK2 := Lib.hid t_; clear t_ HPK; have HPK := HPK2; clear HPK2
        have t_ := Lib.hid (HB.out.trans (hbx.mono HB.out.size)); clear HB; have HB := t_; clear t_
        clear hbx
        have HWV : Hid (∀ i, i < k + m → ∀ j, j < len → wrd k (fun i c => f (i * len + c)) i j < 256) := fun _ _ _ _ => wrd_lt
        go_wp2
        go_loopg [15, 24] (k + m) (fun gk v q wr => ∃ (i : Nat) (S : Nat → Option Addr) (C : Nat → Nat), i ≤ (k + m) ∧ gk = (k + m) - i ∧ q = .int .i64 i ∧ OwnM wr w11.heap.size 24 5 v i S C (fun _ => len) (fun i c => .int .u8 ((gE.m (el ((wrd k (fun i c => f (i * len + c))) i c)) (el s)).val : Nat)) ∧ Below w11.heap.size w11 wr)
        case atStart => exact ⟨0, fun _ => none, fun _ => 0, Nat.zero_le _, rfl, rfl, OwnM.nil _ _ _ _ _ _ _ _, Below.refl _ _⟩
        case round =>
          obtain ⟨i, S, C, hi, rfl, rfl, hO, hb⟩ := hrel
          have hsz := hb.size
          by_cases hlt : i < (k + m)
          · have HO := Lib.hid hO; have HBl := Lib.hid hb
            have hRR := RdM.below HAV.out hb
            clear hO hb
            obtain ⟨SX, CX, hX1, hX2⟩ := hRR
            obtain ⟨bX, oX, hAX, hbX, hxX⟩ := hX1 i hlt
            have hrw := (hX2 i hlt).congr (g := fun c => .int .u8 ((el ((wrd k (fun i c => f (i * len + c))) i c)).val : Nat)) fun c hc => by show Value.int .u8 (((wrd k (fun i c => f (i * len + c))) i c : Nat) : Int) = Value.int .u8 ((el ((wrd k (fun i c => f (i * len + c))) i c)).val : Int); rw [el_val (HWV.out i hlt c hc)]
            have CSC := Lib.hid (scale_any (SX i) len (CX i) (fun c => el ((wrd k (fun i c => f (i * len + c))) i c)) (el s) wr (by omega) hrw)
            rw [hsv] at CSC
            subst hAX
            clear hX1 hX2 hrw
            go_wp2_with fail
            refine CSC.out.mono ?_
            rintro e w9 ⟨rfl, hq9, hb9⟩
            have hO1 := (HO.out.kept hb9).next (some ⟨wr.heap.size, 0, none⟩) len
            have hr : Own w9 w11.heap.size 5 1 (.slice (upd S i (some ⟨wr.heap.size, 0, none⟩) i) len (upd C i len i)) len (fun c => [.int .u8 ((gE.m (el ((wrd k (fun i c => f (i * len + c))) i c)) (el s)).val : Nat)]) := by
              rw [upd_at, upd_at]; exact own_of_row hq9 hsz (by unfold maxLen; omega)
            have hu : Hid ((#[Value.slice (some ⟨wr.heap.size, 0, none⟩) len len] : Array Value).toList = [.slice (upd S i (some ⟨wr.heap.size, 0, none⟩) i) len (upd C i len i)]) := by rw [upd_at, upd_at]; rfl
            have hbb := HBl.out.trans (hb9.mono hsz)
            have hsz1 := hbb.size
            have HRow := Lib.hid hr
            clear HO HBl hq9 hb9 hr CSC hxX
            go_wp2_with (at_builtin; refine wpList_push _ rfl (.tmp 136) (.tmp 143) 23 rfl w11.heap.size 24 1 24 (.slice none 0 0) #[.slice (some ⟨wr.heap.size, 0, none⟩) len len] Try.underlying23 bytesInfo rfl (by decide) _ i _ rfl hO1.1 hsz1 _ rfl rfl hu.out rfl rfl (by omega) (by omega) ?_)
            intro v' w10 hown2 hbel2 hg2 _
            have hO2 := hO1.push (by decide) HRow.out hown2 hg2
            have hbF := hbb.trans hbel2
            clear hO1 HRow hown2 hg2 hbel2 hbb hu
            go_wp2
            go_roundg ((k + m) - (i + 1))
            case measure => omega
            case rel => exact ⟨i + 1, _, _, by omega, rfl, by go_num, hO2, hbF⟩
          · have hin : i = (k + m) := by omega
            subst i
            obtain ⟨AX, cAX, hv, _, hM⟩ := hO.rdm
            subst hv
            have HAX := Lib.hid hM
            have hbx := hb
            clear hO hb hM
            have t_ := Lib.hid (RdM.below HRA.out hbx); clear HRA; have HRA := t_; clear t_
            have t_ := Lib.hid (RdM.below HRB.out hbx); clear HRB; have HRB := t_; clear t_
            have t_ := Lib.hid (RdM.below HAS.out hbx); clear HAS; have HAS := t_; clear t_
            have t_ := Lib.hid (RdM.below HAV.out hbx); clear HAV; have HAV := t_; clear t_
            have t_ := Lib.hid (RdM.below HAW.out hbx); clear HAW; have HAW := t_; clear t_
            have t_ := Lib.hid (RdM.below HAP.out hbx); clear HAP; have HAP := t_; clear t_
            have t_ := Lib.hid (RdM.below HAU.out hbx); clear HAU; have HAU := t_; clear t_
            have t_ := Lib.hid (RdM.below HAZ.out hbx); clear HAZ; have HAZ := t_; clear t_
            have t_ := Lib.hid (HC.out.below hbx); clear HC; have HC := t_; clear t_
            have t_ := And.intro (Nat.lt_of_lt_of_le HPK.out.1 hbx.size) ((hbx.cell HPK.out.1).trans HPK.out.2)
            have HPK2 := Lib.hid t_; clear t_ HPK; have HPK := HPK2; clear HPK2
            have t_ := Lib.hid (HB.out.trans (hbx.mono HB.out.size)); clear HB; have HB := t_; clear t_
            clear hbx
            obtain ⟨w12, rfl⟩ : ∃ w12 : World, w12 = wr := ⟨_, rfl⟩
            have hpk := HPK.out.2
            by_cases hnp : np = 0
            · have hnp0 : (np : Int) = 0 := by omega
              have hq : 0 < k := by omega
              obtain ⟨SBx, CBx, hBx1, hBx2⟩ := HRB.out
              obtain ⟨bB, oB, rfl, hbB, hxB⟩ := hBx1 0 hq
              have hxB0 := hxB
              rw [Nat.add_zero] at hxB0
              go_wp2_with fail
              refine (pturn_any p AV (SBx (0)) k (k + m) (k + m) cAV len (CBx (0)) 0 (fun _ => len) (wrd k (fun i c => f (i * len + c))) (fun c => g ((0) * len + c)) w12 (by omega) (by omega) hkm HC.out (by omega) (fun _ _ => by omega) HWV.out (HGA.out (0) hq) HAV.out (hBx2 (0) hq)).mono ?_
              rintro e w13 ⟨er, AT, RT, cAT, rfl, hE, hR, hM, hbx⟩
              have hE2 : er = 0 := by rw [hE]; exact tuE_ok (by omega) (by omega)
              subst hE2
              rw [if_pos rfl] at hR
              subst hR
              have hMT : RdM w13 AT (k + m) (fun _ => len) (fun i c => .int .u8 (tw k (0) (wrd k (fun i c => f (i * len + c))) (fun c => g ((0) * len + c)) i c : Nat)) := hM
              have HAT := Lib.hid hMT
              have HBR0 := Lib.hid (hBx2 (0) hq)
              have HBZ := Lib.hid hbx
              have HBZ2 := Lib.hid hbx.size
              have hyb : w13.cell? ⟨bB, oB + (0), none⟩ = some (.slice (SBx (0)) len (CBx (0))) := (hbx.cell hbB).trans hxB
              clear hM hE hMT hBx1 hBx2 hxB
              have t_ := Lib.hid (RdM.below HRA.out hbx); clear HRA; have HRA := t_; clear t_
              have t_ := Lib.hid (RdM.below HRB.out hbx); clear HRB; have HRB := t_; clear t_
              have t_ := Lib.hid (RdM.below HAS.out hbx); clear HAS; have HAS := t_; clear t_
              have t_ := Lib.hid (RdM.below HAV.out hbx); clear HAV; have HAV := t_; clear t_
              have t_ := Lib.hid (RdM.below HAW.out hbx); clear HAW; have HAW := t_; clear t_
              have t_ := Lib.hid (RdM.below HAP.out hbx); clear HAP; have HAP := t_; clear t_
              have t_ := Lib.hid (RdM.below HAU.out hbx); clear HAU; have HAU := t_; clear t_
              have t_ := Lib.hid (RdM.below HAZ.out hbx); clear HAZ; have HAZ := t_; clear t_
              have t_ := Lib.hid (RdM.below HAX.out hbx); clear HAX; have HAX := t_; clear t_
              have t_ := Lib.hid (HC.out.below hbx); clear HC; have HC := t_; clear t_
              have t_ := And.intro (Nat.lt_of_lt_of_le HPK.out.1 hbx.size) ((hbx.cell HPK.out.1).trans HPK.out.2)
              have HPK2 := Lib.hid t_; clear t_ HPK; have HPK := HPK2; clear HPK2
              have t_ := Lib.hid (HB.out.trans (hbx.mono HB.out.size)); clear HB; have HB := t_; clear t_
              clear hbx
              go_wp2_with fail
              refine (copied_own A3 k c3 len (fun i c => f (i * len + c)) w13 (by omega) (by omega) HRA.out).mono ?_
              rintro e w14 ⟨vD, SD, CD, rfl, hCO, hbx⟩
              obtain ⟨TD, cTD, rfl, hTB, hTl, _, hTf⟩ := hCO.own.1.form (by omega)
              have hcl := hCO.own.1.cell1 hq
              have hfz := hTf (0)
              have hybx : w14.cell? ⟨bB, oB + (0), none⟩ = some (.slice (SBx (0)) len (CBx (0))) := (hbx.cell (cell_lt hyb)).trans hyb
              rw [Nat.add_zero] at hybx
              have t_ := Lib.hid (HBZ.out.trans (hbx.mono HBZ.out.size)); clear HBZ; have HBZ := t_; clear t_
              have HSZ := Lib.hid hbx.size
              have HCO := Lib.hid hCO
              have HTB := Lib.hid hTB
              have HX14 := Lib.hid hbx
              clear hyb hCO hTf hTB hbx
              have HRD := Lib.hid (HCO.out.put (q := 0) (cq := CBx (0)) (Sq := SBx (0)) (d := fun c => g ((0) * len + c)) hq (HBR0.out.below (HBZ.out.setCell (p := ⟨TD, 0, none⟩) (Nat.le_trans HBZ2.out HTB.out) (.slice (SBx (0)) len (CBx (0))))))
              have hb15 := HX14.out.setCell (p := ⟨TD, 0, none⟩) HTB.out (.slice (SBx (0)) len (CBx (0)))
              have t_ := Lib.hid (RdM.below HRA.out hb15); clear HRA; have HRA := t_; clear t_
              have t_ := Lib.hid (RdM.below HRB.out hb15); clear HRB; have HRB := t_; clear t_
              have t_ := Lib.hid (RdM.below HAS.out hb15); clear HAS; have HAS := t_; clear t_
              have t_ := Lib.hid (RdM.below HAV.out hb15); clear HAV; have HAV := t_; clear t_
              have t_ := Lib.hid (RdM.below HAW.out hb15); clear HAW; have HAW := t_; clear t_
              have t_ := Lib.hid (RdM.below HAP.out hb15); clear HAP; have HAP := t_; clear t_
              have t_ := Lib.hid (RdM.below HAU.out hb15); clear HAU; have HAU := t_; clear t_
              have t_ := Lib.hid (RdM.below HAZ.out hb15); clear HAZ; have HAZ := t_; clear t_
              have t_ := Lib.hid (RdM.below HAX.out hb15); clear HAX; have HAX := t_; clear t_
              have t_ := Lib.hid (RdM.below HAT.out hb15); clear HAT; have HAT := t_; clear t_
              have t_ := Lib.hid (HC.out.below hb15); clear HC; have HC := t_; clear t_
              have t_ := And.intro (Nat.lt_of_lt_of_le HPK.out.1 hb15.size) ((hb15.cell HPK.out.1).trans HPK.out.2)
              have HPK2 := Lib.hid t_; clear t_ HPK; have HPK := HPK2; clear HPK2
              have t_ := Lib.hid (HB.out.trans (hb15.mono HB.out.size)); clear HB; have HB := t_; clear t_
              clear hb15 HX14 HBZ HBZ2 HBR0 HCO
              have HDF : Hid (∀ i, i < k → ∀ j, j < len → (fun i c => if i = (0) then g ((0) * len + c) else f (i * len + c)) i j < 256) := fun i hi j hj => by
                show (if i = (0) then g ((0) * len + j) else f (i * len + j)) < 256
                split
                · exact HGA.out (0) hq j hj
                · exact HFA.out i hi j hj
              go_wp2_with fail
              refine (enc_any p k (k + m) (some ⟨TD, 0, none⟩) k cTD (fun _ => len) (fun i c => if i = (0) then g ((0) * len + c) else f (i * len + c)) _ (by omega) (by omega) hkm (by omega) (fun _ _ => by omega) HDF.out HC.out HRD.out).mono ?_
              rintro e w16 ⟨er, AR, R, cAR, rfl, hE, hR, hM, hbx⟩
              have he : er = 0 := hE.uniq (.inr (.inr ⟨rfl, fun _ _ => rfl, rfl⟩))
              subst he
              rw [if_pos rfl] at hR
              subst hR
              have HAR := Lib.hid hM
              clear hM hE
              have t_ := Lib.hid (RdM.below HRA.out hbx); clear HRA; have HRA := t_; clear t_
              have t_ := Lib.hid (RdM.below HRB.out hbx); clear HRB; have HRB := t_; clear t_
              have t_ := Lib.hid (RdM.below HAS.out hbx); clear HAS; have HAS := t_; clear t_
              have t_ := Lib.hid (RdM.below HAV.out hbx); clear HAV; have HAV := t_; clear t_
              have t_ := Lib.hid (RdM.below HAW.out hbx); clear HAW; have HAW := t_; clear t_
              have t_ := Lib.hid (RdM.below HAP.out hbx); clear HAP; have HAP := t_; clear t_
              have t_ := Lib.hid (RdM.below HAU.out hbx); clear HAU; have HAU := t_; clear t_
              have t_ := Lib.hid (RdM.below HAZ.out hbx); clear HAZ; have HAZ := t_; clear t_
              have t_ := Lib.hid (RdM.below HAX.out hbx); clear HAX; have HAX := t_; clear t_
              have t_ := Lib.hid (RdM.below HAT.out hbx); clear HAT; have HAT := t_; clear t_
              have t_ := Lib.hid (HC.out.below hbx); clear HC; have HC := t_; clear t_
              have t_ := And.intro (Nat.lt_of_lt_of_le HPK.out.1 hbx.size) ((hbx.cell HPK.out.1).trans HPK.out.2)
              have HPK2 := Lib.hid t_; clear t_ HPK; have HPK := HPK2; clear HPK2
              have t_ := Lib.hid (HB.out.trans (hbx.mono HB.out.size)); clear HB; have HB := t_; clear t_
              clear hbx
              go_wp2_with fail
              refine (plus_any AV AW (k + m) cAV cAW len (wrd k (fun i c => f (i * len + c))) (wrd k (fun i c => g (i * len + c))) w16 (by omega) (by omega) (fun _ _ _ _ => wrd_lt) (fun _ _ _ _ => wrd_lt) HAV.out HAW.out).mono ?_
              rintro e w17 ⟨AQ, cAQ, rfl, hM, hbx⟩
              have HAQ := Lib.hid hM
              clear hM
              have t_ := Lib.hid (RdM.below HRA.out hbx); clear HRA; have HRA := t_; clear t_
              have t_ := Lib.hid (RdM.below HRB.out hbx); clear HRB; have HRB := t_; clear t_
              have t_ := Lib.hid (RdM.below HAS.out hbx); clear HAS; have HAS := t_; clear t_
              have t_ := Lib.hid (RdM.below HAV.out hbx); clear HAV; have HAV := t_; clear t_
              have t_ := Lib.hid (RdM.below HAW.out hbx); clear HAW; have HAW := t_; clear t_
              have t_ := Lib.hid (RdM.below HAP.out hbx); clear HAP; have HAP := t_; clear t_
              have t_ := Lib.hid (RdM.below HAU.out hbx); clear HAU; have HAU := t_; clear t_
              have t_ := Lib.hid (RdM.below HAZ.out hbx); clear HAZ; have HAZ := t_; clear t_
              have t_ := Lib.hid (RdM.below HAX.out hbx); clear HAX; have HAX := t_; clear t_
              have t_ := Lib.hid (RdM.below HAT.out hbx); clear HAT; have HAT := t_; clear t_
              have t_ := Lib.hid (RdM.below HAR.out hbx); clear HAR; have HAR := t_; clear t_
              have t_ := Lib.hid (HC.out.below hbx); clear HC; have HC := t_; clear t_
              have t_ := And.intro (Nat.lt_of_lt_of_le HPK.out.1 hbx.size) ((hbx.cell HPK.out.1).trans HPK.out.2)
              have HPK2 := Lib.hid t_; clear t_ HPK; have HPK := HPK2; clear HPK2
              have t_ := Lib.hid (HB.out.trans (hbx.mono HB.out.size)); clear HB; have HB := t_; clear t_
              clear hbx
              have HAU2 : Hid (RdM w17 AU (k + m) (fun _ => len) (fun i c => .int .u8 ((fun i c => (gE.a (el ((wrd k (fun i c => f (i * len + c))) i c)) (el ((wrd k (fun i c => g (i * len + c))) i c))).val) i c : Nat))) := HAU.out.congr fun i _ c _ => by
                show Value.int .u8 ((wrd k (fun i c => (gE.a (el (f (i * len + c))) (el (g (i * len + c)))).val) i c : Nat) : Int) = Value.int .u8 (((fun i c => (gE.a (el ((wrd k (fun i c => f (i * len + c))) i c)) (el ((wrd k (fun i c => g (i * len + c))) i c))).val) i c : Nat) : Int)
                rw [wrd_plus]
              have HAZ2 : Hid (RdM w17 AZ (k + m) (fun _ => len) (fun i c => .int .u8 ((fun i c => (gE.m (el ((wrd k (fun i c => f (i * len + c))) i c)) (el s)).val) i c : Nat))) := HAZ.out.congr fun i _ c _ => by
                show Value.int .u8 ((wrd k (fun i c => (gE.m (el (f (i * len + c))) (el s)).val) i c : Nat) : Int) = Value.int .u8 (((fun i c => (gE.m (el ((wrd k (fun i c => f (i * len + c))) i c)) (el s)).val) i c : Nat) : Int)
                rw [wrd_scale]
              have HAR2 : Hid (RdM w17 AR (k + m) (fun _ => len) (fun i c => .int .u8 ((fun i c => tw k (0) (wrd k (fun i c => f (i * len + c))) (fun c => g ((0) * len + c)) i c) i c : Nat))) := HAR.out.congr fun i _ c hc => by
                show Value.int .u8 ((wrd k (fun i c => if i = (0) then g ((0) * len + c) else f (i * len + c)) i c : Nat) : Int) = Value.int .u8 (((fun i c => tw k (0) (wrd k (fun i c => f (i * len + c))) (fun c => g ((0) * len + c)) i c) i c : Nat) : Int)
                rw [show (fun i c => tw k (0) (wrd k (fun i c => f (i * len + c))) (fun c => g ((0) * len + c)) i c) i c = _ from wrd_turn hq (fun j hj => HFA.out j hj c hc) (HGA.out (0) hq c hc)]
              have HTL : Hid (∀ i, i < k + m → ∀ c, c < len → (fun i c => tw k (0) (wrd k (fun i c => f (i * len + c))) (fun c => g ((0) * len + c)) i c) i c < 256) := fun i _ c hc => by
                show tw k (0) (wrd k (fun i c => f (i * len + c))) (fun c => g ((0) * len + c)) i c < 256
                rw [show tw k (0) (wrd k (fun i c => f (i * len + c))) (fun c => g ((0) * len + c)) i c = _ from wrd_turn (d := fun c => g ((0) * len + c)) hq (fun j hj => HFA.out j hj c hc) (HGA.out (0) hq c hc)]
                exact wrd_lt
              go_wp2_with fail
              refine (same_any AU AQ (k + m) cAU cAQ (fun _ => len) (fun i c => (gE.a (el ((wrd k (fun i c => f (i * len + c))) i c)) (el ((wrd k (fun i c => g (i * len + c))) i c))).val) w17 (by omega) (fun _ _ _ _ => Fin.isLt _) HAU2.out HAQ.out).mono ?_
              rintro e w18 ⟨rfl, hd1⟩
              have HD1 := Lib.hid hd1
              clear hd1
              go_wp2_with fail
              refine (same_any AZ AX (k + m) cAZ cAX (fun _ => len) (fun i c => (gE.m (el ((wrd k (fun i c => f (i * len + c))) i c)) (el s)).val) w18 (by omega) (fun _ _ _ _ => Fin.isLt _) (RdM.below HAZ2.out (HD1.out.below _)) (RdM.below HAX.out (HD1.out.below _))).mono ?_
              rintro e w19 ⟨rfl, hd2⟩
              have HD2 := Lib.hid (HD1.out.trans hd2)
              clear hd2 HD1
              go_wp2_with fail
              refine (same_any AT AR (k + m) cAT cAR (fun _ => len) (fun i c => tw k (0) (wrd k (fun i c => f (i * len + c))) (fun c => g ((0) * len + c)) i c) w19 (by omega) HTL.out (RdM.below HAT.out (HD2.out.below _)) (RdM.below HAR2.out (HD2.out.below _))).mono ?_
              rintro e w20 ⟨rfl, hd3⟩
              have HBF := Lib.hid (HB.out.trans (((HD2.out.trans hd3).below _).mono HB.out.size))
              clear hd3 HD2
              go_wp2
              go_ret
              exact ⟨rfl, HBF.out⟩
            · have hnp0 : (0 : Int) < (np : Int) := by omega
              have hnp1 : 0 < np := by omega
              obtain ⟨bP, oP, rfl, hbP, hxP⟩ := HPI.out 0 hnp1
              have hyP : w12.cell? ⟨bP, oP, none⟩ = some (.int .i64 (pi 0)) := (HB.out.cell hbP).trans (by rw [Nat.add_zero] at hxP; exact hxP)
              have HPKK := Lib.hid (fun w => pick_any (pi 0) k w (by omega) (by omega))
              have hq := pickN_lt (k := pi 0) (n := k) (by omega)
              generalize pickN (pi 0) k = q at *
              obtain ⟨SBx, CBx, hBx1, hBx2⟩ := HRB.out
              obtain ⟨bB, oB, rfl, hbB, hxB⟩ := hBx1 q hq
              go_wp2_with fail
              refine (HPKK.out _).mono ?_
              rintro e wq ⟨rfl, rfl⟩
              go_wp2_with fail
              refine (pturn_any p AV (SBx (q)) k (k + m) (k + m) cAV len (CBx (q)) (q : Nat) (fun _ => len) (wrd k (fun i c => f (i * len + c))) (fun c => g ((q) * len + c)) w12 (by omega) (by omega) hkm HC.out (by omega) (fun _ _ => by omega) HWV.out (HGA.out (q) hq) HAV.out (hBx2 (q) hq)).mono ?_
              rintro e w13 ⟨er, AT, RT, cAT, rfl, hE, hR, hM, hbx⟩
              have hE2 : er = 0 := by rw [hE]; exact tuE_ok (by omega) (by omega)
              subst hE2
              rw [if_pos rfl] at hR
              subst hR
              have hMT : RdM w13 AT (k + m) (fun _ => len) (fun i c => .int .u8 (tw k (q) (wrd k (fun i c => f (i * len + c))) (fun c => g ((q) * len + c)) i c : Nat)) := hM
              have HAT := Lib.hid hMT
              have HBR0 := Lib.hid (hBx2 (q) hq)
              have HBZ := Lib.hid hbx
              have HBZ2 := Lib.hid hbx.size
              have hyb : w13.cell? ⟨bB, oB + (q), none⟩ = some (.slice (SBx (q)) len (CBx (q))) := (hbx.cell hbB).trans hxB
              clear hM hE hMT hBx1 hBx2 hxB
              have t_ := Lib.hid (RdM.below HRA.out hbx); clear HRA; have HRA := t_; clear t_
              have t_ := Lib.hid (RdM.below HRB.out hbx); clear HRB; have HRB := t_; clear t_
              have t_ := Lib.hid (RdM.below HAS.out hbx); clear HAS; have HAS := t_; clear t_
              have t_ := Lib.hid (RdM.below HAV.out hbx); clear HAV; have HAV := t_; clear t_
              have t_ := Lib.hid (RdM.below HAW.out hbx); clear HAW; have HAW := t_; clear t_
              have t_ := Lib.hid (RdM.below HAP.out hbx); clear HAP; have HAP := t_; clear t_
              have t_ := Lib.hid (RdM.below HAU.out hbx); clear HAU; have HAU := t_; clear t_
              have t_ := Lib.hid (RdM.below HAZ.out hbx); clear HAZ; have HAZ := t_; clear t_
              have t_ := Lib.hid (RdM.below HAX.out hbx); clear HAX; have HAX := t_; clear t_
              have t_ := Lib.hid (HC.out.below hbx); clear HC; have HC := t_; clear t_
              have t_ := And.intro (Nat.lt_of_lt_of_le HPK.out.1 hbx.size) ((hbx.cell HPK.out.1).trans HPK.out.2)
              have HPK2 := Lib.hid t_; clear t_ HPK; have HPK := HPK2; clear HPK2
              have t_ := Lib.hid (HB.out.trans (hbx.mono HB.out.size)); clear HB; have HB := t_; clear t_
              clear hbx
              go_wp2_with fail
              refine (copied_own A3 k c3 len (fun i c => f (i * len + c)) w13 (by omega) (by omega) HRA.out).mono ?_
              rintro e w14 ⟨vD, SD, CD, rfl, hCO, hbx⟩
              obtain ⟨TD, cTD, rfl, hTB, hTl, _, hTf⟩ := hCO.own.1.form (by omega)
              have hcl := hCO.own.1.cell1 hq
              have hfz := hTf (q)
              have hybx : w14.cell? ⟨bB, oB + (q), none⟩ = some (.slice (SBx (q)) len (CBx (q))) := (hbx.cell (cell_lt hyb)).trans hyb
              skip
              have t_ := Lib.hid (HBZ.out.trans (hbx.mono HBZ.out.size)); clear HBZ; have HBZ := t_; clear t_
              have HSZ := Lib.hid hbx.size
              have HCO := Lib.hid hCO
              have HTB := Lib.hid hTB
              have HX14 := Lib.hid hbx
              clear hyb hCO hTf hTB hbx
              have HRD := Lib.hid (HCO.out.put (q := q) (cq := CBx (q)) (Sq := SBx (q)) (d := fun c => g ((q) * len + c)) hq (HBR0.out.below (HBZ.out.setCell (p := ⟨TD, q, none⟩) (Nat.le_trans HBZ2.out HTB.out) (.slice (SBx (q)) len (CBx (q))))))
              have hb15 := HX14.out.setCell (p := ⟨TD, q, none⟩) HTB.out (.slice (SBx (q)) len (CBx (q)))
              have t_ := Lib.hid (RdM.below HRA.out hb15); clear HRA; have HRA := t_; clear t_
              have t_ := Lib.hid (RdM.below HRB.out hb15); clear HRB; have HRB := t_; clear t_
              have t_ := Lib.hid (RdM.below HAS.out hb15); clear HAS; have HAS := t_; clear t_
              have t_ := Lib.hid (RdM.below HAV.out hb15); clear HAV; have HAV := t_; clear t_
              have t_ := Lib.hid (RdM.below HAW.out hb15); clear HAW; have HAW := t_; clear t_
              have t_ := Lib.hid (RdM.below HAP.out hb15); clear HAP; have HAP := t_; clear t_
              have t_ := Lib.hid (RdM.below HAU.out hb15); clear HAU; have HAU := t_; clear t_
              have t_ := Lib.hid (RdM.below HAZ.out hb15); clear HAZ; have HAZ := t_; clear t_
              have t_ := Lib.hid (RdM.below HAX.out hb15); clear HAX; have HAX := t_; clear t_
              have t_ := Lib.hid (RdM.below HAT.out hb15); clear HAT; have HAT := t_; clear t_
              have t_ := Lib.hid (HC.out.below hb15); clear HC; have HC := t_; clear t_
              have t_ := And.intro (Nat.lt_of_lt_of_le HPK.out.1 hb15.size) ((hb15.cell HPK.out.1).trans HPK.out.2)
              have HPK2 := Lib.hid t_; clear t_ HPK; have HPK := HPK2; clear HPK2
              have t_ := Lib.hid (HB.out.trans (hb15.mono HB.out.size)); clear HB; have HB := t_; clear t_
              clear hb15 HX14 HBZ HBZ2 HBR0 HCO
              have HDF : Hid (∀ i, i < k → ∀ j, j < len → (fun i c => if i = (q) then g ((q) * len + c) else f (i * len + c)) i j < 256) := fun i hi j hj => by
                show (if i = (q) then g ((q) * len + j) else f (i * len + j)) < 256
                split
                · exact HGA.out (q) hq j hj
                · exact HFA.out i hi j hj
              go_wp2_with fail
              refine (enc_any p k (k + m) (some ⟨TD, 0, none⟩) k cTD (fun _ => len) (fun i c => if i = (q) then g ((q) * len + c) else f (i * len + c)) _ (by omega) (by omega) hkm (by omega) (fun _ _ => by omega) HDF.out HC.out HRD.out).mono ?_
              rintro e w16 ⟨er, AR, R, cAR, rfl, hE, hR, hM, hbx⟩
              have he : er = 0 := hE.uniq (.inr (.inr ⟨rfl, fun _ _ => rfl, rfl⟩))
              subst he
              rw [if_pos rfl] at hR
              subst hR
              have HAR := Lib.hid hM
              clear hM hE
              have t_ := Lib.hid (RdM.below HRA.out hbx); clear HRA; have HRA := t_; clear t_
              have t_ := Lib.hid (RdM.below HRB.out hbx); clear HRB; have HRB := t_; clear t_
              have t_ := Lib.hid (RdM.below HAS.out hbx); clear HAS; have HAS := t_; clear t_
              have t_ := Lib.hid (RdM.below HAV.out hbx); clear HAV; have HAV := t_; clear t_
              have t_ := Lib.hid (RdM.below HAW.out hbx); clear HAW; have HAW := t_; clear t_
              have t_ := Lib.hid (RdM.below HAP.out hbx); clear HAP; have HAP := t_; clear t_
              have t_ := Lib.hid (RdM.below HAU.out hbx); clear HAU; have HAU := t_; clear t_
              have t_ := Lib.hid (RdM.below HAZ.out hbx); clear HAZ; have HAZ := t_; clear t_
              have t_ := Lib.hid (RdM.below HAX.out hbx); clear HAX; have HAX := t_; clear t_
              have t_ := Lib.hid (RdM.below HAT.out hbx); clear HAT; have HAT := t_; clear t_
              have t_ := Lib.hid (HC.out.below hbx); clear HC; have HC := t_; clear t_
              have t_ := And.intro (Nat.lt_of_lt_of_le HPK.out.1 hbx.size) ((hbx.cell HPK.out.1).trans HPK.out.2)
              have HPK2 := Lib.hid t_; clear t_ HPK; have HPK := HPK2; clear HPK2
              have t_ := Lib.hid (HB.out.trans (hbx.mono HB.out.size)); clear HB; have HB := t_; clear t_
              clear hbx
              go_wp2_with fail
              refine (plus_any AV AW (k + m) cAV cAW len (wrd k (fun i c => f (i * len + c))) (wrd k (fun i c => g (i * len + c))) w16 (by omega) (by omega) (fun _ _ _ _ => wrd_lt) (fun _ _ _ _ => wrd_lt) HAV.out HAW.out).mono ?_
              rintro e w17 ⟨AQ, cAQ, rfl, hM, hbx⟩
              have HAQ := Lib.hid hM
              clear hM
              have t_ := Lib.hid (RdM.below HRA.out hbx); clear HRA; have HRA := t_; clear t_
              have t_ := Lib.hid (RdM.below HRB.out hbx); clear HRB; have HRB := t_; clear t_
              have t_ := Lib.hid (RdM.below HAS.out hbx); clear HAS; have HAS := t_; clear t_
              have t_ := Lib.hid (RdM.below HAV.out hbx); clear HAV; have HAV := t_; clear t_
              have t_ := Lib.hid (RdM.below HAW.out hbx); clear HAW; have HAW := t_; clear t_
              have t_ := Lib.hid (RdM.below HAP.out hbx); clear HAP; have HAP := t_; clear t_
              have t_ := Lib.hid (RdM.below HAU.out hbx); clear HAU; have HAU := t_; clear t_
              have t_ := Lib.hid (RdM.below HAZ.out hbx); clear HAZ; have HAZ := t_; clear t_
              have t_ := Lib.hid (RdM.below HAX.out hbx); clear HAX; have HAX := t_; clear t_
              have t_ := Lib.hid (RdM.below HAT.out hbx); clear HAT; have HAT := t_; clear t_
              have t_ := Lib.hid (RdM.below HAR.out hbx); clear HAR; have HAR := t_; clear t_
              have t_ := Lib.hid (HC.out.below hbx); clear HC; have HC := t_; clear t_
              have t_ := And.intro (Nat.lt_of_lt_of_le HPK.out.1 hbx.size) ((hbx.cell HPK.out.1).trans HPK.out.2)
              have HPK2 := Lib.hid t_; clear t_ HPK; have HPK := HPK2; clear HPK2
              have t_ := Lib.hid (HB.out.trans (hbx.mono HB.out.size)); clear HB; have HB := t_; clear t_
              clear hbx
              have HAU2 : Hid (RdM w17 AU (k + m) (fun _ => len) (fun i c => .int .u8 ((fun i c => (gE.a (el ((wrd k (fun i c => f (i * len + c))) i c)) (el ((wrd k (fun i c => g (i * len + c))) i c))).val) i c : Nat))) := HAU.out.congr fun i _ c _ => by
                show Value.int .u8 ((wrd k (fun i c => (gE.a (el (f (i * len + c))) (el (g (i * len + c)))).val) i c : Nat) : Int) = Value.int .u8 (((fun i c => (gE.a (el ((wrd k (fun i c => f (i * len + c))) i c)) (el ((wrd k (fun i c => g (i * len + c))) i c))).val) i c : Nat) : Int)
                rw [wrd_plus]
              have HAZ2 : Hid (RdM w17 AZ (k + m) (fun _ => len) (fun i c => .int .u8 ((fun i c => (gE.m (el ((wrd k (fun i c => f (i * len + c))) i c)) (el s)).val) i c : Nat))) := HAZ.out.congr fun i _ c _ => by
                show Value.int .u8 ((wrd k (fun i c => (gE.m (el (f (i * len + c))) (el s)).val) i c : Nat) : Int) = Value.int .u8 (((fun i c => (gE.m (el ((wrd k (fun i c => f (i * len + c))) i c)) (el s)).val) i c : Nat) : Int)
                rw [wrd_scale]
              have HAR2 : Hid (RdM w17 AR (k + m) (fun _ => len) (fun i c => .int .u8 ((fun i c => tw k (q) (wrd k (fun i c => f (i * len + c))) (fun c => g ((q) * len + c)) i c) i c : Nat))) := HAR.out.congr fun i _ c hc => by
                show Value.int .u8 ((wrd k (fun i c => if i = (q) then g ((q) * len + c) else f (i * len + c)) i c : Nat) : Int) = Value.int .u8 (((fun i c => tw k (q) (wrd k (fun i c => f (i * len + c))) (fun c => g ((q) * len + c)) i c) i c : Nat) : Int)
                rw [show (fun i c => tw k (q) (wrd k (fun i c => f (i * len + c))) (fun c => g ((q) * len + c)) i c) i c = _ from wrd_turn hq (fun j hj => HFA.out j hj c hc) (HGA.out (q) hq c hc)]
              have HTL : Hid (∀ i, i < k + m → ∀ c, c < len → (fun i c => tw k (q) (wrd k (fun i c => f (i * len + c))) (fun c => g ((q) * len + c)) i c) i c < 256) := fun i _ c hc => by
                show tw k (q) (wrd k (fun i c => f (i * len + c))) (fun c => g ((q) * len + c)) i c < 256
                rw [show tw k (q) (wrd k (fun i c => f (i * len + c))) (fun c => g ((q) * len + c)) i c = _ from wrd_turn (d := fun c => g ((q) * len + c)) hq (fun j hj => HFA.out j hj c hc) (HGA.out (q) hq c hc)]
                exact wrd_lt
              go_wp2_with fail
              refine (same_any AU AQ (k + m) cAU cAQ (fun _ => len) (fun i c => (gE.a (el ((wrd k (fun i c => f (i * len + c))) i c)) (el ((wrd k (fun i c => g (i * len + c))) i c))).val) w17 (by omega) (fun _ _ _ _ => Fin.isLt _) HAU2.out HAQ.out).mono ?_
              rintro e w18 ⟨rfl, hd1⟩
              have HD1 := Lib.hid hd1
              clear hd1
              go_wp2_with fail
              refine (same_any AZ AX (k + m) cAZ cAX (fun _ => len) (fun i c => (gE.m (el ((wrd k (fun i c => f (i * len + c))) i c)) (el s)).val) w18 (by omega) (fun _ _ _ _ => Fin.isLt _) (RdM.below HAZ2.out (HD1.out.below _)) (RdM.below HAX.out (HD1.out.below _))).mono ?_
              rintro e w19 ⟨rfl, hd2⟩
              have HD2 := Lib.hid (HD1.out.trans hd2)
              clear hd2 HD1
              go_wp2_with fail
              refine (same_any AT AR (k + m) cAT cAR (fun _ => len) (fun i c => tw k (q) (wrd k (fun i c => f (i * len + c))) (fun c => g ((q) * len + c)) i c) w19 (by omega) HTL.out (RdM.below HAT.out (HD2.out.below _)) (RdM.below HAR2.out (HD2.out.below _))).mono ?_
              rintro e w20 ⟨rfl, hd3⟩
              have HBF := Lib.hid (HB.out.trans (((HD2.out.trans hd3).below _).mono HB.out.size))
              clear hd3 HD2
              go_wp2
              go_ret
              exact ⟨rfl, HBF.out⟩
  · have hmn : (ny : Int) < (nb : Int) := by omega
    have hlen : ny / k * k ≤ ny := Nat.div_mul_le_self ny k
    have hll : ny / k ≤ ny := Nat.div_le_self ny k
    have hix : ∀ i j, i < k → j < ny / k → i * (ny / k) + j < ny := fun i j hi hj => by
      have h1 : (i + 1) * (ny / k) ≤ k * (ny / k) := Nat.mul_le_mul_right _ hi
      rw [Nat.succ_mul, Nat.mul_comm k] at h1
      omega
    have hfa : ∀ i, i < k → ∀ j, j < ny / k → f (i * (ny / k) + j) < 256 := fun i hi j hj => HF.out _ (by have := hix i j hi hj; omega)
    have hga : ∀ i, i < k → ∀ j, j < ny / k → g (i * (ny / k) + j) < 256 := fun i hi j hj => HG.out _ (by have := hix i j hi hj; omega)
    have CUTA := Lib.hid (fun w' (hb : Below w.heap.size w w') => cut_any A ny cA k f w' (by omega) (by omega) (by omega) (by omega) (fun i hi => HA.out.below hb i (by omega)))
    have CUTY := Lib.hid (fun w' (hb : Below w.heap.size w w') => cut_any Y ny cY k g w' (by omega) (by omega) (by omega) (by omega) (fun i hi => HY.out.below hb i (by omega)))
    have HFA := Lib.hid hfa; have HGA := Lib.hid hga
    clear hix hfa hga hlen
    generalize ny / k = len at *
    go_enter Try.func8, Try.ntmps8
    go_wp2_with fail
    refine (awake_any _).mono ?_
    rintro e w1 ⟨rfl, hb1⟩
    have hc0 : w1.cell? ⟨w.heap.size, 0, none⟩ = some (.int .i64 K) := by rw [hb1.cell (by simp)]; go_simp
    have hc1 : w1.cell? ⟨w.heap.size, 1, none⟩ = some (.int .i64 M) := by rw [hb1.cell (by simp)]; go_simp
    have hc2 : w1.cell? ⟨w.heap.size, 2, none⟩ = some (.slice A nb cA) := by rw [hb1.cell (by simp)]; go_simp
    have hc3 : w1.cell? ⟨w.heap.size, 3, none⟩ = some (.slice P np cP) := by rw [hb1.cell (by simp)]; go_simp
    have hlw : w.heap.size < w1.heap.size := by have := hb1.size; simp at this; omega
    have HB1 := Lib.hid (HB0.out.trans (hb1.mono (by simp)))
    have HPK : Hid (w.heap.size < w1.heap.size ∧ w1.cell? ⟨w.heap.size, 3, none⟩ = some (.slice P np cP)) := ⟨hlw, hc3⟩
    clear hb1 HB0
    go_wp2_with fail
    refine (CF.out w1).mono ?_
    rintro e w2 ⟨rfl, hb2⟩
    have HB2 := Lib.hid (HB1.out.trans (hb2.mono HB1.out.size))
    have hd2 : w2.cell? ⟨w.heap.size, 2, none⟩ = some (.slice A nb cA) := (hb2.cell hlw).trans hc2
    have hs1 : (0 : Int) ≤ (ny : Int) := by omega
    have hs2 : (ny : Int) ≤ (cA : Int) := by omega
    have hs3 : (ny : Int) ≤ (cY : Int) := by omega
    have t_ : Hid (w.heap.size < w2.heap.size ∧ w2.cell? ⟨w.heap.size, 3, none⟩ = some (.slice P np cP)) := ⟨Nat.lt_of_lt_of_le HPK.out.1 hb2.size, (hb2.cell HPK.out.1).trans HPK.out.2⟩
    clear HPK; have HPK := t_; clear t_
    clear hc0 hc1 hc2 hc3 hb2
    go_wp2_with fail
    refine (CUTA.out w2 HB2.out).mono ?_
    rintro e w3 ⟨A3, c3, rfl, hcc3, hR3, hb3⟩
    have HB3 := Lib.hid (HB2.out.trans (hb3.mono HB2.out.size))
    have HR3 := Lib.hid hR3
    have t_ : Hid (w.heap.size < w3.heap.size ∧ w3.cell? ⟨w.heap.size, 3, none⟩ = some (.slice P np cP)) := ⟨Nat.lt_of_lt_of_le HPK.out.1 hb3.size, (hb3.cell HPK.out.1).trans HPK.out.2⟩
    clear HPK; have HPK := t_; clear t_
    clear hd2 hb3 hR3 HB2 CUTA
    go_wp2_with fail
    refine (CUTY.out w3 HB3.out).mono ?_
    rintro e w4 ⟨A4, c4, rfl, hcc4, hR4, hb4⟩
    have HB4 := Lib.hid (HB3.out.trans (hb4.mono HB3.out.size))
    have HR34 := Lib.hid (RdM.below HR3.out hb4)
    have HR4 := Lib.hid hR4
    have t_ : Hid (w.heap.size < w4.heap.size ∧ w4.cell? ⟨w.heap.size, 3, none⟩ = some (.slice P np cP)) := ⟨Nat.lt_of_lt_of_le HPK.out.1 hb4.size, (hb4.cell HPK.out.1).trans HPK.out.2⟩
    clear HPK; have HPK := t_; clear t_
    clear hb4 hR4 HB3 HR3 CUTY
    go_wp2_with fail
    refine (new_ok k m w4 hm1 hmk hk4 hkm).mono ?_
    rintro e w5 ⟨p, rfl, hC, hp, hb5⟩
    have HB5 := Lib.hid (HB4.out.trans (hb5.mono HB4.out.size))
    have HR35 := Lib.hid (RdM.below HR34.out hb5)
    have HR45 := Lib.hid (RdM.below HR4.out hb5)
    have HC := Lib.hid hC
    have t_ : Hid (w.heap.size < w5.heap.size ∧ w5.cell? ⟨w.heap.size, 3, none⟩ = some (.slice P np cP)) := ⟨Nat.lt_of_lt_of_le HPK.out.1 hb5.size, (hb5.cell HPK.out.1).trans HPK.out.2⟩
    clear HPK; have HPK := t_; clear t_
    clear hb5 HB4 HR34 HR4 hC
    have HRA := HR35; have HRB := HR45; have HB := HB5
    clear HR35 HR45 HB5
    have HSF : Hid (∀ i, i < k → ∀ j, j < len → (fun i c => (gE.m (el (f (i * len + c))) (el s)).val) i j < 256) := fun _ _ _ _ => Fin.isLt _
    have HPF : Hid (∀ i, i < k → ∀ j, j < len → (fun i c => (gE.a (el (f (i * len + c))) (el (g (i * len + c)))).val) i j < 256) := fun _ _ _ _ => Fin.isLt _
    go_wp2
    go_loopg [14, 16] k (fun gk v q wr => ∃ (i : Nat) (S : Nat → Option Addr) (C : Nat → Nat), i ≤ k ∧ gk = k - i ∧ q = .int .i64 i ∧ OwnM wr w5.heap.size 24 5 v i S C (fun _ => len) (fun i c => .int .u8 ((gE.m (el ((fun i c => f (i * len + c)) i c)) (el s)).val : Nat)) ∧ Below w5.heap.size w5 wr)
    case atStart => exact ⟨0, fun _ => none, fun _ => 0, Nat.zero_le _, rfl, rfl, OwnM.nil _ _ _ _ _ _ _ _, Below.refl _ _⟩
    case round =>
      obtain ⟨i, S, C, hi, rfl, rfl, hO, hb⟩ := hrel
      have hsz := hb.size
      by_cases hlt : i < k
      · have HO := Lib.hid hO; have HBl := Lib.hid hb
        have hRR := RdM.below HRA.out hb
        clear hO hb
        obtain ⟨SX, CX, hX1, hX2⟩ := hRR
        obtain ⟨bX, oX, hAX, hbX, hxX⟩ := hX1 i hlt
        have hrw := (hX2 i hlt).congr (g := fun c => .int .u8 ((el ((fun i c => f (i * len + c)) i c)).val : Nat)) fun c hc => by show Value.int .u8 (((fun i c => f (i * len + c)) i c : Nat) : Int) = Value.int .u8 ((el ((fun i c => f (i * len + c)) i c)).val : Int); rw [el_val (HFA.out i hlt c hc)]
        have CSC := Lib.hid (scale_any (SX i) len (CX i) (fun c => el ((fun i c => f (i * len + c)) i c)) (el s) wr (by omega) hrw)
        rw [hsv] at CSC
        subst hAX
        clear hX1 hX2 hrw
        go_wp2_with fail
        refine CSC.out.mono ?_
        rintro e w9 ⟨rfl, hq9, hb9⟩
        have hO1 := (HO.out.kept hb9).next (some ⟨wr.heap.size, 0, none⟩) len
        have hr : Own w9 w5.heap.size 5 1 (.slice (upd S i (some ⟨wr.heap.size, 0, none⟩) i) len (upd C i len i)) len (fun c => [.int .u8 ((gE.m (el ((fun i c => f (i * len + c)) i c)) (el s)).val : Nat)]) := by
          rw [upd_at, upd_at]; exact own_of_row hq9 hsz (by unfold maxLen; omega)
        have hu : Hid ((#[Value.slice (some ⟨wr.heap.size, 0, none⟩) len len] : Array Value).toList = [.slice (upd S i (some ⟨wr.heap.size, 0, none⟩) i) len (upd C i len i)]) := by rw [upd_at, upd_at]; rfl
        have hbb := HBl.out.trans (hb9.mono hsz)
        have hsz1 := hbb.size
        have HRow := Lib.hid hr
        clear HO HBl hq9 hb9 hr CSC hxX
        go_wp2_with (at_builtin; refine wpList_push _ rfl (.tmp 73) (.tmp 80) 23 rfl w5.heap.size 24 1 24 (.slice none 0 0) #[.slice (some ⟨wr.heap.size, 0, none⟩) len len] Try.underlying23 bytesInfo rfl (by decide) _ i _ rfl hO1.1 hsz1 _ rfl rfl hu.out rfl rfl (by omega) (by omega) ?_)
        intro v' w10 hown2 hbel2 hg2 _
        have hO2 := hO1.push (by decide) HRow.out hown2 hg2
        have hbF := hbb.trans hbel2
        clear hO1 HRow hown2 hg2 hbel2 hbb hu
        go_wp2
        go_roundg (k - (i + 1))
        case measure => omega
        case rel => exact ⟨i + 1, _, _, by omega, rfl, by go_num, hO2, hbF⟩
      · have hin : i = k := by omega
        subst i
        obtain ⟨AS, cAS, hv, _, hM⟩ := hO.rdm
        subst hv
        have HAS := Lib.hid hM
        have hbx := hb
        clear hO hb hM
        have t_ := Lib.hid (RdM.below HRA.out hbx); clear HRA; have HRA := t_; clear t_
        have t_ := Lib.hid (RdM.below HRB.out hbx); clear HRB; have HRB := t_; clear t_
        have t_ := Lib.hid (HC.out.below hbx); clear HC; have HC := t_; clear t_
        have t_ := And.intro (Nat.lt_of_lt_of_le HPK.out.1 hbx.size) ((hbx.cell HPK.out.1).trans HPK.out.2)
        have HPK2 := Lib.hid t_; clear t_ HPK; have HPK := HPK2; clear HPK2
        have t_ := Lib.hid (HB.out.trans (hbx.mono HB.out.size)); clear HB; have HB := t_; clear t_
        clear hbx
        obtain ⟨w6, rfl⟩ : ∃ w6 : World, w6 = wr := ⟨_, rfl⟩
        go_wp2_with fail
        refine (enc_any p k (k + m) A3 k c3 (fun _ => len) (fun i c => f (i * len + c)) w6 (by omega) (by omega) hkm (by omega) (fun _ _ => by omega) HFA.out HC.out HRA.out).mono ?_
        rintro e w7 ⟨er, AV, R, cAV, rfl, hE, hR, hM, hbx⟩
        have he : er = 0 := hE.uniq (.inr (.inr ⟨rfl, fun _ _ => rfl, rfl⟩))
        subst he
        rw [if_pos rfl] at hR
        subst hR
        have HAV := Lib.hid hM
        clear hM hE
        have t_ := Lib.hid (RdM.below HRA.out hbx); clear HRA; have HRA := t_; clear t_
        have t_ := Lib.hid (RdM.below HRB.out hbx); clear HRB; have HRB := t_; clear t_
        have t_ := Lib.hid (RdM.below HAS.out hbx); clear HAS; have HAS := t_; clear t_
        have t_ := Lib.hid (HC.out.below hbx); clear HC; have HC := t_; clear t_
        have t_ := And.intro (Nat.lt_of_lt_of_le HPK.out.1 hbx.size) ((hbx.cell HPK.out.1).trans HPK.out.2)
        have HPK2 := Lib.hid t_; clear t_ HPK; have HPK := HPK2; clear HPK2
        have t_ := Lib.hid (HB.out.trans (hbx.mono HB.out.size)); clear HB; have HB := t_; clear t_
        clear hbx
        go_wp2_with fail
        refine (enc_any p k (k + m) A4 k c4 (fun _ => len) (fun i c => g (i * len + c)) w7 (by omega) (by omega) hkm (by omega) (fun _ _ => by omega) HGA.out HC.out HRB.out).mono ?_
        rintro e w8 ⟨er, AW, R, cAW, rfl, hE, hR, hM, hbx⟩
        have he : er = 0 := hE.uniq (.inr (.inr ⟨rfl, fun _ _ => rfl, rfl⟩))
        subst he
        rw [if_pos rfl] at hR
        subst hR
        have HAW := Lib.hid hM
        clear hM hE
        have t_ := Lib.hid (RdM.below HRA.out hbx); clear HRA; have HRA := t_; clear t_
        have t_ := Lib.hid (RdM.below HRB.out hbx); clear HRB; have HRB := t_; clear t_
        have t_ := Lib.hid (RdM.below HAS.out hbx); clear HAS; have HAS := t_; clear t_
        have t_ := Lib.hid (RdM.below HAV.out hbx); clear HAV; have HAV := t_; clear t_
        have t_ := Lib.hid (HC.out.below hbx); clear HC; have HC := t_; clear t_
        have t_ := And.intro (Nat.lt_of_lt_of_le HPK.out.1 hbx.size) ((hbx.cell HPK.out.1).trans HPK.out.2)
        have HPK2 := Lib.hid t_; clear t_ HPK; have HPK := HPK2; clear HPK2
        have t_ := Lib.hid (HB.out.trans (hbx.mono HB.out.size)); clear HB; have HB := t_; clear t_
        clear hbx
        go_wp2_with fail
        refine (plus_any A3 A4 k c3 c4 len (fun i c => f (i * len + c)) (fun i c => g (i * len + c)) w8 (by omega) (by omega) HFA.out HGA.out HRA.out HRB.out).mono ?_
        rintro e w9 ⟨AP, cAP, rfl, hM, hbx⟩
        have HAP := Lib.hid hM
        clear hM
        have t_ := Lib.hid (RdM.below HRA.out hbx); clear HRA; have HRA := t_; clear t_
        have t_ := Lib.hid (RdM.below HRB.out hbx); clear HRB; have HRB := t_; clear t_
        have t_ := Lib.hid (RdM.below HAS.out hbx); clear HAS; have HAS := t_; clear t_
        have t_ := Lib.hid (RdM.below HAV.out hbx); clear HAV; have HAV := t_; clear t_
        have t_ := Lib.hid (RdM.below HAW.out hbx); clear HAW; have HAW := t_; clear t_
        have t_ := Lib.hid (HC.out.below hbx); clear HC; have HC := t_; clear t_
        have t_ := And.intro (Nat.lt_of_lt_of_le HPK.out.1 hbx.size) ((hbx.cell HPK.out.1).trans HPK.out.2)
        have HPK2 := Lib.hid t_; clear t_ HPK; have HPK := HPK2; clear HPK2
        have t_ := Lib.hid (HB.out.trans (hbx.mono HB.out.size)); clear HB; have HB := t_; clear t_
        clear hbx
        go_wp2_with fail
        refine (enc_any p k (k + m) AP k cAP (fun _ => len) (fun i c => (gE.a (el (f (i * len + c))) (el (g (i * len + c)))).val) w9 (by omega) (by omega) hkm (by omega) (fun _ _ => by omega) HPF.out HC.out HAP.out).mono ?_
        rintro e w10 ⟨er, AU, R, cAU, rfl, hE, hR, hM, hbx⟩
        have he : er = 0 := hE.uniq (.inr (.inr ⟨rfl, fun _ _ => rfl, rfl⟩))
        subst he
        rw [if_pos rfl] at hR
        subst hR
        have HAU := Lib.hid hM
        clear hM hE
        have t_ := Lib.hid (RdM.below HRA.out hbx); clear HRA; have HRA := t_; clear t_
        have t_ := Lib.hid (RdM.below HRB.out hbx); clear HRB; have HRB := t_; clear t_
        have t_ := Lib.hid (RdM.below HAS.out hbx); clear HAS; have HAS := t_; clear t_
        have t_ := Lib.hid (RdM.below HAV.out hbx); clear HAV; have HAV := t_; clear t_
        have t_ := Lib.hid (RdM.below HAW.out hbx); clear HAW; have HAW := t_; clear t_
        have t_ := Lib.hid (RdM.below HAP.out hbx); clear HAP; have HAP := t_; clear t_
        have t_ := Lib.hid (HC.out.below hbx); clear HC; have HC := t_; clear t_
        have t_ := And.intro (Nat.lt_of_lt_of_le HPK.out.1 hbx.size) ((hbx.cell HPK.out.1).trans HPK.out.2)
        have HPK2 := Lib.hid t_; clear t_ HPK; have HPK := HPK2; clear HPK2
        have t_ := Lib.hid (HB.out.trans (hbx.mono HB.out.size)); clear HB; have HB := t_; clear t_
        clear hbx
        go_wp2_with fail
        refine (enc_any p k (k + m) AS k cAS (fun _ => len) (fun i c => (gE.m (el (f (i * len + c))) (el s)).val) w10 (by omega) (by omega) hkm (by omega) (fun _ _ => by omega) HSF.out HC.out HAS.out).mono ?_
        rintro e w11 ⟨er, AZ, R, cAZ, rfl, hE, hR, hM, hbx⟩
        have he : er = 0 := hE.uniq (.inr (.inr ⟨rfl, fun _ _ => rfl, rfl⟩))
        subst he
        rw [if_pos rfl] at hR
        subst hR
        have HAZ := Lib.hid hM
        clear hM hE
        have t_ := Lib.hid (RdM.below HRA.out hbx); clear HRA; have HRA := t_; clear t_
        have t_ := Lib.hid (RdM.below HRB.out hbx); clear HRB; have HRB := t_; clear t_
        have t_ := Lib.hid (RdM.below HAS.out hbx); clear HAS; have HAS := t_; clear t_
        have t_ := Lib.hid (RdM.below HAV.out hbx); clear HAV; have HAV := t_; clear t_
        have t_ := Lib.hid (RdM.below HAW.out hbx); clear HAW; have HAW := t_; clear t_
        have t_ := Lib.hid (RdM.below HAP.out hbx); clear HAP; have HAP := t_; clear t_
        have t_ := Lib.hid (RdM.below HAU.out hbx); clear HAU; have HAU := t_; clear t_
        have t_ := Lib.hid (HC.out.below hbx); clear HC; have HC := t_; clear t_
        have t_ := And.intro (Nat.lt_of_lt_of_le HPK.out.1 hbx.size) ((hbx.cell HPK.out.1).trans HPK.out.2)
        have HPK2 := Lib.hid t_; clear t_ HPK; have HPK := HPK2; clear HPK2
        have t_ := Lib.hid (HB.out.trans (hbx.mono HB.out.size)); clear HB; have HB := t_; clear t_
        clear hbx
        have HWV : Hid (∀ i, i < k + m → ∀ j, j < len → wrd k (fun i c => f (i * len + c)) i j < 256) := fun _ _ _ _ => wrd_lt
        go_wp2
        go_loopg [15, 24] (k + m) (fun gk v q wr => ∃ (i : Nat) (S : Nat → Option Addr) (C : Nat → Nat), i ≤ (k + m) ∧ gk = (k + m) - i ∧ q = .int .i64 i ∧ OwnM wr w11.heap.size 24 5 v i S C (fun _ => len) (fun i c => .int .u8 ((gE.m (el ((wrd k (fun i c => f (i * len + c))) i c)) (el s)).val : Nat)) ∧ Below w11.heap.size w11 wr)
        case atStart => exact ⟨0, fun _ => none, fun _ => 0, Nat.zero_le _, rfl, rfl, OwnM.nil _ _ _ _ _ _ _ _, Below.refl _ _⟩
        case round =>
          obtain ⟨i, S, C, hi, rfl, rfl, hO, hb⟩ := hrel
          have hsz := hb.size
          by_cases hlt : i < (k + m)
          · have HO := Lib.hid hO; have HBl := Lib.hid hb
            have hRR := RdM.below HAV.out hb
            clear hO hb
            obtain ⟨SX, CX, hX1, hX2⟩ := hRR
            obtain ⟨bX, oX, hAX, hbX, hxX⟩ := hX1 i hlt
            have hrw := (hX2 i hlt).congr (g := fun c => .int .u8 ((el ((wrd k (fun i c => f (i * len + c))) i c)).val : Nat)) fun c hc => by show Value.int .u8 (((wrd k (fun i c => f (i * len + c))) i c : Nat) : Int) = Value.int .u8 ((el ((wrd k (fun i c => f (i * len + c))) i c)).val : Int); rw [el_val (HWV.out i hlt c hc)]
            have CSC := Lib.hid (scale_any (SX i) len (CX i) (fun c => el ((wrd k (fun i c => f (i * len + c))) i c)) (el s) wr (by omega) hrw)
            rw [hsv] at CSC
            subst hAX
            clear hX1 hX2 hrw
            go_wp2_with fail
            refine CSC.out.mono ?_
            rintro e w9 ⟨rfl, hq9, hb9⟩
            have hO1 := (HO.out.kept hb9).next (some ⟨wr.heap.size, 0, none⟩) len
            have hr : Own w9 w11.heap.size 5 1 (.slice (upd S i (some ⟨wr.heap.size, 0, none⟩) i) len (upd C i len i)) len (fun c => [.int .u8 ((gE.m (el ((wrd k (fun i c => f (i * len + c))) i c)) (el s)).val : Nat)]) := by
              rw [upd_at, upd_at]; exact own_of_row hq9 hsz (by unfold maxLen; omega)
            have hu : Hid ((#[Value.slice (some ⟨wr.heap.size, 0, none⟩) len len] : Array Value).toList = [.slice (upd S i (some ⟨wr.heap.size, 0, none⟩) i) len (upd C i len i)]) := by rw [upd_at, upd_at]; rfl
            have hbb := HBl.out.trans (hb9.mono hsz)
            have hsz1 := hbb.size
            have HRow := Lib.hid hr
            clear HO HBl hq9 hb9 hr CSC hxX
            go_wp2_with (at_builtin; refine wpList_push _ rfl (.tmp 136) (.tmp 143) 23 rfl w11.heap.size 24 1 24 (.slice none 0 0) #[.slice (some ⟨wr.heap.size, 0, none⟩) len len] Try.underlying23 bytesInfo rfl (by decide) _ i _ rfl hO1.1 hsz1 _ rfl rfl hu.out rfl rfl (by omega) (by omega) ?_)
            intro v' w10 hown2 hbel2 hg2 _
            have hO2 := hO1.push (by decide) HRow.out hown2 hg2
            have hbF := hbb.trans hbel2
            clear hO1 HRow hown2 hg2 hbel2 hbb hu
            go_wp2
            go_roundg ((k + m) - (i + 1))
            case measure => omega
            case rel => exact ⟨i + 1, _, _, by omega, rfl, by go_num, hO2, hbF⟩
          · have hin : i = (k + m) := by omega
            subst i
            obtain ⟨AX, cAX, hv, _, hM⟩ := hO.rdm
            subst hv
            have HAX := Lib.hid hM
            have hbx := hb
            clear hO hb hM
            have t_ := Lib.hid (RdM.below HRA.out hbx); clear HRA; have HRA := t_; clear t_
            have t_ := Lib.hid (RdM.below HRB.out hbx); clear HRB; have HRB := t_; clear t_
            have t_ := Lib.hid (RdM.below HAS.out hbx); clear HAS; have HAS := t_; clear t_
            have t_ := Lib.hid (RdM.below HAV.out hbx); clear HAV; have HAV := t_; clear t_
            have t_ := Lib.hid (RdM.below HAW.out hbx); clear HAW; have HAW := t_; clear t_
            have t_ := Lib.hid (RdM.below HAP.out hbx); clear HAP; have HAP := t_; clear t_
            have t_ := Lib.hid (RdM.below HAU.out hbx); clear HAU; have HAU := t_; clear t_
            have t_ := Lib.hid (RdM.below HAZ.out hbx); clear HAZ; have HAZ := t_; clear t_
            have t_ := Lib.hid (HC.out.below hbx); clear HC; have HC := t_; clear t_
            have t_ := And.intro (Nat.lt_of_lt_of_le HPK.out.1 hbx.size) ((hbx.cell HPK.out.1).trans HPK.out.2)
            have HPK2 := Lib.hid t_; clear t_ HPK; have HPK := HPK2; clear HPK2
            have t_ := Lib.hid (HB.out.trans (hbx.mono HB.out.size)); clear HB; have HB := t_; clear t_
            clear hbx
            obtain ⟨w12, rfl⟩ : ∃ w12 : World, w12 = wr := ⟨_, rfl⟩
            have hpk := HPK.out.2
            by_cases hnp : np = 0
            · have hnp0 : (np : Int) = 0 := by omega
              have hq : 0 < k := by omega
              obtain ⟨SBx, CBx, hBx1, hBx2⟩ := HRB.out
              obtain ⟨bB, oB, rfl, hbB, hxB⟩ := hBx1 0 hq
              have hxB0 := hxB
              rw [Nat.add_zero] at hxB0
              go_wp2_with fail
              refine (pturn_any p AV (SBx (0)) k (k + m) (k + m) cAV len (CBx (0)) 0 (fun _ => len) (wrd k (fun i c => f (i * len + c))) (fun c => g ((0) * len + c)) w12 (by omega) (by omega) hkm HC.out (by omega) (fun _ _ => by omega) HWV.out (HGA.out (0) hq) HAV.out (hBx2 (0) hq)).mono ?_
              rintro e w13 ⟨er, AT, RT, cAT, rfl, hE, hR, hM, hbx⟩
              have hE2 : er = 0 := by rw [hE]; exact tuE_ok (by omega) (by omega)
              subst hE2
              rw [if_pos rfl] at hR
              subst hR
              have hMT : RdM w13 AT (k + m) (fun _ => len) (fun i c => .int .u8 (tw k (0) (wrd k (fun i c => f (i * len + c))) (fun c => g ((0) * len + c)) i c : Nat)) := hM
              have HAT := Lib.hid hMT
              have HBR0 := Lib.hid (hBx2 (0) hq)
              have HBZ := Lib.hid hbx
              have HBZ2 := Lib.hid hbx.size
              have hyb : w13.cell? ⟨bB, oB + (0), none⟩ = some (.slice (SBx (0)) len (CBx (0))) := (hbx.cell hbB).trans hxB
              clear hM hE hMT hBx1 hBx2 hxB
              have t_ := Lib.hid (RdM.below HRA.out hbx); clear HRA; have HRA := t_; clear t_
              have t_ := Lib.hid (RdM.below HRB.out hbx); clear HRB; have HRB := t_; clear t_
              have t_ := Lib.hid (RdM.below HAS.out hbx); clear HAS; have HAS := t_; clear t_
              have t_ := Lib.hid (RdM.below HAV.out hbx); clear HAV; have HAV := t_; clear t_
              have t_ := Lib.hid (RdM.below HAW.out hbx); clear HAW; have HAW := t_; clear t_
              have t_ := Lib.hid (RdM.below HAP.out hbx); clear HAP; have HAP := t_; clear t_
              have t_ := Lib.hid (RdM.below HAU.out hbx); clear HAU; have HAU := t_; clear t_
              have t_ := Lib.hid (RdM.below HAZ.out hbx); clear HAZ; have HAZ := t_; clear t_
              have t_ := Lib.hid (RdM.below HAX.out hbx); clear HAX; have HAX := t_; clear t_
              have t_ := Lib.hid (HC.out.below hbx); clear HC; have HC := t_; clear t_
              have t_ := And.intro (Nat.lt_of_lt_of_le HPK.out.1 hbx.size) ((hbx.cell HPK.out.1).trans HPK.out.2)
              have HPK2 := Lib.hid t_; clear t_ HPK; have HPK := HPK2; clear HPK2
              have t_ := Lib.hid (HB.out.trans (hbx.mono HB.out.size)); clear HB; have HB := t_; clear t_
              clear hbx
              go_wp2_with fail
              refine (copied_own A3 k c3 len (fun i c => f (i * len + c)) w13 (by omega) (by omega) HRA.out).mono ?_
              rintro e w14 ⟨vD, SD, CD, rfl, hCO, hbx⟩
              obtain ⟨TD, cTD, rfl, hTB, hTl, _, hTf⟩ := hCO.own.1.form (by omega)
              have hcl := hCO.own.1.cell1 hq
              have hfz := hTf (0)
              have hybx : w14.cell? ⟨bB, oB + (0), none⟩ = some (.slice (SBx (0)) len (CBx (0))) := (hbx.cell (cell_lt hyb)).trans hyb
              rw [Nat.add_zero] at hybx
              have t_ := Lib.hid (HBZ.out.trans (hbx.mono HBZ.out.size)); clear HBZ; have HBZ := t_; clear t_
              have HSZ := Lib.hid hbx.size
              have HCO := Lib.hid hCO
              have HTB := Lib.hid hTB
              have HX14 := Lib.hid hbx
              clear hyb hCO hTf hTB hbx
              have HRD := Lib.hid (HCO.out.put (q := 0) (cq := CBx (0)) (Sq := SBx (0)) (d := fun c => g ((0) * len + c)) hq (HBR0.out.below (HBZ.out.setCell (p := ⟨TD, 0, none⟩) (Nat.le_trans HBZ2.out HTB.out) (.slice (SBx (0)) len (CBx (0))))))
              have hb15 := HX14.out.setCell (p := ⟨TD, 0, none⟩) HTB.out (.slice (SBx (0)) len (CBx (0)))
              have t_ := Lib.hid (RdM.below HRA.out hb15); clear HRA; have HRA := t_; clear t_
              have t_ := Lib.hid (RdM.below HRB.out hb15); clear HRB; have HRB := t_; clear t_
              have t_ := Lib.hid (RdM.below HAS.out hb15); clear HAS; have HAS := t_; clear t_
              have t_ := Lib.hid (RdM.below HAV.out hb15); clear HAV; have HAV := t_; clear t_
              have t_ := Lib.hid (RdM.below HAW.out hb15); clear HAW; have HAW := t_; clear t_
              have t_ := Lib.hid (RdM.below HAP.out hb15); clear HAP; have HAP := t_; clear t_
              have t_ := Lib.hid (RdM.below HAU.out hb15); clear HAU; have HAU := t_; clear t_
              have t_ := Lib.hid (RdM.below HAZ.out hb15); clear HAZ; have HAZ := t_; clear t_
              have t_ := Lib.hid (RdM.below HAX.out hb15); clear HAX; have HAX := t_; clear t_
              have t_ := Lib.hid (RdM.below HAT.out hb15); clear HAT; have HAT := t_; clear t_
              have t_ := Lib.hid (HC.out.below hb15); clear HC; have HC := t_; clear t_
              have t_ := And.intro (Nat.lt_of_lt_of_le HPK.out.1 hb15.size) ((hb15.cell HPK.out.1).trans HPK.out.2)
              have HPK2 := Lib.hid t_; clear t_ HPK; have HPK := HPK2; clear HPK2
              have t_ := Lib.hid (HB.out.trans (hb15.mono HB.out.size)); clear HB; have HB := t_; clear t_
              clear hb15 HX14 HBZ HBZ2 HBR0 HCO
              have HDF : Hid (∀ i, i < k → ∀ j, j < len → (fun i c => if i = (0) then g ((0) * len + c) else f (i * len + c)) i j < 256) := fun i hi j hj => by
                show (if i = (0) then g ((0) * len + j) else f (i * len + j)) < 256
                split
                · exact HGA.out (0) hq j hj
                · exact HFA.out i hi j hj
              go_wp2_with fail
              refine (enc_any p k (k + m) (some ⟨TD, 0, none⟩) k cTD (fun _ => len) (fun i c => if i = (0) then g ((0) * len + c) else f (i * len + c)) _ (by omega) (by omega) hkm (by omega) (fun _ _ => by omega) HDF.out HC.out HRD.out).mono ?_
              rintro e w16 ⟨er, AR, R, cAR, rfl, hE, hR, hM, hbx⟩
              have he : er = 0 := hE.uniq (.inr (.inr ⟨rfl, fun _ _ => rfl, rfl⟩))
              subst he
              rw [if_pos rfl] at hR
              subst hR
              have HAR := Lib.hid hM
              clear hM hE
              have t_ := Lib.hid (RdM.below HRA.out hbx); clear HRA; have HRA := t_; clear t_
              have t_ := Lib.hid (RdM.below HRB.out hbx); clear HRB; have HRB := t_; clear t_
              have t_ := Lib.hid (RdM.below HAS.out hbx); clear HAS; have HAS := t_; clear t_
              have t_ := Lib.hid (RdM.below HAV.out hbx); clear HAV; have HAV := t_; clear t_
              have t_ := Lib.hid (RdM.below HAW.out hbx); clear HAW; have HAW := t_; clear t_
              have t_ := Lib.hid (RdM.below HAP.out hbx); clear HAP; have HAP := t_; clear t_
              have t_ := Lib.hid (RdM.below HAU.out hbx); clear HAU; have HAU := t_; clear t_
              have t_ := Lib.hid (RdM.below HAZ.out hbx); clear HAZ; have HAZ := t_; clear t_
              have t_ := Lib.hid (RdM.below HAX.out hbx); clear HAX; have HAX := t_; clear t_
              have t_ := Lib.hid (RdM.below HAT.out hbx); clear HAT; have HAT := t_; clear t_
              have t_ := Lib.hid (HC.out.below hbx); clear HC; have HC := t_; clear t_
              have t_ := And.intro (Nat.lt_of_lt_of_le HPK.out.1 hbx.size) ((hbx.cell HPK.out.1).trans HPK.out.2)
              have HPK2 := Lib.hid t_; clear t_ HPK; have HPK := HPK2; clear HPK2
              have t_ := Lib.hid (HB.out.trans (hbx.mono HB.out.size)); clear HB; have HB := t_; clear t_
              clear hbx
              go_wp2_with fail
              refine (plus_any AV AW (k + m) cAV cAW len (wrd k (fun i c => f (i * len + c))) (wrd k (fun i c => g (i * len + c))) w16 (by omega) (by omega) (fun _ _ _ _ => wrd_lt) (fun _ _ _ _ => wrd_lt) HAV.out HAW.out).mono ?_
              rintro e w17 ⟨AQ, cAQ, rfl, hM, hbx⟩
              have HAQ := Lib.hid hM
              clear hM
              have t_ := Lib.hid (RdM.below HRA.out hbx); clear HRA; have HRA := t_; clear t_
              have t_ := Lib.hid (RdM.below HRB.out hbx); clear HRB; have HRB := t_; clear t_
              have t_ := Lib.hid (RdM.below HAS.out hbx); clear HAS; have HAS := t_; clear t_
              have t_ := Lib.hid (RdM.below HAV.out hbx); clear HAV; have HAV := t_; clear t_
              have t_ := Lib.hid (RdM.below HAW.out hbx); clear HAW; have HAW := t_; clear t_
              have t_ := Lib.hid (RdM.below HAP.out hbx); clear HAP; have HAP := t_; clear t_
              have t_ := Lib.hid (RdM.below HAU.out hbx); clear HAU; have HAU := t_; clear t_
              have t_ := Lib.hid (RdM.below HAZ.out hbx); clear HAZ; have HAZ := t_; clear t_
              have t_ := Lib.hid (RdM.below HAX.out hbx); clear HAX; have HAX := t_; clear t_
              have t_ := Lib.hid (RdM.below HAT.out hbx); clear HAT; have HAT := t_; clear t_
              have t_ := Lib.hid (RdM.below HAR.out hbx); clear HAR; have HAR := t_; clear t_
              have t_ := Lib.hid (HC.out.below hbx); clear HC; have HC := t_; clear t_
              have t_ := And.intro (Nat.lt_of_lt_of_le HPK.out.1 hbx.size) ((hbx.cell HPK.out.1).trans HPK.out.2)
              have HPK2 := Lib.hid t_; clear t_ HPK; have HPK := HPK2; clear HPK2
              have t_ := Lib.hid (HB.out.trans (hbx.mono HB.out.size)); clear HB; have HB := t_; clear t_
              clear hbx
              have HAU2 : Hid (RdM w17 AU (k + m) (fun _ => len) (fun i c => .int .u8 ((fun i c => (gE.a (el ((wrd k (fun i c => f (i * len + c))) i c)) (el ((wrd k (fun i c => g (i * len + c))) i c))).val) i c : Nat))) := HAU.out.congr fun i _ c _ => by
                show Value.int .u8 ((wrd k (fun i c => (gE.a (el (f (i * len + c))) (el (g (i * len + c)))).val) i c : Nat) : Int) = Value.int .u8 (((fun i c => (gE.a (el ((wrd k (fun i c => f (i * len + c))) i c)) (el ((wrd k (fun i c => g (i * len + c))) i c))).val) i c : Nat) : Int)
                rw [wrd_plus]
              have HAZ2 : Hid (RdM w17 AZ (k + m) (fun _ => len) (fun i c => .int .u8 ((fun i c => (gE.m (el ((wrd k (fun i c => f (i * len + c))) i c)) (el s)).val) i c : Nat))) := HAZ.out.congr fun i _ c _ => by
                show Value.int .u8 ((wrd k (fun i c => (gE.m (el (f (i * len + c))) (el s)).val) i c : Nat) : Int) = Value.int .u8 (((fun i c => (gE.m (el ((wrd k (fun i c => f (i * len + c))) i c)) (el s)).val) i c : Nat) : Int)
                rw [wrd_scale]
              have HAR2 : Hid (RdM w17 AR (k + m) (fun _ => len) (fun i c => .int .u8 ((fun i c => tw k (0) (wrd k (fun i c => f (i * len + c))) (fun c => g ((0) * len + c)) i c) i c : Nat))) := HAR.out.congr fun i _ c hc => by
                show Value.int .u8 ((wrd k (fun i c => if i = (0) then g ((0) * len + c) else f (i * len + c)) i c : Nat) : Int) = Value.int .u8 (((fun i c => tw k (0) (wrd k (fun i c => f (i * len + c))) (fun c => g ((0) * len + c)) i c) i c : Nat) : Int)
                rw [show (fun i c => tw k (0) (wrd k (fun i c => f (i * len + c))) (fun c => g ((0) * len + c)) i c) i c = _ from wrd_turn hq (fun j hj => HFA.out j hj c hc) (HGA.out (0) hq c hc)]
              have HTL : Hid (∀ i, i < k + m → ∀ c, c < len → (fun i c => tw k (0) (wrd k (fun i c => f (i * len + c))) (fun c => g ((0) * len + c)) i c) i c < 256) := fun i _ c hc => by
                show tw k (0) (wrd k (fun i c => f (i * len + c))) (fun c => g ((0) * len + c)) i c < 256
                rw [show tw k (0) (wrd k (fun i c => f (i * len + c))) (fun c => g ((0) * len + c)) i c = _ from wrd_turn (d := fun c => g ((0) * len + c)) hq (fun j hj => HFA.out j hj c hc) (HGA.out (0) hq c hc)]
                exact wrd_lt
              go_wp2_with fail
              refine (same_any AU AQ (k + m) cAU cAQ (fun _ => len) (fun i c => (gE.a (el ((wrd k (fun i c => f (i * len + c))) i c)) (el ((wrd k (fun i c => g (i * len + c))) i c))).val) w17 (by omega) (fun _ _ _ _ => Fin.isLt _) HAU2.out HAQ.out).mono ?_
              rintro e w18 ⟨rfl, hd1⟩
              have HD1 := Lib.hid hd1
              clear hd1
              go_wp2_with fail
              refine (same_any AZ AX (k + m) cAZ cAX (fun _ => len) (fun i c => (gE.m (el ((wrd k (fun i c => f (i * len + c))) i c)) (el s)).val) w18 (by omega) (fun _ _ _ _ => Fin.isLt _) (RdM.below HAZ2.out (HD1.out.below _)) (RdM.below HAX.out (HD1.out.below _))).mono ?_
              rintro e w19 ⟨rfl, hd2⟩
              have HD2 := Lib.hid (HD1.out.trans hd2)
              clear hd2 HD1
              go_wp2_with fail
              refine (same_any AT AR (k + m) cAT cAR (fun _ => len) (fun i c => tw k (0) (wrd k (fun i c => f (i * len + c))) (fun c => g ((0) * len + c)) i c) w19 (by omega) HTL.out (RdM.below HAT.out (HD2.out.below _)) (RdM.below HAR2.out (HD2.out.below _))).mono ?_
              rintro e w20 ⟨rfl, hd3⟩
              have HBF := Lib.hid (HB.out.trans (((HD2.out.trans hd3).below _).mono HB.out.size))
              clear hd3 HD2
              go_wp2
              go_ret
              exact ⟨rfl, HBF.out⟩
            · have hnp0 : (0 : Int) < (np : Int) := by omega
              have hnp1 : 0 < np := by omega
              obtain ⟨bP, oP, rfl, hbP, hxP⟩ := HPI.out 0 hnp1
              have hyP : w12.cell? ⟨bP, oP, none⟩ = some (.int .i64 (pi 0)) := (HB.out.cell hbP).trans (by rw [Nat.add_zero] at hxP; exact hxP)
              have HPKK := Lib.hid (fun w => pick_any (pi 0) k w (by omega) (by omega))
              have hq := pickN_lt (k := pi 0) (n := k) (by omega)
              generalize pickN (pi 0) k = q at *
              obtain ⟨SBx, CBx, hBx1, hBx2⟩ := HRB.out
              obtain ⟨bB, oB, rfl, hbB, hxB⟩ := hBx1 q hq
              go_wp2_with fail
              refine (HPKK.out _).mono ?_
              rintro e wq ⟨rfl, rfl⟩
              go_wp2_with fail
              refine (pturn_any p AV (SBx (q)) k (k + m) (k + m) cAV len (CBx (q)) (q : Nat) (fun _ => len) (wrd k (fun i c => f (i * len + c))) (fun c => g ((q) * len + c)) w12 (by omega) (by omega) hkm HC.out (by omega) (fun _ _ => by omega) HWV.out (HGA.out (q) hq) HAV.out (hBx2 (q) hq)).mono ?_
              rintro e w13 ⟨er, AT, RT, cAT, rfl, hE, hR, hM, hbx⟩
              have hE2 : er = 0 := by rw [hE]; exact tuE_ok (by omega) (by omega)
              subst hE2
              rw [if_pos rfl] at hR
              subst hR
              have hMT : RdM w13 AT (k + m) (fun _ => len) (fun i c => .int .u8 (tw k (q) (wrd k (fun i c => f (i * len + c))) (fun c => g ((q) * len + c)) i c : Nat)) := hM
              have HAT := Lib.hid hMT
              have HBR0 := Lib.hid (hBx2 (q) hq)
              have HBZ := Lib.hid hbx
              have HBZ2 := Lib.hid hbx.size
              have hyb : w13.cell? ⟨bB, oB + (q), none⟩ = some (.slice (SBx (q)) len (CBx (q))) := (hbx.cell hbB).trans hxB
              clear hM hE hMT hBx1 hBx2 hxB
              have t_ := Lib.hid (RdM.below HRA.out hbx); clear HRA; have HRA := t_; clear t_
              have t_ := Lib.hid (RdM.below HRB.out hbx); clear HRB; have HRB := t_; clear t_
              have t_ := Lib.hid (RdM.below HAS.out hbx); clear HAS; have HAS := t_; clear t_
              have t_ := Lib.hid (RdM.below HAV.out hbx); clear HAV; have HAV := t_; clear t_
              have t_ := Lib.hid (RdM.below HAW.out hbx); clear HAW; have HAW := t_; clear t_
              have t_ := Lib.hid (RdM.below HAP.out hbx); clear HAP; have HAP := t_; clear t_
              have t_ := Lib.hid (RdM.below HAU.out hbx); clear HAU; have HAU := t_; clear t_
              have t_ := Lib.hid (RdM.below HAZ.out hbx); clear HAZ; have HAZ := t_; clear t_
              have t_ := Lib.hid (RdM.below HAX.out hbx); clear HAX; have HAX := t_; clear t_
              have t_ := Lib.hid (HC.out.below hbx); clear HC; have HC := t_; clear t_
              have t_ := And.intro (Nat.lt_of_lt_of_le HPK.out.1 hbx.size) ((hbx.cell HPK.out.1).trans HPK.out.2)
              have HPK2 := Lib.hid t_; clear t_ HPK; have HPK := HPK2; clear HPK2
              have t_ := Lib.hid (HB.out.trans (hbx.mono HB.out.size)); clear HB; have HB := t_; clear t_
              clear hbx
              go_wp2_with fail
              refine (copied_own A3 k c3 len (fun i c => f (i * len + c)) w13 (by omega) (by omega) HRA.out).mono ?_
              rintro e w14 ⟨vD, SD, CD, rfl, hCO, hbx⟩
              obtain ⟨TD, cTD, rfl, hTB, hTl, _, hTf⟩ := hCO.own.1.form (by omega)
              have hcl := hCO.own.1.cell1 hq
              have hfz := hTf (q)
              have hybx : w14.cell? ⟨bB, oB + (q), none⟩ = some (.slice (SBx (q)) len (CBx (q))) := (hbx.cell (cell_lt hyb)).trans hyb
              skip
              have t_ := Lib.hid (HBZ.out.trans (hbx.mono HBZ.out.size)); clear HBZ; have HBZ := t_; clear t_
              have HSZ := Lib.hid hbx.size
              have HCO := Lib.hid hCO
              have HTB := Lib.hid hTB
              have HX14 := Lib.hid hbx
              clear hyb hCO hTf hTB hbx
              have HRD := Lib.hid (HCO.out.put (q := q) (cq := CBx (q)) (Sq := SBx (q)) (d := fun c => g ((q) * len + c)) hq (HBR0.out.below (HBZ.out.setCell (p := ⟨TD, q, none⟩) (Nat.le_trans HBZ2.out HTB.out) (.slice (SBx (q)) len (CBx (q))))))
              have hb15 := HX14.out.setCell (p := ⟨TD, q, none⟩) HTB.out (.slice (SBx (q)) len (CBx (q)))
              have t_ := Lib.hid (RdM.below HRA.out hb15); clear HRA; have HRA := t_; clear t_
              have t_ := Lib.hid (RdM.below HRB.out hb15); clear HRB; have HRB := t_; clear t_
              have t_ := Lib.hid (RdM.below HAS.out hb15); clear HAS; have HAS := t_; clear t_
              have t_ := Lib.hid (RdM.below HAV.out hb15); clear HAV; have HAV := t_; clear t_
              have t_ := Lib.hid (RdM.below HAW.out hb15); clear HAW; have HAW := t_; clear t_
              have t_ := Lib.hid (RdM.below HAP.out hb15); clear HAP; have HAP := t_; clear t_
              have t_ := Lib.hid (RdM.below HAU.out hb15); clear HAU; have HAU := t_; clear t_
              have t_ := Lib.hid (RdM.below HAZ.out hb15); clear HAZ; have HAZ := t_; clear t_
              have t_ := Lib.hid (RdM.below HAX.out hb15); clear HAX; have HAX := t_; clear t_
              have t_ := Lib.hid (RdM.below HAT.out hb15); clear HAT; have HAT := t_; clear t_
              have t_ := Lib.hid (HC.out.below hb15); clear HC; have HC := t_; clear t_
              have t_ := And.intro (Nat.lt_of_lt_of_le HPK.out.1 hb15.size) ((hb15.cell HPK.out.1).trans HPK.out.2)
              have HPK2 := Lib.hid t_; clear t_ HPK; have HPK := HPK2; clear HPK2
              have t_ := Lib.hid (HB.out.trans (hb15.mono HB.out.size)); clear HB; have HB := t_; clear t_
              clear hb15 HX14 HBZ HBZ2 HBR0 HCO
              have HDF : Hid (∀ i, i < k → ∀ j, j < len → (fun i c => if i = (q) then g ((q) * len + c) else f (i * len + c)) i j < 256) := fun i hi j hj => by
                show (if i = (q) then g ((q) * len + j) else f (i * len + j)) < 256
                split
                · exact HGA.out (q) hq j hj
                · exact HFA.out i hi j hj
              go_wp2_with fail
              refine (enc_any p k (k + m) (some ⟨TD, 0, none⟩) k cTD (fun _ => len) (fun i c => if i = (q) then g ((q) * len + c) else f (i * len + c)) _ (by omega) (by omega) hkm (by omega) (fun _ _ => by omega) HDF.out HC.out HRD.out).mono ?_
              rintro e w16 ⟨er, AR, R, cAR, rfl, hE, hR, hM, hbx⟩
              have he : er = 0 := hE.uniq (.inr (.inr ⟨rfl, fun _ _ => rfl, rfl⟩))
              subst he
              rw [if_pos rfl] at hR
              subst hR
              have HAR := Lib.hid hM
              clear hM hE
              have t_ := Lib.hid (RdM.below HRA.out hbx); clear HRA; have HRA := t_; clear t_
              have t_ := Lib.hid (RdM.below HRB.out hbx); clear HRB; have HRB := t_; clear t_
              have t_ := Lib.hid (RdM.below HAS.out hbx); clear HAS; have HAS := t_; clear t_
              have t_ := Lib.hid (RdM.below HAV.out hbx); clear HAV; have HAV := t_; clear t_
              have t_ := Lib.hid (RdM.below HAW.out hbx); clear HAW; have HAW := t_; clear t_
              have t_ := Lib.hid (RdM.below HAP.out hbx); clear HAP; have HAP := t_; clear t_
              have t_ := Lib.hid (RdM.below HAU.out hbx); clear HAU; have HAU := t_; clear t_
              have t_ := Lib.hid (RdM.below HAZ.out hbx); clear HAZ; have HAZ := t_; clear t_
              have t_ := Lib.hid (RdM.below HAX.out hbx); clear HAX; have HAX := t_; clear t_
              have t_ := Lib.hid (RdM.below HAT.out hbx); clear HAT; have HAT := t_; clear t_
              have t_ := Lib.hid (HC.out.below hbx); clear HC; have HC := t_; clear t_
              have t_ := And.intro (Nat.lt_of_lt_of_le HPK.out.1 hbx.size) ((hbx.cell HPK.out.1).trans HPK.out.2)
              have HPK2 := Lib.hid t_; clear t_ HPK; have HPK := HPK2; clear HPK2
              have t_ := Lib.hid (HB.out.trans (hbx.mono HB.out.size)); clear HB; have HB := t_; clear t_
              clear hbx
              go_wp2_with fail
              refine (plus_any AV AW (k + m) cAV cAW len (wrd k (fun i c => f (i * len + c))) (wrd k (fun i c => g (i * len + c))) w16 (by omega) (by omega) (fun _ _ _ _ => wrd_lt) (fun _ _ _ _ => wrd_lt) HAV.out HAW.out).mono ?_
              rintro e w17 ⟨AQ, cAQ, rfl, hM, hbx⟩
              have HAQ := Lib.hid hM
              clear hM
              have t_ := Lib.hid (RdM.below HRA.out hbx); clear HRA; have HRA := t_; clear t_
              have t_ := Lib.hid (RdM.below HRB.out hbx); clear HRB; have HRB := t_; clear t_
              have t_ := Lib.hid (RdM.below HAS.out hbx); clear HAS; have HAS := t_; clear t_
              have t_ := Lib.hid (RdM.below HAV.out hbx); clear HAV; have HAV := t_; clear t_
              have t_ := Lib.hid (RdM.below HAW.out hbx); clear HAW; have HAW := t_; clear t_
              have t_ := Lib.hid (RdM.below HAP.out hbx); clear HAP; have HAP := t_; clear t_
              have t_ := Lib.hid (RdM.below HAU.out hbx); clear HAU; have HAU := t_; clear t_
              have t_ := Lib.hid (RdM.below HAZ.out hbx); clear HAZ; have HAZ := t_; clear t_
              have t_ := Lib.hid (RdM.below HAX.out hbx); clear HAX; have HAX := t_; clear t_
              have t_ := Lib.hid (RdM.below HAT.out hbx); clear HAT; have HAT := t_; clear t_
              have t_ := Lib.hid (RdM.below HAR.out hbx); clear HAR; have HAR := t_; clear t_
              have t_ := Lib.hid (HC.out.below hbx); clear HC; have HC := t_; clear t_
              have t_ := And.intro (Nat.lt_of_lt_of_le HPK.out.1 hbx.size) ((hbx.cell HPK.out.1).trans HPK.out.2)
              have HPK2 := Lib.hid t_; clear t_ HPK; have HPK := HPK2; clear HPK2
              have t_ := Lib.hid (HB.out.trans (hbx.mono HB.out.size)); clear HB; have HB := t_; clear t_
              clear hbx
              have HAU2 : Hid (RdM w17 AU (k + m) (fun _ => len) (fun i c => .int .u8 ((fun i c => (gE.a (el ((wrd k (fun i c => f (i * len + c))) i c)) (el ((wrd k (fun i c => g (i * len + c))) i c))).val) i c : Nat))) := HAU.out.congr fun i _ c _ => by
                show Value.int .u8 ((wrd k (fun i c => (gE.a (el (f (i * len + c))) (el (g (i * len + c)))).val) i c : Nat) : Int) = Value.int .u8 (((fun i c => (gE.a (el ((wrd k (fun i c => f (i * len + c))) i c)) (el ((wrd k (fun i c => g (i * len + c))) i c))).val) i c : Nat) : Int)
                rw [wrd_plus]
              have HAZ2 : Hid (RdM w17 AZ (k + m) (fun _ => len) (fun i c => .int .u8 ((fun i c => (gE.m (el ((wrd k (fun i c => f (i * len + c))) i c)) (el s)).val) i c : Nat))) := HAZ.out.congr fun i _ c _ => by
                show Value.int .u8 ((wrd k (fun i c => (gE.m (el (f (i * len + c))) (el s)).val) i c : Nat) : Int) = Value.int .u8 (((fun i c => (gE.m (el ((wrd k (fun i c => f (i * len + c))) i c)) (el s)).val) i c : Nat) : Int)
                rw [wrd_scale]
              have HAR2 : Hid (RdM w17 AR (k + m) (fun _ => len) (fun i c => .int .u8 ((fun i c => tw k (q) (wrd k (fun i c => f (i * len + c))) (fun c => g ((q) * len + c)) i c) i c : Nat))) := HAR.out.congr fun i _ c hc => by
                show Value.int .u8 ((wrd k (fun i c => if i = (q) then g ((q) * len + c) else f (i * len + c)) i c : Nat) : Int) = Value.int .u8 (((fun i c => tw k (q) (wrd k (fun i c => f (i * len + c))) (fun c => g ((q) * len + c)) i c) i c : Nat) : Int)
                rw [show (fun i c => tw k (q) (wrd k (fun i c => f (i * len + c))) (fun c => g ((q) * len + c)) i c) i c = _ from wrd_turn hq (fun j hj => HFA.out j hj c hc) (HGA.out (q) hq c hc)]
              have HTL : Hid (∀ i, i < k + m → ∀ c, c < len → (fun i c => tw k (q) (wrd k (fun i c => f (i * len + c))) (fun c => g ((q) * len + c)) i c) i c < 256) := fun i _ c hc => by
                show tw k (q) (wrd k (fun i c => f (i * len + c))) (fun c => g ((q) * len + c)) i c < 256
                rw [show tw k (q) (wrd k (fun i c => f (i * len + c))) (fun c => g ((q) * len + c)) i c = _ from wrd_turn (d := fun c => g ((q) * len + c)) hq (fun j hj => HFA.out j hj c hc) (HGA.out (q) hq c hc)]
                exact wrd_lt
              go_wp2_with fail
              refine (same_any AU AQ (k + m) cAU cAQ (fun _ => len) (fun i c => (gE.a (el ((wrd k (fun i c => f (i * len + c))) i c)) (el ((wrd k (fun i c => g (i * len + c))) i c))).val) w17 (by omega) (fun _ _ _ _ => Fin.isLt _) HAU2.out HAQ.out).mono ?_
              rintro e w18 ⟨rfl, hd1⟩
              have HD1 := Lib.hid hd1
              clear hd1
              go_wp2_with fail
              refine (same_any AZ AX (k + m) cAZ cAX (fun _ => len) (fun i c => (gE.m (el ((wrd k (fun i c => f (i * len + c))) i c)) (el s)).val) w18 (by omega) (fun _ _ _ _ => Fin.isLt _) (RdM.below HAZ2.out (HD1.out.below _)) (RdM.below HAX.out (HD1.out.below _))).mono ?_
              rintro e w19 ⟨rfl, hd2⟩
              have HD2 := Lib.hid (HD1.out.trans hd2)
              clear hd2 HD1
              go_wp2_with fail
              refine (same_any AT AR (k + m) cAT cAR (fun _ => len) (fun i c => tw k (q) (wrd k (fun i c => f (i * len + c))) (fun c => g ((q) * len + c)) i c) w19 (by omega) HTL.out (RdM.below HAT.out (HD2.out.below _)) (RdM.below HAR2.out (HD2.out.below _))).mono ?_
              rintro e w20 ⟨rfl, hd3⟩
              have HBF := Lib.hid (HB.out.trans (((HD2.out.trans hd3).below _).mono HB.out.size))
              clear hd3 HD2
              go_wp2
              go_ret
              exact ⟨rfl, HBF.out⟩
end Go.Proofs.Ythodpgkelmalmaa
