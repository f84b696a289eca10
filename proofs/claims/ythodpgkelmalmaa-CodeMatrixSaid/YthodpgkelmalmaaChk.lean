/- Check of the program and of the document: the walks. Conditions: lengths that memory bears. -/
import Derived.Test.YthodpgkelmalmaaCode3
import Derived.Test.YthodpgkelmalmaaSame
namespace Go.Proofs.Ythodpgkelmalmaa
open Go.RowKit

theorem RdM.firstLen {w : World} {A : Option Addr} {n k len : Nat} {L : Nat → Nat} {f : Nat → Nat → Value} (h : RdM w A n L f) (hk : k ≤ n) (hl : ∀ i, i < k → L i = len) : RdM w A k (fun _ => len) f := by
  obtain ⟨S, C, h1, h2⟩ := h
  refine ⟨S, C, fun i hi => ?_, fun i hi => ?_⟩
  · obtain ⟨b, o, e, hb, hc⟩ := h1 i (by omega)
    refine ⟨b, o, e, hb, ?_⟩
    rw [hc]
    show some (Value.slice (S i) (L i) (C i)) = some (Value.slice (S i) len (C i))
    rw [hl i hi]
  · have h3 := h2 i (by omega)
    rw [hl i hi] at h3
    exact h3
theorem equal_any (A1 A2 : Option Addr) (n m c1 c2 : Nat) (f g : Nat → Nat) (w : World) (hf : ∀ i, i < n → f i < 256) (hg : ∀ i, i < m → g i < 256) (h1 : Rd w A1 n fun i => .int .u8 (f i)) (h2 : Rd w A2 m fun i => .int .u8 (g i)) :
    Calls Try.prog 62 #[.slice A1 n c1, .slice A2 m c2] w fun e w' => e = .returned (.bool ((strN n f).toList == (strN m g).toList)) ∧ w = w' := by
  have hs1 := conv_str (P := Try.prog) w 24 9 5 A1 n c1 f Try.underlying24 Try.underlying5 Try.underlying9 hf h1
  have hs2 := conv_str (P := Try.prog) w 24 9 5 A2 m c2 g Try.underlying24 Try.underlying5 Try.underlying9 hg h2
  clear h1 h2 hf hg
  generalize strN n f = s1 at *
  generalize strN m g = s2 at *
  go_enter Try.func62, Try.ntmps62
  go_wp2
  go_ret
  exact ⟨rfl, rfl⟩
/-- Are the rows the word of the first k? -/
def wordB (k n len : Nat) (g : Nat → Nat → Nat) : Bool := (List.range n).all fun i => (strN len (wrd k g i)).toList == (strN len (g i)).toList
theorem wordB_false {k n len : Nat} {g : Nat → Nat → Nat} {i : Nat} (hi : i < n) (h : ((strN len (wrd k g i)).toList == (strN len (g i)).toList) = false) : wordB k n len g = false := by
  unfold wordB
  cases e : (List.range n).all fun i => (strN len (wrd k g i)).toList == (strN len (g i)).toList
  · rfl
  · have := List.all_eq_true.1 e i (List.mem_range.2 hi)
    rw [h] at this
    exact absurd this (by decide)
theorem wordB_true {k n len : Nat} {g : Nat → Nat → Nat} (h : ∀ i, i < n → ((strN len (wrd k g i)).toList == (strN len (g i)).toList) = true) : wordB k n len g = true := List.all_eq_true.2 fun i hi => h i (List.mem_range.1 hi)
/-- What Check answers. -/
def chE (n nr : Nat) (L : Nat → Nat) : Int := if nr = n then (if evB n L (L 0) then 0 else 41) else 40
def chB (k n nr : Nat) (L : Nat → Nat) (g : Nat → Nat → Nat) : Bool := decide (nr = n) && (evB n L (L 0) && wordB k n (L 0) g)
set_option maxRecDepth 40000 in
set_option maxHeartbeats 2000000 in
theorem rchk_any (A : Option Addr) (k m nr c : Nat) (L : Nat → Nat) (g : Nat → Nat → Nat) (w : World) (hk : 0 < k) (hkm : k + m ≤ 255) (hnr : nr ≤ 1000000000000000) (hc : nr ≤ c) (hL : ∀ i, i < nr → L i ≤ 140737488351232) (hg : ∀ i, i < nr → ∀ j, j < L i → g i j < 256) (hA : RdM w A nr L (fun i j => .int .u8 (g i j))) :
    Calls Try.prog 32 #[.int .i64 k, .int .i64 m, .slice A nr c] w fun e w' => e = .returned (.tuple #[.bool (chB k (k + m) nr L g), .int .i64 (chE (k + m) nr L)]) ∧ Below w.heap.size w w' := by
  have hs1 : IntKind.i64.wrap ((k : Int) + (m : Int)) = (k : Int) + (m : Int) := i64_small _ (by omega) (by omega)
  by_cases h1 : nr = k + m
  · subst h1
    obtain ⟨S, C, hA1, hA2⟩ := id hA
    obtain ⟨b, o, rfl, hb, hx⟩ := hA1 0 (by omega)
    rw [Nat.add_zero] at hx
    have CO := Lib.hid (one_any (some ⟨b, o, none⟩) (k + m) c (L 0) L C S w hnr hA1)
    have HA := Lib.hid hA; have HA1 := Lib.hid hA1; have HA2 := Lib.hid hA2; have HL := Lib.hid hL; have HG := Lib.hid hg
    have HBB : Hid (evB (k + m) L (L 0) = true ↔ ∀ i, i < k + m → L i = L 0) := evB_iff
    have HCB : Hid (chB k (k + m) (k + m) L g = (evB (k + m) L (L 0) && wordB k (k + m) (L 0) g)) := by show _ = _; unfold chB; simp
    have HCE : Hid (chE (k + m) (k + m) L = if evB (k + m) L (L 0) then 0 else 41) := by show _ = _; unfold chE; rw [if_pos rfl]
    rw [HCB.out, HCE.out]
    clear hA hA1 hA2 hL hg HCB HCE
    generalize hbb : evB (k + m) L (L 0) = bb at *
    clear hbb
    cases bb
    · go_enter Try.func32, Try.ntmps32
      go_wp2_with fail
      rw [show (k : Int) + (m : Int) = ((k + m : Nat) : Int) from by omega]
      refine CO.out.mono ?_
      rintro e w1 ⟨rfl, rfl⟩
      go_wp2
      go_ret2
      exact ⟨rfl, Below.refl _ _⟩
    · have hev := HBB.out.1 rfl
      have hB : RdM w (some ⟨b, o, none⟩) k (fun _ => L 0) (fun j c => .int .u8 ((el (g j c)).val : Nat)) := by
        exact (HA.out.firstLen (show k ≤ k + m by omega) (fun i hi => hev i (by omega))).congr fun i hi c hc => by
          show Value.int .u8 ((g i c : Nat) : Int) = Value.int .u8 ((el (g i c)).val : Int)
          rw [el_val (HG.out i (by omega) c (by rw [hev i (by omega)]; exact hc))]
      have HB := Lib.hid hB; have HEV := Lib.hid hev
      have hb1 : (0 : Int) ≤ (k : Int) := by omega
      have hb2 : (k : Int) ≤ (c : Int) := by omega
      have CS := Lib.hid (fun (A1 : Option Addr) (c1 : Nat) (w1 : World) (hF : Rd w1 A1 k (fun i => .int .i64 (i : Nat))) (hb : Below w.heap.size w w1) => spread_any A1 (some ⟨b, o, none⟩) (k + m) k c1 c (L 0) (fun j c => el (g j c)) w1 (by omega) (by omega) hk (HL.out 0 (by omega)) hF (RdM.below HB.out hb))
      clear hB hev HBB
      go_enter Try.func32, Try.ntmps32
      go_wp2_with fail
      refine CO.out.mono ?_
      rintro e w1 ⟨rfl, rfl⟩
      clear CO
      go_wp2_with fail
      refine wp_region_mix [(true, true, false), (true, true, false), (true, true, false), (true, true, false), (false, false, false), (true, true, false), (true, true, false), (true, true, false), (false, false, true), (false, false, true)] mixed (by kernel_rfl) (fun w4 => True) (trivial) ?_
      intro hSw0
      simp only [hdM, tlM, List.cons_append, List.nil_append]
      repeat (first
        | (refine mix_look hSw0.out ?_ (by rfl) (fun w4 hSw => ?_) ?_; rotate_left; (focus (have s1 := hSw; go_simp; try with_reducible rfl)); simp only [Act.put, List.setIfInBounds_toArray, List.set_cons_zero, List.set_cons_succ])
        | (refine mix_pure ?_ (by rfl) (fun w4 => ?_) ?_; rotate_left; (focus (go_simp; try with_reducible rfl)); simp only [Act.put, List.setIfInBounds_toArray, List.set_cons_zero, List.set_cons_succ]))
      refine mix_step (fun K hK => ?_)
      go_simp
      refine (first_any k _ (by omega)).mono ?_
      rintro e w1 ⟨A1, c1, rfl, hF, hb1⟩
      dsimp only
      have HF := Lib.hid hF; have HB1 := Lib.hid ((Below.refl _ _).drew.trans hb1 : Below w.heap.size w w1)
      clear hF hb1
      refine hK.out _ _ (fun _ h => h) ?_
      clear hK K
      try simp only [Act.put, List.setIfInBounds_toArray, List.set_cons_zero, List.set_cons_succ]
      refine mix_step (fun K hK => ?_)
      go_simp
      rw [show (k : Int) + (m : Int) = ((k + m : Nat) : Int) from by omega]
      refine (CS.out A1 c1 w1 HF.out HB1.out).mono ?_
      rintro e w2 ⟨A2, c2, rfl, hR, hb2⟩
      dsimp only
      have HR := Lib.hid hR; have HB2 := Lib.hid (HB1.out.trans (hb2.mono HB1.out.size))
      clear hR hb2 CS HF HB1
      refine hK.out _ _ (fun _ h => h) ?_
      clear hK K
      try simp only [Act.put, List.setIfInBounds_toArray, List.set_cons_zero, List.set_cons_succ]
      refine mix_step (fun K hK => ?_)
      go_simp
      refine hK.out _ _ (fun _ h => h) ?_
      clear hK K
      try simp only [Act.put, List.setIfInBounds_toArray, List.set_cons_zero, List.set_cons_succ]
      refine mix_nil ?_
      obtain ⟨SW, CW, hW1, hW2⟩ := HR.out
      obtain ⟨SD, CD, hD1, hD2⟩ := RdM.below HA.out HB2.out
      have HW1 := Lib.hid hW1; have HW2 := Lib.hid hW2; have HD1 := Lib.hid hD1; have HD2 := Lib.hid hD2
      clear hW1 hW2 hD1 hD2 HR
      go_wp2
      go_loopg [9] (k + m) (fun gk v wr => Dr w2 wr ∧ ∃ i : Nat, i ≤ k + m ∧ gk = k + m - i ∧ v = .int .i64 i ∧ ∀ t, t < i → ((strN (L 0) (wrd k g t)).toList == (strN (L 0) (g t)).toList) = true)
      case atStart => exact ⟨Dr.refl _, 0, Nat.zero_le _, rfl, rfl, fun t ht => absurd ht (by omega)⟩
      case round =>
        obtain ⟨hd, i, hi, rfl, rfl, hall⟩ := hrel
        have HALL := Lib.hid hall
        clear hall
        by_cases hlt : i < k + m
        · obtain ⟨b1, o1, rfl, hb1, hx1⟩ := HW1.out i hlt
          obtain ⟨b2, o2, e2, hb2, hx2⟩ := HD1.out i hlt
          injection e2 with e2
          injection e2 with e2 e3 _
          subst e2 e3
          have hLi : L i = L 0 := HEV.out i hlt
          have hy1 : wr.cell? ⟨b1, o1 + i, none⟩ = some (.slice (SW i) (L 0) (CW i)) := (hd.cell _).trans hx1
          have hy2 : wr.cell? ⟨b, o + i, none⟩ = some (.slice (SD i) (L 0) (CD i)) := by rw [← hLi]; exact (hd.cell _).trans hx2
          have hy3 : wr.drew.cell? ⟨b1, o1 + i, none⟩ = some (.slice (SW i) (L 0) (CW i)) := hy1
          have hy4 : wr.drew.cell? ⟨b, o + i, none⟩ = some (.slice (SD i) (L 0) (CD i)) := hy2
          have hs1 := conv_str (P := Try.prog) wr.drew 24 9 5 (SW i) (L 0) (CW i) (wrd k g i) Try.underlying24 Try.underlying5 Try.underlying9 (fun _ _ => wrd_lt) ((HW2.out i hlt).below (hd.drew.below _))
          have hs2 := conv_str (P := Try.prog) wr.drew 24 9 5 (SD i) (L 0) (CD i) (g i) Try.underlying24 Try.underlying5 Try.underlying9 (by rw [← hLi]; exact HG.out i hlt) (by
            have h := (HD2.out i hlt).below (hd.drew.below _)
            rw [hLi] at h
            exact h)
          have HD := Lib.hid hd.drew
          have HF : Hid (((strN (L 0) (wrd k g i)).toList == (strN (L 0) (g i)).toList) = false → wordB k (k + m) (L 0) g = false) := fun h => wordB_false hlt h
          clear hx1 hx2 hd
          cases hq : (strN (L 0) (wrd k g i)).toList == (strN (L 0) (g i)).toList
          · have hq2 : ((strN (L 0) (wrd k g i)).toList != (strN (L 0) (g i)).toList) = true := by unfold bne; rw [hq]; rfl
            have HFF := Lib.hid (HF.out hq)
            generalize strN (L 0) (wrd k g i) = s1 at *
            generalize strN (L 0) (g i) = s2 at *
            go_wp2_with fail
            refine wp_region_mix [(true, true, false), (true, true, false), (true, true, false), (true, true, true), (true, true, true), (true, true, false), (true, true, false), (true, true, false), (true, true, true), (true, true, true), (true, true, false)] mixed (by kernel_rfl) (fun w4 => w4 = wr.drew) (rfl) ?_
            intro hSw0
            simp only [hdM, tlM, List.cons_append, List.nil_append]
            repeat (first
              | (refine mix_look hSw0.out ?_ (by rfl) (fun w4 hSw => ?_) ?_; rotate_left; (focus (subst hSw; go_simp; try with_reducible rfl)); simp only [Act.put, List.setIfInBounds_toArray, List.set_cons_zero, List.set_cons_succ])
              | (refine mix_pure ?_ (by rfl) (fun w4 => ?_) ?_; rotate_left; (focus (go_simp; try with_reducible rfl)); simp only [Act.put, List.setIfInBounds_toArray, List.set_cons_zero, List.set_cons_succ]))
            refine mix_nil ?_
            clear hs1 hs2 hy1 hy2 hy3 hy4
            go_wp2
            go_ret2
            exact ⟨by rw [HFF.out]; rfl, HB2.out.trans ((HD.out.below _).mono HB2.out.size)⟩
          · have hq2 : ((strN (L 0) (wrd k g i)).toList != (strN (L 0) (g i)).toList) = false := by unfold bne; rw [hq]; rfl
            have HQ := Lib.hid hq
            clear HF
            generalize hg1 : strN (L 0) (wrd k g i) = s1 at *
            generalize hg2 : strN (L 0) (g i) = s2 at *
            have HG1 := Lib.hid hg1; have HG2 := Lib.hid hg2
            clear hg1 hg2
            go_wp2_with fail
            refine wp_region_mix [(true, true, false), (true, true, false), (true, true, false), (true, true, true), (true, true, true), (true, true, false), (true, true, false), (true, true, false), (true, true, true), (true, true, true), (true, true, false)] mixed (by kernel_rfl) (fun w4 => w4 = wr.drew) (rfl) ?_
            intro hSw0
            simp only [hdM, tlM, List.cons_append, List.nil_append]
            repeat (first
              | (refine mix_look hSw0.out ?_ (by rfl) (fun w4 hSw => ?_) ?_; rotate_left; (focus (subst hSw; go_simp; try with_reducible rfl)); simp only [Act.put, List.setIfInBounds_toArray, List.set_cons_zero, List.set_cons_succ])
              | (refine mix_pure ?_ (by rfl) (fun w4 => ?_) ?_; rotate_left; (focus (go_simp; try with_reducible rfl)); simp only [Act.put, List.setIfInBounds_toArray, List.set_cons_zero, List.set_cons_succ]))
            refine mix_nil ?_
            clear hs1 hs2 hy1 hy2 hy3 hy4
            go_wp2
            go_roundg (k + m - (i + 1))
            case measure => omega
            case rel => exact ⟨HD.out, i + 1, by omega, rfl, by go_num, fun t ht => by
              by_cases e : t = i
              · rw [e, HG1.out, HG2.out]; exact HQ.out
              · exact HALL.out t (by omega)⟩
        · have hin : i = k + m := by omega
          subst i
          have HWT := Lib.hid (wordB_true HALL.out)
          have HBX := Lib.hid (HB2.out.trans ((hd.below _).mono HB2.out.size))
          clear hd
          go_wp2
          go_ret2
          exact ⟨by rw [HWT.out]; rfl, HBX.out⟩
  · have HCB : Hid (chB k (k + m) nr L g = false) := by show _ = _; unfold chB; rw [decide_eq_false h1]; rfl
    have HCE : Hid (chE (k + m) nr L = 40) := if_neg h1
    have t1 : ((nr : Int) != (k : Int) + (m : Int)) = true := by rw [bne_iff_ne]; omega
    rw [HCB.out, HCE.out]
    clear h1 hA hg hL HCB HCE
    go_enter Try.func32, Try.ntmps32
    go_wp2
    go_ret2
    exact ⟨rfl, Below.refl _ _⟩
set_option maxRecDepth 40000 in
set_option maxHeartbeats 2000000 in
theorem pchk_any (p : Nat) (A : Option Addr) (k n nr c : Nat) (L : Nat → Nat) (g : Nat → Nat → Nat) (w : World) (hk : 0 < k) (hkn : k ≤ n) (hn : n ≤ 255) (hnr : nr ≤ 1000000000000000) (hc : nr ≤ c) (hL : ∀ i, i < nr → L i ≤ 140737488351232) (hg : ∀ i, i < nr → ∀ j, j < L i → g i j < 256) (hC : CodeAt w p k n) (hA : RdM w A nr L (fun i j => .int .u8 (g i j))) :
    Calls Try.prog 33 #[.pointer (some ⟨p, 0, none⟩), .slice A nr c] w fun e w' => e = .returned (.tuple #[.bool (chB k n nr L g), .int .i64 (chE n nr L)]) ∧ Below w.heap.size w w' := by
  have CN := Lib.hid (none_any p k n w hC hk)
  have hcn := hC.cn
  have hck := hC.ck
  by_cases h1 : nr = n
  · subst h1
    obtain ⟨S, C, hA1, hA2⟩ := id hA
    obtain ⟨b, o, rfl, hb, hx⟩ := hA1 0 (by omega)
    rw [Nat.add_zero] at hx
    have CE := Lib.hid (even_any (some ⟨b, o, none⟩) nr c L C S w hnr hA1)
    have HA := Lib.hid hA; have HL := Lib.hid hL; have HG := Lib.hid hg; have HC := Lib.hid hC
    have HBB : Hid (evB nr L (L 0) = true ↔ ∀ i, i < nr → L i = L 0) := evB_iff
    have HCB : Hid (chB k nr nr L g = (evB nr L (L 0) && wordB k nr (L 0) g)) := by show _ = _; unfold chB; simp
    have HCE : Hid (chE nr nr L = if evB nr L (L 0) then 0 else 41) := by show _ = _; unfold chE; rw [if_pos rfl]
    rw [HCB.out, HCE.out]
    clear hA hA1 hA2 hL hg HCB HCE hC
    generalize hbb : evB nr L (L 0) = bb at *
    clear hbb
    cases bb
    · go_enter Try.func33, Try.ntmps33
      go_wp2_with fail
      refine CN.out.mono ?_
      rintro e w1 ⟨rfl, rfl⟩
      go_wp2_with fail
      refine CE.out.mono ?_
      rintro e w1 ⟨rfl, rfl⟩
      go_wp2
      go_ret2
      exact ⟨rfl, Below.refl _ _⟩
    · have hev := HBB.out.1 rfl
      have HEV := Lib.hid hev
      have hb1 : (0 : Int) ≤ (k : Int) := by omega
      have hb2 : (k : Int) ≤ (c : Int) := by omega
      have hB : RdM w (some ⟨b, o, none⟩) k L (fun i j => .int .u8 (g i j)) := by
        obtain ⟨S, C, h1, h2⟩ := HA.out
        exact ⟨S, C, fun i hi => h1 i (by omega), fun i hi => h2 i (by omega)⟩
      have CX := Lib.hid (enc_any p k nr (some ⟨b, o, none⟩) k c L g w hk hkn hn (by omega) (fun i hi => HL.out i (by omega)) (fun i hi => HG.out i (by omega)) HC.out hB)
      clear hev hB HBB
      go_enter Try.func33, Try.ntmps33
      go_wp2_with fail
      refine CN.out.mono ?_
      rintro e w1 ⟨rfl, rfl⟩
      go_wp2_with fail
      refine CE.out.mono ?_
      rintro e w1 ⟨rfl, rfl⟩
      clear CN CE
      go_wp2_with fail
      refine CX.out.mono ?_
      rintro e w2 ⟨er, A2, R2, c2, rfl, hE, hR2, hM, hb2'⟩
      have he : er = 0 := hE.uniq (.inr (.inr ⟨rfl, fun i hi => HEV.out i (by omega), rfl⟩))
      subst he
      rw [if_pos rfl] at hR2
      have hR3 := hR2.symm
      subst hR3
      obtain ⟨SW, CW, hW1, hW2⟩ := hM
      obtain ⟨SD, CD, hD1, hD2⟩ := RdM.below HA.out hb2'
      have HW1 := Lib.hid hW1; have HW2 := Lib.hid hW2; have HD1 := Lib.hid hD1; have HD2 := Lib.hid hD2; have HB2 := Lib.hid hb2'
      clear hW1 hW2 hD1 hD2 hE CX hb2' hcn hck hx
      go_wp2
      go_loopg [8, 9, 38] nr (fun gk _ _ v wr => wr = w2 ∧ ∃ i : Nat, i ≤ nr ∧ gk = nr - i ∧ v = .int .i64 i ∧ ∀ t, t < i → ((strN (L 0) (wrd k g t)).toList == (strN (L 0) (g t)).toList) = true)
      case atStart => exact ⟨rfl, 0, Nat.zero_le _, rfl, rfl, fun t ht => absurd ht (by omega)⟩
      case round =>
        obtain ⟨rfl, i, hi, rfl, rfl, hall⟩ := hrel
        have HALL := Lib.hid hall
        clear hall
        by_cases hlt : i < nr
        · obtain ⟨b1, o1, rfl, hb1, hx1⟩ := HW1.out i hlt
          obtain ⟨b2, o2, e2, hb2, hx2⟩ := HD1.out i hlt
          injection e2 with e2
          injection e2 with e2 e3 _
          subst e2 e3
          have hLi : L i = L 0 := HEV.out i hlt
          have hy1 : wr.cell? ⟨b1, o1 + i, none⟩ = some (.slice (SW i) (L 0) (CW i)) := hx1
          have hy2 : wr.cell? ⟨b, o + i, none⟩ = some (.slice (SD i) (L 0) (CD i)) := by rw [← hLi]; exact hx2
          have CQ := Lib.hid (equal_any (SW i) (SD i) (L 0) (L 0) (CW i) (CD i) (wrd k g i) (g i) wr (fun _ _ => wrd_lt) (by rw [← hLi]; exact HG.out i hlt) (HW2.out i hlt) (by
            have h := HD2.out i hlt
            rw [hLi] at h
            exact h))
          have HF : Hid (((strN (L 0) (wrd k g i)).toList == (strN (L 0) (g i)).toList) = false → wordB k nr (L 0) g = false) := fun h => wordB_false hlt h
          clear hx1 hx2
          cases hq : (strN (L 0) (wrd k g i)).toList == (strN (L 0) (g i)).toList
          · rw [hq] at CQ
            have HFF := Lib.hid (HF.out hq)
            clear hq
            go_wp2_with fail
            refine CQ.out.mono ?_
            rintro e w3 ⟨rfl, rfl⟩
            go_wp2
            go_ret2
            exact ⟨by rw [HFF.out]; rfl, HB2.out⟩
          · rw [hq] at CQ
            have HQ := Lib.hid hq
            clear HF hq
            go_wp2_with fail
            refine CQ.out.mono ?_
            rintro e w3 ⟨rfl, rfl⟩
            go_wp2
            go_roundg (nr - (i + 1))
            case measure => omega
            case rel => exact ⟨rfl, i + 1, by omega, rfl, by go_num, fun t ht => by
              by_cases e : t = i
              · rw [e]; exact HQ.out
              · exact HALL.out t (by omega)⟩
        · have hin : i = nr := by omega
          subst i
          have HWT := Lib.hid (wordB_true HALL.out)
          go_wp2
          go_ret2
          exact ⟨by rw [HWT.out]; rfl, HB2.out⟩
  · have HCB : Hid (chB k n nr L g = false) := by show _ = _; unfold chB; rw [decide_eq_false h1]; rfl
    have HCE : Hid (chE n nr L = 40) := if_neg h1
    have t1 : ((nr : Int) != (n : Int)) = true := by rw [bne_iff_ne]; omega
    rw [HCB.out, HCE.out]
    clear h1 hA hg hL HCB HCE hC
    go_enter Try.func33, Try.ntmps33
    go_wp2_with fail
    refine CN.out.mono ?_
    rintro e w1 ⟨rfl, rfl⟩
    go_wp2
    go_ret2
    exact ⟨rfl, Below.refl _ _⟩
end Go.Proofs.Ythodpgkelmalmaa
