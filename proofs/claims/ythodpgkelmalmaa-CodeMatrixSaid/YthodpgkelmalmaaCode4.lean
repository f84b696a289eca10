/- Encode of the program, with what capacity its answer has. Conditions: as Encode's. -/
import Derived.Test.YthodpgkelmalmaaCode3
namespace Go.Proofs.Ythodpgkelmalmaa
open Go.RowKit

set_option maxRecDepth 40000 in
set_option maxHeartbeats 4000000 in
set_option maxRecDepth 40000 in
set_option maxHeartbeats 2000000 in
theorem enc_full (p k n : Nat) (A : Option Addr) (nr c : Nat) (L : Nat → Nat) (g : Nat → Nat → Nat) (w : World) (hk : 0 < k) (hkn : k ≤ n) (hn : n ≤ 255) (hnr : nr ≤ 1000000000000000) (hL : ∀ i, i < nr → L i ≤ 140737488351232) (hg : ∀ i, i < nr → ∀ j, j < L i → g i j < 256) (hC : CodeAt w p k n) (hA : RdM w A nr L (fun i j => .int .u8 (g i j))) :
    Calls Try.prog 20 #[.pointer (some ⟨p, 0, none⟩), .slice A nr c] w fun e w' => ∃ (er : Int) (A' : Option Addr) (R c' : Nat), e = .returned (.tuple #[.slice A' R c', .int .i64 er]) ∧ EncP k nr L er ∧ R = (if er = 0 then n else 0) ∧ RdM w' A' R (fun _ => L 0) (fun i c => .int .u8 (wrd k g i c)) ∧ Below w.heap.size w w' ∧ R ≤ c' := by
  have CN := Lib.hid (none_any p k n w hC hk)
  have hck := hC.ck
  by_cases h1 : nr = k
  · subst h1
    obtain ⟨S, C, hA1, hA2⟩ := id hA
    obtain ⟨b, o, rfl, hb, hc⟩ := hA1 0 hk
    rw [Nat.add_zero] at hc
    have CE := Lib.hid (even_any (some ⟨b, o, none⟩) nr c L C S w hnr hA1)
    have HA := Lib.hid hA; have HL := Lib.hid hL; have HG := Lib.hid hg; have HC := Lib.hid hC
    clear hA hA1 hA2 hL hg hC
    go_enter Try.func20, Try.ntmps20
    go_wp2_with fail
    refine CN.out.mono ?_
    rintro e w1 ⟨rfl, rfl⟩
    go_wp2_with fail
    refine CE.out.mono ?_
    rintro e w1 ⟨rfl, rfl⟩
    have HBB : Hid (evB nr L (L 0) = true ↔ ∀ i, i < nr → L i = L 0) := evB_iff
    clear CE CN hck
    generalize evB nr L (L 0) = bb at *
    cases bb
    · go_wp2
      go_ret2
      exact ⟨41, none, 0, 0, rfl, .inr (.inl ⟨rfl, fun h => absurd (HBB.out.2 h) (by decide), rfl⟩), rfl, RdM.zero _ _ _ _, Below.refl _ _, Nat.le_refl _⟩
    · have hev := HBB.out.1 rfl
      have HEV := Lib.hid hev
      by_cases h0 : L 0 = 0
      · have t1 : ((L 0 : Int) == 0) = true := by rw [h0]; rfl
        have hcn := HC.out.cn
        have hmk1 := run_make_row' (P := Try.prog) 23 24 (.slice none 0 0) 24 Try.underlying23 bytesInfo rfl .i64 .i64 n (by omega) (by omega)
        have HR : Hid (RdM (w.alloc (.cells (madeCells #[.slice none 0 0] n) 24)) (some ⟨w.heap.size, 0, none⟩) n (fun _ => L 0) (fun i c => .int .u8 (wrd nr g i c))) :=
          ⟨fun _ => none, fun _ => 0, row_rd ((World.rowIs_made w (.slice none 0 0) n 24).congr fun i _ => by rw [h0]), fun i _ => by rw [h0]; exact Rd.zero _ _ _⟩
        have HB := Lib.hid ((Below.refl w.heap.size w).alloc (Nat.le_refl _) (.cells (madeCells #[.slice none 0 0] n) 24))
        clear h0 hev
        go_wp2
        go_ret2
        exact ⟨0, some ⟨w.heap.size, 0, none⟩, n, n, rfl, .inr (.inr ⟨rfl, HEV.out, rfl⟩), rfl, HR.out, HB.out, Nat.le_refl _⟩
      · have t1 : ((L 0 : Int) == 0) = false := by rw [beq_eq_false_iff_ne]; omega
        obtain ⟨Ar, cr, hcr, hM⟩ := HC.out.cr
        have hB : RdM w (some ⟨b, o, none⟩) nr (fun _ => L 0) (fun j c => .int .u8 ((el (g j c)).val : Nat)) := by
          obtain ⟨S, C, h1, h2⟩ := HA.out
          exact ⟨S, C, h1.congr fun i hi => by rw [hev i hi], fun i hi => by
            have h3 := h2 i hi
            rw [hev i hi] at h3
            exact h3.congr fun c hc => by show Value.int .u8 ((g i c : Nat) : Int) = Value.int .u8 ((el (g i c)).val : Int); rw [el_val (HG.out i hi c (by rw [hev i hi]; exact hc))]⟩
        have HP := Lib.hid (product_any Ar (some ⟨b, o, none⟩) n nr cr c (L 0) (gE.cM el nr) (fun j c => el (g j c)) w (by omega) (by omega) hk (HL.out 0 hk) hM hB)
        clear h0 hev hM hB
        go_wp2_with fail
        refine HP.out.mono ?_
        rintro e w2 ⟨A2, rfl, hR, hb2⟩
        have HR := Lib.hid hR; have HB2 := Lib.hid hb2
        clear hR hb2
        go_wp2
        go_ret2
        exact ⟨0, A2, n, n, rfl, .inr (.inr ⟨rfl, HEV.out, rfl⟩), rfl, HR.out, HB2.out, Nat.le_refl _⟩
  · have t1 : ((nr : Int) != (k : Int)) = true := by rw [bne_iff_ne]; omega
    have H1 := Lib.hid h1
    clear h1 hA hg hL hC
    go_enter Try.func20, Try.ntmps20
    go_wp2_with fail
    refine CN.out.mono ?_
    rintro e w1 ⟨rfl, rfl⟩
    go_wp2
    go_ret2
    exact ⟨40, none, 0, 0, rfl, .inl ⟨H1.out, rfl⟩, rfl, RdM.zero _ _ _ _, Below.refl _ _, Nat.le_refl _⟩
end Go.Proofs.Ythodpgkelmalmaa
