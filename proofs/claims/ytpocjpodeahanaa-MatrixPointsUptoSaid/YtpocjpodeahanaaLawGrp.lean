/- MatrixGroups: the law's walk. Conditions: none. -/
import Derived.Test.YtpocjpodeahanaaKnown
namespace Go.Proofs.Ytpocjpodeahanaa
open Go.RowKit

theorem colsN_const (c : Nat) : colsN c (fun _ => c) = c := by
  unfold colsN
  split
  · omega
  · rfl
theorem terr_of {n m : Nat} {La Lb : Nat → Nat} (h1 : faultE n La = 0) (h2 : faultE m Lb = 0) (h3 : colsN n La = m) : terr n m La Lb = 0 := by
  unfold terr; rw [if_pos h1, if_pos h2, if_pos h3]
theorem tk_of {n m : Nat} {La Lb : Nat → Nat} (h1 : faultE n La = 0) (h2 : faultE m Lb = 0) (h3 : colsN n La = m) : tk n m La Lb = n := by
  unfold tk; rw [terr_of h1 h2 h3, if_pos rfl]
/-- What the law does with a right matrix: products with the identity. -/
theorem id_right {n : Nat} {L : Nat → Nat} (h : faultE n L = 0) : terr n (colsN n L) L (fun _ => colsN n L) = 0 ∧ tk n (colsN n L) L (fun _ => colsN n L) = n ∧ colsN (colsN n L) (fun _ => colsN n L) = colsN n L :=
  ⟨terr_of h (fault_const (colsN_le h) (colsN_le h)) rfl, tk_of h (fault_const (colsN_le h) (colsN_le h)) rfl, colsN_const _⟩
theorem id_left {n : Nat} {L : Nat → Nat} (h : faultE n L = 0) : terr n n (fun _ => n) L = 0 ∧ tk n n (fun _ => n) L = n :=
  ⟨terr_of (fault_const (faultE_ok h).1 (faultE_ok h).1) h (colsN_const _), tk_of (fault_const (faultE_ok h).1 (faultE_ok h).1) h (colsN_const _)⟩
theorem three_fit {n m p : Nat} {La Lb Lc : Nat → Nat} (ha : faultE n La = 0) (hb : faultE m Lb = 0) (hc : faultE p Lc = 0) (h1 : colsN n La = m) (h2 : colsN m Lb = p) :
    (terr n m La Lb = 0 ∧ tk n m La Lb = n) ∧ (terr m p Lb Lc = 0 ∧ tk m p Lb Lc = m) ∧ (terr n p (fun _ => colsN m Lb) Lc = 0 ∧ tk n p (fun _ => colsN m Lb) Lc = n) ∧ (terr n m La (fun _ => colsN p Lc) = 0 ∧ tk n m La (fun _ => colsN p Lc) = n) ∧ (0 < n → colsN m (fun _ => colsN p Lc) = colsN p Lc) := by
  have f1 : faultE n (fun _ => colsN m Lb) = 0 := fault_const (faultE_ok ha).1 (colsN_le hb)
  have f2 : faultE m (fun _ => colsN p Lc) = 0 := fault_const (faultE_ok hb).1 (colsN_le hc)
  have c1 : colsN n (fun _ => colsN m Lb) = p := by
    rw [← h2]
    by_cases h0 : n = 0
    · subst h0
      have hm : m = 0 := by rw [← h1]; rfl
      subst hm; rfl
    · unfold colsN; rw [if_neg h0]
  refine ⟨⟨terr_of ha hb h1, tk_of ha hb h1⟩, ⟨terr_of hb hc h2, tk_of hb hc h2⟩, ⟨terr_of f1 hc c1, tk_of f1 hc c1⟩, ⟨terr_of ha f2 h1, tk_of ha f2 h1⟩, fun _ => ?_⟩
  by_cases h0 : m = 0
  · subst h0
    have hp : p = 0 := by rw [← h2]; rfl
    subst hp; rfl
  · unfold colsN; rw [if_neg h0]
theorem MI.as {w : World} {A : Option Addr} {n : Nat} {L L' : Nat → Nat} {g g' : Nat → Nat → Nat} (h : MI w A n L' g') (hl : ∀ i, i < n → L i = L' i) (e : ∀ i, i < n → ∀ j, j < L i → g' i j = g i j) : MI w A n L g :=
  RdM.conv h hl fun i hi j hj => by rw [e i hi j hj]
def Fin3 (s : Nat) : Prop := 2 ≤ s ∧ s ≤ 256
theorem Fld.sz {s : Nat} {F : Fd (Fin s)} (h : Fld s F) : 2 ≤ s ∧ s ≤ 256 := by cases h <;> decide

set_option maxRecDepth 20000 in
set_option maxHeartbeats 4000000 in
theorem lawGrp_s {s : Nat} {F : Fd (Fin s)} (hF : Fld s F) (F0 : Int) (A B C : Option Addr) (n cA m cB p cC : Nat) (La Lb Lc : Nat → Nat) (f g h : Nat → Nat → Int) (w : World) (hs : fsz F0 = (s : Nat))
    (hn : n * 24 ≤ 140737488351232) (hLa : ∀ i, i < n → La i * 8 ≤ 140737488351232) (hm : m * 24 ≤ 140737488351232) (hLb : ∀ i, i < m → Lb i * 8 ≤ 140737488351232) (hp : p * 24 ≤ 140737488351232) (hLc : ∀ i, i < p → Lc i * 8 ≤ 140737488351232)
    (hA : RdM w A n La fun i j => .int .i64 (f i j)) (hB : RdM w B m Lb fun i j => .int .i64 (g i j)) (hC : RdM w C p Lc fun i j => .int .i64 (h i j)) :
    Calls Try.prog 11 #[.agg #[.int .i64 F0, .slice A n cA, .slice B m cB, .slice C p cC]] w fun e w' => e = .returned (.bool true) ∧ Below w.heap.size w w' := by
  obtain ⟨hs2, hs6⟩ := hF.sz
  have ok := hF.ok
  have HS := Lib.hid hs; clear hs
  have g1 : ∀ i, i < n → La i ≤ 9223372036854775807 := fun i hi => by have := hLa i hi; omega
  have g2 : ∀ i, i < m → Lb i ≤ 9223372036854775807 := fun i hi => by have := hLb i hi; omega
  have g3 : ∀ i, i < p → Lc i ≤ 9223372036854775807 := fun i hi => by have := hLc i hi; omega
  have HLa := Lib.hid hLa; have HLb := Lib.hid hLb; have HLc := Lib.hid hLc
  have G1 := Lib.hid g1; have G2 := Lib.hid g2; have G3 := Lib.hid g3
  clear hLa hLb hLc g1 g2 g3
  go_enter Try.func11, Try.ntmps11
  go_wp2_with fail
  refine (size_any _ (s : Nat) HS.out _).mono ?_
  rintro e w' ⟨rfl, rfl⟩
  have hb0 : Below w.heap.size w (w.alloc (.cells #[.int .i64 F0, .slice A n cA, .slice B m cB, .slice C p cC] 100)) := (Below.refl _ _).alloc (Nat.le_refl _) _
  have HA := Lib.hid (RdM.below hA hb0); have HB := Lib.hid (RdM.below hB hb0); have HC := Lib.hid (RdM.below hC hb0)
  have HZ0 := Lib.hid hb0
  clear hA hB hC hb0
  go_wp2_with fail
  refine (rows_any (s : Nat) A n cA La f _ (by omega) (by omega) hn HLa.out HA.out).mono ?_
  rintro e w1 ⟨v, S, Cc, rfl, hO, hb1⟩
  obtain ⟨A1, c1, rfl, _, hR⟩ := hO.rdm
  have HRA : Hid (MI w1 A1 n La (fun i j => (lowF s hs2 (f i j)).val)) := hR
  have y2 : w1.cell? ⟨w.heap.size, 2, none⟩ = some (.slice B m cB) := by rw [hb1.cell (by simp)]; go_simp
  have y3 : w1.cell? ⟨w.heap.size, 3, none⟩ = some (.slice C p cC) := by rw [hb1.cell (by simp)]; go_simp
  have HB1 := Lib.hid (RdM.below HB.out hb1); have HC1 := Lib.hid (RdM.below HC.out hb1)
  have hz1 : w.heap.size < w1.heap.size := by have := hb1.size; simp at this; omega
  have HZ1 := Lib.hid (HZ0.out.trans (hb1.mono (by simp)))
  clear hR hO hb1 HA HB HC HZ0
  go_wp2_with fail
  refine (rows_any (s : Nat) B m cB Lb g _ (by omega) (by omega) hm HLb.out HB1.out).mono ?_
  rintro e w2 ⟨v, S, Cc, rfl, hO, hb2⟩
  obtain ⟨A2, c2, rfl, _, hR⟩ := hO.rdm
  have HRB : Hid (MI w2 A2 m Lb (fun i j => (lowF s hs2 (g i j)).val)) := hR
  have HRA2 := Lib.hid (MI.below HRA.out hb2)
  have z3 : w2.cell? ⟨w.heap.size, 3, none⟩ = some (.slice C p cC) := (hb2.cell hz1).trans y3
  have HC2 := Lib.hid (RdM.below HC1.out hb2)
  have HZ2 := Lib.hid (HZ1.out.trans (hb2.mono HZ1.out.size))
  clear hR hO hb2 HB1 HC1 HZ1 HRA y2 y3 hz1
  go_wp2_with fail
  refine (rows_any (s : Nat) C p cC Lc h _ (by omega) (by omega) hp HLc.out HC2.out).mono ?_
  rintro e w3 ⟨v, S, Cc, rfl, hO, hb3⟩
  obtain ⟨A3, c3, rfl, _, hR⟩ := hO.rdm
  have HRC : Hid (MI w3 A3 p Lc (fun i j => (lowF s hs2 (h i j)).val)) := hR
  have HRA3 := Lib.hid (MI.below HRA2.out hb3); have HRB3 := Lib.hid (MI.below HRB.out hb3)
  have HZ3 := Lib.hid (HZ2.out.trans (hb3.mono HZ2.out.size))
  clear hR hO hb3 HC2 HZ2 HRA2 HRB z3
  go_wp2_with fail
  refine (known_any _).mono ?_
  rintro e w4 ⟨rfl, hb4⟩
  have HA4 := Lib.hid (MI.below HRA3.out hb4); have HB4 := Lib.hid (MI.below HRB3.out hb4); have HC4 := Lib.hid (MI.below HRC.out hb4)
  have HZ4 := Lib.hid (HZ3.out.trans (hb4.mono HZ3.out.size))
  clear hb4 HRA3 HRB3 HRC HZ3
  obtain ⟨GA, hGA⟩ : ∃ G : Nat → Nat → Fin s, G = fun i j => lowF s hs2 (f i j) := ⟨_, rfl⟩
  obtain ⟨GB, hGB⟩ : ∃ G : Nat → Nat → Fin s, G = fun i j => lowF s hs2 (g i j) := ⟨_, rfl⟩
  obtain ⟨GC, hGC⟩ : ∃ G : Nat → Nat → Fin s, G = fun i j => lowF s hs2 (h i j) := ⟨_, rfl⟩
  have HA5 : Hid (MI w4 A1 n La (fun i j => (GA i j).val)) := by rw [hGA]; exact HA4.out
  have HB5 : Hid (MI w4 A2 m Lb (fun i j => (GB i j).val)) := by rw [hGB]; exact HB4.out
  have HC5 : Hid (MI w4 A3 p Lc (fun i j => (GC i j).val)) := by rw [hGC]; exact HC4.out
  clear HA4 HB4 HC4 hGA hGB hGC
  go_wp2_with fail
  refine (right_any A1 n c1 La w4 (by omega) G1.out HA5.out.top).mono ?_
  rintro e w5 ⟨rfl, hd⟩
  have HA6 := Lib.hid (MI.below HA5.out (hd.below _)); have HB6 := Lib.hid (MI.below HB5.out (hd.below _)); have HC6 := Lib.hid (MI.below HC5.out (hd.below _))
  have HZ5 := Lib.hid (hd.below' HZ4.out)
  clear hd HA5 HB5 HC5 HZ4
  by_cases hfa : faultE n La = 0
  · rw [show decide (faultE n La = 0) = true from decide_eq_true hfa]
    obtain ⟨i1, i2, i3⟩ := id_right hfa
    obtain ⟨j1, j2⟩ := id_left hfa
    have hcl := colsN_le hfa
    have hn5 := (faultE_ok hfa).1
    have HI := Lib.hid (And.intro i1 (And.intro i2 i3)); have HJ := Lib.hid (And.intro j1 j2)
    have HFA := Lib.hid hfa
    have HLn : Hid (∀ i, i < n → La i = colsN n La) := fun i hi => colsN_len hfa i hi
    have hla' : ∀ i, i < n → La i ≤ 1000000000000 := fun i hi => by have := HLn.out i hi; omega
    have HLA := Lib.hid hla'
    clear i1 i2 i3 j1 j2 hfa hla'
    go_wp2_with fail
    refine (wide_any A1 n c1 La w5 HA6.out.top).mono ?_
    rintro e w6 ⟨rfl, rfl⟩
    go_wp2_with fail
    refine (unit_any ok (colsN n La) _ (by omega)).mono ?_
    rintro e w6 ⟨A7, c7, rfl, hU, hb⟩
    have HU := Lib.hid hU
    have HA7 := Lib.hid (MI.below HA6.out hb); have HB7 := Lib.hid (MI.below HB6.out hb); have HC7 := Lib.hid (MI.below HC6.out hb)
    have HZ6 := Lib.hid (HZ5.out.trans (hb.mono HZ5.out.size))
    clear hU hb HA6 HB6 HC6 HZ5
    go_wp2_with fail
    refine (times_any hF A1 A7 n (colsN n La) c1 c7 La (fun _ => colsN n La) GA F.idm _ (by omega) HLA.out (by omega) (fun _ _ => by omega) HA7.out HU.out).mono ?_
    rintro e w7 ⟨A8, c8, rfl, hM, hb⟩
    rw [HI.out.1]
    rw [HI.out.2.1] at hM ⊢
    rw [HI.out.2.2] at hM
    have HM : Hid (MI w7 A8 n (fun _ => colsN n La) (fun i j => (GA i j).val)) := MI.as hM (fun _ _ => rfl) fun i hi j hj => by rw [Fd.mm_id GA hj]
    have HA8 := Lib.hid (MI.below HA7.out hb); have HB8 := Lib.hid (MI.below HB7.out hb); have HC8 := Lib.hid (MI.below HC7.out hb)
    have HZ7 := Lib.hid (HZ6.out.trans (hb.mono HZ6.out.size))
    clear hM hb HA7 HB7 HC7 HZ6 HU HI
    go_wp2_with fail
    refine (unit_any ok n _ (by omega)).mono ?_
    rintro e w8 ⟨A9, c9, rfl, hU, hb⟩
    have HU := Lib.hid hU
    have HM9 := Lib.hid (MI.below HM.out hb)
    have HA9 := Lib.hid (MI.below HA8.out hb); have HB9 := Lib.hid (MI.below HB8.out hb); have HC9 := Lib.hid (MI.below HC8.out hb)
    have HZ8 := Lib.hid (HZ7.out.trans (hb.mono HZ7.out.size))
    clear hU hb HA8 HB8 HC8 HZ7 HM
    go_wp2_with fail
    refine (times_any hF A9 A1 n n c9 c1 (fun _ => n) La F.idm GA _ (by omega) (fun _ _ => by omega) (by omega) HLA.out HU.out HA9.out).mono ?_
    rintro e w9 ⟨A10, c10, rfl, hM, hb⟩
    rw [HJ.out.1]
    rw [HJ.out.2] at hM ⊢
    have HN : Hid (MI w9 A10 n (fun _ => colsN n La) (fun i j => (GA i j).val)) := MI.as hM (fun _ _ => rfl) fun i hi j hj => by rw [Fd.id_mm GA hi]
    have HM10 := Lib.hid (MI.below HM9.out hb)
    have HA10 := Lib.hid (MI.below HA9.out hb); have HB10 := Lib.hid (MI.below HB9.out hb); have HC10 := Lib.hid (MI.below HC9.out hb)
    have HAx : Hid (MI w9 A1 n (fun _ => colsN n La) (fun i j => (GA i j).val)) := MI.as HA10.out (fun i hi => (HLn.out i hi).symm) fun i hi j hj => rfl
    have HZ9 := Lib.hid (HZ8.out.trans (hb.mono HZ8.out.size))
    clear hM hb HA9 HB9 HC9 HZ8 HM9 HU HJ
    go_wp2_with fail
    refine (alike_any A8 A1 n c8 c1 (fun _ => colsN n La) (fun i j => (GA i j).val) _ (by omega) (fun _ _ => by omega) HM10.out HAx.out).mono ?_
    rintro e w10 ⟨rfl, hd⟩
    have HN11 := Lib.hid (MI.below HN.out (hd.below _)); have HAy := Lib.hid (MI.below HAx.out (hd.below _))
    have HA11 := Lib.hid (MI.below HA10.out (hd.below _)); have HB11 := Lib.hid (MI.below HB10.out (hd.below _)); have HC11 := Lib.hid (MI.below HC10.out (hd.below _))
    have HZ10 := Lib.hid (hd.below' HZ9.out)
    clear hd HA10 HB10 HC10 HZ9 HM10 HN HAx
    go_wp2_with fail
    refine (alike_any A10 A1 n c10 c1 (fun _ => colsN n La) (fun i j => (GA i j).val) _ (by omega) (fun _ _ => by omega) HN11.out HAy.out).mono ?_
    rintro e w11 ⟨rfl, hd⟩
    have HA12 := Lib.hid (MI.below HA11.out (hd.below _)); have HB12 := Lib.hid (MI.below HB11.out (hd.below _)); have HC12 := Lib.hid (MI.below HC11.out (hd.below _))
    have HZ11 := Lib.hid (hd.below' HZ10.out)
    clear hd HA11 HB11 HC11 HZ10 HN11 HAy
    go_wp2_with fail
    refine (right_any A1 n c1 La w11 (by omega) G1.out HA12.out.top).mono ?_
    rintro e w12 ⟨rfl, hd⟩
    rw [show decide (faultE n La = 0) = true from decide_eq_true HFA.out]
    have HA13 := Lib.hid (MI.below HA12.out (hd.below _)); have HB13 := Lib.hid (MI.below HB12.out (hd.below _)); have HC13 := Lib.hid (MI.below HC12.out (hd.below _))
    have HZ12 := Lib.hid (hd.below' HZ11.out)
    clear hd HA12 HB12 HC12 HZ11
    go_wp2_with fail
    refine (right_any A2 m c2 Lb w12 (by omega) G2.out HB13.out.top).mono ?_
    rintro e w13 ⟨rfl, hd⟩
    have HA14 := Lib.hid (MI.below HA13.out (hd.below _)); have HB14 := Lib.hid (MI.below HB13.out (hd.below _)); have HC14 := Lib.hid (MI.below HC13.out (hd.below _))
    have HZ13 := Lib.hid (hd.below' HZ12.out)
    clear hd HA13 HB13 HC13 HZ12
    by_cases hfb : faultE m Lb = 0
    · rw [show decide (faultE m Lb = 0) = true from decide_eq_true hfb]
      have HFB := Lib.hid hfb; clear hfb
      go_wp2_with fail
      refine (right_any A3 p c3 Lc w13 (by omega) G3.out HC14.out.top).mono ?_
      rintro e w14 ⟨rfl, hd⟩
      have HA15 := Lib.hid (MI.below HA14.out (hd.below _)); have HB15 := Lib.hid (MI.below HB14.out (hd.below _)); have HC15 := Lib.hid (MI.below HC14.out (hd.below _))
      have HZ14 := Lib.hid (hd.below' HZ13.out)
      clear hd HA14 HB14 HC14 HZ13
      by_cases hfc : faultE p Lc = 0
      · rw [show decide (faultE p Lc = 0) = true from decide_eq_true hfc]
        have HFC := Lib.hid hfc; clear hfc
        go_wp2_with fail
        refine (wide_any A1 n c1 La w14 HA15.out.top).mono ?_
        rintro e w15 ⟨rfl, rfl⟩
        by_cases q1 : colsN n La = m
        · have t1 : ((colsN n La : Int) != (m : Int)) = false := by rw [bne_eq_false_iff_eq]; omega
          have HQ1 := Lib.hid q1; clear q1
          go_wp2_with fail
          refine (wide_any A2 m c2 Lb w14 HB15.out.top).mono ?_
          rintro e w15 ⟨rfl, rfl⟩
          clear t1
          by_cases q2 : colsN m Lb = p
          · have t2 : ((colsN m Lb : Int) != (p : Int)) = false := by rw [bne_eq_false_iff_eq]; omega
            have hT := three_fit HFA.out HFB.out HFC.out HQ1.out q2
            have hcb := colsN_le HFB.out; have hcc := colsN_le HFC.out
            have hm5 := (faultE_ok HFB.out).1; have hp5 := (faultE_ok HFC.out).1
            have hlb' : ∀ i, i < m → Lb i ≤ 1000000000000 := fun i hi => by have := colsN_len HFB.out i hi; omega
            have hlc' : ∀ i, i < p → Lc i ≤ 1000000000000 := fun i hi => by have := colsN_len HFC.out i hi; omega
            have HT := Lib.hid hT; have HLB := Lib.hid hlb'; have HLC := Lib.hid hlc'
            have HQ2 := Lib.hid q2
            clear hT hlb' hlc' q2
            go_wp2_with fail
            refine (times_any hF A1 A2 n m c1 c2 La Lb GA GB _ (by omega) HLA.out (by omega) HLB.out HA15.out HB15.out).mono ?_
            rintro e w16 ⟨A16, c16, rfl, hM, hb⟩
            rw [HT.out.1.1]
            rw [HT.out.1.2] at hM ⊢
            have HAB := Lib.hid hM
            have HA16 := Lib.hid (MI.below HA15.out hb); have HB16 := Lib.hid (MI.below HB15.out hb); have HC16 := Lib.hid (MI.below HC15.out hb)
            have HZ16 := Lib.hid (HZ14.out.trans (hb.mono HZ14.out.size))
            clear hM hb HA15 HB15 HC15 HZ14 t2
            go_wp2_with fail
            refine (times_any hF A2 A3 m p c2 c3 Lb Lc GB GC _ (by omega) HLB.out (by omega) HLC.out HB16.out HC16.out).mono ?_
            rintro e w17 ⟨A17, c17, rfl, hM, hb⟩
            rw [HT.out.2.1.1]
            rw [HT.out.2.1.2] at hM ⊢
            have HBC := Lib.hid hM
            have HAB17 := Lib.hid (MI.below HAB.out hb)
            have HA17 := Lib.hid (MI.below HA16.out hb); have HC17 := Lib.hid (MI.below HC16.out hb)
            have HZ17 := Lib.hid (HZ16.out.trans (hb.mono HZ16.out.size))
            clear hM hb HA16 HB16 HC16 HZ16 HAB
            go_wp2_with fail
            refine (times_any hF A16 A3 n p c16 c3 (fun _ => colsN m Lb) Lc (F.mm m GA GB) GC _ (by omega) (fun _ _ => by omega) (by omega) HLC.out HAB17.out HC17.out).mono ?_
            rintro e w18 ⟨A18, c18, rfl, hM, hb⟩
            rw [HT.out.2.2.1.1]
            rw [HT.out.2.2.1.2] at hM ⊢
            have HAB18 := Lib.hid hM
            have HA18 := Lib.hid (MI.below HA17.out hb); have HBC18 := Lib.hid (MI.below HBC.out hb)
            have HZ18 := Lib.hid (HZ17.out.trans (hb.mono HZ17.out.size))
            clear hM hb HA17 HC17 HZ17 HAB17 HBC
            go_wp2_with fail
            refine (times_any hF A1 A17 n m c1 c17 La (fun _ => colsN p Lc) GA (F.mm p GB GC) _ (by omega) HLA.out (by omega) (fun _ _ => by omega) HA18.out HBC18.out).mono ?_
            rintro e w19 ⟨A19, c19, rfl, hM, hb⟩
            rw [HT.out.2.2.2.1.1]
            rw [HT.out.2.2.2.1.2] at hM ⊢
            have HL19 : Hid (MI w19 A18 n (fun _ => colsN p Lc) (fun i j => (F.mm m GA (F.mm p GB GC) i j).val)) := MI.as (MI.below HAB18.out hb) (fun _ _ => rfl) fun i hi j hj => by rw [Fd.mm_assoc]
            have HR19 : Hid (MI w19 A19 n (fun _ => colsN p Lc) (fun i j => (F.mm m GA (F.mm p GB GC) i j).val)) := MI.as hM (fun i hi => (HT.out.2.2.2.2 (by omega)).symm) fun i hi j hj => rfl
            have HZ19 := Lib.hid (HZ18.out.trans (hb.mono HZ18.out.size))
            clear hM hb HA18 HBC18 HZ18 HAB18
            go_wp2_with fail
            refine (alike_any A18 A19 n c18 c19 (fun _ => colsN p Lc) (fun i j => (F.mm m GA (F.mm p GB GC) i j).val) _ (by omega) (fun _ _ => by omega) HL19.out HR19.out).mono ?_
            rintro e w20 ⟨rfl, hd⟩
            go_wp2
            go_ret
            exact ⟨rfl, hd.below' HZ19.out⟩
          · have t2 : ((colsN m Lb : Int) != (p : Int)) = true := by rw [bne_iff_ne]; omega
            clear q2
            go_wp2
            go_ret
            exact ⟨rfl, HZ14.out⟩
        · have t1 : ((colsN n La : Int) != (m : Int)) = true := by rw [bne_iff_ne]; omega
          clear q1
          go_wp2
          go_ret
          exact ⟨rfl, HZ14.out⟩
      · rw [show decide (faultE p Lc = 0) = false from decide_eq_false hfc]
        clear hfc
        go_wp2
        go_ret
        exact ⟨rfl, HZ14.out⟩
    · rw [show decide (faultE m Lb = 0) = false from decide_eq_false hfb]
      clear hfb
      go_wp2
      go_ret
      exact ⟨rfl, HZ13.out⟩
  · rw [show decide (faultE n La = 0) = false from decide_eq_false hfa]
    have HFA := Lib.hid hfa; clear hfa
    go_wp2_with fail
    refine (right_any A1 n c1 La w5 (by omega) G1.out HA6.out.top).mono ?_
    rintro e w6 ⟨rfl, hd⟩
    rw [show decide (faultE n La = 0) = false from decide_eq_false HFA.out]
    have HZ6 := Lib.hid (hd.below' HZ5.out)
    clear hd
    go_wp2
    go_ret
    exact ⟨rfl, HZ6.out⟩
theorem lawGrp (F0 : Int) (A B C : Option Addr) (n cA m cB p cC : Nat) (La Lb Lc : Nat → Nat) (f g h : Nat → Nat → Int) (w : World)
    (hn : n * 24 ≤ 140737488351232) (hLa : ∀ i, i < n → La i * 8 ≤ 140737488351232) (hm : m * 24 ≤ 140737488351232) (hLb : ∀ i, i < m → Lb i * 8 ≤ 140737488351232) (hp : p * 24 ≤ 140737488351232) (hLc : ∀ i, i < p → Lc i * 8 ≤ 140737488351232)
    (hA : RdM w A n La fun i j => .int .i64 (f i j)) (hB : RdM w B m Lb fun i j => .int .i64 (g i j)) (hC : RdM w C p Lc fun i j => .int .i64 (h i j)) :
    Calls Try.prog 11 #[.agg #[.int .i64 F0, .slice A n cA, .slice B m cB, .slice C p cC]] w fun e w' => e = .returned (.bool true) ∧ Below w.heap.size w w' := by
  rcases fsz_cases F0 with e | e | e
  · exact lawGrp_s .e F0 A B C n cA m cB p cC La Lb Lc f g h w e hn hLa hm hLb hp hLc hA hB hC
  · exact lawGrp_s .b F0 A B C n cA m cB p cC La Lb Lc f g h w e hn hLa hm hLb hp hLc hA hB hC
  · exact lawGrp_s .f F0 A B C n cA m cB p cC La Lb Lc f g h w e hn hLa hm hLb hp hLc hA hB hC
end Go.Proofs.Ytpocjpodeahanaa
