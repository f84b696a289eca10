/- MatrixUndoes: the law's walk. Conditions: none. -/
import Derived.Test.YtpocjpodeahanaaOut3
import Derived.Test.YtpocjpodeahanaaLawGrp
namespace Go.Proofs.Ytpocjpodeahanaa
open Go.RowKit

/-- The list, filled up with ones. -/
def fillV {s : Nat} (F : Fd (Fin s)) (m : Nat) (v : Nat → Fin s) (i : Nat) : Fin s := if i < m then v i else F.u
/-- All that the law asks of a square matrix whose rows are free. -/
structure Und {α : Type} (F : Fd α) (n : Nat) (G X : Nat → Nat → α) (v x : Nat → α) : Prop where
  l : ∀ i j, i < n → j < n → F.mm n X G i j = F.idm i j
  r : ∀ i j, i < n → j < n → F.mm n G X i j = F.idm i j
  s : ∀ i, i < n → (F.s n fun u => F.m (G i u) (x u)) = v i
theorem und_free {α : Type} {F : Fd α} {n : Nat} {L : Nat → Nat} {G X : Nat → Nat → α} {v x : Nat → α} {er es : Int} (hI : InvP F n L G er X) (hS : SolP F n L n G v es x) (hf : faultE n L = 0) (hc : colsN n L = n) (hG : F.Free n n G) : er = 0 ∧ es = 0 ∧ Und F n G X v x := by
  obtain ⟨a, b, c⟩ := hI.free hf hc hG
  obtain ⟨d, e⟩ := hS.free hf hc hG b c
  exact ⟨a, d, b, c, e⟩
theorem Und.back {α : Type} {F : Fd α} {n : Nat} {G X Y : Nat → Nat → α} {v x : Nat → α} {er : Int} (h : Und F n G X v x) (hn : n ≤ 255) (hI : InvP F n (fun _ => n) X er Y) : er = 0 ∧ ∀ i j, i < n → j < n → Y i j = G i j := by
  obtain ⟨a, b, c⟩ := hI.free (fault_const hn hn) (colsN_const n) (Fd.free_of_right (F := F) (n := n) (X := X) (G := G) h.l)
  exact ⟨a, fun i j hi hj => (Fd.inv_uniq (F := F) (n := n) (Y := G) (X := X) (G := Y) h.r c i j hi hj).symm⟩
theorem rank_free {α : Type} {F : Fd α} {n st : Nat} {L : Nat → Nat} {G : Nat → Nat → α} (hf : faultE n L = 0) (hc : colsN n L = n) (h : faultE n L = 0 → ∃ G' p, F.RR n (colsN n L) (colsN n L) G G' st p) : st ≤ n ∧ (st = n ↔ F.Free n n G) := by
  obtain ⟨G', p, hR⟩ := h hf
  have h1 := hR.full_iff (Nat.le_refl _)
  rw [hc] at h1
  exact ⟨hR.le, h1⟩
theorem square_ok {n : Nat} {L : Nat → Nat} (hf : faultE n L = 0) (hc : colsN n L = n) : terr n n L (fun _ => n) = 0 ∧ tk n n L (fun _ => n) = n ∧ terr n n (fun _ => n) L = 0 ∧ tk n n (fun _ => n) L = n :=
  ⟨terr_of hf (fault_const (faultE_ok hf).1 (faultE_ok hf).1) hc, tk_of hf (fault_const (faultE_ok hf).1 (faultE_ok hf).1) hc,
   terr_of (fault_const (faultE_ok hf).1 (faultE_ok hf).1) hf (colsN_const n), tk_of (fault_const (faultE_ok hf).1 (faultE_ok hf).1) hf (colsN_const n)⟩
theorem column_ok {n : Nat} {L : Nat → Nat} (hf : faultE n L = 0) (hc : colsN n L = n) (hn : 0 < n) : terr n n L (fun _ => 1) = 0 ∧ tk n n L (fun _ => 1) = n ∧ colsN n (fun _ => 1) = 1 :=
  ⟨terr_of hf (fault_const (faultE_ok hf).1 (by decide)) hc, tk_of hf (fault_const (faultE_ok hf).1 (by decide)) hc, by unfold colsN; rw [if_neg (by omega)]⟩

set_option maxRecDepth 20000 in
set_option maxHeartbeats 8000000 in
theorem lawUnd_s {s : Nat} {F : Fd (Fin s)} (hF : Fld s F) (F0 : Int) (A V : Option Addr) (n cA m cV : Nat) (L : Nat → Nat) (f : Nat → Nat → Int) (vv : Nat → Int) (B At N One : Value) (hB : B.oneCell' = true) (hAt : At.oneCell' = true) (hN : N.oneCell' = true) (hO : One.oneCell' = true) (w : World) (hs : fsz F0 = (s : Nat))
    (hn : n * 24 ≤ 140737488351232) (hL : ∀ i, i < n → L i * 8 ≤ 140737488351232) (hm : m * 8 ≤ 140737488351232) (hA : RdM w A n L fun i j => .int .i64 (f i j)) (hV : Rd w V m fun i => .int .i64 (vv i)) :
    Calls Try.prog 12 #[.agg #[.int .i64 F0, .slice A n cA, B, At, .slice V m cV, N, One]] w fun e w' => e = .returned (.bool true) ∧ Below w.heap.size w w' := by
  obtain ⟨hs2, hs6⟩ := hF.sz
  have ok := hF.ok
  have HS := Lib.hid hs; clear hs
  have hoc := And.intro hB (And.intro hAt (And.intro hN hO))
  clear hoc
  have g1 : ∀ i, i < n → L i ≤ 9223372036854775807 := fun i hi => by have := hL i hi; omega
  have HL := Lib.hid hL; have G1 := Lib.hid g1
  clear hL g1
  go_enter Try.func12, Try.ntmps12
  go_wp2_with fail
  refine (size_any _ (s : Nat) HS.out _).mono ?_
  rintro e w' ⟨rfl, rfl⟩
  have hb0 : Below w.heap.size w (w.alloc (.cells #[.int .i64 F0, .slice A n cA, B, At, .slice V m cV, N, One] 25)) := (Below.refl _ _).alloc (Nat.le_refl _) _
  have HA := Lib.hid (RdM.below hA hb0); have HV := Lib.hid (hV.below hb0)
  have HZ0 := Lib.hid hb0
  clear hA hV hb0
  go_wp2_with fail
  refine (rows_any (s : Nat) A n cA L f _ (by omega) (by omega) hn HL.out HA.out).mono ?_
  rintro e w1 ⟨v, S, Cc, rfl, hO, hb1⟩
  obtain ⟨A1, c1, rfl, _, hR⟩ := hO.rdm
  have HRA : Hid (MI w1 A1 n L (fun i j => (lowF s hs2 (f i j)).val)) := hR
  have hy : w1.cell? ⟨w.heap.size, 4, none⟩ = some (.slice V m cV) := by rw [hb1.cell (by simp)]; go_simp
  have HY := Lib.hid hy
  have HV1 := Lib.hid (HV.out.below hb1)
  have hz1 : w.heap.size < w1.heap.size := by have := hb1.size; simp at this; omega
  have HZ1 := Lib.hid (HZ0.out.trans (hb1.mono (by simp)))
  clear hR hO hb1 HA HV HZ0 hy
  go_wp2_with fail
  refine (known_any _).mono ?_
  rintro e w4 ⟨rfl, hb4⟩
  have HA4 := Lib.hid (MI.below HRA.out hb4); have HV4 := Lib.hid (HV1.out.below hb4)
  have HY4 : Hid (w4.cell? ⟨w.heap.size, 4, none⟩ = some (.slice V m cV)) := (hb4.cell hz1).trans HY.out
  have hz4 : w.heap.size < w4.heap.size := by have := hb4.size; omega
  have HZ4 := Lib.hid (HZ1.out.trans (hb4.mono HZ1.out.size))
  clear hb4 HRA HV1 HZ1 HY hz1
  obtain ⟨GA, hGA⟩ : ∃ G : Nat → Nat → Fin s, G = fun i j => lowF s hs2 (f i j) := ⟨_, rfl⟩
  have HA5 : Hid (MI w4 A1 n L (fun i j => (GA i j).val)) := by rw [hGA]; exact HA4.out
  clear HA4 hGA
  go_wp2_with fail
  refine (right_any A1 n c1 L w4 (by omega) G1.out HA5.out.top).mono ?_
  rintro e w5 ⟨rfl, hd⟩
  have HA6 := Lib.hid (MI.below HA5.out (hd.below _)); have HV6 := Lib.hid (HV4.out.below (hd.below _))
  have HY6 : Hid (w5.cell? ⟨w.heap.size, 4, none⟩ = some (.slice V m cV)) := (hd.cell _).trans HY4.out
  have hz6 : w.heap.size < w5.heap.size := by have := (hd.below w4.heap.size).size; omega
  have HZ5 := Lib.hid (hd.below' HZ4.out)
  clear hd HA5 HV4 HZ4 HY4 hz4
  by_cases hfa : faultE n L = 0
  · rw [show decide (faultE n L = 0) = true from decide_eq_true hfa]
    have HFA := Lib.hid hfa
    have hn5 := (faultE_ok hfa).1
    clear hfa
    go_wp2_with fail
    refine (wide_any A1 n c1 L w5 HA6.out.top).mono ?_
    rintro e w6 ⟨rfl, rfl⟩
    by_cases hcl : colsN n L = n
    · have t1 : ((colsN n L : Int) != (n : Int)) = false := by rw [bne_eq_false_iff_eq]; omega
      have HLn : Hid (∀ i, i < n → L i = n) := fun i hi => (colsN_len HFA.out i hi).trans hcl
      have hla' : ∀ i, i < n → L i ≤ 1000000000000 := fun i hi => by have := HLn.out i hi; omega
      have HLA := Lib.hid hla'
      have HCL := Lib.hid hcl
      clear hcl hla'
      go_wp2_with fail
      refine (ranks_any hF A1 n c1 L GA _ (by omega) HLA.out HA6.out).mono ?_
      rintro e w6 ⟨st, rfl, hb, hRk⟩
      obtain ⟨hst, hfree⟩ := rank_free HFA.out HCL.out hRk
      have HFR := Lib.hid hfree
      rw [HFA.out]
      have HA7 := Lib.hid (MI.below HA6.out hb); have HV7 := Lib.hid (HV6.out.below hb)
      have HY7 : Hid (w6.cell? ⟨w.heap.size, 4, none⟩ = some (.slice V m cV)) := (hb.cell hz6).trans HY6.out
      have hz7 : w.heap.size < w6.heap.size := by have := hb.size; omega
      have HZ6 := Lib.hid (HZ5.out.trans (hb.mono HZ5.out.size))
      clear hRk hfree hb HA6 HV6 HY6 HZ5 hz6 t1
      go_wp2_with fail
      refine (inverse_any hF A1 n c1 L GA _ (by omega) HLA.out HA7.out).mono ?_
      rintro e w7 ⟨er, X, A8, c8, rfl, hIP, hb, hX⟩
      have HIP := Lib.hid hIP; have HX8 := Lib.hid hX
      have HA8 := Lib.hid (MI.below HA7.out hb); have HV8 := Lib.hid (HV7.out.below hb)
      have hy : w7.cell? ⟨w.heap.size, 4, none⟩ = some (.slice V m cV) := (hb.cell hz7).trans HY7.out
      have HZ7 := Lib.hid (HZ6.out.trans (hb.mono HZ6.out.size))
      generalize hK1 : (if er = 0 then n else 0) = K1 at *
      have HK1 := Lib.hid hK1
      clear hIP hX hb HA7 HV7 HY7 HZ6 hz7 hK1
      go_wp2_with fail
      refine (list_any (s : Nat) V m cV vv _ (by omega) (by omega) hm HV8.out).mono ?_
      rintro e w8 ⟨v8, rfl, hO8, hb⟩
      obtain ⟨VV, hVV⟩ : ∃ VV : Nat → Fin s, VV = fillV F m (fun i => lowF s hs2 (vv i)) := ⟨_, rfl⟩
      have HVu : Hid (∀ i, m ≤ i → (VV i).val = 1) := fun i hi => by rw [hVV]; unfold fillV; rw [if_neg (by omega)]; exact ok.one
      have hO9 : Own w8 w7.heap.size 3 1 v8 m (fun i => [.int .i64 ((VV i).val : Nat)]) := hO8.congr fun i hi => by rw [hVV]; unfold fillV; rw [if_pos hi]; rfl
      clear hO8 hVV
      have HX9 := Lib.hid (MI.below HX8.out hb); have HA9 := Lib.hid (MI.below HA8.out hb)
      have HZ8 := Lib.hid (HZ7.out.trans (hb.mono HZ7.out.size))
      obtain ⟨B7, hB7⟩ : ∃ B7, B7 = w7.heap.size := ⟨_, rfl⟩
      have hO10 : Own w8 B7 3 1 v8 m (fun i => [.int .i64 ((VV i).val : Nat)]) := by rw [hB7]; exact hO9
      have hb10 : Below B7 w7 w8 := by rw [hB7]; exact hb
      have HB7 := Lib.hid hB7
      clear hO9 hb hB7 HX9 HA9 HZ8 hy HV8
      go_wp2
      go_loopg [9] (n - m) (fun gk v wr => ∃ k : Nat, m ≤ k ∧ k ≤ m + n ∧ gk = n - k ∧ Own wr B7 3 1 v k (fun i => [.int .i64 ((VV i).val : Nat)]) ∧ Below B7 w7 wr)
      case atStart => exact ⟨m, Nat.le_refl _, by omega, rfl, hO10, hb10⟩
      case round =>
        clear hO10 hb10
        obtain ⟨k, hmk, hkm, rfl, hown, hbel⟩ := hrel
        have hsz : B7 ≤ wr.heap.size := by rw [HB7.out]; exact hbel.size
        obtain ⟨A9, c9, rfl, hc9, _, hV9, _⟩ := hown.rd
        by_cases hlt : k < n
        · have hu : Hid ((#[Value.int .i64 1] : Array Value).toList = [.int .i64 ((VV k).val : Nat)]) := by rw [HVu.out k hmk]; rfl
          clear hV9
          go_wp2_with (at_builtin; refine wpList_push _ rfl (.tmp 61) (.tmp 62) 23 rfl B7 3 1 8 (.int .i64 0) #[.int .i64 1] Try.underlying23 intInfo rfl (by decide) _ k _ rfl hown hsz _ rfl rfl hu.out rfl rfl (by omega) (by omega) ?_)
          intro v' w9 hown4 hb4 _ _
          have hbF := hbel.trans hb4
          clear hown hbel hb4
          go_wp2
          go_roundg (n - (k + 1))
          case measure => omega
          case rel => exact ⟨k + 1, by omega, by omega, rfl, hown4, hbF⟩
        · have hnc : n ≤ c9 := by omega
          have HV9 : Hid (Rd wr A9 n (fun i => .int .i64 ((VV i).val : Nat))) := fun i hi => hV9 i (by omega)
          rw [HB7.out] at hbel
          have HX9 := Lib.hid (MI.below HX8.out hbel); have HA9 := Lib.hid (MI.below HA8.out hbel)
          have HZ8 := Lib.hid (HZ7.out.trans (hbel.mono HZ7.out.size))
          clear hown hbel hV9 HX8 HA8 HZ7 HVu hsz HB7
          go_wp2_with fail
          refine (solve_any hF A1 A9 n c1 n c9 L GA VV _ (by omega) HLA.out (by omega) HA9.out HV9.out).mono ?_
          rintro e w9 ⟨es, x, A10, c10, rfl, hSP, hb, hY⟩
          have HSP := Lib.hid hSP; have HYY := Lib.hid hY
          have HX10 := Lib.hid (MI.below HX9.out hb); have HA10 := Lib.hid (MI.below HA9.out hb); have HV10 := Lib.hid (HV9.out.below hb)
          have HZ9 := Lib.hid (HZ8.out.trans (hb.mono HZ8.out.size))
          generalize hK2 : (if es = 0 then n else 0) = K2 at *
          have HK2 := Lib.hid hK2
          clear hSP hY hb HX9 HA9 HV9 HZ8 hK2
          by_cases hfr : st = n
          · obtain ⟨he, hes, hU⟩ := und_free HIP.out HSP.out HFA.out HCL.out (HFR.out.1 hfr)
            subst he; subst hes
            have hk1 : n = K1 := by rw [← HK1.out, if_pos rfl]
            subst hk1
            have hk2 : n = K2 := by rw [← HK2.out, if_pos rfl]
            subst hk2
            have hst' : n = st := hfr.symm
            subst hst'
            have HU := Lib.hid hU
            have HSQ := Lib.hid (square_ok HFA.out HCL.out)
            clear hU hfr hst HFR HSP HIP HK1 HK2
            go_wp2_with fail
            refine (times_any hF A1 A8 n n c1 c8 L (fun _ => n) GA X _ (by omega) HLA.out (by omega) (fun _ _ => by omega) HA10.out HX10.out).mono ?_
            rintro e w10 ⟨A11, c11, rfl, hM, hb⟩
            rw [HSQ.out.1]
            rw [HSQ.out.2.1] at hM ⊢
            have HM1 : Hid (MI w10 A11 n (fun _ => n) (fun i j => (F.idm i j).val)) := MI.as hM (fun i hi => (colsN_const n).symm) fun i hi j hj => by rw [HU.out.r i j hi hj]
            have HX11 := Lib.hid (MI.below HX10.out hb); have HA11 := Lib.hid (MI.below HA10.out hb); have HV11 := Lib.hid (HV10.out.below hb); have HY11 := Lib.hid (MI.below HYY.out hb)
            have HZ10 := Lib.hid (HZ9.out.trans (hb.mono HZ9.out.size))
            clear hM hb HX10 HA10 HV10 HZ9 HYY
            go_wp2_with fail
            refine (times_any hF A8 A1 n n c8 c1 (fun _ => n) L X GA _ (by omega) (fun _ _ => by omega) (by omega) HLA.out HX11.out HA11.out).mono ?_
            rintro e w11 ⟨A12, c12, rfl, hM, hb⟩
            rw [HSQ.out.2.2.1]
            rw [HSQ.out.2.2.2] at hM ⊢
            have HM2 : Hid (MI w11 A12 n (fun _ => n) (fun i j => (F.idm i j).val)) := MI.as hM (fun i hi => HCL.out.symm) fun i hi j hj => by rw [HU.out.l i j hi hj]
            have HM1' := Lib.hid (MI.below HM1.out hb)
            have HX12 := Lib.hid (MI.below HX11.out hb); have HA12 := Lib.hid (MI.below HA11.out hb); have HV12 := Lib.hid (HV11.out.below hb); have HY12 := Lib.hid (MI.below HY11.out hb)
            have HZ11 := Lib.hid (HZ10.out.trans (hb.mono HZ10.out.size))
            clear hM hb HX11 HA11 HV11 HZ10 HY11 HM1 HSQ
            go_wp2_with fail
            refine (inverse_any hF A8 n c8 (fun _ => n) X _ (by omega) (fun _ _ => by omega) HX12.out).mono ?_
            rintro e w12 ⟨er, Y, A13, c13, rfl, hIP, hb, hX⟩
            obtain ⟨he, hYG⟩ := HU.out.back hn5 hIP
            subst he
            rw [if_pos rfl] at hX ⊢
            have HB3 : Hid (MI w12 A13 n (fun _ => n) (fun i j => (GA i j).val)) := MI.as hX (fun _ _ => rfl) fun i hi j hj => by rw [hYG i j hi hj]
            have HM1 := Lib.hid (MI.below HM1'.out hb); have HM2' := Lib.hid (MI.below HM2.out hb)
            have HA13 := Lib.hid (MI.below HA12.out hb); have HV13 := Lib.hid (HV12.out.below hb); have HY13 := Lib.hid (MI.below HY12.out hb)
            have HZ12 := Lib.hid (HZ11.out.trans (hb.mono HZ11.out.size))
            clear hIP hYG hX hb HX12 HA12 HV12 HY12 HZ11 HM1' HM2
            go_wp2_with fail
            refine (unit_any ok n _ (by omega)).mono ?_
            rintro e w13 ⟨A14, c14, rfl, hU1, hb⟩
            have HU1 := Lib.hid hU1
            have HM1' := Lib.hid (MI.below HM1.out hb); have HM2 := Lib.hid (MI.below HM2'.out hb); have HB4 := Lib.hid (MI.below HB3.out hb)
            have HA14 := Lib.hid (MI.below HA13.out hb); have HV14 := Lib.hid (HV13.out.below hb); have HY14 := Lib.hid (MI.below HY13.out hb)
            have HZ13 := Lib.hid (HZ12.out.trans (hb.mono HZ12.out.size))
            clear hU1 hb HM1 HM2' HB3 HA13 HV13 HY13 HZ12
            go_wp2_with fail
            refine (alike_any A11 A14 n c11 c14 (fun _ => n) (fun i j => (F.idm i j).val) _ (by omega) (fun _ _ => by omega) HM1'.out HU1.out).mono ?_
            rintro e w14 ⟨rfl, hd⟩
            have HM2' := Lib.hid (MI.below HM2.out (hd.below _)); have HB5 := Lib.hid (MI.below HB4.out (hd.below _))
            have HA15 := Lib.hid (MI.below HA14.out (hd.below _)); have HV15 := Lib.hid (HV14.out.below (hd.below _)); have HY15 := Lib.hid (MI.below HY14.out (hd.below _))
            have HZ14 := Lib.hid (hd.below' HZ13.out)
            clear hd HM1' HU1 HM2 HB4 HA14 HV14 HY14 HZ13
            go_wp2_with fail
            refine (unit_any ok n _ (by omega)).mono ?_
            rintro e w15 ⟨A16, c16, rfl, hU1, hb⟩
            have HU1 := Lib.hid hU1
            have HM2 := Lib.hid (MI.below HM2'.out hb); have HB6 := Lib.hid (MI.below HB5.out hb)
            have HA16 := Lib.hid (MI.below HA15.out hb); have HV16 := Lib.hid (HV15.out.below hb); have HY16 := Lib.hid (MI.below HY15.out hb)
            have HZ15 := Lib.hid (HZ14.out.trans (hb.mono HZ14.out.size))
            clear hU1 hb HM2' HB5 HA15 HV15 HY15 HZ14
            go_wp2_with fail
            refine (alike_any A12 A16 n c12 c16 (fun _ => n) (fun i j => (F.idm i j).val) _ (by omega) (fun _ _ => by omega) HM2.out HU1.out).mono ?_
            rintro e w16 ⟨rfl, hd⟩
            have HB7 := Lib.hid (MI.below HB6.out (hd.below _))
            have HA17 := Lib.hid (MI.below HA16.out (hd.below _)); have HV17 := Lib.hid (HV16.out.below (hd.below _)); have HY17 := Lib.hid (MI.below HY16.out (hd.below _))
            have HAx : Hid (MI w16 A1 n (fun _ => n) (fun i j => (GA i j).val)) := MI.as HA17.out (fun i hi => (HLn.out i hi).symm) fun i hi j hj => rfl
            have HZ16 := Lib.hid (hd.below' HZ15.out)
            clear hd HU1 HM2 HB6 HA16 HV16 HY16 HZ15
            go_wp2_with fail
            refine (alike_any A13 A1 n c13 c1 (fun _ => n) (fun i j => (GA i j).val) _ (by omega) (fun _ _ => by omega) HB7.out HAx.out).mono ?_
            rintro e w17 ⟨rfl, hd⟩
            have HA18 := Lib.hid (MI.below HA17.out (hd.below _)); have HV18 := Lib.hid (HV17.out.below (hd.below _)); have HY18 := Lib.hid (MI.below HY17.out (hd.below _))
            have HZ17 := Lib.hid (hd.below' HZ16.out)
            clear hd HB7 HAx HA17 HV17 HY17 HZ16
            by_cases hn0 : n = 0
            · have t1 : ((n : Int) == 0) = true := by rw [beq_iff_eq]; omega
              clear hn0
              go_wp2
              go_ret
              exact ⟨rfl, HZ17.out⟩
            · have t1 : ((n : Int) == 0) = false := by rw [beq_eq_false_iff_ne]; omega
              have HCO := Lib.hid (column_ok HFA.out HCL.out (by omega))
              clear hn0
              go_wp2_with fail
              refine (times_any hF A1 A10 n n c1 c10 L (fun _ => 1) GA (fun i _ => x i) _ (by omega) HLA.out (by omega) (fun _ _ => by decide) HA18.out HY18.out).mono ?_
              rintro e w18 ⟨A19, c19, rfl, hM, hb⟩
              rw [HCO.out.1]
              rw [HCO.out.2.1] at hM ⊢
              have hMz : MI w18 A19 n (fun _ => 1) (fun i _ => (VV i).val) := MI.as hM (fun i hi => HCO.out.2.2.symm) fun i hi j hj => by
                rw [← HU.out.s i hi]; rfl
              obtain ⟨SZ, CZ, hz1, hz2⟩ := hMz
              have HM1 := Lib.hid hz1; have HM2 := Lib.hid hz2
              have HV19 := Lib.hid (HV18.out.below hb)
              have HZ18 := Lib.hid (HZ17.out.trans (hb.mono HZ17.out.size))
              clear hM hb HA18 HV18 HY18 HZ17 HCO HU hz1 hz2 t1
              go_wp2
              go_loopg [20] n (fun gk t wr => ∃ q : Nat, q ≤ n ∧ gk = n - q ∧ t = .int .i64 q ∧ Dr w18 wr)
              case atStart => exact ⟨0, Nat.zero_le _, rfl, rfl, Dr.refl _⟩
              case round =>
                obtain ⟨q, hq, rfl, rfl, hw⟩ := hrel
                by_cases hlq : q < n
                · obtain ⟨b1, o1, rfl, _, k1⟩ := hw.rd HM1.out q hlq
                  obtain ⟨b2, o2, hS2, _, k2⟩ := hw.rd (HM2.out q hlq) 0 (by decide)
                  obtain ⟨b3, o3, rfl, _, k3⟩ := hw.rd HV19.out q hlq
                  replace k1 : wr.cell? ⟨b1, o1 + q, none⟩ = some (.slice (SZ q) 1 (CZ q)) := k1
                  rw [hS2] at k1
                  rw [Nat.add_zero] at k2
                  replace k2 : wr.cell? ⟨b2, o2, none⟩ = some (.int .i64 ((VV q).val : Nat)) := k2
                  replace k3 : wr.cell? ⟨b3, o3 + q, none⟩ = some (.int .i64 ((VV q).val : Nat)) := k3
                  clear hS2
                  generalize (VV q).val = vq at *
                  have e2 : ((vq : Int) != (vq : Int)) = false := by simp
                  go_wp2
                  go_quiet (fail)
                  go_wp2
                  go_roundg (n - (q + 1))
                  case measure => omega
                  case rel => exact ⟨q + 1, by omega, rfl, by go_num, hw.drewN _⟩
                · have : q = n := by omega
                  subst this
                  go_wp2
                  go_ret
                  exact ⟨rfl, hw.below' HZ18.out⟩
          · have hlt2 : st < n := by omega
            have hnf := fun h => hfr (HFR.out.2 h)
            have he : er = 32 := HIP.out.bound HFA.out HCL.out hnf
            have hes : es = 32 := HSP.out.bound HFA.out HCL.out hnf
            subst he; subst hes
            have hk1 : 0 = K1 := by rw [← HK1.out, if_neg (by decide)]
            subst hk1
            have hk2 : 0 = K2 := by rw [← HK2.out, if_neg (by decide)]
            subst hk2
            clear hnf hfr HIP HSP HK1 HK2 HFR
            go_wp2
            go_ret
            exact ⟨rfl, HZ9.out⟩
    · have t1 : ((colsN n L : Int) != (n : Int)) = true := by rw [bne_iff_ne]; omega
      clear hcl
      go_wp2
      go_ret
      exact ⟨rfl, HZ5.out⟩
  · rw [show decide (faultE n L = 0) = false from decide_eq_false hfa]
    clear hfa
    go_wp2
    go_ret
    exact ⟨rfl, HZ5.out⟩
theorem lawUnd (F0 : Int) (A V : Option Addr) (n cA m cV : Nat) (L : Nat → Nat) (f : Nat → Nat → Int) (vv : Nat → Int) (B At N One : Value) (hB : B.oneCell' = true) (hAt : At.oneCell' = true) (hN : N.oneCell' = true) (hO : One.oneCell' = true) (w : World)
    (hn : n * 24 ≤ 140737488351232) (hL : ∀ i, i < n → L i * 8 ≤ 140737488351232) (hm : m * 8 ≤ 140737488351232) (hA : RdM w A n L fun i j => .int .i64 (f i j)) (hV : Rd w V m fun i => .int .i64 (vv i)) :
    Calls Try.prog 12 #[.agg #[.int .i64 F0, .slice A n cA, B, At, .slice V m cV, N, One]] w fun e w' => e = .returned (.bool true) ∧ Below w.heap.size w w' := by
  rcases fsz_cases F0 with e | e | e
  · exact lawUnd_s .e F0 A V n cA m cV L f vv B At N One hB hAt hN hO w e hn hL hm hA hV
  · exact lawUnd_s .b F0 A V n cA m cV L f vv B At N One hB hAt hN hO w e hn hL hm hA hV
  · exact lawUnd_s .f F0 A V n cA m cV L f vv B At N One hB hAt hN hO w e hn hL hm hA hV
end Go.Proofs.Ytpocjpodeahanaa
