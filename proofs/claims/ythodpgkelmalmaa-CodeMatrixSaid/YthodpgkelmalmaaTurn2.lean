/- Turn of the program: the walk. Conditions: lengths that memory bears. -/
import Derived.Test.YthodpgkelmalmaaTurnP
namespace Go.Proofs.Ythodpgkelmalmaa
open Go.RowKit

/-- Turn's error. -/
def tuE (n k nr : Nat) (L : Nat → Nat) (a : Int) (nd : Nat) : Int := if nr = n then (if evB n L (L 0) then (if a < 0 ∨ (k : Int) ≤ a then 2 else if nd = L 0 then 0 else 41) else 41) else 40
/-- A byte of the turned word. -/
def tw (k a : Nat) (g : Nat → Nat → Nat) (d : Nat → Nat) (i c : Nat) : Nat := if i = a then d c else if i < k then g i c else (gE.a (el (g i c)) (gE.m (gE.cM el k i a) (gE.a (el (g a c)) (el (d c))))).val
/-- The rows that are answered, i of them so far. -/
structure Tr (w : World) (mb n i len : Nat) (S : Nat → Option Addr) (C : Nat → Nat) (f : Nat → Nat → Nat) : Prop where
  top : w.rowIs mb 24 n (fun t => if t < i then .slice (S t) len (C t) else .slice none 0 0)
  row : ∀ t, t < i → Own w (mb + 1) 5 1 (.slice (S t) len (C t)) len (fun c => [.int .u8 (f t c : Nat)])
theorem Tr.next {w w' : World} {mb n i len c : Nat} {S : Nat → Option Addr} {C : Nat → Nat} {f : Nat → Nat → Nat} {A : Option Addr} (h : Tr w mb n i len S C f) (hb : Below w.heap.size w w') (hr : Own w' w.heap.size 5 1 (.slice A len c) len (fun c => [.int .u8 (f i c : Nat)])) (hm : mb < w.heap.size) :
    Tr (w'.setCell ⟨mb, i, none⟩ (.slice A len c)) mb n (i + 1) len (upd S i A) (upd C i c) f := by
  have ne : ∀ {v : Value} {fl : Nat → List Value}, Own w' (mb + 1) 5 1 v len fl → v.ownBlock ≠ some mb := fun {v fl} ho e => by have := (ho.lt mb e).1; omega
  refine ⟨((below_row h.top hb h.top.lt).set i (.slice A len c)).congr fun t _ => ?_, fun t ht => ?_⟩
  · by_cases e : t = i
    · subst e; rw [if_pos rfl, if_pos (by omega), upd_at, upd_at]
    · rw [if_neg e, upd_ne _ _ _ e, upd_ne _ _ _ e]
      by_cases e2 : t < i
      · rw [if_pos e2, if_pos (by omega)]
      · rw [if_neg e2, if_neg (by omega)]
  · by_cases e : t = i
    · subst e
      rw [upd_at, upd_at]
      have h2 := hr.mono (show mb + 1 ≤ w.heap.size from hm)
      exact h2.setOther (a := ⟨mb, t, none⟩) (ne h2) _
    · rw [upd_ne _ _ _ e, upd_ne _ _ _ e]
      have h2 := (h.row t (by omega)).kept hb
      exact h2.setOther (a := ⟨mb, i, none⟩) (ne h2) _
theorem Tr.rdm {w : World} {mb n len : Nat} {S : Nat → Option Addr} {C : Nat → Nat} {f : Nat → Nat → Nat} (h : Tr w mb n n len S C f) : RdM w (some ⟨mb, 0, none⟩) n (fun _ => len) (fun i c => .int .u8 (f i c : Nat)) :=
  ⟨S, C, row_rd (h.top.congr fun i hi => by rw [if_pos hi]), fun i hi => by
    obtain ⟨A, c, e, _, _, hr, _⟩ := (h.row i hi).rd
    injection e with e _ _
    rw [e]; exact hr⟩
set_option maxRecDepth 40000 in
set_option maxHeartbeats 4000000 in
theorem pturn_ok (p : Nat) (A Dd : Option Addr) (k n c a cD : Nat) (L : Nat → Nat) (g : Nat → Nat → Nat) (d : Nat → Nat) (w : World) (hk : 0 < k) (hkn : k ≤ n) (hn : n ≤ 255) (ha : a < k) (hL : L 0 ≤ 140737488351232) (hg : ∀ i, i < n → ∀ j, j < L 0 → g i j < 256) (hd : ∀ j, j < L 0 → d j < 256)
    (hC : CodeAt w p k n) (hA : RdM w A n (fun _ => L 0) (fun i j => .int .u8 (g i j))) (hD : Rd w Dd (L 0) (fun j => .int .u8 (d j : Nat))) :
    Calls Try.prog 30 #[.pointer (some ⟨p, 0, none⟩), .slice A n c, .int .i64 a, .slice Dd (L 0) cD] w fun e w' => ∃ A' c', e = .returned (.tuple #[.slice A' n c', .int .i64 0]) ∧ RdM w' A' n (fun _ => L 0) (fun i c => .int .u8 (tw k a g d i c : Nat)) ∧ Below w.heap.size w w' := by
  have CN := Lib.hid (none_any p k n w hC hk)
  obtain ⟨SA, CA, hA1, hA2⟩ := id hA
  obtain ⟨b0, o0, rfl, hb0, hx0⟩ := hA1 0 (by omega)
  rw [Nat.add_zero] at hx0
  have CE := Lib.hid (even_any (some ⟨b0, o0, none⟩) n c (fun _ => L 0) CA SA w (by omega) hA1)
  have hev1 : evB n (fun _ => L 0) (L 0) = true := evB_iff.2 fun _ _ => rfl
  rw [hev1] at CE
  have hck := hC.ck
  have hcn := hC.cn
  have HC := Lib.hid hC; have HA1 := Lib.hid hA1; have HA2 := Lib.hid hA2; have HG := Lib.hid hg; have HDd := Lib.hid hd
  have HD := Lib.hid hD
  obtain ⟨ba, oa, e2, hba, hxa⟩ := hA1 a (by omega)
  injection e2 with e2
  injection e2 with e2 e3 _
  subst e2 e3
  have CS := Lib.hid (fun w' (hb : Below w.heap.size w w') => sum_any (SA a) Dd (L 0) (CA a) cD (fun c => el (g a c)) (fun c => el (d c)) w' hL (((HA2.out a (by omega)).below hb).congr fun j hj => by show Value.int .u8 ((g a j : Nat) : Int) = _; rw [el_val (HG.out a (by omega) j hj)]) ((HD.out.below hb).congr fun j hj => by show Value.int .u8 ((d j : Nat) : Int) = _; rw [el_val (HDd.out j hj)]))
  generalize L 0 = len at *
  clear hC hA hA1 hA2 hg hd hD hev1
  have hmk1 := run_make_row' (P := Try.prog) 23 24 (.slice none 0 0) 24 Try.underlying23 bytesInfo rfl .i64 .i64 n (by omega) (by omega)
  have HMK := Lib.hid hmk1; clear hmk1
  go_enter Try.func30, Try.ntmps30
  go_wp2_with fail
  refine CN.out.mono ?_
  rintro e w1 ⟨rfl, rfl⟩
  go_wp2_with fail
  refine CE.out.mono ?_
  rintro e w1 ⟨rfl, rfl⟩
  clear CN CE
  go_wp2_with fail
  refine (CS.out _ (Below.refl _ _)).mono ?_
  rintro e w2 ⟨rfl, hch, hb2⟩
  have hcn2 : w2.cell? ⟨p, 1, none⟩ = some (.int .i64 n) := (hb2.cell HC.out.lt).trans hcn
  have HCH := Lib.hid (row_rd hch)
  have HB2 := Lib.hid hb2
  have hmk1 := HMK.out
  have hT0 := Lib.hid (World.rowIs_made w2 (.slice none 0 0) n 24)
  have hBz := Lib.hid ((Below.refl w2.heap.size w2).alloc (Nat.le_refl _) (.cells (madeCells #[.slice none 0 0] n) 24))
  clear hch hb2 hck hcn hx0 hxa CS
  go_wp2
  clear hmk1 hcn2
  go_loopg [13, 14, 65] n (fun gk _ _ v wr => ∃ (i : Nat) (S : Nat → Option Addr) (C : Nat → Nat), i ≤ n ∧ gk = n - i ∧ v = .int .i64 i ∧ Tr wr w2.heap.size n i len S C (tw k a g d) ∧ Below w2.heap.size w2 wr)
  case atStart => exact ⟨0, fun _ => none, fun _ => 0, Nat.zero_le _, rfl, rfl, ⟨hT0.out.congr fun t _ => by rw [if_neg (by omega)], fun t ht => absurd ht (by omega)⟩, hBz.out⟩
  case round =>
    clear hT0 hBz
    obtain ⟨i, S, C, hi, rfl, rfl, hT, hb⟩ := hrel
    have HT := Lib.hid hT; have HB := Lib.hid hb
    have hszw := hb.size
    have hbw := HB2.out.trans (hb.mono HB2.out.size)
    clear hT hb
    by_cases hlt : i < n
    · obtain ⟨bi, oi, e2, hbi, hxi⟩ := HA1.out i hlt
      injection e2 with e2
      injection e2 with e2 e3 _
      subst e2 e3
      have hyi : wr.cell? ⟨b0, o0 + i, none⟩ = some (.slice (SA i) len (CA i)) := (hbw.cell hbi).trans hxi
      have hyk : wr.cell? ⟨p, 0, none⟩ = some (.int .i64 k) := (hbw.cell HC.out.lt).trans HC.out.ck
      have HBW := Lib.hid hbw
      clear hxi hbw
      by_cases hia : i = a
      · subst hia
        have CC := Lib.hid (clone_any Dd len cD d wr hL (HD.out.below HBW.out))
        go_wp2_with fail
        refine CC.out.mono ?_
        rintro e w5 ⟨v5, rfl, hO5, hb5⟩
        obtain ⟨A5, c5, rfl, _, _, _, _⟩ := hO5.rd
        have hO5' : Own w5 wr.heap.size 5 1 (.slice A5 len c5) len (fun c => [.int .u8 (tw k i g d i c : Nat)]) := hO5.congr fun c _ => by unfold tw; rw [if_pos rfl]
        have hT5 := below_row HT.out.top hb5 HT.out.top.lt
        have hcl := hT5.cell hlt
        have hfz := hT5.frozen i
        rw [if_neg (Nat.lt_irrefl i)] at hcl
        have HN := Lib.hid (HT.out.next hb5 hO5' (Nat.lt_of_le_of_lt (Nat.le_refl _) HT.out.top.lt))
        have HBN := Lib.hid ((HB.out.trans (hb5.mono hszw)).setCell (p := ⟨w2.heap.size, i, none⟩) (Nat.le_refl _) (.slice A5 len c5))
        clear hT5 hb5 HT HB
        go_wp2
        go_roundg (n - (i + 1))
        case measure => omega
        case rel => exact ⟨i + 1, _, _, by omega, rfl, by go_num, HN.out, HBN.out⟩
      · have t1 : ((i : Int) == (a : Int)) = false := by rw [beq_eq_false_iff_ne]; omega
        by_cases hik : i < k
        · have CC := Lib.hid (clone_any (SA i) len (CA i) (g i) wr hL ((HA2.out i hlt).below HBW.out))
          go_wp2_with fail
          refine CC.out.mono ?_
          rintro e w5 ⟨v5, rfl, hO5, hb5⟩
          obtain ⟨A5, c5, rfl, _, _, _, _⟩ := hO5.rd
          have hO5' : Own w5 wr.heap.size 5 1 (.slice A5 len c5) len (fun c => [.int .u8 (tw k a g d i c : Nat)]) := hO5.congr fun c _ => by unfold tw; rw [if_neg hia, if_pos hik]
          have hT5 := below_row HT.out.top hb5 HT.out.top.lt
          have hcl := hT5.cell hlt
          have hfz := hT5.frozen i
          rw [if_neg (Nat.lt_irrefl i)] at hcl
          have HN := Lib.hid (HT.out.next hb5 hO5' (Nat.lt_of_le_of_lt (Nat.le_refl _) HT.out.top.lt))
          have HBN := Lib.hid ((HB.out.trans (hb5.mono hszw)).setCell (p := ⟨w2.heap.size, i, none⟩) (Nat.le_refl _) (.slice A5 len c5))
          clear hT5 hb5 HT HB
          go_wp2
          go_roundg (n - (i + 1))
          case measure => omega
          case rel => exact ⟨i + 1, _, _, by omega, rfl, by go_num, HN.out, HBN.out⟩
        · obtain ⟨Ar, cr, hcr, SR, CR, hR1, hR2⟩ := HC.out.cr
          obtain ⟨br, or', rfl, hbr, hxr⟩ := hR1 i hlt
          obtain ⟨bw, ow, hSR, hbwl, hxw⟩ := hR2 i hlt a ha
          have hz1 : wr.cell? ⟨p, 2, none⟩ = some (.slice (some ⟨br, or', none⟩) n cr) := (HBW.out.cell HC.out.lt).trans hcr
          have hz2 : wr.cell? ⟨br, or' + i, none⟩ = some (.slice (some ⟨bw, ow, none⟩) k (CR i)) := by rw [← hSR]; exact (HBW.out.cell hbr).trans hxr
          have hz3 : wr.cell? ⟨bw, ow + a, none⟩ = some (.int .u8 ((gE.cM el k i a).val : Nat)) := (HBW.out.cell hbwl).trans hxw
          have CSC := Lib.hid (scale_any (some ⟨w.heap.size, 0, none⟩) len len (fun c => gE.a (el (g a c)) (el (d c))) (gE.cM el k i a) wr hL (HCH.out.below HB.out))
          have HSI := Lib.hid (((HA2.out i hlt).below HBW.out).congr (g := fun j => .int .u8 ((el (g i j)).val : Nat)) fun j hj => by show Value.int .u8 ((g i j : Nat) : Int) = _; rw [el_val (HG.out i hlt j hj)])
          clear hcr hR1 hR2 hxr hxw hSR
          go_wp2_with fail
          refine CSC.out.mono ?_
          rintro e w4 ⟨rfl, hq4, hb4⟩
          have HQ4 := Lib.hid (row_rd hq4); have HB4 := Lib.hid hb4
          clear hz1 hz2 hz3 hq4 hb4 hyk
          go_wp2_with fail
          refine (sum_any (SA i) (some ⟨wr.heap.size, 0, none⟩) len (CA i) len (fun c => el (g i c)) (fun c => gE.m (gE.a (el (g a c)) (el (d c))) (gE.cM el k i a)) w4 hL (HSI.out.below HB4.out) HQ4.out).mono ?_
          rintro e w5 ⟨rfl, hq5, hb5'⟩
          have hb5 := HB4.out.trans (hb5'.mono HB4.out.size)
          obtain ⟨A5, hA5⟩ : ∃ A5 : Option Addr, A5 = some ⟨w4.heap.size, 0, none⟩ := ⟨_, rfl⟩
          obtain ⟨c5, hc5⟩ : ∃ c5 : Nat, c5 = len := ⟨_, rfl⟩
          have hO5' : Own w5 wr.heap.size 5 1 (.slice A5 len c5) len (fun c => [.int .u8 (tw k a g d i c : Nat)]) := by
            rw [hA5, hc5]
            refine own_of_row (hq5.congr fun c _ => ?_) HB4.out.size (by unfold maxLen; omega)
            show Value.int .u8 ((gE.a (el (g i c)) (gE.m (gE.a (el (g a c)) (el (d c))) (gE.cM el k i a))).val : Int) = Value.int .u8 ((tw k a g d i c : Nat) : Int)
            unfold tw
            rw [if_neg hia, if_neg hik, gE.m_comm]
          rw [← hA5]
          have hcc : Value.slice A5 len len = Value.slice A5 len c5 := by rw [hc5]
          rw [hcc]
          clear hq5 hb5' hA5 hc5 hcc
          have hT5 := below_row HT.out.top hb5 HT.out.top.lt
          have hcl := hT5.cell hlt
          have hfz := hT5.frozen i
          rw [if_neg (Nat.lt_irrefl i)] at hcl
          have HN := Lib.hid (HT.out.next hb5 hO5' (Nat.lt_of_le_of_lt (Nat.le_refl _) HT.out.top.lt))
          have HBN := Lib.hid ((HB.out.trans (hb5.mono hszw)).setCell (p := ⟨w2.heap.size, i, none⟩) (Nat.le_refl _) (.slice A5 len c5))
          clear hT5 hb5 HT HB
          go_wp2
          go_roundg (n - (i + 1))
          case measure => omega
          case rel => exact ⟨i + 1, _, _, by omega, rfl, by go_num, HN.out, HBN.out⟩
    · have hin : i = n := by omega
      subst i
      have HR := Lib.hid HT.out.rdm
      have HBW := Lib.hid hbw
      clear HT HB hbw
      go_wp2
      go_ret2
      exact ⟨some ⟨w2.heap.size, 0, none⟩, n, rfl, HR.out, HBW.out⟩
end Go.Proofs.Ythodpgkelmalmaa
