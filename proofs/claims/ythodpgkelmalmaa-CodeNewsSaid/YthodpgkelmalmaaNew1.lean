/- plain and Matrix of the program's code, Matrix of the document's; a code that is not there. Conditions: none beyond the sizes of a code. -/
import Derived.Test.YthodpgkelmalmaaCode3
import Derived.Test.YthodpgkelmalmaaSame
namespace Go.Proofs.Ythodpgkelmalmaa
open Go.RowKit

theorem grown_thenBelow {w w' w'' : World} {r : Option Nat} (h : w.grownBy w' r) (hb : Below w.heap.size w' w'') : w.grownBy w'' r :=
  ⟨hb.os.trans h.os, hb.tape.trans h.tape, hb.output.trans h.output, Nat.le_trans h.size hb.size, fun k hk hne => (hb.block k hk).trans (h.block k hk hne)⟩
theorem Own.ext {w : World} {B e n m : Nat} {v : Value} {f : Nat → List Value} (h : Own w B e 1 v n f) (e1 : n = m) : Own w B e 1 v m f := e1 ▸ h
/-- The list of rows while the row i is being made. -/
def plT (S : Nat → Option Addr) (C : Nat → Nat) (k i : Nat) (v : Value) (t : Nat) : Value := if t < i then .slice (S t) k (C t) else if t = i then v else .slice none 0 0
theorem plT_at {S : Nat → Option Addr} {C : Nat → Nat} {k i : Nat} {v : Value} : plT S C k i v i = v := by unfold plT; rw [if_neg (Nat.lt_irrefl i), if_pos rfl]
theorem plT_set {S : Nat → Option Addr} {C : Nat → Nat} {k i : Nat} {v v' : Value} (t : Nat) : (if t = i then v' else plT S C k i v t) = plT S C k i v' t := by
  unfold plT
  by_cases e : t = i
  · subst e; rw [if_pos rfl, if_neg (Nat.lt_irrefl t), if_pos rfl]
  · rw [if_neg e]
    by_cases e2 : t < i
    · rw [if_pos e2, if_pos e2]
    · rw [if_neg e2, if_neg e2, if_neg e, if_neg e]
theorem plT_next {S : Nat → Option Addr} {C : Nat → Nat} {k i : Nat} (A : Option Addr) (c : Nat) (t : Nat) : plT S C k i (.slice A k c) t = plT (upd S i A) (upd C i c) k (i + 1) (.slice none 0 0) t := by
  unfold plT
  by_cases e : t = i
  · subst e; rw [if_neg (Nat.lt_irrefl t), if_pos rfl, if_pos (by omega), upd_at, upd_at]
  · by_cases e2 : t < i
    · rw [if_pos e2, if_pos (by omega), upd_ne _ _ _ e, upd_ne _ _ _ e]
    · rw [if_neg e2, if_neg e, if_neg (by omega)]; split <;> rfl
set_option maxRecDepth 40000 in
set_option maxHeartbeats 2000000 in
theorem plain_any (A : Option Addr) (n k c1 : Nat) (O : Nat → Nat → Fin 256) (w : World) (hn : n ≤ 1000) (hk : k ≤ 1000) (hA : ME w A n (fun _ => k) (fun i j => (O i j).val)) :
    Calls Try.prog 64 #[.slice A n c1] w fun e w' => ∃ (S : Nat → Option Addr) (C : Nat → Nat), e = .returned (.slice (some ⟨w.heap.size, 0, none⟩) n n) ∧ w'.rowIs w.heap.size 24 n (fun t => .slice (S t) k (C t)) ∧
      (∀ t, t < n → Own w' (w.heap.size + 1) 5 1 (.slice (S t) k (C t)) k (fun j => [.int .u8 ((O t j).val : Nat)])) ∧ (∀ s t b, s < t → t < n → (Value.slice (S s) k (C s)).ownBlock = some b → (Value.slice (S t) k (C t)).ownBlock ≠ some b) ∧ Below w.heap.size w w' := by
  obtain ⟨SA, CA, hA1, hA2⟩ := hA
  have HA1 := Lib.hid hA1; have HA2 := Lib.hid hA2
  clear hA1 hA2
  have hmk := run_make_row' (P := Try.prog) 23 24 (.slice none 0 0) 24 Try.underlying23 bytesInfo rfl .i64 .i64 n (by omega) (by omega)
  have HZ := Lib.hid ((World.rowIs_made w (.slice none 0 0) n 24).congr (g := plT (fun _ => none) (fun _ => 0) k 0 (.slice none 0 0)) fun t _ => by unfold plT; rw [if_neg (by omega)]; split <;> rfl)
  have HBZ := Lib.hid ((Below.refl w.heap.size w).alloc (Nat.le_refl _) (.cells (madeCells #[.slice none 0 0] n) 24))
  go_enter Try.func64, Try.ntmps64
  go_wp2
  clear hmk
  go_loopg [4, 5, 7, 13] n (fun gk _ _ _ v wr => ∃ (i : Nat) (S : Nat → Option Addr) (C : Nat → Nat), i ≤ n ∧ gk = n - i ∧ v = .int .i64 i ∧ wr.rowIs w.heap.size 24 n (plT S C k i (.slice none 0 0)) ∧
    (∀ t, t < i → Own wr (w.heap.size + 1) 5 1 (.slice (S t) k (C t)) k (fun j => [.int .u8 ((O t j).val : Nat)])) ∧ (∀ s t b, s < t → t < i → (Value.slice (S s) k (C s)).ownBlock = some b → (Value.slice (S t) k (C t)).ownBlock ≠ some b) ∧ Below w.heap.size w wr)
  case atStart => exact ⟨0, _, _, Nat.zero_le _, rfl, rfl, HZ.out, fun t ht => absurd ht (by omega), fun s t b _ ht => absurd ht (by omega), HBZ.out⟩
  case round =>
    clear HZ HBZ
    obtain ⟨i, S, C, hi, rfl, rfl, hT, hR, hD, hb⟩ := hrel
    have HT := Lib.hid hT; have HR := Lib.hid hR; have HD := Lib.hid hD; have HB := Lib.hid hb
    clear hT hR hD hb
    by_cases hlt : i < n
    · obtain ⟨wo, rfl⟩ : ∃ wo : World, wo = wr := ⟨_, rfl⟩
      obtain ⟨b1, o1, rfl, hb1, hx1⟩ := HA1.out i hlt
      have hy1 : wo.cell? ⟨b1, o1 + i, none⟩ = some (.slice (SA i) k (CA i)) := (HB.out.cell hb1).trans hx1
      have HRA := Lib.hid (HA2.out i hlt)
      generalize SA i = Ai at *
      have hmb := HT.out.lt
      have HO0 : Hid (Own wo wo.heap.size 5 1 (.slice none 0 0) 0 (fun j => [.int .u8 ((O i j).val : Nat)])) := Own.nil _ _ _ _ _
      have HG0 := Lib.hid (World.grownBy.refl wo (some w.heap.size))
      clear hx1
      go_wp2
      clear hy1
      go_loopg [7, 20] k (fun gk _ v wr => ∃ (j : Nat) (V : Value), j ≤ k ∧ gk = k - j ∧ v = .int .i64 j ∧ wr.rowIs w.heap.size 24 n (plT S C k i V) ∧ Own wr wo.heap.size 5 1 V j (fun j => [.int .u8 ((O i j).val : Nat)]) ∧ wo.grownBy wr (some w.heap.size))
      case atStart => exact ⟨0, _, Nat.zero_le _, rfl, rfl, HT.out, HO0.out, HG0.out⟩
      case round =>
        clear HO0 HG0
        obtain ⟨j, V, hj, rfl, rfl, hQ, hO, hg⟩ := hrel
        by_cases hlj : j < k
        · generalize hmbe : w.heap.size = mb at *
          obtain ⟨Av, cv, hv, hjc, hcm, _, _⟩ := hO.rd
          subst hv
          have HQ := Lib.hid hQ; have HO := Lib.hid hO; have HG := Lib.hid hg
          clear hQ hO hg
          obtain ⟨b2, o2, rfl, hb2, hx2⟩ := HRA.out j hlj
          have hne2 : b2 ≠ mb := by omega
          have hsz1 := HB.out.size
          have hy2 : wr.cell? ⟨b2, o2 + j, none⟩ = some (.int .u8 ((O i j).val : Nat)) := (grown_cell HG.out (p := ⟨b2, o2 + j, none⟩) (by show b2 < wo.heap.size; omega) (by simpa using hne2)).trans ((HB.out.cell (p := ⟨b2, o2 + j, none⟩) (by show b2 < mb; omega)).trans hx2)
          have hcl := HQ.out.cell hlt
          rw [plT_at] at hcl
          replace hcl : wr.cell? ⟨mb, i, none⟩ = some (.slice Av j cv) := hcl
          have hmbr := HQ.out.lt
          have hszo := HG.out.size
          clear hx2
          go_wp2_with (at_builtin; refine wpList_push _ rfl (.tmp 29) (.tmp 31) 24 rfl wo.heap.size 5 1 1 (.int .u8 0) #[.int .u8 ((O i j).val : Nat)] Try.underlying24 byteInfo rfl (by decide) _ j _ rfl HO.out hszo _ rfl rfl rfl rfl rfl (by omega) (by omega) ?_)
          intro V3 w3 hown3 hbel3 hg3 _
          have hcl3 : w3.cell? ⟨mb, i, none⟩ = some (.slice Av j cv) := (hbel3.cell (p := ⟨mb, i, none⟩) hmb).trans hcl
          have HQ3 : Hid (w3.rowIs mb 24 n (plT S C k i (.slice Av j cv))) := HQ.out.of_block (hbel3.block mb hmb)
          have hfz3 := HQ3.out.frozen i
          have HQ4 := Lib.hid ((HQ3.out.set i V3).congr (g := plT S C k i V3) fun t _ => plT_set t)
          have HO4 := Lib.hid (hown3.setOther (a := ⟨mb, i, none⟩) (fun e => by have := (Own.lt hown3 _ e).1; have e2 : mb < wo.heap.size := hmb; show False; change wo.heap.size ≤ mb at this; omega) V3)
          have HG4 := Lib.hid ((grown_thenBelow HG.out hbel3).trans (grown_set (w := w3) (a := ⟨mb, i, none⟩) rfl V3))
          obtain ⟨A3, c3, hv3, _, _, _, _⟩ := hown3.rd
          subst hv3
          clear hown3 hbel3 hg3 HQ HO HG HQ3 hy2 hcl
          go_wp2
          go_roundg (k - (j + 1))
          case measure => omega
          case rel => exact ⟨j + 1, _, by omega, rfl, by go_num, HQ4.out, HO4.out, HG4.out⟩
        · have hjk : j = k := by omega
          subst j
          obtain ⟨Av, cv, hv, hjc, hcm, _, _⟩ := hO.rd
          subst hv
          have HQ := Lib.hid hQ; have HO := Lib.hid hO; have HG := Lib.hid hg
          clear hQ hO hg
          have hsz1 := HB.out.size
          have HT2 := Lib.hid (HQ.out.congr (g := plT (upd S i Av) (upd C i cv) k (i + 1) (.slice none 0 0)) fun t _ => plT_next Av cv t)
          have HR2 : Hid (∀ t, t < i + 1 → Own wr (w.heap.size + 1) 5 1 (.slice (upd S i Av t) k (upd C i cv t)) k (fun j => [.int .u8 ((O t j).val : Nat)])) := fun t ht => by
            by_cases e : t = i
            · subst e; rw [upd_at, upd_at]; exact HO.out.mono (by omega)
            · rw [upd_ne _ _ _ e, upd_ne _ _ _ e]
              refine (HR.out t (by omega)).keptRow HG.out (.inr fun e2 => ?_)
              have := ((HR.out t (by omega)).lt _ e2).1
              omega
          have HD2 : Hid (∀ s t b, s < t → t < i + 1 → (Value.slice (upd S i Av s) k (upd C i cv s)).ownBlock = some b → (Value.slice (upd S i Av t) k (upd C i cv t)).ownBlock ≠ some b) := fun s t b hst ht hs => by
            rw [upd_ne _ _ _ (by omega), upd_ne _ _ _ (by omega)] at hs
            by_cases e : t = i
            · subst e
              rw [upd_at, upd_at]
              intro e2
              have h1 := ((HR.out s (by omega)).lt _ hs).2
              have h2 := (HO.out.lt _ e2).1
              omega
            · rw [upd_ne _ _ _ e, upd_ne _ _ _ e]
              exact HD.out s t b hst (by omega) hs
          have HB2 : Hid (Below w.heap.size w wr) := HB.out.grown HG.out hsz1 (fun g hg => by injection hg with hg; omega)
          clear HT HR HD HB HQ HO HG
          go_wp2
          go_roundg (n - (i + 1))
          case measure => omega
          case rel => exact ⟨i + 1, _, _, by omega, rfl, by go_num, HT2.out, HR2.out, HD2.out, HB2.out⟩
    · have hin : i = n := by omega
      subst i
      have HT2 := Lib.hid (HT.out.congr (g := fun t => .slice (S t) k (C t)) fun t ht => by unfold plT; rw [if_pos ht])
      clear HT
      go_wp2
      go_ret
      exact ⟨S, C, rfl, HT2.out, HR.out, HD.out, HB.out⟩
theorem mat_any (p k n : Nat) (w : World) (h : CodeAt w p k n) (hk : 0 < k) (hn : n ≤ 1000) (hk2 : k ≤ 1000) :
    Calls Try.prog 41 #[.pointer (some ⟨p, 0, none⟩)] w fun e w' => ∃ (b : Nat) (S : Nat → Option Addr) (C : Nat → Nat), e = .returned (.slice (some ⟨b, 0, none⟩) n n) ∧ w.heap.size ≤ b ∧ w'.rowIs b 24 n (fun t => .slice (S t) k (C t)) ∧
      (∀ t, t < n → Own w' (b + 1) 5 1 (.slice (S t) k (C t)) k (fun j => [.int .u8 ((gE.cM el k t j).val : Nat)])) ∧ (∀ s t b, s < t → t < n → (Value.slice (S s) k (C s)).ownBlock = some b → (Value.slice (S t) k (C t)).ownBlock ≠ some b) ∧ Below w.heap.size w w' := by
  have HC := Lib.hid h
  obtain ⟨_, _, _, A, c, hc, hM⟩ := h
  have HM := Lib.hid hM; clear hM
  go_enter Try.func41, Try.ntmps41
  go_wp2_with fail
  refine (none_any p k n w HC.out hk).mono ?_
  rintro e w1 ⟨rfl, rfl⟩
  go_wp2_with fail
  refine (plain_any A n k c (gE.cM el k) w hn hk2 HM.out).mono ?_
  rintro e w1 ⟨S, C, rfl, h1, h2, h3, h4⟩
  have H1 := Lib.hid h1; have H2 := Lib.hid h2; have H3 := Lib.hid h3; have H4 := Lib.hid h4
  clear h1 h2 h3 h4 HM HC
  go_wp2
  go_ret
  exact ⟨_, S, C, rfl, Nat.le_refl _, H1.out, H2.out, H3.out, H4.out⟩
set_option maxRecDepth 20000 in
set_option maxHeartbeats 1000000 in
theorem refM_any (k m : Nat) (w : World) (hn : k + m ≤ 256) :
    Calls Try.prog 49 #[.int .i64 k, .int .i64 m] w fun e w' => ∃ (A' : Option Addr) (c' : Nat), e = .returned (.slice A' (k + m : Nat) c') ∧ RdM w' A' (k + m) (fun _ => k) (fun i j => .int .u8 ((gE.cM el k i j).val : Nat)) ∧ Below w.heap.size w w' := by
  have hs : IntKind.i64.wrap ((k : Int) + (m : Int)) = (k : Int) + (m : Int) := i64_small _ (by omega) (by omega)
  obtain ⟨n, hnn⟩ : ∃ n, n = k + m := ⟨_, rfl⟩
  have hn1 : n ≤ k + m := by omega
  have hn2 : k + m ≤ n := by omega
  have hni : (k : Int) + (m : Int) = (n : Int) := by omega
  rw [← hnn]
  clear hnn
  go_enter Try.func49, Try.ntmps49
  go_wp2_with fail
  refine (first_any k w (by omega)).mono ?_
  rintro e w1 ⟨A1, c1, rfl, hR1, hb1⟩
  have HR1 : Hid (Rd w1 A1 k (fun i => .int .i64 ((el i).val : Nat))) := hR1.congr fun i hi => by rw [el_val (by omega)]
  have HB1 := Lib.hid hb1
  clear hR1 hb1
  go_wp2
  go_loopg [5, 7, 8, 9, 10] n (fun gk vo v _ _ _ wr => ∃ (i : Nat) (S : Nat → Option Addr) (C : Nat → Nat), i ≤ n ∧ gk = n - i ∧ v = .int .i64 i ∧ OwnM wr w1.heap.size 24 5 vo i S C (fun _ => k) (fun i j => .int .u8 ((gE.cM el k i j).val : Nat)) ∧ Below w1.heap.size w1 wr)
  case atStart => exact ⟨0, fun _ => none, fun _ => 0, Nat.zero_le _, rfl, rfl, OwnM.nil _ _ _ _ _ _ _ _, Below.refl _ _⟩
  case round =>
    obtain ⟨i, S, C, hi, rfl, rfl, hO, hb⟩ := hrel
    have HO := Lib.hid hO; have HB := Lib.hid hb
    clear hO hb
    by_cases hlt : i < n
    · have CS := Lib.hid (shares_any A1 k c1 el (el i) wr (by omega) (HR1.out.below HB.out))
      rw [el_val (show i < 256 by omega)] at CS
      go_wp2_with fail
      refine CS.out.mono ?_
      rintro e w2 ⟨bs, o, rfl, hbs, hrow, hS, hb2⟩
      have ho := ShP_first (k := k) (n := n) (by omega) (by omega) hlt hS
      have HRow : Hid (w2.rowIs bs 3 k (fun j => .int .i64 ((gE.cM el k i j).val : Nat))) := hrow.congr fun j hj => by rw [ho j hj]
      have hsz := HB.out.size
      have hsz2 := hb2.size
      have HB2 := Lib.hid (HB.out.trans (hb2.mono hsz))
      have HO2 := Lib.hid (HO.out.kept hb2)
      have hbl := HRow.out.lt
      clear hrow hS hb2 ho CS HB HO
      go_wp2
      go_loopg [9, 10] k (fun gk vo2 v wr => ∃ j : Nat, j ≤ k ∧ gk = k - j ∧ v = .int .i64 j ∧ Own wr w2.heap.size 5 1 vo2 j (fun j => [.int .u8 ((gE.cM el k i j).val : Nat)]) ∧ Below w2.heap.size w2 wr)
      case atStart => exact ⟨0, Nat.zero_le _, rfl, rfl, Own.nil _ _ _ _ _, Below.refl _ _⟩
      case round =>
        obtain ⟨j, hj, rfl, rfl, hO3, hb3⟩ := hrel
        have hsz3 := hb3.size
        by_cases hlj : j < k
        · have hcl : wr.cell? ⟨bs, j, none⟩ = some (.int .i64 ((gE.cM el k i j).val : Nat)) := (hb3.cell (p := ⟨bs, j, none⟩) hbl).trans (HRow.out.cell hlj)
          have hU := u8_el (gE.cM el k i j)
          have HO3 := Lib.hid hO3; have HB3 := Lib.hid hb3
          clear hO3 hb3
          go_wp2_with (at_builtin; refine wpList_push _ rfl (.tmp 29) (.tmp 35) 24 rfl w2.heap.size 5 1 1 (.int .u8 0) #[.int .u8 ((gE.cM el k i j).val : Nat)] Try.underlying24 byteInfo rfl (by decide) _ j _ rfl HO3.out hsz3 _ rfl rfl rfl rfl rfl (by omega) (by omega) ?_)
          intro v' w3 hO4 hb4 _ _
          have HB4 := Lib.hid (HB3.out.trans hb4)
          have HO4 := Lib.hid hO4
          clear hO4 hb4 HO3 HB3 hU hcl
          go_wp2
          go_roundg (k - (j + 1))
          case measure => omega
          case rel => exact ⟨j + 1, by omega, rfl, by go_num, HO4.out, HB4.out⟩
        · have hjk : j = k := by omega
          subst j
          obtain ⟨A5, c5, hv, _, _, _, _⟩ := hO3.rd
          subst hv
          have hO5 := (HO2.out.kept hb3).next A5 c5
          have hr5 : Own wr w1.heap.size 5 1 (.slice (upd S i A5 i) k (upd C i c5 i)) k (fun j => [.int .u8 ((gE.cM el k i j).val : Nat)]) := by
            rw [upd_at, upd_at]; exact hO3.mono (by omega)
          have hbb := HB2.out.trans (hb3.mono (by omega))
          have hsz5 := hbb.size
          have hu : Hid ((#[Value.slice A5 k c5] : Array Value).toList = [.slice (upd S i A5 i) k (upd C i c5 i)]) := by rw [upd_at, upd_at]; rfl
          have HR5 := Lib.hid hr5; have HO5 := Lib.hid hO5; have HBB := Lib.hid hbb
          clear hO3 hb3 hr5 hO5 hbb HO2 HB2
          go_wp2_with (at_builtin; refine wpList_push _ rfl (.tmp 37) (.tmp 39) 23 rfl w1.heap.size 24 1 24 (.slice none 0 0) #[.slice A5 k c5] Try.underlying23 bytesInfo rfl (by decide) _ i _ rfl HO5.out.1 hsz5 _ rfl rfl hu.out rfl rfl (by omega) (by omega) ?_)
          intro v' w6 hown6 hbel6 hg6 _
          have HO6 := Lib.hid (HO5.out.push (by decide) HR5.out hown6 hg6)
          have HB6 := Lib.hid (HBB.out.trans hbel6)
          clear hown6 hbel6 hg6 HR5 HO5 HBB hu
          go_wp2
          go_roundg (n - (i + 1))
          case measure => omega
          case rel => exact ⟨i + 1, _, _, by omega, rfl, by go_num, HO6.out, HB6.out⟩
    · have hin : i = n := by omega
      subst i
      obtain ⟨A5, c5, hv, _, hR⟩ := HO.out.rdm
      subst hv
      have HR := Lib.hid hR
      have HBF := Lib.hid (HB1.out.trans (HB.out.mono HB1.out.size))
      clear HO HB hR
      go_wp2
      go_ret
      exact ⟨A5, c5, rfl, HR.out, HBF.out⟩

/-- No code: nothing, or a Code's zero value. -/
def NilC (w : World) (v : Value) : Prop := v = .pointer none ∨ ∃ p, v = .pointer (some ⟨p, 0, none⟩) ∧ p < w.heap.size ∧ w.cell? ⟨p, 0, none⟩ = some (.int .i64 0)
theorem nil_none (v : Value) (w : World) (h : NilC w v) : Calls Try.prog 55 #[v] w fun e w' => e = .returned (.bool true) ∧ w = w' := by
  rcases h with rfl | ⟨p, rfl, _, hc⟩
  · go_enter Try.func55, Try.ntmps55
    go_wp2
    go_ret
    exact ⟨rfl, rfl⟩
  · go_enter Try.func55, Try.ntmps55
    go_wp2
    go_ret
    exact ⟨rfl, rfl⟩
theorem NilC.one {w : World} {v : Value} (h : NilC w v) : v.oneCell' = true := by
  rcases h with rfl | ⟨p, rfl, _, _⟩ <;> rfl
theorem nil_enc (v : Value) (w : World) (h : NilC w v) : Calls Try.prog 20 #[v, .slice none 0 0] w fun e w' => e = .returned (.tuple #[.slice none 0 0, .int .i64 1]) ∧ w = w' := by
  have hv := h.one
  have CN := Lib.hid (nil_none v w h)
  clear h
  go_enter Try.func20, Try.ntmps20
  go_wp2_with fail
  refine CN.out.mono ?_
  rintro e w1 ⟨rfl, rfl⟩
  go_wp2
  go_ret2
  exact ⟨rfl, rfl⟩
theorem nil_reb (v : Value) (w : World) (h : NilC w v) : Calls Try.prog 38 #[v, .slice none 0 0] w fun e w' => e = .returned (.tuple #[.slice none 0 0, .int .i64 1]) ∧ w = w' := by
  have hv := h.one
  have CN := Lib.hid (nil_none v w h)
  clear h
  go_enter Try.func38, Try.ntmps38
  go_wp2_with fail
  refine CN.out.mono ?_
  rintro e w1 ⟨rfl, rfl⟩
  go_wp2
  go_ret2
  exact ⟨rfl, rfl⟩
theorem nil_chk (v : Value) (w : World) (h : NilC w v) : Calls Try.prog 33 #[v, .slice none 0 0] w fun e w' => e = .returned (.tuple #[.bool false, .int .i64 1]) ∧ w = w' := by
  have hv := h.one
  have CN := Lib.hid (nil_none v w h)
  clear h
  go_enter Try.func33, Try.ntmps33
  go_wp2_with fail
  refine CN.out.mono ?_
  rintro e w1 ⟨rfl, rfl⟩
  go_wp2
  go_ret2
  exact ⟨rfl, rfl⟩
theorem nil_trn (v : Value) (w : World) (h : NilC w v) : Calls Try.prog 30 #[v, .slice none 0 0, .int .i64 0, .slice none 0 0] w fun e w' => e = .returned (.tuple #[.slice none 0 0, .int .i64 1]) ∧ w = w' := by
  have hv := h.one
  have CN := Lib.hid (nil_none v w h)
  clear h
  go_enter Try.func30, Try.ntmps30
  go_wp2_with fail
  refine CN.out.mono ?_
  rintro e w1 ⟨rfl, rfl⟩
  go_wp2
  go_ret2
  exact ⟨rfl, rfl⟩
theorem nil_mat (v : Value) (w : World) (h : NilC w v) : Calls Try.prog 41 #[v] w fun e w' => e = .returned (.slice none 0 0) ∧ w = w' := by
  have hv := h.one
  have CN := Lib.hid (nil_none v w h)
  clear h
  go_enter Try.func41, Try.ntmps41
  go_wp2_with fail
  refine CN.out.mono ?_
  rintro e w1 ⟨rfl, rfl⟩
  go_wp2
  go_ret
  exact ⟨rfl, rfl⟩
end Go.Proofs.Ythodpgkelmalmaa
