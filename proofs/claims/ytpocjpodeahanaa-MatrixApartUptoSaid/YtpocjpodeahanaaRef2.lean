/- A row more for the document's basis: the walk. Conditions: a basis as the document has it. -/
import Derived.Test.YtpocjpodeahanaaRef1
import Derived.Test.YtpocjpodeahanaaFactG
import Derived.Test.YtpocjpodeahanaaMem2
import Derived.Test.YtpocjpodeahanaaZid
import Derived.Test.YtpocjpodeahanaaInvP
namespace Go.Proofs.Ytpocjpodeahanaa
open Go.RowKit

/-- What the search from behind has found when t places are still to come. -/
def AtOk {s : Nat} (F : Fd (Fin s)) (v : Nat → Fin s) (n t : Nat) (a : Int) : Prop := (a = -1 ∧ ∀ j, t ≤ j → j < n → v j = F.z) ∨ ∃ q : Nat, t ≤ q ∧ q < n ∧ a = (q : Int) ∧ v q ≠ F.z
theorem AtOk.same {s : Nat} {F : Fd (Fin s)} {v : Nat → Fin s} {n t : Nat} {a : Int} (h : AtOk F v n (t + 1) a) (hz : v t = F.z) : AtOk F v n t a := by
  rcases h with ⟨h1, h2⟩ | ⟨q, h1, h2⟩
  · exact .inl ⟨h1, fun j hj hn => by
      by_cases e : j = t
      · rw [e]; exact hz
      · exact h2 j (by omega) hn⟩
  · exact .inr ⟨q, by omega, h2⟩
def lowI (t : Nat) : Int := if t = 0 then -1 else ((t - 1 : Nat) : Int)
theorem lowI_sub (t : Nat) : ((t : Int) - 1) = lowI t := by unfold lowI; split <;> omega
theorem lowI_succ (t : Nat) : lowI (t + 1) = (t : Int) := by unfold lowI; rw [if_neg (by omega)]; simp

/-- A slice that lies in blocks from B on. -/
def Fr (B : Nat) (A : Option Addr) : Prop := ∀ b o, A = some ⟨b, o, none⟩ → B ≤ b
/-- A matrix that is read, its list and its rows in blocks from B on. -/
def RdMF (w : World) (B : Nat) (A : Option Addr) (n W : Nat) (f : Nat → Nat → Value) : Prop :=
  Fr B A ∧ ∃ (S : Nat → Option Addr) (C : Nat → Nat), Rd w A n (fun i => .slice (S i) W (C i)) ∧ ∀ i, i < n → Rd w (S i) W (f i) ∧ Fr B (S i) ∧ W ≤ C i
theorem RdMF.rdm {w : World} {B : Nat} {A : Option Addr} {n W : Nat} {f : Nat → Nat → Value} (h : RdMF w B A n W f) : RdM w A n (fun _ => W) f := by
  obtain ⟨_, S, C, h1, h2⟩ := h
  exact ⟨S, C, h1, fun i hi => (h2 i hi).1⟩
theorem RdMF.below {w w' : World} {B : Nat} {A : Option Addr} {n W : Nat} {f : Nat → Nat → Value} (h : RdMF w B A n W f) (hb : Below w.heap.size w w') : RdMF w' B A n W f := by
  obtain ⟨h0, S, C, h1, h2⟩ := h
  exact ⟨h0, S, C, h1.below hb, fun i hi => ⟨(h2 i hi).1.below hb, (h2 i hi).2⟩⟩
theorem RdMF.mono {w : World} {B B' : Nat} {A : Option Addr} {n W : Nat} {f : Nat → Nat → Value} (h : RdMF w B A n W f) (hB : B' ≤ B) : RdMF w B' A n W f := by
  obtain ⟨h0, S, C, h1, h2⟩ := h
  exact ⟨fun b o e => Nat.le_trans hB (h0 b o e), S, C, h1, fun i hi => ⟨(h2 i hi).1, fun b o e => Nat.le_trans hB ((h2 i hi).2.1 b o e), (h2 i hi).2.2⟩⟩
theorem RdMF.setOther {w : World} {B : Nat} {A : Option Addr} {n W : Nat} {f : Nat → Nat → Value} (h : RdMF w B A n W f) {a : Addr} (ha : a.block < B) (v : Value) : RdMF (w.setCell a v) B A n W f := by
  obtain ⟨h0, S, C, h1, h2⟩ := h
  have key : ∀ {A : Option Addr} {n : Nat} {f : Nat → Value}, Rd w A n f → Fr B A → Rd (w.setCell a v) A n f := fun h hf i hi => by
    obtain ⟨b, o, e, hb, hc⟩ := h i hi
    have h3 := hf b o e
    exact ⟨b, o, e, by simpa using hb, (cell_set_ne v (by show b ≠ a.block; omega)).trans hc⟩
  exact ⟨h0, S, C, key h1 h0, fun i hi => ⟨key (h2 i hi).1 (h2 i hi).2.1, (h2 i hi).2⟩⟩
theorem RdMF.congr {w : World} {B : Nat} {A : Option Addr} {n W : Nat} {f g : Nat → Nat → Value} (h : RdMF w B A n W f) (e : ∀ i j, i < n → j < W → f i j = g i j) : RdMF w B A n W g := by
  obtain ⟨h0, S, C, h1, h2⟩ := h
  exact ⟨h0, S, C, h1, fun i hi => ⟨(h2 i hi).1.congr fun j hj => e i j hi hj, (h2 i hi).2⟩⟩

/-- What 'with' says: the basis as it was, or one with a row more. -/
def WithPost {s : Nat} (F : Fd (Fin s)) (RA PA : Option Addr) (r rc pc n W : Nat) (R : Nat → Nat → Fin s) (p : Nat → Nat) (x : Nat → Fin s) (w : World) (e : Ending) (w' : World) : Prop :=
  Below w.heap.size w w' ∧
  ((e = .returned (.tuple #[.agg #[.slice RA r rc, .slice PA r pc], .bool false]) ∧ ∀ j, j < n → F.lss R p x r j = F.z) ∨
   ∃ q RA' PA' rc' pc', q < n ∧ F.lss R p x r q ≠ F.z ∧ e = .returned (.tuple #[.agg #[.slice RA' (r + 1) rc', .slice PA' (r + 1) pc'], .bool true]) ∧
     RdMF w' w.heap.size RA' (r + 1) W (fun i j => .int .i64 ((F.nbas R p x r q i j).val : Nat)) ∧ Fr w.heap.size PA' ∧ Rd w' PA' (r + 1) (fun i => .int .i64 ((if i < r then p i else q) : Nat)))

theorem intsInfoP : (Try.prog.info? 3).map (fun i => (i.zero, i.size, i.bytes)) = some (some (.int .i64 0), 1, 8) := by kernel_rfl
theorem Own.setBelow {w : World} {B e sz n : Nat} {v : Value} {f : Nat → List Value} (h : Own w B e sz v n f) {a : Addr} (ha : a.block < B) (u : Value) : Own (w.setCell a u) B e sz v n f := ownsRow_setCell_below h ha u
theorem OwnQ.setBelow {w : World} {B tR e sz k : Nat} {v : Value} {S : Nat → Option Addr} {C L : Nat → Nat} {f : Nat → Nat → List Value} (h : OwnQ w B tR e sz v k S C L f) {a : Addr} (ha : a.block < B) (u : Value) : OwnQ (w.setCell a u) B tR e sz v k S C L f := ⟨h.1.setBelow ha u, fun i hi => (h.2 i hi).setBelow ha u⟩

theorem Rd.setOther {w : World} {A : Option Addr} {n : Nat} {f : Nat → Value} (h : Rd w A n f) {a : Addr} (ha : ∀ b o, A = some ⟨b, o, none⟩ → b ≠ a.block) (v : Value) : Rd (w.setCell a v) A n f := fun i hi => by
  obtain ⟨b, o, e, hb, hc⟩ := h i hi
  exact ⟨b, o, e, by simpa using hb, (cell_set_ne v (ha b o e)).trans hc⟩

set_option maxRecDepth 40000 in
set_option maxHeartbeats 4000000 in
theorem with_any {s : Nat} {F : Fd (Fin s)} (ok : FdOk s F) (RA PA A : Option Addr) (r rc pc n W c : Nat) (R : Nat → Nat → Fin s) (p : Nat → Nat) (x : Nat → Fin s) (w : World) (hr : r ≤ 1000) (hW : W ≤ 1000) (hnW : n ≤ W) (hp : ∀ i, i < r → p i < n)
    (hR : RdM w RA r (fun _ => W) (fun i j => .int .i64 ((R i j).val : Nat))) (hP : Rd w PA r (fun i => .int .i64 (p i : Nat))) (hA : Rd w A W (fun j => .int .i64 ((x j).val : Nat))) :
    Calls Try.prog 91 #[.agg #[.slice RA r rc, .slice PA r pc], .int .i64 (s : Nat), .int .i64 (n : Nat), .slice A W c] w (WithPost F RA PA r rc pc n W R p x w) := by
  have hs := ok.le
  have HLESS := Lib.hid (fun (A B : Option Addr) (n m cA cB : Nat) (row oth : Nat → Fin s) (x : Fin s) (w : World) => less_any ok A B n m cA cB row oth x w)
  have HOVER := Lib.hid (fun (x : Fin s) (w : World) (h : x ≠ F.z) => over_any ok x w h)
  have HZ0 := Lib.hid ok.zero
  clear ok
  obtain ⟨SR, CR, hR1, hR2⟩ := hR
  have HP := Lib.hid hp; have HR1 := Lib.hid hR1; have HR2 := Lib.hid hR2; have HPP := Lib.hid hP
  have hA2 : Rd ((w.alloc (.cells #[.slice RA r rc, .slice PA r pc] 126)).alloc (.cells #[.slice none 0 0, .slice none 0 0] 126)) A W (fun j => .int .i64 ((x j).val : Nat)) := (hA.below ((Below.refl _ _).alloc (Nat.le_refl _) _)).below ((Below.refl _ _).alloc (Nat.le_refl _) _)
  have hc0 : ((w.alloc (.cells #[.slice RA r rc, .slice PA r pc] 126)).alloc (.cells #[.slice none 0 0, .slice none 0 0] 126)).cell? ⟨w.heap.size, 0, none⟩ = some (.slice RA r rc) := by go_simp
  have hc1 : ((w.alloc (.cells #[.slice RA r rc, .slice PA r pc] 126)).alloc (.cells #[.slice none 0 0, .slice none 0 0] 126)).cell? ⟨w.heap.size, 1, none⟩ = some (.slice PA r pc) := by go_simp
  have hq2 : ((w.alloc (.cells #[.slice RA r rc, .slice PA r pc] 126)).alloc (.cells #[.slice none 0 0, .slice none 0 0] 126)).rowIs (w.heap.size + 1) 126 2 (fun _ => .slice none 0 0) := by
    have := World.rowIs_alloc (w.alloc (.cells #[.slice RA r rc, .slice PA r pc] 126)) #[.slice none 0 0, .slice none 0 0] 126 (fun _ => .slice none 0 0) (by intro i hi; match i, hi with | 0, _ => rfl | 1, _ => rfl)
    simpa using this
  have hb2 : Below w.heap.size w ((w.alloc (.cells #[.slice RA r rc, .slice PA r pc] 126)).alloc (.cells #[.slice none 0 0, .slice none 0 0] 126)) := ((Below.refl _ _).alloc (Nat.le_refl _) _).alloc (by simp) _
  have hz2 : ((w.alloc (.cells #[.slice RA r rc, .slice PA r pc] 126)).alloc (.cells #[.slice none 0 0, .slice none 0 0] 126)).heap.size = w.heap.size + 2 := by simp
  have HA2 := Lib.hid hA2; have HC0 := Lib.hid hc0; have HC1 := Lib.hid hc1; have HQ2 := Lib.hid hq2; have HB2 := Lib.hid hb2; have HZ2 := Lib.hid hz2
  clear hR1 hR2 hP hA hp hA2 hc0 hc1 hq2 hb2 hz2
  go_enter Try.func91, Try.ntmps91
  go_wp2
  generalize (w.alloc (.cells #[.slice RA r rc, .slice PA r pc] 126)).alloc (.cells #[.slice none 0 0, .slice none 0 0] 126) = w2 at *
  go_loopg [3, 10] r (fun gk rv i wr => ∃ (k : Nat) (A' : Option Addr) (c' : Nat), k ≤ r ∧ gk = r - k ∧ i = .int .i64 k ∧ rv = .slice A' W c' ∧ Rd wr A' W (fun j => .int .i64 ((F.lss R p x k j).val : Nat)) ∧ Below w2.heap.size w2 wr)
  case atStart => exact ⟨0, A, c, Nat.zero_le _, rfl, rfl, rfl, HA2.out, Below.refl _ _⟩
  case round =>
    obtain ⟨k, A', c', hk, rfl, rfl, rfl, hRow, hbel⟩ := hrel
    have hbw : Below w.heap.size w wr := HB2.out.trans (hbel.mono HB2.out.size)
    have hc0 : wr.cell? ⟨w.heap.size, 0, none⟩ = some (.slice RA r rc) := (hbel.cell (by have := HZ2.out; show w.heap.size < _; omega)).trans HC0.out
    have hc1 : wr.cell? ⟨w.heap.size, 1, none⟩ = some (.slice PA r pc) := (hbel.cell (by have := HZ2.out; show w.heap.size < _; omega)).trans HC1.out
    have hsz2 : w.heap.size + 2 ≤ wr.heap.size := by have := hbel.size; have := HZ2.out; omega
    by_cases hlt : k < r
    · obtain ⟨b1, o1, rfl, hb1, hx1⟩ := HR1.out k hlt
      obtain ⟨b2, o2, rfl, hb2, hx2⟩ := HPP.out k hlt
      have hpk : p k < n := HP.out k hlt
      obtain ⟨b3, o3, rfl, hb3, hx3'⟩ := hRow (p k) (by omega)
      have HL := Lib.hid (HLESS.out (some ⟨b3, o3, none⟩) (SR k) W W c' (CR k) (F.lss R p x k) (R k) (F.lss R p x k (p k)) wr.drew (by omega) (Nat.le_refl _) (by omega) hRow ((HR2.out k hlt).below hbw.drew))
      have hy1 : wr.cell? ⟨b1, o1 + k, none⟩ = some (.slice (SR k) W (CR k)) := (hbw.cell hb1).trans hx1
      have hy2 : wr.cell? ⟨b2, o2 + k, none⟩ = some (.int .i64 (p k : Nat)) := (hbw.cell hb2).trans hx2
      have HNX : Hid (∀ j, F.a (F.lss R p x k j) (F.m (F.lss R p x k (p k)) (R k j)) = F.lss R p x (k + 1) j) := fun j => rfl
      have HBL := Lib.hid hbel
      have hx3 : wr.cell? ⟨b3, o3 + p k, none⟩ = some (.int .i64 ((F.lss R p x k (p k)).val : Nat)) := hx3'
      clear hx3' hx1 hx2 hRow hbel hbw
      have hpW : p k < W := by omega
      generalize F.lss R p x k (p k) = xv at *
      generalize p k = pk at *
      have KS : Hid (∀ w4, Below wr.heap.size wr w4 → w4.cell? ⟨w.heap.size, 0, none⟩ = some (.slice (some ⟨b1, o1, none⟩) r rc) ∧ w4.cell? ⟨w.heap.size, 1, none⟩ = some (.slice (some ⟨b2, o2, none⟩) r pc) ∧ w4.cell? ⟨b1, o1 + k, none⟩ = some (.slice (SR k) W (CR k)) ∧ w4.cell? ⟨b2, o2 + k, none⟩ = some (.int .i64 (pk : Nat)) ∧ w4.cell? ⟨b3, o3 + pk, none⟩ = some (.int .i64 (xv.val : Nat))) := fun w4 hb4 => ⟨(hb4.cell (by show w.heap.size < _; omega)).trans hc0, (hb4.cell (by show w.heap.size < _; omega)).trans hc1, (hb4.cell (by show b1 < _; omega)).trans hy1, (hb4.cell (by show b2 < _; omega)).trans hy2, (hb4.cell hb3).trans hx3⟩
      go_wp2_with fail
      clear hc0 hc1 hy1 hy2 hx3
      as_aux_lemma =>
        refine wp_region_mix [(true, true, false), (true, true, false), (true, true, false), (true, true, true), (true, true, false), (true, true, false), (true, true, true), (true, true, false), (true, true, false), (true, true, true), (true, true, false), (true, true, false), (true, true, true), (true, true, false), (true, true, true), (false, false, false), (false, false, false)] mixedR (by kernel_rfl) (fun w4 => w4.cell? ⟨w.heap.size, 0, none⟩ = some (.slice (some ⟨b1, o1, none⟩) r rc) ∧ w4.cell? ⟨w.heap.size, 1, none⟩ = some (.slice (some ⟨b2, o2, none⟩) r pc) ∧ w4.cell? ⟨b1, o1 + k, none⟩ = some (.slice (SR k) W (CR k)) ∧ w4.cell? ⟨b2, o2 + k, none⟩ = some (.int .i64 (pk : Nat)) ∧ w4.cell? ⟨b3, o3 + pk, none⟩ = some (.int .i64 (xv.val : Nat))) (KS.out _ (Below.refl _ _).drew) ?_
        intro hSw0
        simp only [hdM, tlM, List.cons_append, List.nil_append]
        repeat (first
          | (refine mix_look hSw0.out ?_ (by rfl) (fun w4 hSw => ?_) ?_; rotate_left; (focus (obtain ⟨s1, s2, s3, s4, s5⟩ := hSw; go_simp; try with_reducible rfl)); simp only [Act.put, List.setIfInBounds_toArray, List.set_cons_zero, List.set_cons_succ])
          | (refine mix_pure ?_ (by rfl) (fun w4 => ?_) ?_; rotate_left; (focus (go_simp; try with_reducible rfl)); simp only [Act.put, List.setIfInBounds_toArray, List.set_cons_zero, List.set_cons_succ]))
        refine mix_step (fun K hK => ?_)
        go_simp
        refine (HL.out).mono ?_
        rintro e w5 ⟨v5, rfl, hO5, hb5⟩
        obtain ⟨A5, c5, rfl, _, _, hR5, _⟩ := hO5.rd
        have hbl5 : Below w2.heap.size w2 w5 := HBL.out.drew.trans (hb5.mono HBL.out.size)
        dsimp only
        refine hK.out _ _ (fun _ _ => KS.out _ ((Below.refl _ _).drew.trans hb5)) ?_
        clear hK K
        try simp only [Act.put, List.setIfInBounds_toArray, List.set_cons_zero, List.set_cons_succ]
        refine mix_step (fun K hK => ?_)
        go_simp
        refine hK.out _ _ (fun _ h => h) ?_
        clear hK K
        try simp only [Act.put, List.setIfInBounds_toArray, List.set_cons_zero, List.set_cons_succ]
        refine mix_nil ?_
        clear HL KS hb5 hO5 HBL
        go_wp2
        go_roundg (r - (k + 1))
        case measure => omega
        case rel => exact ⟨k + 1, A5, c5, by omega, rfl, by go_num, rfl, hR5.congr fun j _ => by rw [HNX.out], hbl5⟩
    · have : k = r := by omega
      subst this
      have HRow := Lib.hid hRow; have HBL := Lib.hid hbel
      clear hRow hbel
      obtain ⟨wo, rfl⟩ : ∃ wo : World, wo = wr := ⟨_, rfl⟩
      generalize hvl : F.lss R p x k = vl at *
      have HVL := Lib.hid hvl; clear hvl hlt
      go_wp2
      go_loopg [11, 12] n (fun g av i w3 => w3 = wo ∧ ∃ (t : Nat) (a : Int), t ≤ n ∧ g = t ∧ i = .int .i64 (lowI t) ∧ av = .int .i64 a ∧ AtOk F vl n t a)
      case atStart => exact ⟨rfl, n, -1, Nat.le_refl _, rfl, by rw [lowI_sub], rfl, .inl ⟨rfl, fun j h1 h2 => absurd h2 (by omega)⟩⟩
      case round =>
        obtain ⟨rfl, t, a, ht, hg, rfl, rfl, hat⟩ := hrel
        have hg := hg.symm
        subst hg
        have HAT := Lib.hid hat; clear hat
        by_cases ht0 : t = 0
        · subst ht0
          have e0 : lowI 0 = -1 := rfl
          rw [e0]
          clear e0
          rcases HAT.out with ⟨rfl, hz⟩ | ⟨q, _, hq, rfl, hne⟩
          · have HZZ := Lib.hid hz; clear hz
            have hq2 := below_row HQ2.out HBL.out HQ2.out.lt
            have hqc0 := hq2.cell (show 0 < 2 by omega)
            have hqc1 := hq2.cell (show 1 < 2 by omega)
            have hqf0 := hq2.frozen 0
            have hqf1 := hq2.frozen 1
            go_wp2
            refine bodyPost_ret (v := .tuple #[.agg #[.slice RA k rc, .slice PA k pc], .bool false]) (by simp [results, Try.results91, go_sem, hqc0, hqc1]) rfl ⟨?_, .inl ⟨rfl, by rw [HVL.out]; exact fun j hj => HZZ.out j (Nat.zero_le _) hj⟩⟩
            exact ((HB2.out.trans (HBL.out.mono HB2.out.size)).setCell (by show w.heap.size ≤ w.heap.size + 1; omega) _).setCell (by show w.heap.size ≤ w.heap.size + 1; omega) _
          · obtain ⟨b3, o3, rfl, hb3, hx3'⟩ := HRow.out q (by omega)
            have hx3 : wr.cell? ⟨b3, o3 + q, none⟩ = some (.int .i64 ((vl q).val : Nat)) := hx3'
            clear hx3'
            have hqW : q < W := by omega
            have HNE := Lib.hid hne; clear hne
            have KS : Hid (∀ w4, Below wr.heap.size wr w4 → w4.cell? ⟨b3, o3 + q, none⟩ = some (.int .i64 ((vl q).val : Nat))) := fun w4 hb4 => (hb4.cell hb3).trans hx3
            go_wp2_with fail
            clear hx3 hc0 hc1
            as_aux_lemma =>
              refine wp_region_mix [(true, true, false), (true, true, false), (true, true, false), (false, false, false), (true, true, false), (true, true, false), (true, true, false), (true, true, false), (true, true, false), (true, true, true), (false, false, false), (false, false, false), (false, false, false)] mixedR (by kernel_rfl) (fun w4 => w4.cell? ⟨b3, o3 + q, none⟩ = some (.int .i64 ((vl q).val : Nat))) (KS.out _ (Below.refl _ _).drew) ?_
              intro hSw0
              simp only [hdM, tlM, List.cons_append, List.nil_append]
              repeat (first
                | (refine mix_look hSw0.out ?_ (by rfl) (fun w4 hSw => ?_) ?_; rotate_left; (focus (have s1 := hSw; go_simp; try with_reducible rfl)); simp only [Act.put, List.setIfInBounds_toArray, List.set_cons_zero, List.set_cons_succ])
                | (refine mix_pure ?_ (by rfl) (fun w4 => ?_) ?_; rotate_left; (focus (go_simp; try with_reducible rfl)); simp only [Act.put, List.setIfInBounds_toArray, List.set_cons_zero, List.set_cons_succ]))
              refine mix_step (fun K hK => ?_)
              go_simp
              refine (rzeros W _ (by omega)).mono ?_
              rintro e w5 ⟨v5, rfl, hO5, hb5⟩
              obtain ⟨A5, c5, rfl, _, _, hR5, _⟩ := hO5.rd
              have hB5 : Below wr.heap.size wr w5 := (Below.refl _ _).drew.trans hb5
              dsimp only
              refine hK.out _ _ (fun _ _ => KS.out _ hB5) ?_
              clear hK K
              try simp only [Act.put, List.setIfInBounds_toArray, List.set_cons_zero, List.set_cons_succ]
              refine mix_step (fun K hK => ?_)
              go_simp
              refine (HOVER.out (vl q) _ HNE.out).mono ?_
              rintro e w6 ⟨rfl, rfl⟩
              dsimp only
              refine hK.out _ _ (fun _ h => h) ?_
              clear hK K
              try simp only [Act.put, List.setIfInBounds_toArray, List.set_cons_zero, List.set_cons_succ]
              refine mix_step (fun K hK => ?_)
              go_simp
              refine (HLESS.out A5 (some ⟨b3, o3, none⟩) W W c5 c' (fun _ => F.z) vl (F.v (vl q)) w5 (by omega) (Nat.le_refl _) (by omega) (hR5.congr fun _ _ => by rw [HZ0.out]; rfl) (HRow.out.below hB5)).mono ?_
              rintro e w7 ⟨v7, rfl, hO7, hb7⟩
              obtain ⟨A7, c7, rfl, hc7, _, hR7, hA7⟩ := hO7.rd
              have hB7 : Below wr.heap.size wr w7 := hB5.trans (hb7.mono hB5.size)
              dsimp only
              refine hK.out _ _ (fun _ _ => KS.out _ hB7) ?_
              clear hK K
              try simp only [Act.put, List.setIfInBounds_toArray, List.set_cons_zero, List.set_cons_succ]
              refine mix_step (fun K hK => ?_)
              go_simp
              refine hK.out _ _ (fun _ h => h) ?_
              clear hK K
              try simp only [Act.put, List.setIfInBounds_toArray, List.set_cons_zero, List.set_cons_succ]
              refine mix_nil ?_
              have HB7 : Hid (Below w2.heap.size w2 w7) := HBL.out.trans (hB7.mono HBL.out.size)
              have HR7 : Hid (Rd w7 A7 W (fun j => .int .i64 ((F.nrow R p x k q j).val : Nat))) := hR7.congr fun j _ => by rw [← HVL.out]; rfl
              have HZ7 : w2.heap.size ≤ w7.heap.size := HB7.out.size
              have HA7 : Hid (∀ b o, A7 = some ⟨b, o, none⟩ → w2.heap.size ≤ b) := fun b o e => by have h1 := hA7 b o e; have h2 := hB5.size; have h3 := HBL.out.size; omega
              clear KS hO5 hb5 hR5 hB5 hO7 hb7 hR7 hA7 hB7 HRow HBL HAT HOVER
              have HQC : Hid ((w7.alloc (.cells #[.slice none 0 0, .slice none 0 0] 126)).rowIs w7.heap.size 126 2 (fun t => if t = 0 then Value.slice none 0 0 else Value.slice none 0 0)) :=
                World.rowIs_alloc w7 #[.slice none 0 0, .slice none 0 0] 126 _ (by intro i hi; match i, hi with | 0, _ => rfl | 1, _ => rfl)
              have HBC := Lib.hid ((Below.refl w7.heap.size w7).alloc (Nat.le_refl _) (.cells #[.slice none 0 0, .slice none 0 0] 126))
              go_wp2
              generalize w7.alloc (.cells #[.slice none 0 0, .slice none 0 0] 126) = wc at *
              go_loopg [14] k (fun g i w3 => ∃ (m : Nat) (SS : Nat → Option Addr) (CC : Nat → Nat) (vR vP : Value), m ≤ k ∧ g = k - m ∧ i = .int .i64 m ∧ OwnQ w3 (w7.heap.size + 1) 23 3 1 vR m SS CC (fun _ => W) (fun i j => [.int .i64 ((F.nbas R p x k q i j).val : Nat)]) ∧
                Own w3 (w7.heap.size + 1) 3 1 vP m (fun i => [.int .i64 (p i : Nat)]) ∧ (∀ i, i < m → ∀ b o, SS i = some ⟨b, o, none⟩ → vP.ownBlock ≠ some b) ∧ w3.rowIs w7.heap.size 126 2 (fun t => if t = 0 then vR else vP) ∧ Below w7.heap.size w7 w3)
              case atStart => exact ⟨0, fun _ => none, fun _ => 0, .slice none 0 0, .slice none 0 0, Nat.zero_le _, rfl, rfl, OwnQ.nil _ _ _ _ _ _ _ _ _, Own.nil _ _ _ _ _, fun i hi => absurd hi (by omega), HQC.out, HBC.out⟩
              case round =>
                clear HQC HBC
                obtain ⟨m, SS, CC, vR, vP, hm, rfl, rfl, hQ, hO, hD, hC, hbel⟩ := hrel
                have hb27 : Below w2.heap.size w2 wr := HB7.out.trans (hbel.mono HZ7)
                have hbw : Below w.heap.size w wr := HB2.out.trans (hb27.mono HB2.out.size)
                have hz2 : w.heap.size + 2 ≤ w2.heap.size := by have := HZ2.out; omega
                have hc0 : wr.cell? ⟨w.heap.size, 0, none⟩ = some (.slice RA k rc) := (hb27.cell (by show w.heap.size < _; omega)).trans HC0.out
                have hC0 : wr.cell? ⟨w7.heap.size, 0, none⟩ = some vR := hC.cell (show 0 < 2 by omega)
                have hC1 : wr.cell? ⟨w7.heap.size, 1, none⟩ = some vP := hC.cell (show 1 < 2 by omega)
                have hCl : w7.heap.size < wr.heap.size := hC.lt
                by_cases hmk : m < k
                · obtain ⟨b1, o1, rfl, hb1, hx1⟩ := HR1.out m hmk
                  obtain ⟨b2, o2, rfl, hb2, hx2⟩ := HPP.out m hmk
                  obtain ⟨b5, o5, hSR, hb5, hx5⟩ := HR2.out m hmk q hqW
                  have hRm : Rd wr (some ⟨b5, o5, none⟩) W (fun j => .int .i64 ((R m j).val : Nat)) := by rw [← hSR]; exact (HR2.out m hmk).below hbw
                  have hy1 : wr.cell? ⟨b1, o1 + m, none⟩ = some (.slice (some ⟨b5, o5, none⟩) W (CR m)) := by rw [← hSR]; exact (hbw.cell hb1).trans hx1
                  have hy5 : wr.cell? ⟨b5, o5 + q, none⟩ = some (.int .i64 ((R m q).val : Nat)) := (hbw.cell hb5).trans hx5
                  have hy2 : w.cell? ⟨b2, o2 + m, none⟩ = some (.int .i64 (p m : Nat)) := hx2
                  clear hx1 hx2 hx5 hSR
                  have hR7 : Rd wr A7 W (fun j => .int .i64 ((F.nrow R p x k q j).val : Nat)) := HR7.out.below hbel
                  have HL := Lib.hid (HLESS.out (some ⟨b5, o5, none⟩) A7 W W (CR m) c7 (R m) (F.nrow R p x k q) (R m q) wr.drew (by omega) (Nat.le_refl _) (by omega) hRm hR7)
                  have HNB : Hid (∀ j, F.a (R m j) (F.m (R m q) (F.nrow R p x k q j)) = F.nbas R p x k q m j) := fun j => by unfold Fd.nbas; rw [if_pos hmk]
                  have KS : Hid (∀ w4, Below (w7.heap.size + 1) wr w4 → w4.cell? ⟨w7.heap.size, 0, none⟩ = some vR ∧ w4.cell? ⟨w.heap.size, 0, none⟩ = some (.slice (some ⟨b1, o1, none⟩) k rc) ∧ w4.cell? ⟨b1, o1 + m, none⟩ = some (.slice (some ⟨b5, o5, none⟩) W (CR m)) ∧ w4.cell? ⟨b5, o5 + q, none⟩ = some (.int .i64 ((R m q).val : Nat))) := fun w4 hb4 => ⟨(hb4.cell (by show w7.heap.size < _; omega)).trans hC0, (hb4.cell (by show w.heap.size < _; omega)).trans hc0, (hb4.cell (by show b1 < _; omega)).trans hy1, (hb4.cell (by show b5 < _; omega)).trans hy5⟩
                  have HQ := Lib.hid hQ; have HO := Lib.hid hO; have HD := Lib.hid hD; have HC := Lib.hid hC; have HBE := Lib.hid hbel; have HY2 := Lib.hid hy2
                  have HC1 := Lib.hid HC1.out
                  clear hRm hR7 hQ hO hD hC hbel hb27 hbw hy2
                  go_wp2_with fail
                  clear hc0 hC0 hC1 hy1 hy5
                  as_aux_lemma =>
                    refine wp_region_mix [(true, true, false), (true, true, true), (true, true, false), (true, true, false), (true, true, true), (true, true, false), (true, true, false), (true, true, true), (true, true, false), (true, true, false), (true, true, true), (true, true, false), (true, true, false), (true, true, true), (true, true, false), (true, true, false), (true, true, true), (false, false, false), (false, false, false), (false, false, false), (false, false, false), (false, false, true)] mixedR (by kernel_rfl) (fun w4 => w4.cell? ⟨w7.heap.size, 0, none⟩ = some vR ∧ w4.cell? ⟨w.heap.size, 0, none⟩ = some (.slice (some ⟨b1, o1, none⟩) k rc) ∧ w4.cell? ⟨b1, o1 + m, none⟩ = some (.slice (some ⟨b5, o5, none⟩) W (CR m)) ∧ w4.cell? ⟨b5, o5 + q, none⟩ = some (.int .i64 ((R m q).val : Nat))) (KS.out _ (Below.refl _ _).drew) ?_
                    intro hSw0
                    simp only [hdM, tlM, List.cons_append, List.nil_append]
                    repeat (first
                      | (refine mix_look hSw0.out ?_ (by rfl) (fun w4 hSw => ?_) ?_; rotate_left; (focus (obtain ⟨s1, s2, s3, s4⟩ := hSw; go_simp; try with_reducible rfl)); simp only [Act.put, List.setIfInBounds_toArray, List.set_cons_zero, List.set_cons_succ])
                      | (refine mix_pure ?_ (by rfl) (fun w4 => ?_) ?_; rotate_left; (focus (go_simp; try with_reducible rfl)); simp only [Act.put, List.setIfInBounds_toArray, List.set_cons_zero, List.set_cons_succ]))
                    refine mix_step (fun K hK => ?_)
                    go_simp
                    refine (HL.out).mono ?_
                    rintro e w5 ⟨v5, rfl, hO5, hb5⟩
                    obtain ⟨A5, c5, rfl, _, _, _, _⟩ := hO5.rd
                    have hB5 : Below (w7.heap.size + 1) wr w5 := (Below.refl _ _).drew.trans (hb5.mono (by show w7.heap.size + 1 ≤ wr.heap.size; omega))
                    dsimp only
                    refine hK.out _ _ (fun _ _ => KS.out _ hB5) ?_
                    clear hK K
                    try simp only [Act.put, List.setIfInBounds_toArray, List.set_cons_zero, List.set_cons_succ]
                    have hz5 : wr.heap.size ≤ w5.heap.size := hb5.size
                    have hownB := (HQ.out.kept ((Below.refl _ _).drew.trans hb5)).next A5 c5
                    have hrow5 : Own w5 (w7.heap.size + 1) 3 1 (.slice (upd SS m A5 m) W (upd CC m c5 m)) W ((fun i j => [.int .i64 ((F.nbas R p x k q i j).val : Nat)]) m) := by
                      rw [upd_at, upd_at]; exact (hO5.mono (show w7.heap.size + 1 ≤ wr.heap.size by omega)).congr fun j _ => by rw [HNB.out]
                    have hu : Hid ((#[Value.slice A5 W c5] : Array Value).toList = [.slice (upd SS m A5 m) W (upd CC m c5 m)]) := by rw [upd_at, upd_at]; rfl
                    have hA5 : ∀ b o, A5 = some ⟨b, o, none⟩ → wr.heap.size ≤ b := fun b o e => (hO5.lt b (by rw [e]; rfl)).1
                    have HA5 := Lib.hid hA5; clear hA5 hO5
                    refine mix_step (fun K hK => ?_)
                    go_simp
                    refine hK.out _ _ (fun _ _ => KS.out _ (hB5.alloc (by omega) _)) ?_
                    clear hK K
                    try simp only [Act.put, List.setIfInBounds_toArray, List.set_cons_zero, List.set_cons_succ]
                    refine mix_list (fun K hK => ?_)
                    change wpList _ _ _ _ _ (World.alloc w5 _)
                    refine wpList_push w5 rfl (.tmp 73) (.tmp 90) 22 rfl (w7.heap.size + 1) 23 1 24 (.slice none 0 0) #[.slice A5 W c5] Try.underlying22 intsInfo rfl (by decide) vR m _ rfl hownB.1 (by omega) _ rfl rfl hu.out rfl rfl (by omega) (by omega) ?_
                    intro v6 w6 hown6 hb6 hg6 _
                    obtain ⟨A6, c6, hv6, _, _, _, _⟩ := hown6.rd
                    subst hv6
                    have hB6 : Below (w7.heap.size + 1) wr w6 := hB5.trans hb6
                    refine hK.out _ _ (fun _ _ => KS.out _ hB6) ?_
                    clear hK K
                    try simp only [Act.put, List.setIfInBounds_toArray, List.set_cons_zero, List.set_cons_succ]
                    refine mix_step (fun K hK => ?_)
                    go_simp
                    refine hK.out _ _ (fun _ h => h) ?_
                    clear hK K
                    try simp only [Act.put, List.setIfInBounds_toArray, List.set_cons_zero, List.set_cons_succ]
                    have hC6 := below_row HC.out hB6 (Nat.lt_succ_self _)
                    have hf6 := hC6.frozen 0
                    have hc6 : w6.cell? ⟨w7.heap.size, 0, none⟩ = some vR := hC6.cell (show 0 < 2 by omega)
                    refine mix_step (fun K hK => ?_)
                    go_simp
                    refine hK.out _ _ (fun h => absurd h (by decide)) ?_
                    clear hK K
                    try simp only [Act.put, List.setIfInBounds_toArray, List.set_cons_zero, List.set_cons_succ]
                    clear hf6 hc6
                    refine mix_nil ?_
                    have HQ6 := Lib.hid ((hownB.push (by decide) hrow5 hown6 hg6).setBelow (a := ⟨w7.heap.size, 0, none⟩) (Nat.lt_succ_self _) (Value.slice A6 (m + 1) c6))
                    have HO6 := Lib.hid ((((HO.out.kept ((Below.refl _ _).drew.trans hb5)).keptRow hg6 (own_ne (HO.out.kept ((Below.refl _ _).drew.trans hb5)) hownB.1 (by decide)))).setBelow (a := ⟨w7.heap.size, 0, none⟩) (Nat.lt_succ_self _) (Value.slice A6 (m + 1) c6))
                    have HC6 : Hid ((w6.setCell ⟨w7.heap.size, 0, none⟩ (Value.slice A6 (m + 1) c6)).rowIs w7.heap.size 126 2 (fun t => if t = 0 then (Value.slice A6 (m + 1) c6) else vP)) := (hC6.set 0 (Value.slice A6 (m + 1) c6)).congr fun t _ => by by_cases e : t = 0 <;> simp [e]
                    have HB6 : Hid (Below w7.heap.size w7 (w6.setCell ⟨w7.heap.size, 0, none⟩ (Value.slice A6 (m + 1) c6))) := (HBE.out.trans (hB6.mono (by omega))).setCell (Nat.le_refl _) (Value.slice A6 (m + 1) c6)
                    have HD6 : Hid (∀ i, i < m + 1 → ∀ b o, upd SS m A5 i = some ⟨b, o, none⟩ → vP.ownBlock ≠ some b) := fun i hi b o e e2 => by
                      by_cases em : i = m
                      · subst em
                        rw [upd_at] at e
                        have h1 := HA5.out b o e
                        have h2 := (HO.out.lt b e2).2
                        omega
                      · rw [upd_ne _ _ _ em] at e
                        exact HD.out i (by omega) b o e e2
                    have hy2 : (w6.setCell ⟨w7.heap.size, 0, none⟩ (Value.slice A6 (m + 1) c6)).cell? ⟨b2, o2 + m, none⟩ = some (.int .i64 (p m : Nat)) := by
                      have hb27 : Below w2.heap.size w2 _ := HB7.out.trans (HB6.out.mono HZ7)
                      exact ((HB2.out.trans (hb27.mono HB2.out.size)).cell hb2).trans HY2.out
                    have hc1 : (w6.setCell ⟨w7.heap.size, 0, none⟩ (Value.slice A6 (m + 1) c6)).cell? ⟨w.heap.size, 1, none⟩ = some (.slice (some ⟨b2, o2, none⟩) k pc) := by
                      have hb27 : Below w2.heap.size w2 _ := HB7.out.trans (HB6.out.mono HZ7)
                      exact (hb27.cell (by show w.heap.size < _; omega)).trans HC1.out
                    have hC1 : (w6.setCell ⟨w7.heap.size, 0, none⟩ (Value.slice A6 (m + 1) c6)).cell? ⟨w7.heap.size, 1, none⟩ = some vP := HC6.out.cell (show 1 < 2 by omega)
                    clear KS hownB hrow5 hu HA5 hown6 hb6 hg6 hB6 hC6 hb5 hB5 HL HNB HQ HO HD HC HBE
                    generalize hW8 : w6.setCell ⟨w7.heap.size, 0, none⟩ (Value.slice A6 (m + 1) c6) = W8 at *
                    clear hW8
                    generalize upd SS m A5 = S6 at *
                    generalize upd CC m c5 = C6 at *
                    have hz8 : w7.heap.size < W8.heap.size := HC6.out.lt
                    have KT : Hid (∀ w4, Below (w7.heap.size + 1) W8 w4 → w4.cell? ⟨w7.heap.size, 1, none⟩ = some vP ∧ w4.cell? ⟨w.heap.size, 1, none⟩ = some (.slice (some ⟨b2, o2, none⟩) k pc) ∧ w4.cell? ⟨b2, o2 + m, none⟩ = some (.int .i64 (p m : Nat))) := fun w4 hb4 => ⟨(hb4.cell (by show w7.heap.size < _; omega)).trans hC1, (hb4.cell (by show w.heap.size < _; omega)).trans hc1, (hb4.cell (by show b2 < _; omega)).trans hy2⟩
                    go_wp2_with fail
                    clear hC1 hc1 hy2
                    as_aux_lemma =>
                      refine wp_region_mix [(true, true, false), (true, true, true), (true, true, false), (true, true, true), (true, true, false), (true, true, false), (true, true, true), (false, false, false), (false, false, false), (false, false, false), (false, false, true)] mixedR (by kernel_rfl) (fun w4 => w4.cell? ⟨w7.heap.size, 1, none⟩ = some vP ∧ w4.cell? ⟨w.heap.size, 1, none⟩ = some (.slice (some ⟨b2, o2, none⟩) k pc) ∧ w4.cell? ⟨b2, o2 + m, none⟩ = some (.int .i64 (p m : Nat))) (KT.out _ (Below.refl _ _).drew) ?_
                      intro hSw0
                      simp only [hdM, tlM, List.cons_append, List.nil_append]
                      repeat (first
                        | (refine mix_look hSw0.out ?_ (by rfl) (fun w4 hSw => ?_) ?_; rotate_left; (focus (obtain ⟨s1, s2, s3⟩ := hSw; go_simp; try with_reducible rfl)); simp only [Act.put, List.setIfInBounds_toArray, List.set_cons_zero, List.set_cons_succ])
                        | (refine mix_pure ?_ (by rfl) (fun w4 => ?_) ?_; rotate_left; (focus (go_simp; try with_reducible rfl)); simp only [Act.put, List.setIfInBounds_toArray, List.set_cons_zero, List.set_cons_succ]))
                      refine mix_step (fun K hK => ?_)
                      go_simp
                      refine hK.out _ _ (fun _ _ => KT.out _ ((Below.refl _ _).alloc (by omega) _).drew) ?_
                      clear hK K
                      try simp only [Act.put, List.setIfInBounds_toArray, List.set_cons_zero, List.set_cons_succ]
                      refine mix_list (fun K hK => ?_)
                      change wpList _ _ _ _ _ (World.alloc W8.drew _)
                      refine wpList_push _ rfl (.tmp 94) (.tmp 100) 23 rfl (w7.heap.size + 1) 3 1 8 (.int .i64 0) #[.int .i64 (p m : Nat)] Try.underlying23 intsInfoP rfl (by decide) vP m _ rfl HO6.out (by show w7.heap.size + 1 ≤ W8.heap.size; omega) _ rfl rfl rfl rfl rfl (by omega) (by omega) ?_
                      intro v9 w9 hown9 hb9 hg9 hat9
                      obtain ⟨A9, c9, hv9, _, _, _, _⟩ := hown9.rd
                      subst hv9
                      have hB9 : Below (w7.heap.size + 1) W8 w9 := (Below.refl _ _).drew.trans hb9
                      refine hK.out _ _ (fun _ _ => KT.out _ hB9) ?_
                      clear hK K
                      try simp only [Act.put, List.setIfInBounds_toArray, List.set_cons_zero, List.set_cons_succ]
                      refine mix_step (fun K hK => ?_)
                      go_simp
                      refine hK.out _ _ (fun _ h => h) ?_
                      clear hK K
                      try simp only [Act.put, List.setIfInBounds_toArray, List.set_cons_zero, List.set_cons_succ]
                      have hC9 := below_row HC6.out hB9 (Nat.lt_succ_self _)
                      have hf9 := hC9.frozen 1
                      have hc9 : w9.cell? ⟨w7.heap.size, 1, none⟩ = some vP := hC9.cell (show 1 < 2 by omega)
                      refine mix_step (fun K hK => ?_)
                      go_simp
                      refine hK.out _ _ (fun h => absurd h (by decide)) ?_
                      clear hK K
                      try simp only [Act.put, List.setIfInBounds_toArray, List.set_cons_zero, List.set_cons_succ]
                      clear hf9 hc9
                      refine mix_nil ?_
                      have hQ9 : OwnQ (w9.setCell ⟨w7.heap.size, 1, none⟩ (Value.slice A9 (m + 1) c9)) (w7.heap.size + 1) 23 3 1 (Value.slice A6 (m + 1) c6) (m + 1) S6 C6 (fun _ => W) (fun i j => [.int .i64 ((F.nbas R p x k q i j).val : Nat)]) := by
                        have h1 : OwnQ W8.drew (w7.heap.size + 1) 23 3 1 (Value.slice A6 (m + 1) c6) (m + 1) S6 C6 (fun _ => W) (fun i j => [.int .i64 ((F.nbas R p x k q i j).val : Nat)]) := HQ6.out.kept (Below.refl _ _).drew
                        refine OwnQ.setBelow (a := ⟨w7.heap.size, 1, none⟩) ⟨h1.1.keptRow hg9 (own_ne h1.1 HO6.out (by decide)), fun i hi => (h1.2 i hi).keptRow hg9 ?_⟩ (Nat.lt_succ_self _) (Value.slice A9 (m + 1) c9)
                        cases hS : S6 i with
                        | none => exact .inl rfl
                        | some a =>
                          rcases (h1.2 i hi).2 with ⟨e, _⟩ | ⟨g, _, _, e, _⟩
                          · rw [hS] at e; cases e
                          · rw [hS] at e
                            injection e with e _ _
                            injection e with e
                            subst e
                            exact .inr fun e2 => HD6.out i hi g 0 hS e2.symm
                      have hO9 := hown9.setBelow (a := ⟨w7.heap.size, 1, none⟩) (Nat.lt_succ_self _) (Value.slice A9 (m + 1) c9)
                      have hC9' : (w9.setCell ⟨w7.heap.size, 1, none⟩ (Value.slice A9 (m + 1) c9)).rowIs w7.heap.size 126 2 (fun t => if t = 0 then (Value.slice A6 (m + 1) c6) else (Value.slice A9 (m + 1) c9)) := (hC9.set 1 (Value.slice A9 (m + 1) c9)).congr fun t ht => by
                        by_cases e : t = 0
                        · subst e; simp
                        · have : t = 1 := by omega
                          subst this; simp
                      have hD9 : ∀ i, i < m + 1 → ∀ b o, S6 i = some ⟨b, o, none⟩ → (Value.slice A9 (m + 1) c9).ownBlock ≠ some b := fun i hi b o e e2 => by
                        rcases hat9 with h | h
                        · rw [h] at e2; exact HD6.out i hi b o e e2
                        · rw [h] at e2
                          injection e2 with e2
                          have h3 := ((HQ6.out.2 i hi).lt b (by rw [e]; rfl)).2
                          have h4 : W8.drew.heap.size = W8.heap.size := rfl
                          omega
                      have hb9' : Below w7.heap.size w7 (w9.setCell ⟨w7.heap.size, 1, none⟩ (Value.slice A9 (m + 1) c9)) := (HB6.out.trans (hB9.mono (by omega))).setCell (Nat.le_refl _) (Value.slice A9 (m + 1) c9)
                      clear KT hown9 hb9 hg9 hat9 hB9 hC9 HQ6 HO6 HC6 HB6 HD6
                      go_wp2
                      go_roundg (k - (m + 1))
                      case measure => omega
                      case rel => exact ⟨m + 1, S6, C6, (Value.slice A6 (m + 1) c6), (Value.slice A9 (m + 1) c9), by omega, rfl, by go_num, hQ9, hO9, hD9, hC9', hb9'⟩
                · have e : k = m := by omega
                  subst e
                  have hP1 := below_row HQ2.out hb27 HQ2.out.lt
                  have HP1 := Lib.hid hP1
                  have hownB := hQ.next A7 c7
                  have hu : Hid ((#[Value.slice A7 W c7] : Array Value).toList = [.slice (upd SS k A7 k) W (upd CC k c7 k)]) := by rw [upd_at, upd_at]; rfl
                  have HQ := Lib.hid hQ; have HO := Lib.hid hO; have HD := Lib.hid hD; have HC := Lib.hid hC; have HBE := Lib.hid hbel; have HB27 := Lib.hid hb27
                  have hown1 := hownB.1
                  clear hP1 hQ hO hD hC hbel hb27 hbw hmk hownB
                  go_wp2_with (at_builtin; refine wpList_push _ rfl (.tmp 104) (.tmp 106) 22 rfl (w7.heap.size + 1) 23 1 24 (.slice none 0 0) #[.slice A7 W c7] Try.underlying22 intsInfo rfl (by decide) vR k _ rfl hown1 (by omega) _ rfl rfl hu.out rfl rfl (by omega) (by omega) ?_)
                  intro v6 w6 hown6 hb6 hg6 _
                  obtain ⟨A6, c6, hv6, _, _, _, _⟩ := hown6.rd
                  subst hv6
                  have hC6 := below_row HC.out hb6 (Nat.lt_succ_self _)
                  have hf6 := hC6.frozen 0
                  have hc60 : w6.cell? ⟨w7.heap.size, 0, none⟩ = some vR := hC6.cell (show 0 < 2 by omega)
                  have hc61 : w6.cell? ⟨w7.heap.size, 1, none⟩ = some vP := hC6.cell (show 1 < 2 by omega)
                  have HO6 : Hid (Own (w6.setCell ⟨w7.heap.size, 0, none⟩ (.slice A6 (k + 1) c6)) (w7.heap.size + 1) 3 1 vP k (fun i => [.int .i64 ((if i < k then p i else q) : Nat)])) :=
                    (((HO.out.keptRow hg6 (own_ne HO.out hown1 (by decide))).setBelow (a := ⟨w7.heap.size, 0, none⟩) (Nat.lt_succ_self _) _)).congr fun i hi => by simp [hi]
                  have HL6 := Lib.hid (hown6.setBelow (a := ⟨w7.heap.size, 0, none⟩) (Nat.lt_succ_self _) (.slice A6 (k + 1) c6))
                  have HR6 : Hid (∀ i, i < k → Own (w6.setCell ⟨w7.heap.size, 0, none⟩ (.slice A6 (k + 1) c6)) (w7.heap.size + 1) 3 1 (.slice (SS i) W (CC i)) W ((fun i j => [.int .i64 ((F.nbas R p x k q i j).val : Nat)]) i)) := fun i hi => ((HQ.out.2 i hi).keptRow hg6 (own_ne (HQ.out.2 i hi) hown1 (by decide))).setBelow (a := ⟨w7.heap.size, 0, none⟩) (Nat.lt_succ_self _) _
                  have HB6 : Hid (Below w7.heap.size w7 (w6.setCell ⟨w7.heap.size, 0, none⟩ (.slice A6 (k + 1) c6))) := (HBE.out.trans (hb6.mono (by omega))).setCell (Nat.le_refl _) _
                  have HC6 : Hid ((w6.setCell ⟨w7.heap.size, 0, none⟩ (.slice A6 (k + 1) c6)).rowIs w7.heap.size 126 2 (fun t => if t = 0 then .slice A6 (k + 1) c6 else vP)) := (hC6.set 0 _).congr fun t _ => by by_cases e : t = 0 <;> simp [e]
                  have hz6 : w7.heap.size + 1 ≤ (w6.setCell ⟨w7.heap.size, 0, none⟩ (.slice A6 (k + 1) c6)).heap.size := HC6.out.lt
                  have hu2 : Hid ((#[Value.int .i64 (q : Nat)] : Array Value).toList = [.int .i64 ((if k < k then p k else q) : Nat)]) := by simp [Hid]
                  clear hC6 hown6 hb6 hg6 hown1 hu
                  go_wp2_with (at_builtin; refine wpList_push _ rfl (.tmp 110) (.tmp 112) 23 rfl (w7.heap.size + 1) 3 1 8 (.int .i64 0) #[.int .i64 (q : Nat)] Try.underlying23 intsInfoP rfl (by decide) vP k _ rfl HO6.out hz6 _ (by simp) rfl hu2.out rfl rfl (by omega) (by omega) ?_)
                  intro v9 w9 hown9 hb9 hg9 hat9
                  obtain ⟨A9, c9, hv9, _, _, _, _⟩ := hown9.rd
                  subst hv9
                  have hC9 := below_row HC6.out hb9 (Nat.lt_succ_self _)
                  have hf90 := hC9.frozen 0
                  have hf91 := hC9.frozen 1
                  have hc90 : w9.cell? ⟨w7.heap.size, 0, none⟩ = some (.slice A6 (k + 1) c6) := hC9.cell (show 0 < 2 by omega)
                  have hc91 : w9.cell? ⟨w7.heap.size, 1, none⟩ = some vP := hC9.cell (show 1 < 2 by omega)
                  have hB9 : Below w7.heap.size w7 w9 := HB6.out.trans (hb9.mono (by omega))
                  have hP9 := below_row HQ2.out (HB7.out.trans (hB9.mono HZ7)) HQ2.out.lt
                  have hp90 := hP9.cell (show 0 < 2 by omega)
                  have hp91 := hP9.cell (show 1 < 2 by omega)
                  have hpf0 := hP9.frozen 0
                  have hpf1 := hP9.frozen 1
                  have hne1 : ¬ w.heap.size + 1 = w7.heap.size := by have := HZ2.out; omega
                  have hne2 : ¬ w7.heap.size = w.heap.size + 1 := by have := HZ2.out; omega
                  clear hf6 hc60 hc61 hc0 hC0 hC1
                  go_wp2
                  refine bodyPost_ret (v := .tuple #[.agg #[.slice A6 (k + 1) c6, .slice A9 (k + 1) c9], .bool true]) (by simp [results, Try.results91, go_sem, hp90, hp91]) rfl ⟨?_, .inr ⟨q, A6, A9, c6, c9, hq, by rw [HVL.out]; exact HNE.out, rfl, ?_, ?_⟩⟩
                  · exact ((((HB2.out.trans (HB7.out.mono HB2.out.size)).trans (hB9.mono (by have := HZ2.out; omega))).setCell (by show w.heap.size ≤ w7.heap.size; omega) _).setCell (by show w.heap.size ≤ w.heap.size + 1; omega) _).setCell (by show w.heap.size ≤ w.heap.size + 1; omega) _
                  · refine ⟨fun b o e => ?_, upd SS k A7, upd CC k c7, ?_, fun i hi => ?_⟩
                    · obtain ⟨_, _, e2, _, _, _, hf⟩ := HL6.out.rd
                      injection e2 with e2 _ _
                      have := hf b o (by rw [← e2]; exact e)
                      have := HZ2.out
                      omega
                    · have h1 := ((((HL6.out.keptRow hg9 (own_ne HL6.out HO6.out (by decide))).setBelow (a := ⟨w7.heap.size, 1, none⟩) (Nat.lt_succ_self _) (.slice A9 (k + 1) c9)).setBelow (a := ⟨w.heap.size + 1, 0, none⟩) (by show w.heap.size + 1 < w7.heap.size + 1; omega) (.slice A6 (k + 1) c6)).setBelow (a := ⟨w.heap.size + 1, 1, none⟩) (by show w.heap.size + 1 < w7.heap.size + 1; omega) (.slice A9 (k + 1) c9))
                      obtain ⟨_, _, e, _, _, hR, _⟩ := h1.rd
                      injection e with e _ _
                      subst e; exact hR
                    · by_cases e : i = k
                      · subst e
                        rw [upd_at]
                        have h1 := HR7.out.below hB9
                        have h2 : Rd w9 A7 W (fun j => .int .i64 ((F.nbas R p x i q i j).val : Nat)) := h1.congr fun j _ => by unfold Fd.nbas; rw [if_neg (by omega)]
                        refine ⟨?_, (fun b o e2 => by have := HA7.out b o e2; have := HZ2.out; omega), by rw [upd_at]; exact hc7⟩
                        exact ((h2.setOther (a := ⟨w7.heap.size, 1, none⟩) (fun b o e2 => by have h5 := (h1 0 (by omega)); obtain ⟨b', o', e3, hb', _⟩ := HR7.out 0 (by omega); rw [e2] at e3; injection e3 with e3; injection e3 with e3 _ _; show b ≠ w7.heap.size; omega) _).setOther (a := ⟨w.heap.size + 1, 0, none⟩) (fun b o e2 => by have := HA7.out b o e2; show b ≠ w.heap.size + 1; have := HZ2.out; omega) _).setOther (a := ⟨w.heap.size + 1, 1, none⟩) (fun b o e2 => by have := HA7.out b o e2; show b ≠ w.heap.size + 1; have := HZ2.out; omega) _
                      · rw [upd_ne _ _ _ e, upd_ne _ _ _ e]
                        have hik : i < k := by omega
                        have h0 := HR6.out i hik
                        have h1 := (((h0.keptRow hg9 (by
                          cases hS : SS i with
                          | none => exact .inl rfl
                          | some a =>
                            rcases h0.2 with ⟨e, _⟩ | ⟨g, _, _, e, _⟩
                            · rw [hS] at e; cases e
                            · rw [hS] at e
                              injection e with e _ _
                              injection e with e
                              subst e
                              exact .inr fun e2 => HD.out i hik g 0 hS e2.symm)).setBelow (a := ⟨w7.heap.size, 1, none⟩) (Nat.lt_succ_self _) (.slice A9 (k + 1) c9)).setBelow (a := ⟨w.heap.size + 1, 0, none⟩) (by show w.heap.size + 1 < w7.heap.size + 1; omega) (.slice A6 (k + 1) c6)).setBelow (a := ⟨w.heap.size + 1, 1, none⟩) (by show w.heap.size + 1 < w7.heap.size + 1; omega) (.slice A9 (k + 1) c9)
                        obtain ⟨_, _, e, hcc, _, hR, hf⟩ := h1.rd
                        injection e with e _ ec
                        rw [e, ec]
                        exact ⟨hR, (fun b o e2 => by have := hf b o e2; have := HZ2.out; omega), hcc⟩
                  · have h1 := (((hown9.setBelow (a := ⟨w7.heap.size, 1, none⟩) (Nat.lt_succ_self _) (.slice A9 (k + 1) c9)).setBelow (a := ⟨w.heap.size + 1, 0, none⟩) (by show w.heap.size + 1 < w7.heap.size + 1; omega) (.slice A6 (k + 1) c6)).setBelow (a := ⟨w.heap.size + 1, 1, none⟩) (by show w.heap.size + 1 < w7.heap.size + 1; omega) (.slice A9 (k + 1) c9))
                    obtain ⟨_, _, e, _, _, hR, hf⟩ := h1.rd
                    injection e with e _ _
                    subst e
                    exact ⟨fun b o e2 => by have := hf b o e2; have := HZ2.out; omega, hR⟩
        · obtain ⟨u, rfl⟩ : ∃ u, t = u + 1 := ⟨t - 1, by omega⟩
          rw [lowI_succ]
          obtain ⟨b3, o3, rfl, hb3, hx3'⟩ := HRow.out u (by omega)
          have huW : u < W := by omega
          clear ht0
          have hx3 : wr.cell? ⟨b3, o3 + u, none⟩ = some (.int .i64 ((vl u).val : Nat)) := hx3'
          clear hx3'
          by_cases hv0 : vl u = F.z
          · have t1 : (((vl u).val : Int) != 0) = false := by rw [hv0, HZ0.out]; rfl
            have HV := Lib.hid hv0; clear hv0
            go_wp2
            go_roundg u
            case measure => omega
            case rel => exact ⟨rfl, u, a, by omega, rfl, by rw [lowI_sub], rfl, HAT.out.same HV.out⟩
          · have t1 : (((vl u).val : Int) != 0) = true := by
              rw [bne_iff_ne]
              intro e
              exact hv0 (Fin.ext (by rw [HZ0.out]; omega))
            have HV := Lib.hid hv0; clear hv0
            go_wp2
            go_roundg u
            case measure => omega
            case rel => exact ⟨rfl, u, (u : Int), by omega, rfl, by rw [lowI_sub], rfl, .inr ⟨u, Nat.le_refl _, by omega, rfl, HV.out⟩⟩
end Go.Proofs.Ytpocjpodeahanaa
