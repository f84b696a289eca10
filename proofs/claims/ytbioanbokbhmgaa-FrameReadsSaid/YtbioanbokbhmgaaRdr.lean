/- The reader of bytes: must, take: the walks. Conditions: that there are so many bytes. -/
import Derived.Test.YtbioanbokbhmgaaPrgA
import Derived.Test.YtbioanbokbhmgaaFrmQ
import Derived.Recover
namespace Go.Proofs.Ytbioanbokbhmgaa
open Go.RowKit

theorem G.trans {a b c : World} {r : Option Nat} (h : a.grownBy b r) (k : b.grownBy c r) : a.grownBy c r :=
  ⟨k.os.trans h.os, k.tape.trans h.tape, k.output.trans h.output, Nat.le_trans h.size k.size, fun i hi hne => (k.block i (Nat.lt_of_lt_of_le hi h.size) hne).trans (h.block i hi hne)⟩
theorem G.below {a b : World} {r : Option Nat} (h : Below a.heap.size a b) : a.grownBy b r := ⟨h.os, h.tape, h.output, h.size, fun k hk _ => h.block k hk⟩
/-- A reader stands in block r, over bytes, at a place; it has no fault. -/
structure RdAt (w : World) (r : Nat) (A : Option Addr) (b : List Nat) (c p : Nat) : Prop where
  heap : w.heap[r]? = some (.cells #[.slice A b.length c, .int .i64 (p : Int), .int .i64 0] 127 (0, 0))
  rl : RL w A b
  cap : b.length ≤ c
theorem RdAt.lt {w : World} {r : Nat} {A : Option Addr} {b : List Nat} {c p : Nat} (h : RdAt w r A b c p) : r < w.heap.size := (Array.getElem?_eq_some_iff.1 h.heap).1
theorem RdAt.below {w w' : World} {r : Nat} {A : Option Addr} {b : List Nat} {c p : Nat} (h : RdAt w r A b c p) (hb : Below w.heap.size w w') : RdAt w' r A b c p :=
  ⟨by rw [hb.block r h.lt]; exact h.heap, h.rl.below hb, h.cap⟩
theorem RdAt.cells {w : World} {r : Nat} {A : Option Addr} {b : List Nat} {c p : Nat} (h : RdAt w r A b c p) : w.cell? ⟨r, 0, none⟩ = some (.slice A b.length c) ∧ w.cell? ⟨r, 1, none⟩ = some (.int .i64 (p : Int)) ∧ w.cell? ⟨r, 2, none⟩ = some (.int .i64 0) := by
  have := h.heap
  exact ⟨by simp [World.cell?, this], by simp [World.cell?, this], by simp [World.cell?, this]⟩
theorem RdAt.free {w : World} {r : Nat} {A : Option Addr} {b : List Nat} {c p : Nat} (h : RdAt w r A b c p) (i : Nat) : w.frozen? ⟨r, i, none⟩ = false := by
  have := h.heap
  simp [World.frozen?, this]
/-- Bytes that are read lie in no reader's block. -/
theorem rl_apart {w : World} {r T : Nat} {x : Value} {y z : Int} {A : Option Addr} {l : List Nat} (hh : w.heap[r]? = some (.cells #[x, .int .i64 y, .int .i64 z] T (0, 0))) (hx : ∀ n, x ≠ .int .u8 n) (h : RL w A l) {i : Nat} (hi : i < l.length) {bk o : Nat} (e : A = some ⟨bk, o, none⟩) : bk ≠ r := by
  rintro rfl
  obtain ⟨b', o', e', _, hc⟩ := h i hi
  rw [e] at e'
  injection e' with e'
  injection e' with e1 e2
  subst e1 e2
  unfold World.cell? at hc
  rw [hh] at hc
  simp only at hc
  match hj : o + i, hc with
  | 0, hc => simp at hc; exact hx _ hc
  | 1, hc => simp at hc
  | 2, hc => simp at hc
  | n + 3, hc => simp at hc
theorem RL.other {w : World} {r j : Nat} {v : Value} {A : Option Addr} {l : List Nat} (h : RL w A l) (hne : ∀ i, i < l.length → ∀ bk o, A = some ⟨bk, o, none⟩ → bk ≠ r) : RL (w.setCell ⟨r, j, none⟩ v) A l := fun i hi => by
  obtain ⟨bk, o, e, hb, hc⟩ := h i hi
  refine ⟨bk, o, e, by simpa using hb, ?_⟩
  rw [← hc]
  exact World.cell?_of_block (a := ⟨bk, o + i, none⟩) (Below.heap_setCell _ _ _ _ (hne i hi bk o e))
theorem sl_rl {w : World} {bk bo p n : Nat} {b : List Nat} (h : RL w (some ⟨bk, bo, none⟩) b) (hn : p + n ≤ b.length) : RL w (some ⟨bk, bo + p, none⟩) (sl b p n) := fun i hi => by
  rw [sl_length hn] at hi
  obtain ⟨b', o', e, hb, hc⟩ := h (p + i) (by omega)
  injection e with e
  injection e with e1 e2
  subst e1 e2
  refine ⟨bk, bo + p, rfl, hb, ?_⟩
  rw [show bo + p + i = bo + (p + i) by omega, hc]
  show some (Value.int .u8 _) = some (Value.int .u8 _)
  rw [sl_get hi]
theorem RdAt.set {w : World} {r : Nat} {A : Option Addr} {b : List Nat} {c p : Nat} (h : RdAt w r A b c p) (p' : Nat) : RdAt (w.setCell ⟨r, 1, none⟩ (.int .i64 (p' : Int))) r A b c p' := by
  exact ⟨by simp [World.setCell, h.heap, Array.getElem?_modify], h.rl.other fun i hi bk o e => rl_apart h.heap (fun n h => by cases h) h.rl hi e, h.cap⟩
theorem must_any (n : Int) (w : World) : Calls Try.prog 81 #[.bool true, .int .i64 n] w fun e w' => e = .returned (.tuple #[]) ∧ w = w' := by
  have hnot : ∀ (x : Bool) (w : World), (Op.unary .not (.bool x)).run Try.prog w = .ok (.bool (!x)) w := fun _ _ => rfl
  go_enter Try.func81, Try.ntmps81
  go_wp2
  go_end0
  exact ⟨rfl, rfl⟩
set_option maxRecDepth 100000 in
set_option maxHeartbeats 4000000 in
theorem take_any (r : Nat) (A : Option Addr) (b : List Nat) (c p n : Nat) (w : World) (hR : RdAt w r A b c p) (h0 : 0 < n) (hn : p + n ≤ b.length) (hbl : b.length ≤ 140737488355328) (hc : c ≤ maxLen) :
    Calls Try.prog 82 #[.pointer (some ⟨r, 0, none⟩), .int .u64 (n : Int)] w fun e w' => ∃ A' c', e = .returned (.slice A' (sl b p n).length c') ∧ RL w' A' (sl b p n) ∧ RdAt w' r A b c (p + n) ∧ w.grownBy w' (some r) := by
  have hRB : ∀ w', Below w.heap.size w w' → RdAt w' r A b c p := fun w' hb => hR.below hb
  obtain ⟨bk, bo, rfl, hbk, _⟩ := hR.rl 0 (by omega)
  have hcap := hR.cap
  unfold maxLen at hc
  obtain ⟨m, hm⟩ : ∃ m, m = b.length - p := ⟨_, rfl⟩
  have hsub : IntKind.i64.wrap ((b.length : Int) - (p : Int)) = (m : Int) := by rw [IntKind.wrap_i64]; omega
  have hsub2 : (b.length : Int) - (p : Int) = (m : Int) := by omega
  have hu : IntKind.u64.wrap (m : Int) = (m : Int) := by rw [IntKind.wrap_u64]; omega
  have hwm : IntKind.i64.wrap (m : Int) = (m : Int) := by rw [IntKind.wrap_i64]; omega
  have hle : (n : Int) ≤ (m : Int) := by omega
  have hml : m ≤ 140737488355328 := by omega
  have HM := Lib.hid hm
  clear hm
  go_enter Try.func82, Try.ntmps82
  go_wp2_with fail
  refine wp_region_facts [.is (.int .u64 (n : Int)), .is (.pointer (some ⟨r, 0, none⟩)), .is (.pointer (some ⟨r, 0, none⟩)), .is (.pointer (some ⟨r, 0, none⟩)), .is (.slice (some ⟨bk, bo, none⟩) b.length c), .is (.int .i64 (b.length : Int)), .is (.pointer (some ⟨r, 0, none⟩)), .is (.pointer (some ⟨r, 0, none⟩)), .is (.pointer (some ⟨r, 1, none⟩)), .is (.int .i64 (p : Int)), .is (.int .i64 (m : Int)), .is (.int .u64 (m : Int)), .is (.bool true), .any] mixed (by kernel_rfl) (fun hdr => ⟨?_, ?_, ?_, ?_, ?_, ?_, ?_, ?_, ?_, ?_, ?_, ?_, ?_, ?_, trivial⟩) (fun wE hbE => ?_)
  · intro a w2 hb hs K hK
    repeat (intro _)
    refine ⟨?_⟩
    have h1 : a.tmps[1]?.getD undef = .int .u64 (n : Int) := hs 1 (by kernel_rfl)
    go_simp
    exact hK.out _ _ (Below.refl _ _) rfl
  · intro a w2 hb hs K hK
    repeat (intro _)
    refine ⟨?_⟩
    have h0 : a.tmps[0]?.getD undef = .pointer (some ⟨r, 0, none⟩) := hs 0 (by kernel_rfl)
    go_simp
    exact hK.out _ _ (Below.refl _ _) rfl
  · intro a w2 hb hs K hK
    repeat (intro _)
    refine ⟨?_⟩
    have h7 : a.tmps[7]?.getD undef = .pointer (some ⟨r, 0, none⟩) := by assumption
    go_simp
    exact hK.out _ _ (Below.refl _ _) rfl
  · intro a w2 hb hs K hK
    repeat (intro _)
    refine ⟨?_⟩
    have h8 : a.tmps[8]?.getD undef = .pointer (some ⟨r, 0, none⟩) := by assumption
    go_simp
    exact hK.out _ _ (Below.refl _ _) rfl
  · intro a w2 hb hs K hK
    repeat (intro _)
    refine ⟨?_⟩
    have h9 : a.tmps[9]?.getD undef = .pointer (some ⟨r, 0, none⟩) := by assumption
    obtain ⟨rc0, rc1, rc2⟩ := (hRB w2 (hdr.out.trans (hb.mono hdr.out.size))).cells
    go_simp
    exact hK.out _ _ (Below.refl _ _) rfl
  · intro a w2 hb hs K hK
    repeat (intro _)
    refine ⟨?_⟩
    have h10 : a.tmps[10]?.getD undef = .slice (some ⟨bk, bo, none⟩) b.length c := by assumption
    go_simp
    exact hK.out _ _ (Below.refl _ _) rfl
  · intro a w2 hb hs K hK
    repeat (intro _)
    refine ⟨?_⟩
    have h0 : a.tmps[0]?.getD undef = .pointer (some ⟨r, 0, none⟩) := hs 0 (by kernel_rfl)
    go_simp
    exact hK.out _ _ (Below.refl _ _) rfl
  · intro a w2 hb hs K hK
    repeat (intro _)
    refine ⟨?_⟩
    have h12 : a.tmps[12]?.getD undef = .pointer (some ⟨r, 0, none⟩) := by assumption
    go_simp
    exact hK.out _ _ (Below.refl _ _) rfl
  · intro a w2 hb hs K hK
    repeat (intro _)
    refine ⟨?_⟩
    have h13 : a.tmps[13]?.getD undef = .pointer (some ⟨r, 0, none⟩) := by assumption
    go_simp
    exact hK.out _ _ (Below.refl _ _) rfl
  · intro a w2 hb hs K hK
    repeat (intro _)
    refine ⟨?_⟩
    have h14 : a.tmps[14]?.getD undef = .pointer (some ⟨r, 1, none⟩) := by assumption
    obtain ⟨rc0, rc1, rc2⟩ := (hRB w2 (hdr.out.trans (hb.mono hdr.out.size))).cells
    go_simp
    exact hK.out _ _ (Below.refl _ _) rfl
  · intro a w2 hb hs K hK
    repeat (intro _)
    refine ⟨?_⟩
    have h11 : a.tmps[11]?.getD undef = .int .i64 (b.length : Int) := by assumption
    have h15 : a.tmps[15]?.getD undef = .int .i64 (p : Int) := by assumption
    go_simp
    exact hK.out _ _ (Below.refl _ _) rfl
  · intro a w2 hb hs K hK
    repeat (intro _)
    refine ⟨?_⟩
    have h16 : a.tmps[16]?.getD undef = .int .i64 (m : Int) := by assumption
    go_simp
    exact hK.out _ _ (Below.refl _ _) rfl
  · intro a w2 hb hs K hK
    repeat (intro _)
    refine ⟨?_⟩
    have h6 : a.tmps[6]?.getD undef = .int .u64 (n : Int) := by assumption
    have h17 : a.tmps[17]?.getD undef = .int .u64 (m : Int) := by assumption
    go_simp
    exact hK.out _ _ (Below.refl _ _) rfl
  · intro a w2 hb hs K hK
    repeat (intro _)
    refine ⟨?_⟩
    have h18 : a.tmps[18]?.getD undef = .bool true := by assumption
    go_simp
    refine (must_any 70 w2).mono ?_
    rintro e w3 ⟨rfl, rfl⟩
    exact hK.out _ _ (Below.refl _ _) trivial
  intro v0 f0 v1 f1 v2 f2 v3 f3 v4 f4 v5 f5 v6 f6 v7 f7 v8 f8 v9 f9 v10 f10 v11 f11 v12 f12 v13 f13
  refine NoPanic.normal ?_
  simp only [Act.put, List.setIfInBounds_toArray, List.set_cons_zero, List.set_cons_succ]
  clear f0 f1 f2 f3 f4 f5 f6 f7 f8 f9 f10 f11 f12 f13 hsub hsub2 hu hle hml hwm
  have HB1 := Lib.hid hbE
  obtain ⟨q, hq⟩ : ∃ q, q = p + n := ⟨_, rfl⟩
  have hwq : IntKind.i64.wrap (q : Int) = (q : Int) := by rw [IntKind.wrap_i64]; omega
  have hadd : IntKind.i64.wrap ((p : Int) + (n : Int)) = (q : Int) := by rw [IntKind.wrap_i64]; omega
  have hadd2 : (p : Int) + (n : Int) = (q : Int) := by omega
  have hi : IntKind.i64.wrap (n : Int) = (n : Int) := by rw [IntKind.wrap_i64]; omega
  have hRB : ∀ w', Below wE.heap.size wE w' → RdAt w' r (some ⟨bk, bo, none⟩) b c p := fun w' hb => hRB w' (HB1.out.trans (hb.mono HB1.out.size))
  have q1 : (0 : Int) ≤ (p : Int) := by omega
  have q2 : (p : Int) ≤ (q : Int) := by omega
  have q3 : (q : Int) ≤ (c : Int) := by omega
  have q4 : p < c := by omega
  have q5 : ¬ c = p := by omega
  have HQ := Lib.hid hq
  clear hq
  clear hbE
  go_wp2_with fail
  obtain ⟨w1, hw1⟩ : ∃ w1, w1 = wE := ⟨_, rfl⟩
  rw [← hw1] at HB1 hRB ⊢
  clear hw1
  refine wp_region_facts [.is (.pointer (some ⟨r, 0, none⟩)), .is (.pointer (some ⟨r, 0, none⟩)), .is (.pointer (some ⟨r, 0, none⟩)), .is (.slice (some ⟨bk, bo, none⟩) b.length c), .is (.pointer (some ⟨r, 0, none⟩)), .is (.pointer (some ⟨r, 0, none⟩)), .is (.pointer (some ⟨r, 1, none⟩)), .is (.int .i64 (p : Int)), .is (.pointer (some ⟨r, 0, none⟩)), .is (.pointer (some ⟨r, 0, none⟩)), .is (.pointer (some ⟨r, 1, none⟩)), .is (.int .i64 (p : Int)), .is (.int .u64 (n : Int)), .is (.int .i64 (n : Int)), .is (.int .i64 (q : Int)), .rl (sl b p n), .rl (sl b p n)] mixed (by kernel_rfl) (fun hdr => ⟨?_, ?_, ?_, ?_, ?_, ?_, ?_, ?_, ?_, ?_, ?_, ?_, ?_, ?_, ?_, ?_, ?_, trivial⟩) (fun wE hbE => ?_)
  · intro a w2 hb hs K hK
    repeat (intro _)
    refine ⟨?_⟩
    have h0 : a.tmps[0]?.getD undef = .pointer (some ⟨r, 0, none⟩) := hs 0 (by kernel_rfl)
    go_simp
    exact hK.out _ _ (Below.refl _ _) rfl
  · intro a w2 hb hs K hK
    repeat (intro _)
    refine ⟨?_⟩
    have h20 : a.tmps[20]?.getD undef = .pointer (some ⟨r, 0, none⟩) := by assumption
    go_simp
    exact hK.out _ _ (Below.refl _ _) rfl
  · intro a w2 hb hs K hK
    repeat (intro _)
    refine ⟨?_⟩
    have h21 : a.tmps[21]?.getD undef = .pointer (some ⟨r, 0, none⟩) := by assumption
    go_simp
    exact hK.out _ _ (Below.refl _ _) rfl
  · intro a w2 hb hs K hK
    repeat (intro _)
    refine ⟨?_⟩
    have h22 : a.tmps[22]?.getD undef = .pointer (some ⟨r, 0, none⟩) := by assumption
    obtain ⟨rc0, rc1, rc2⟩ := (hRB w2 (hdr.out.trans (hb.mono hdr.out.size))).cells
    go_simp
    exact hK.out _ _ (Below.refl _ _) rfl
  · intro a w2 hb hs K hK
    repeat (intro _)
    refine ⟨?_⟩
    have h0 : a.tmps[0]?.getD undef = .pointer (some ⟨r, 0, none⟩) := hs 0 (by kernel_rfl)
    go_simp
    exact hK.out _ _ (Below.refl _ _) rfl
  · intro a w2 hb hs K hK
    repeat (intro _)
    refine ⟨?_⟩
    have h24 : a.tmps[24]?.getD undef = .pointer (some ⟨r, 0, none⟩) := by assumption
    go_simp
    exact hK.out _ _ (Below.refl _ _) rfl
  · intro a w2 hb hs K hK
    repeat (intro _)
    refine ⟨?_⟩
    have h25 : a.tmps[25]?.getD undef = .pointer (some ⟨r, 0, none⟩) := by assumption
    go_simp
    exact hK.out _ _ (Below.refl _ _) rfl
  · intro a w2 hb hs K hK
    repeat (intro _)
    refine ⟨?_⟩
    have h26 : a.tmps[26]?.getD undef = .pointer (some ⟨r, 1, none⟩) := by assumption
    obtain ⟨rc0, rc1, rc2⟩ := (hRB w2 (hdr.out.trans (hb.mono hdr.out.size))).cells
    go_simp
    exact hK.out _ _ (Below.refl _ _) rfl
  · intro a w2 hb hs K hK
    repeat (intro _)
    refine ⟨?_⟩
    have h0 : a.tmps[0]?.getD undef = .pointer (some ⟨r, 0, none⟩) := hs 0 (by kernel_rfl)
    go_simp
    exact hK.out _ _ (Below.refl _ _) rfl
  · intro a w2 hb hs K hK
    repeat (intro _)
    refine ⟨?_⟩
    have h28 : a.tmps[28]?.getD undef = .pointer (some ⟨r, 0, none⟩) := by assumption
    go_simp
    exact hK.out _ _ (Below.refl _ _) rfl
  · intro a w2 hb hs K hK
    repeat (intro _)
    refine ⟨?_⟩
    have h29 : a.tmps[29]?.getD undef = .pointer (some ⟨r, 0, none⟩) := by assumption
    go_simp
    exact hK.out _ _ (Below.refl _ _) rfl
  · intro a w2 hb hs K hK
    repeat (intro _)
    refine ⟨?_⟩
    have h30 : a.tmps[30]?.getD undef = .pointer (some ⟨r, 1, none⟩) := by assumption
    obtain ⟨rc0, rc1, rc2⟩ := (hRB w2 (hdr.out.trans (hb.mono hdr.out.size))).cells
    go_simp
    exact hK.out _ _ (Below.refl _ _) rfl
  · intro a w2 hb hs K hK
    repeat (intro _)
    refine ⟨?_⟩
    have h1 : a.tmps[1]?.getD undef = .int .u64 (n : Int) := hs 1 (by kernel_rfl)
    go_simp
    exact hK.out _ _ (Below.refl _ _) rfl
  · intro a w2 hb hs K hK
    repeat (intro _)
    refine ⟨?_⟩
    have h32 : a.tmps[32]?.getD undef = .int .u64 (n : Int) := by assumption
    go_simp
    exact hK.out _ _ (Below.refl _ _) rfl
  · intro a w2 hb hs K hK
    repeat (intro _)
    refine ⟨?_⟩
    have h31 : a.tmps[31]?.getD undef = .int .i64 (p : Int) := by assumption
    have h33 : a.tmps[33]?.getD undef = .int .i64 (n : Int) := by assumption
    go_simp
    exact hK.out _ _ (Below.refl _ _) rfl
  · intro a w2 hb hs K hK
    repeat (intro _)
    refine ⟨?_⟩
    have h23 : a.tmps[23]?.getD undef = .slice (some ⟨bk, bo, none⟩) b.length c := by assumption
    have h27 : a.tmps[27]?.getD undef = .int .i64 (p : Int) := by assumption
    have h34 : a.tmps[34]?.getD undef = .int .i64 (q : Int) := by assumption
    go_simp
    refine hK.out _ _ (Below.refl _ _) ⟨some ⟨bk, bo + p, none⟩, c - p, ?_, sl_rl (hRB w2 (hdr.out.trans (hb.mono hdr.out.size))).rl hn⟩
    rw [sl_length hn, HQ.out, show p + n - p = n by omega]
  · intro a w2 hb hs K hK
    repeat (intro _)
    refine ⟨?_⟩
    obtain ⟨A35, c35, h35, r35⟩ : IsRL (sl b p n) (a.tmps[35]?.getD undef) w2 := by assumption
    go_simp
    exact hK.out _ _ (Below.refl _ _) ⟨_, _, rfl, r35⟩
  intro v0 f0 v1 f1 v2 f2 v3 f3 v4 f4 v5 f5 v6 f6 v7 f7 v8 f8 v9 f9 v10 f10 v11 f11 v12 f12 v13 f13 v14 f14 v15 f15 v16 f16
  refine NoPanic.normal ?_
  simp only [Act.put, List.setIfInBounds_toArray, List.set_cons_zero, List.set_cons_succ]
  have hR2 := hRB wE hbE
  have HB2 := Lib.hid (HB1.out.trans (hbE.mono HB1.out.size))
  obtain ⟨A', c', e', r'⟩ := f16
  subst e'
  have HR' := Lib.hid r'
  obtain ⟨rc0, rc1, rc2⟩ := hR2.cells
  have rf1 := hR2.free 1
  have HR2 := Lib.hid hR2
  clear hR2 hbE hRB r' f0 f1 f2 f3 f4 f5 f6 f7 f8 f9 f10 f11 f12 f13 f14 f15 q1 q2 q3 q4 q5
  go_wp2
  go_ret
  refine ⟨A', c', rfl, HR'.out.other fun i hi bk o e => rl_apart HR2.out.heap (fun n h => by cases h) HR'.out hi e, by rw [← HQ.out]; exact HR2.out.set q, ?_⟩
  exact G.trans (G.below HB2.out) ⟨rfl, rfl, rfl, by simp, fun k _ hk => Below.heap_setCell _ _ _ _ (fun e => hk (by rw [e]))⟩
/-- The deferred call finds no panic. -/
theorem idle_any (pf pr : Option Addr) (w : World) :
    CallsD Try.prog 87 #[.pointer pf, .pointer pr] .returning w fun e u' w' => e = .returned (.tuple #[]) ∧ u' = .returning ∧ w' = w := by
  refine callsD_of_wpS Try.func87 rfl fun c₀ cs hu => ?_
  apply wpS_seq
  apply wpS_region
  have hta : ∀ w, (Instr.typeAssert Value.nilIface 20 35 true).run Try.prog w = .ok (.tuple #[.int .i64 0, .bool false]) w := fun _ => by kernel_rfl
  simp [wpOpsS, go_sem, recoverD, hu, Try.ntmps87, Exit.thenS, hta]
  apply wpS_seq
  apply wpS_region
  simp [wpOpsS, go_sem, Exit.thenS]
  refine wpS_cond (t := false) (by simp [Act.eval, Array.replicate]) ?_
  simp only [Bool.false_eq_true, if_false]
  refine wpS_of_wp (wp_skip ?_)
  cases c₀
  simp_all [bodyPostS, results, Try.results87]
set_option maxRecDepth 100000 in
set_option maxHeartbeats 2000000 in
theorem reading_any (r : Nat) (A : Option Addr) (b : List Nat) (c p F : Nat) (caps : Array Value) (w : World) (Pd : World → World → Prop) (hR : RdAt w r A b c p) (hcf : ∀ w, (callFunc F caps).run Try.prog w = .ok (.enter F caps) w)
    (hdo : ∀ w2, Below w.heap.size w w2 → Calls Try.prog F caps w2 fun e w' => e = .returned (.tuple #[]) ∧ Pd w2 w') :
    Calls Try.prog 79 #[.pointer (some ⟨r, 0, none⟩), .func (.func F) #[] caps] w fun e w' => e = .returned (.tuple #[]) ∧ ∃ w2, Below w.heap.size w w2 ∧ Pd w2 w' := by
  have hmf : ∀ (fn : Fn) (first cap : Array Value) (w : World), (Instr.makeFunc fn first cap).run Try.prog w = .ok (.func fn first cap) w := fun _ _ _ _ => rfl
  obtain ⟨rc0, rc1, rc2⟩ := hR.cells
  have hlt := hR.lt
  have HDO := Lib.hid hdo
  clear hdo
  go_enter_defers Try.func79, Try.ntmps79
  go_wp2_with fail
  refine (HDO.out _ (((Below.refl w.heap.size w).alloc (Nat.le_refl _) _).alloc (by simp) _)).mono ?_
  rintro e w' ⟨rfl, hP⟩
  have HP := Lib.hid hP
  clear hP rc0 rc1 rc2
  go_wp2
  refine leaves_cons (f := 87) (args := #[.pointer (some ⟨w.heap.size + 1, 0, none⟩), .pointer (some ⟨w.heap.size, 0, none⟩)]) (by simp) (by simp [go_sem]) ?_
  refine (idle_any _ _ _).mono ?_
  rintro e u' w'' ⟨rfl, rfl, rfl⟩
  exact ⟨_, results_none rfl _ _ _, rfl, _, ((Below.refl w.heap.size w).alloc (Nat.le_refl _) _).alloc (by simp) _, HP.out⟩
end Go.Proofs.Ytbioanbokbhmgaa
