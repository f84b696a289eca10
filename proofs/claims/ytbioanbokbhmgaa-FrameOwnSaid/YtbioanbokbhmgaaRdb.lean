/- The reader of bytes: must, take: the walks. Conditions: that there are so many bytes. -/
import Derived.Test.YtbioanbokbhmgaaPrgA
import Derived.Test.YtbioanbokbhmgaaPrsR
import Derived.Recover
namespace Go.Proofs.Ytbioanbokbhmgaa
open Go.RowKit

theorem G.trans {a b c : World} {r : Option Nat} (h : a.grownBy b r) (k : b.grownBy c r) : a.grownBy c r :=
  ⟨k.os.trans h.os, k.tape.trans h.tape, k.output.trans h.output, Nat.le_trans h.size k.size, fun i hi hne => (k.block i (Nat.lt_of_lt_of_le hi h.size) hne).trans (h.block i hi hne)⟩
theorem G.below {a b : World} {r : Option Nat} (h : Below a.heap.size a b) : a.grownBy b r := ⟨h.os, h.tape, h.output, h.size, fun k hk _ => h.block k hk⟩
/-- A reader stands in block r, over bytes, at a place; it has no fault. -/
structure RdAt (w : World) (r : Nat) (A : Option Addr) (b : List Nat) (c p : Nat) : Prop where
  heap : w.heap[r]? = some (.cells #[.slice A b.length c, .int .i64 (p : Int), .int .i64 0] 127 (0, 0))
  rl : RL w A b
  cap : b.length ≤ c
theorem RdAt.lt {w : World} {r : Nat} {A : Option Addr} {b : List Nat} {c p : Nat} (h : RdAt w r A b c p) : r < w.heap.size := (Array.getElem?_eq_some_iff.1 h.heap).1
theorem RdAt.below {w w' : World} {r : Nat} {A : Option Addr} {b : List Nat} {c p : Nat} (h : RdAt w r A b c p) (hb : Below w.heap.size w w') : RdAt w' r A b c p :=
  ⟨by rw [hb.block r h.lt]; exact h.heap, h.rl.below hb, h.cap⟩
theorem RdAt.cells {w : World} {r : Nat} {A : Option Addr} {b : List Nat} {c p : Nat} (h : RdAt w r A b c p) : w.cell? ⟨r, 0, none⟩ = some (.slice A b.length c) ∧ w.cell? ⟨r, 1, none⟩ = some (.int .i64 (p : Int)) ∧ w.cell? ⟨r, 2, none⟩ = some (.int .i64 0) := by
  have := h.heap
  exact ⟨by simp [World.cell?, this], by simp [World.cell?, this], by simp [World.cell?, this]⟩
theorem RdAt.free {w : World} {r : Nat} {A : Option Addr} {b : List Nat} {c p : Nat} (h : RdAt w r A b c p) (i : Nat) : w.frozen? ⟨r, i, none⟩ = false := by
  have := h.heap
  simp [World.frozen?, this]
/-- Bytes that are read lie in no reader's block. -/
theorem rl_apart {w : World} {r T : Nat} {x : Value} {y z : Int} {A : Option Addr} {l : List Nat} (hh : w.heap[r]? = some (.cells #[x, .int .i64 y, .int .i64 z] T (0, 0))) (hx : ∀ n, x ≠ .int .u8 n) (h : RL w A l) {i : Nat} (hi : i < l.length) {bk o : Nat} (e : A = some ⟨bk, o, none⟩) : bk ≠ r := by
  rintro rfl
  obtain ⟨b', o', e', _, hc⟩ := h i hi
  rw [e] at e'
  injection e' with e'
  injection e' with e1 e2
  subst e1 e2
  unfold World.cell? at hc
  rw [hh] at hc
  simp only at hc
  match hj : o + i, hc with
  | 0, hc => simp at hc; exact hx _ hc
  | 1, hc => simp at hc
  | 2, hc => simp at hc
  | n + 3, hc => simp at hc
theorem RL.other {w : World} {r j : Nat} {v : Value} {A : Option Addr} {l : List Nat} (h : RL w A l) (hne : ∀ i, i < l.length → ∀ bk o, A = some ⟨bk, o, none⟩ → bk ≠ r) : RL (w.setCell ⟨r, j, none⟩ v) A l := fun i hi => by
  obtain ⟨bk, o, e, hb, hc⟩ := h i hi
  refine ⟨bk, o, e, by simpa using hb, ?_⟩
  rw [← hc]
  exact World.cell?_of_block (a := ⟨bk, o + i, none⟩) (Below.heap_setCell _ _ _ _ (hne i hi bk o e))
theorem sl_rl {w : World} {bk bo p n : Nat} {b : List Nat} (h : RL w (some ⟨bk, bo, none⟩) b) (hn : p + n ≤ b.length) : RL w (some ⟨bk, bo + p, none⟩) (sl b p n) := fun i hi => by
  rw [sl_length hn] at hi
  obtain ⟨b', o', e, hb, hc⟩ := h (p + i) (by omega)
  injection e with e
  injection e with e1 e2
  subst e1 e2
  refine ⟨bk, bo + p, rfl, hb, ?_⟩
  rw [show bo + p + i = bo + (p + i) by omega, hc]
  show some (Value.int .u8 _) = some (Value.int .u8 _)
  rw [sl_get hi]
theorem RdAt.set {w : World} {r : Nat} {A : Option Addr} {b : List Nat} {c p : Nat} (h : RdAt w r A b c p) (p' : Nat) : RdAt (w.setCell ⟨r, 1, none⟩ (.int .i64 (p' : Int))) r A b c p' := by
  exact ⟨by simp [World.setCell, h.heap, Array.getElem?_modify], h.rl.other fun i hi bk o e => rl_apart h.heap (fun n h => by cases h) h.rl hi e, h.cap⟩
theorem must_any (n : Int) (w : World) : Calls Try.prog 81 #[.bool true, .int .i64 n] w fun e w' => e = .returned (.tuple #[]) ∧ w = w' := by
  have hnot : ∀ (x : Bool) (w : World), (Op.unary .not (.bool x)).run Try.prog w = .ok (.bool (!x)) w := fun _ _ => rfl
  go_enter Try.func81, Try.ntmps81
  go_wp2
  go_end0
  exact ⟨rfl, rfl⟩
set_option maxRecDepth 100000 in
set_option maxHeartbeats 4000000 in
theorem take_any (r : Nat) (A : Option Addr) (b : List Nat) (c p n : Nat) (w : World) (hR : RdAt w r A b c p) (h0 : 0 < n) (hn : p + n ≤ b.length) (hbl : b.length ≤ 150000000000000) (hc : c ≤ maxLen) :
    Calls Try.prog 82 #[.pointer (some ⟨r, 0, none⟩), .int .u64 (n : Int)] w fun e w' => ∃ A' c', e = .returned (.slice A' (sl b p n).length c') ∧ RL w' A' (sl b p n) ∧ RdAt w' r A b c (p + n) ∧ w.grownBy w' (some r) := by
  have hRB : ∀ w', Below w.heap.size w w' → RdAt w' r A b c p := fun w' hb => hR.below hb
  obtain ⟨bk, bo, rfl, hbk, _⟩ := hR.rl 0 (by omega)
  have hcap := hR.cap
  unfold maxLen at hc
  obtain ⟨m, hm⟩ : ∃ m, m = b.length - p := ⟨_, rfl⟩
  have hsub : IntKind.i64.wrap ((b.length : Int) - (p : Int)) = (m : Int) := by rw [IntKind.wrap_i64]; omega
  have hsub2 : (b.length : Int) - (p : Int) = (m : Int) := by omega
  have hu : IntKind.u64.wrap (m : Int) = (m : Int) := by rw [IntKind.wrap_u64]; omega
  have hwm : IntKind.i64.wrap (m : Int) = (m : Int) := by rw [IntKind.wrap_i64]; omega
  have hle : (n : Int) ≤ (m : Int) := by omega
  have hml : m ≤ 150000000000000 := by omega
  have HM := Lib.hid hm
  clear hm
  go_enter Try.func82, Try.ntmps82
  go_wp2_with fail
  refine wp_region_facts [.is (.int .u64 (n : Int)), .is (.pointer (some ⟨r, 0, none⟩)), .is (.pointer (some ⟨r, 0, none⟩)), .is (.pointer (some ⟨r, 0, none⟩)), .is (.slice (some ⟨bk, bo, none⟩) b.length c), .is (.int .i64 (b.length : Int)), .is (.pointer (some ⟨r, 0, none⟩)), .is (.pointer (some ⟨r, 0, none⟩)), .is (.pointer (some ⟨r, 1, none⟩)), .is (.int .i64 (p : Int)), .is (.int .i64 (m : Int)), .is (.int .u64 (m : Int)), .is (.bool true), .any] mixed (by kernel_rfl) (fun hdr => ⟨?_, ?_, ?_, ?_, ?_, ?_, ?_, ?_, ?_, ?_, ?_, ?_, ?_, ?_, trivial⟩) (fun wE hbE => ?_)
  · intro a w2 hb hs K hK
    repeat (intro _)
    refine ⟨?_⟩
    have h1 : a.tmps[1]?.getD undef = .int .u64 (n : Int) := hs 1 (by kernel_rfl)
    go_simp
    exact hK.out _ _ (Below.refl _ _) rfl
  · intro a w2 hb hs K hK
    repeat (intro _)
    refine ⟨?_⟩
    have h0 : a.tmps[0]?.getD undef = .pointer (some ⟨r, 0, none⟩) := hs 0 (by kernel_rfl)
    go_simp
    exact hK.out _ _ (Below.refl _ _) rfl
  · intro a w2 hb hs K hK
    repeat (intro _)
    refine ⟨?_⟩
    have h7 : a.tmps[7]?.getD undef = .pointer (some ⟨r, 0, none⟩) := by assumption
    go_simp
    exact hK.out _ _ (Below.refl _ _) rfl
  · intro a w2 hb hs K hK
    repeat (intro _)
    refine ⟨?_⟩
    have h8 : a.tmps[8]?.getD undef = .pointer (some ⟨r, 0, none⟩) := by assumption
    go_simp
    exact hK.out _ _ (Below.refl _ _) rfl
  · intro a w2 hb hs K hK
    repeat (intro _)
    refine ⟨?_⟩
    have h9 : a.tmps[9]?.getD undef = .pointer (some ⟨r, 0, none⟩) := by assumption
    obtain ⟨rc0, rc1, rc2⟩ := (hRB w2 (hdr.out.trans (hb.mono hdr.out.size))).cells
    go_simp
    exact hK.out _ _ (Below.refl _ _) rfl
  · intro a w2 hb hs K hK
    repeat (intro _)
    refine ⟨?_⟩
    have h10 : a.tmps[10]?.getD undef = .slice (some ⟨bk, bo, none⟩) b.length c := by assumption
    go_simp
    exact hK.out _ _ (Below.refl _ _) rfl
  · intro a w2 hb hs K hK
    repeat (intro _)
    refine ⟨?_⟩
    have h0 : a.tmps[0]?.getD undef = .pointer (some ⟨r, 0, none⟩) := hs 0 (by kernel_rfl)
    go_simp
    exact hK.out _ _ (Below.refl _ _) rfl
  · intro a w2 hb hs K hK
    repeat (intro _)
    refine ⟨?_⟩
    have h12 : a.tmps[12]?.getD undef = .pointer (some ⟨r, 0, none⟩) := by assumption
    go_simp
    exact hK.out _ _ (Below.refl _ _) rfl
  · intro a w2 hb hs K hK
    repeat (intro _)
    refine ⟨?_⟩
    have h13 : a.tmps[13]?.getD undef = .pointer (some ⟨r, 0, none⟩) := by assumption
    go_simp
    exact hK.out _ _ (Below.refl _ _) rfl
  · intro a w2 hb hs K hK
    repeat (intro _)
    refine ⟨?_⟩
    have h14 : a.tmps[14]?.getD undef = .pointer (some ⟨r, 1, none⟩) := by assumption
    obtain ⟨rc0, rc1, rc2⟩ := (hRB w2 (hdr.out.trans (hb.mono hdr.out.size))).cells
    go_simp
    exact hK.out _ _ (Below.refl _ _) rfl
  · intro a w2 hb hs K hK
    repeat (intro _)
    refine ⟨?_⟩
    have h11 : a.tmps[11]?.getD undef = .int .i64 (b.length : Int) := by assumption
    have h15 : a.tmps[15]?.getD undef = .int .i64 (p : Int) := by assumption
    go_simp
    exact hK.out _ _ (Below.refl _ _) rfl
  · intro a w2 hb hs K hK
    repeat (intro _)
    refine ⟨?_⟩
    have h16 : a.tmps[16]?.getD undef = .int .i64 (m : Int) := by assumption
    go_simp
    exact hK.out _ _ (Below.refl _ _) rfl
  · intro a w2 hb hs K hK
    repeat (intro _)
    refine ⟨?_⟩
    have h6 : a.tmps[6]?.getD undef = .int .u64 (n : Int) := by assumption
    have h17 : a.tmps[17]?.getD undef = .int .u64 (m : Int) := by assumption
    go_simp
    exact hK.out _ _ (Below.refl _ _) rfl
  · intro a w2 hb hs K hK
    repeat (intro _)
    refine ⟨?_⟩
    have h18 : a.tmps[18]?.getD undef = .bool true := by assumption
    go_simp
    refine (must_any 70 w2).mono ?_
    rintro e w3 ⟨rfl, rfl⟩
    exact hK.out _ _ (Below.refl _ _) trivial
  intro v0 f0 v1 f1 v2 f2 v3 f3 v4 f4 v5 f5 v6 f6 v7 f7 v8 f8 v9 f9 v10 f10 v11 f11 v12 f12 v13 f13
  refine NoPanic.normal ?_
  simp only [Act.put, List.setIfInBounds_toArray, List.set_cons_zero, List.set_cons_succ]
  clear f0 f1 f2 f3 f4 f5 f6 f7 f8 f9 f10 f11 f12 f13 hsub hsub2 hu hle hml hwm
  have HB1 := Lib.hid hbE
  obtain ⟨q, hq⟩ : ∃ q, q = p + n := ⟨_, rfl⟩
  have hwq : IntKind.i64.wrap (q : Int) = (q : Int) := by rw [IntKind.wrap_i64]; omega
  have hadd : IntKind.i64.wrap ((p : Int) + (n : Int)) = (q : Int) := by rw [IntKind.wrap_i64]; omega
  have hadd2 : (p : Int) + (n : Int) = (q : Int) := by omega
  have hi : IntKind.i64.wrap (n : Int) = (n : Int) := by rw [IntKind.wrap_i64]; omega
  have hRB : ∀ w', Below wE.heap.size wE w' → RdAt w' r (some ⟨bk, bo, none⟩) b c p := fun w' hb => hRB w' (HB1.out.trans (hb.mono HB1.out.size))
  have q1 : (0 : Int) ≤ (p : Int) := by omega
  have q2 : (p : Int) ≤ (q : Int) := by omega
  have q3 : (q : Int) ≤ (c : Int) := by omega
  have q4 : p < c := by omega
  have q5 : ¬ c = p := by omega
  have HQ := Lib.hid hq
  clear hq
  clear hbE
  go_wp2_with fail
  obtain ⟨w1, hw1⟩ : ∃ w1, w1 = wE := ⟨_, rfl⟩
  rw [← hw1] at HB1 hRB ⊢
  clear hw1
  refine wp_region_facts [.is (.pointer (some ⟨r, 0, none⟩)), .is (.pointer (some ⟨r, 0, none⟩)), .is (.pointer (some ⟨r, 0, none⟩)), .is (.slice (some ⟨bk, bo, none⟩) b.length c), .is (.pointer (some ⟨r, 0, none⟩)), .is (.pointer (some ⟨r, 0, none⟩)), .is (.pointer (some ⟨r, 1, none⟩)), .is (.int .i64 (p : Int)), .is (.pointer (some ⟨r, 0, none⟩)), .is (.pointer (some ⟨r, 0, none⟩)), .is (.pointer (some ⟨r, 1, none⟩)), .is (.int .i64 (p : Int)), .is (.int .u64 (n : Int)), .is (.int .i64 (n : Int)), .is (.int .i64 (q : Int)), .rl (sl b p n), .rl (sl b p n)] mixed (by kernel_rfl) (fun hdr => ⟨?_, ?_, ?_, ?_, ?_, ?_, ?_, ?_, ?_, ?_, ?_, ?_, ?_, ?_, ?_, ?_, ?_, trivial⟩) (fun wE hbE => ?_)
  · intro a w2 hb hs K hK
    repeat (intro _)
    refine ⟨?_⟩
    have h0 : a.tmps[0]?.getD undef = .pointer (some ⟨r, 0, none⟩) := hs 0 (by kernel_rfl)
    go_simp
    exact hK.out _ _ (Below.refl _ _) rfl
  · intro a w2 hb hs K hK
    repeat (intro _)
    refine ⟨?_⟩
    have h20 : a.tmps[20]?.getD undef = .pointer (some ⟨r, 0, none⟩) := by assumption
    go_simp
    exact hK.out _ _ (Below.refl _ _) rfl
  · intro a w2 hb hs K hK
    repeat (intro _)
    refine ⟨?_⟩
    have h21 : a.tmps[21]?.getD undef = .pointer (some ⟨r, 0, none⟩) := by assumption
    go_simp
    exact hK.out _ _ (Below.refl _ _) rfl
  · intro a w2 hb hs K hK
    repeat (intro _)
    refine ⟨?_⟩
    have h22 : a.tmps[22]?.getD undef = .pointer (some ⟨r, 0, none⟩) := by assumption
    obtain ⟨rc0, rc1, rc2⟩ := (hRB w2 (hdr.out.trans (hb.mono hdr.out.size))).cells
    go_simp
    exact hK.out _ _ (Below.refl _ _) rfl
  · intro a w2 hb hs K hK
    repeat (intro _)
    refine ⟨?_⟩
    have h0 : a.tmps[0]?.getD undef = .pointer (some ⟨r, 0, none⟩) := hs 0 (by kernel_rfl)
    go_simp
    exact hK.out _ _ (Below.refl _ _) rfl
  · intro a w2 hb hs K hK
    repeat (intro _)
    refine ⟨?_⟩
    have h24 : a.tmps[24]?.getD undef = .pointer (some ⟨r, 0, none⟩) := by assumption
    go_simp
    exact hK.out _ _ (Below.refl _ _) rfl
  · intro a w2 hb hs K hK
    repeat (intro _)
    refine ⟨?_⟩
    have h25 : a.tmps[25]?.getD undef = .pointer (some ⟨r, 0, none⟩) := by assumption
    go_simp
    exact hK.out _ _ (Below.refl _ _) rfl
  · intro a w2 hb hs K hK
    repeat (intro _)
    refine ⟨?_⟩
    have h26 : a.tmps[26]?.getD undef = .pointer (some ⟨r, 1, none⟩) := by assumption
    obtain ⟨rc0, rc1, rc2⟩ := (hRB w2 (hdr.out.trans (hb.mono hdr.out.size))).cells
    go_simp
    exact hK.out _ _ (Below.refl _ _) rfl
  · intro a w2 hb hs K hK
    repeat (intro _)
    refine ⟨?_⟩
    have h0 : a.tmps[0]?.getD undef = .pointer (some ⟨r, 0, none⟩) := hs 0 (by kernel_rfl)
    go_simp
    exact hK.out _ _ (Below.refl _ _) rfl
  · intro a w2 hb hs K hK
    repeat (intro _)
    refine ⟨?_⟩
    have h28 : a.tmps[28]?.getD undef = .pointer (some ⟨r, 0, none⟩) := by assumption
    go_simp
    exact hK.out _ _ (Below.refl _ _) rfl
  · intro a w2 hb hs K hK
    repeat (intro _)
    refine ⟨?_⟩
    have h29 : a.tmps[29]?.getD undef = .pointer (some ⟨r, 0, none⟩) := by assumption
    go_simp
    exact hK.out _ _ (Below.refl _ _) rfl
  · intro a w2 hb hs K hK
    repeat (intro _)
    refine ⟨?_⟩
    have h30 : a.tmps[30]?.getD undef = .pointer (some ⟨r, 1, none⟩) := by assumption
    obtain ⟨rc0, rc1, rc2⟩ := (hRB w2 (hdr.out.trans (hb.mono hdr.out.size))).cells
    go_simp
    exact hK.out _ _ (Below.refl _ _) rfl
  · intro a w2 hb hs K hK
    repeat (intro _)
    refine ⟨?_⟩
    have h1 : a.tmps[1]?.getD undef = .int .u64 (n : Int) := hs 1 (by kernel_rfl)
    go_simp
    exact hK.out _ _ (Below.refl _ _) rfl
  · intro a w2 hb hs K hK
    repeat (intro _)
    refine ⟨?_⟩
    have h32 : a.tmps[32]?.getD undef = .int .u64 (n : Int) := by assumption
    go_simp
    exact hK.out _ _ (Below.refl _ _) rfl
  · intro a w2 hb hs K hK
    repeat (intro _)
    refine ⟨?_⟩
    have h31 : a.tmps[31]?.getD undef = .int .i64 (p : Int) := by assumption
    have h33 : a.tmps[33]?.getD undef = .int .i64 (n : Int) := by assumption
    go_simp
    exact hK.out _ _ (Below.refl _ _) rfl
  · intro a w2 hb hs K hK
    repeat (intro _)
    refine ⟨?_⟩
    have h23 : a.tmps[23]?.getD undef = .slice (some ⟨bk, bo, none⟩) b.length c := by assumption
    have h27 : a.tmps[27]?.getD undef = .int .i64 (p : Int) := by assumption
    have h34 : a.tmps[34]?.getD undef = .int .i64 (q : Int) := by assumption
    go_simp
    refine hK.out _ _ (Below.refl _ _) ⟨some ⟨bk, bo + p, none⟩, c - p, ?_, sl_rl (hRB w2 (hdr.out.trans (hb.mono hdr.out.size))).rl hn⟩
    rw [sl_length hn, HQ.out, show p + n - p = n by omega]
  · intro a w2 hb hs K hK
    repeat (intro _)
    refine ⟨?_⟩
    obtain ⟨A35, c35, h35, r35⟩ : IsRL (sl b p n) (a.tmps[35]?.getD undef) w2 := by assumption
    go_simp
    exact hK.out _ _ (Below.refl _ _) ⟨_, _, rfl, r35⟩
  intro v0 f0 v1 f1 v2 f2 v3 f3 v4 f4 v5 f5 v6 f6 v7 f7 v8 f8 v9 f9 v10 f10 v11 f11 v12 f12 v13 f13 v14 f14 v15 f15 v16 f16
  refine NoPanic.normal ?_
  simp only [Act.put, List.setIfInBounds_toArray, List.set_cons_zero, List.set_cons_succ]
  have hR2 := hRB wE hbE
  have HB2 := Lib.hid (HB1.out.trans (hbE.mono HB1.out.size))
  obtain ⟨A', c', e', r'⟩ := f16
  subst e'
  have HR' := Lib.hid r'
  obtain ⟨rc0, rc1, rc2⟩ := hR2.cells
  have rf1 := hR2.free 1
  have HR2 := Lib.hid hR2
  clear hR2 hbE hRB r' f0 f1 f2 f3 f4 f5 f6 f7 f8 f9 f10 f11 f12 f13 f14 f15 q1 q2 q3 q4 q5
  go_wp2
  go_ret
  refine ⟨A', c', rfl, HR'.out.other fun i hi bk o e => rl_apart HR2.out.heap (fun n h => by cases h) HR'.out hi e, by rw [← HQ.out]; exact HR2.out.set q, ?_⟩
  exact G.trans (G.below HB2.out) ⟨rfl, rfl, rfl, by simp, fun k _ hk => Below.heap_setCell _ _ _ _ (fun e => hk (by rw [e]))⟩
/-- The deferred call finds no panic. -/
theorem idle_any (pf pr : Option Addr) (w : World) :
    CallsD Try.prog 87 #[.pointer pf, .pointer pr] .returning w fun e u' w' => e = .returned (.tuple #[]) ∧ u' = .returning ∧ w' = w := by
  refine callsD_of_wpS Try.func87 rfl fun c₀ cs hu => ?_
  apply wpS_seq
  apply wpS_region
  have hta : ∀ w, (Instr.typeAssert Value.nilIface 20 35 true).run Try.prog w = .ok (.tuple #[.int .i64 0, .bool false]) w := fun _ => by kernel_rfl
  simp [wpOpsS, go_sem, recoverD, hu, Try.ntmps87, Exit.thenS, hta]
  apply wpS_seq
  apply wpS_region
  simp [wpOpsS, go_sem, Exit.thenS]
  refine wpS_cond (t := false) (by simp [Act.eval, Array.replicate]) ?_
  simp only [Bool.false_eq_true, if_false]
  refine wpS_of_wp (wp_skip ?_)
  cases c₀
  simp_all [bodyPostS, results, Try.results87]
set_option maxRecDepth 100000 in
set_option maxHeartbeats 2000000 in
theorem reading_any (r : Nat) (A : Option Addr) (b : List Nat) (c p F : Nat) (caps : Array Value) (w : World) (Pd : World → World → Prop) (hR : RdAt w r A b c p) (hcf : ∀ w, (callFunc F caps).run Try.prog w = .ok (.enter F caps) w)
    (hdo : ∀ w2, Below w.heap.size w w2 → Calls Try.prog F caps w2 fun e w' => e = .returned (.tuple #[]) ∧ Pd w2 w') :
    Calls Try.prog 79 #[.pointer (some ⟨r, 0, none⟩), .func (.func F) #[] caps] w fun e w' => e = .returned (.tuple #[]) ∧ ∃ w2, Below w.heap.size w w2 ∧ Pd w2 w' := by
  have hmf : ∀ (fn : Fn) (first cap : Array Value) (w : World), (Instr.makeFunc fn first cap).run Try.prog w = .ok (.func fn first cap) w := fun _ _ _ _ => rfl
  obtain ⟨rc0, rc1, rc2⟩ := hR.cells
  have hlt := hR.lt
  have HDO := Lib.hid hdo
  clear hdo
  go_enter_defers Try.func79, Try.ntmps79
  go_wp2_with fail
  refine (HDO.out _ (((Below.refl w.heap.size w).alloc (Nat.le_refl _) _).alloc (by simp) _)).mono ?_
  rintro e w' ⟨rfl, hP⟩
  have HP := Lib.hid hP
  clear hP rc0 rc1 rc2
  go_wp2
  refine leaves_cons (f := 87) (args := #[.pointer (some ⟨w.heap.size + 1, 0, none⟩), .pointer (some ⟨w.heap.size, 0, none⟩)]) (by simp) (by simp [go_sem]) ?_
  refine (idle_any _ _ _).mono ?_
  rintro e u' w'' ⟨rfl, rfl, rfl⟩
  exact ⟨_, results_none rfl _ _ _, rfl, _, ((Below.refl w.heap.size w).alloc (Nat.le_refl _) _).alloc (by simp) _, HP.out⟩
end Go.Proofs.Ytbioanbokbhmgaa

/- The reader of bytes: Take, Bytes, Open: the walks. Conditions: that there are so many bytes. -/
namespace Go.Proofs.Ytbioanbokbhmgaa
open Go.RowKit

theorem leV_snoc : ∀ (l : List Nat) (x : Nat), leV (l ++ [x]) = leV l + x * 256 ^ l.length
  | [], x => by simp [leV]
  | y :: l, x => by
    show y + 256 * leV (l ++ [x]) = y + 256 * leV l + x * 256 ^ (l.length + 1)
    rw [leV_snoc l x, Nat.pow_succ, Nat.mul_add, ← Nat.mul_assoc x, Nat.mul_comm 256 (x * _)]
    omega
theorem leV_next {b : List Nat} {p k : Nat} (h : p + k < b.length) : leV (sl b p (k + 1)) = leV (sl b p k) + b.getD (p + k) 0 * 256 ^ k := by
  rw [sl_next h, leV_snoc, sl_length (by omega)]
theorem or_shift {u x : Nat} (k : Nat) (h : u < 256 ^ k) : (u ||| x * 256 ^ k) = u + x * 256 ^ k := by
  have e : (256 : Nat) ^ k = 2 ^ (8 * k) := by rw [Nat.pow_mul]
  rw [e] at h ⊢
  have h3 := Nat.two_pow_add_eq_or_of_lt (i := 8 * k) (b := u) h x
  rw [Nat.mul_comm x, Nat.or_comm, ← h3]
  omega
set_option maxRecDepth 100000 in
set_option maxHeartbeats 2000000 in
theorem tk32_any (r : Nat) (A : Option Addr) (b : List Nat) (c p pr pv : Nat) (w : World) (hR : RdAt w r A b c p) (hbox : w.cell? ⟨pr, 0, none⟩ = some (.pointer (some ⟨r, 0, none⟩))) (hv : ∃ x : Int, w.heap[pv]? = some (.cells #[.int .u32 x] 78 (0, 0))) (hne : pv ≠ r)
    (hn : p + 4 ≤ b.length) (hbl : b.length ≤ 150000000000000) (hc : c ≤ maxLen) (hx : ∀ x ∈ b, x < 256) :
    Calls Try.prog 85 #[.pointer (some ⟨pr, 0, none⟩), .pointer (some ⟨pv, 0, none⟩)] w fun e w' => e = .returned (.tuple #[]) ∧ ∃ w1, w.grownBy w1 (some r) ∧ RdAt w1 r A b c (p + 4) ∧ w' = w1.setCell ⟨pv, 0, none⟩ (.int .u32 (num b p 4 : Nat)) := by
  have HTK := Lib.hid (fun (w' : World) (h : RdAt w' r A b c p) => take_any r A b c p 4 w' h (by decide) hn hbl hc)
  have HR := Lib.hid hR
  have HX := Lib.hid hx
  clear hR hx
  go_enter Try.func85, Try.ntmps85
  go_wp2_with fail
  refine wp_region_mix [(true, true, true), (false, false, false), (false, true, false), (false, false, true), (false, true, false), (true, true, false)] mixed (by kernel_rfl) (fun w4 => w4.cell? ⟨pr, 0, none⟩ = some (.pointer (some ⟨r, 0, none⟩))) (hbox) ?_
  intro hSw0
  simp only [hdM, tlM, List.cons_append, List.nil_append]
  repeat (first
    | (refine mix_look hSw0.out ?_ (by rfl) (fun w4 hSw => ?_) ?_; rotate_left; (focus (have s1 := hSw; go_simp; try with_reducible rfl)); simp only [Act.put, List.setIfInBounds_toArray, List.set_cons_zero, List.set_cons_succ])
    | (refine mix_pure ?_ (by rfl) (fun w4 => ?_) ?_; rotate_left; (focus (go_simp; try with_reducible rfl)); simp only [Act.put, List.setIfInBounds_toArray, List.set_cons_zero, List.set_cons_succ]))
  refine mix_step (fun K hK => ?_)
  go_simp
  refine (width32 _).mono ?_
  rintro e w5 ⟨rfl, rfl⟩
  dsimp only
  refine hK.out _ _ (fun _ h => h) ?_
  clear hK K
  try simp only [Act.put, List.setIfInBounds_toArray, List.set_cons_zero, List.set_cons_succ]
  repeat (refine mix_pure ?_ (by rfl) (fun w4 => ?_) ?_; rotate_left; (focus (go_simp; try with_reducible rfl)); simp only [Act.put, List.setIfInBounds_toArray, List.set_cons_zero, List.set_cons_succ])
  refine mix_step (fun K hK => ?_)
  go_simp
  refine (HTK.out _ (HR.out.below ((Dr.refl w).drew.below _))).mono ?_
  rintro e w5 ⟨A5, c5, rfl, r5, hR5, hg5⟩
  have HR5 := Lib.hid r5; have HRD5 := Lib.hid hR5; have HG5 := Lib.hid (G.trans (G.below (r := some r) ((Dr.refl w).drew.below _)) hg5)
  clear r5 hR5 hg5
  dsimp only
  refine hK.out _ _ (fun h => absurd h (by decide)) ?_
  clear hK K
  try simp only [Act.put, List.setIfInBounds_toArray, List.set_cons_zero, List.set_cons_succ]
  repeat (refine mix_pure ?_ (by rfl) (fun w4 => ?_) ?_; rotate_left; (focus (go_simp; try with_reducible rfl)); simp only [Act.put, List.setIfInBounds_toArray, List.set_cons_zero, List.set_cons_succ])
  refine mix_nil ?_
  have hsl0 := sl_length hn
  have HSL := Lib.hid hsl0
  rw [HSL.out]
  obtain ⟨xv, hv⟩ := hv
  have HV := Lib.hid hv
  clear hv hsl0
  go_wp2
  go_loopg [2, 3, 4, 10] 4 (fun gk u _ _ i wr => wr = w5 ∧ ∃ k : Nat, k ≤ 4 ∧ gk = 4 - k ∧ i = .int .i64 k ∧ u = .int .u64 ((leV (sl b p k) : Nat) : Int))
  case atStart => exact ⟨rfl, 0, Nat.zero_le _, rfl, rfl, by simp [sl, leV]⟩
  case round =>
    obtain ⟨rfl, k, hk, rfl, rfl, rfl⟩ := hrel
    by_cases hlt : k < 4
    · obtain ⟨b5, o5, rfl, hb5, hc5⟩ := HR5.out k (by rw [HSL.out]; exact hlt)
      have hcl : wr.cell? ⟨b5, o5 + k, none⟩ = some (.int .u8 ((b.getD (p + k) 0 : Nat) : Int)) := by
        rw [hc5]; show some (Value.int .u8 _) = some (Value.int .u8 _); rw [sl_get hlt]
      have hx8 := getD_256 HX.out (p + k)
      have HN := Lib.hid (leV_next (b := b) (p := p) (k := k) (by omega))
      have hul : leV (sl b p k) < 256 ^ k := by
        have h := leV_lt (sl b p k) fun x hx => HX.out x (sl_mem hx)
        rwa [sl_length (by omega)] at h
      clear hc5
      generalize b.getD (p + k) 0 = x at *
      generalize leV (sl b p k) = u at *
      have h4 : k = 0 ∨ k = 1 ∨ k = 2 ∨ k = 3 := by omega
      rcases h4 with rfl | rfl | rfl | rfl
      · have hor : bits .or .u64 (u : Int) (x : Int) = ((u + x * 256 ^ 0 : Nat) : Int) := by
          rw [show ((x : Int) : Int) = ((x * 256 ^ 0 : Nat) : Int) by omega, u64_or_nat u (x * 256 ^ 0) (by omega) (by omega), or_shift 0 hul]
        simp only [Nat.add_zero] at hcl
        go_wp2
        go_roundg (4 - (0 + 1))
        case measure => omega
        case rel => exact ⟨rfl, 0 + 1, by omega, rfl, by go_num, by rw [HN.out]; exact congrArg (Value.int .u64) (by omega)⟩
      · have hor : bits .or .u64 (u : Int) ((x : Int) * 256) = ((u + x * 256 ^ 1 : Nat) : Int) := by
          rw [show (((x : Int) * 256) : Int) = ((x * 256 ^ 1 : Nat) : Int) by omega, u64_or_nat u (x * 256 ^ 1) (by omega) (by omega), or_shift 1 hul]
        go_wp2
        go_roundg (4 - (1 + 1))
        case measure => omega
        case rel => exact ⟨rfl, 1 + 1, by omega, rfl, by go_num, by rw [HN.out]; exact congrArg (Value.int .u64) (by omega)⟩
      · have hor : bits .or .u64 (u : Int) ((x : Int) * 65536) = ((u + x * 256 ^ 2 : Nat) : Int) := by
          rw [show (((x : Int) * 65536) : Int) = ((x * 256 ^ 2 : Nat) : Int) by omega, u64_or_nat u (x * 256 ^ 2) (by omega) (by omega), or_shift 2 hul]
        go_wp2
        go_roundg (4 - (2 + 1))
        case measure => omega
        case rel => exact ⟨rfl, 2 + 1, by omega, rfl, by go_num, by rw [HN.out]; exact congrArg (Value.int .u64) (by omega)⟩
      · have hor : bits .or .u64 (u : Int) ((x : Int) * 16777216) = ((u + x * 256 ^ 3 : Nat) : Int) := by
          rw [show (((x : Int) * 16777216) : Int) = ((x * 256 ^ 3 : Nat) : Int) by omega, u64_or_nat u (x * 256 ^ 3) (by omega) (by omega), or_shift 3 hul]
        go_wp2
        go_roundg (4 - (3 + 1))
        case measure => omega
        case rel => exact ⟨rfl, 3 + 1, by omega, rfl, by go_num, by rw [HN.out]; exact congrArg (Value.int .u64) (by omega)⟩
    · have hkn : k = 4 := by omega
      subst hkn
      have HNUM := Lib.hid (show leV (sl b p 4) = num b p 4 from rfl)
      have hnl : leV (sl b p 4) < 256 ^ 4 := by
        have h := leV_lt (sl b p 4) fun x hx => HX.out x (sl_mem hx)
        rwa [sl_length (by omega)] at h
      generalize leV (sl b p 4) = u at *
      have hcv : IntKind.u32.wrap (u : Int) = (u : Int) := by rw [IntKind.wrap_u32]; omega
      have hpv : wr.heap[pv]? = some (.cells #[.int .u32 xv] 78 (0, 0)) := by
        rw [HG5.out.block pv (Array.getElem?_eq_some_iff.1 HV.out).1 (fun e => hne (Option.some.inj e))]; exact HV.out
      have hpc : wr.cell? ⟨pv, 0, none⟩ = some (.int .u32 xv) := by simp [World.cell?, hpv]
      have hpf : wr.frozen? ⟨pv, 0, none⟩ = false := by simp [World.frozen?, hpv]
      have HH := Lib.hid hpv
      clear hpv
      go_wp2
      go_end0
      exact ⟨rfl, wr, HG5.out, HRD5.out, by rw [← HNUM.out]⟩
set_option maxRecDepth 100000 in
set_option maxHeartbeats 2000000 in
theorem tk8_any (r : Nat) (A : Option Addr) (b : List Nat) (c p pr pv : Nat) (w : World) (hR : RdAt w r A b c p) (hbox : w.cell? ⟨pr, 0, none⟩ = some (.pointer (some ⟨r, 0, none⟩))) (hv : ∃ x : Int, w.heap[pv]? = some (.cells #[.int .u8 x] 5 (0, 0))) (hne : pv ≠ r)
    (hn : p + 1 ≤ b.length) (hbl : b.length ≤ 150000000000000) (hc : c ≤ maxLen) (hx : ∀ x ∈ b, x < 256) :
    Calls Try.prog 83 #[.pointer (some ⟨pr, 0, none⟩), .pointer (some ⟨pv, 0, none⟩)] w fun e w' => e = .returned (.tuple #[]) ∧ ∃ w1, w.grownBy w1 (some r) ∧ RdAt w1 r A b c (p + 1) ∧ w' = w1.setCell ⟨pv, 0, none⟩ (.int .u8 (num b p 1 : Nat)) := by
  have HTK := Lib.hid (fun (w' : World) (h : RdAt w' r A b c p) => take_any r A b c p 1 w' h (by decide) hn hbl hc)
  have HR := Lib.hid hR
  have HX := Lib.hid hx
  clear hR hx
  go_enter Try.func83, Try.ntmps83
  go_wp2_with fail
  refine wp_region_mix [(true, true, true), (false, false, false), (false, true, false), (false, false, true), (false, true, false), (true, true, false)] mixed (by kernel_rfl) (fun w4 => w4.cell? ⟨pr, 0, none⟩ = some (.pointer (some ⟨r, 0, none⟩))) (hbox) ?_
  intro hSw0
  simp only [hdM, tlM, List.cons_append, List.nil_append]
  repeat (first
    | (refine mix_look hSw0.out ?_ (by rfl) (fun w4 hSw => ?_) ?_; rotate_left; (focus (have s1 := hSw; go_simp; try with_reducible rfl)); simp only [Act.put, List.setIfInBounds_toArray, List.set_cons_zero, List.set_cons_succ])
    | (refine mix_pure ?_ (by rfl) (fun w4 => ?_) ?_; rotate_left; (focus (go_simp; try with_reducible rfl)); simp only [Act.put, List.setIfInBounds_toArray, List.set_cons_zero, List.set_cons_succ]))
  refine mix_step (fun K hK => ?_)
  go_simp
  refine (width8 _).mono ?_
  rintro e w5 ⟨rfl, rfl⟩
  dsimp only
  refine hK.out _ _ (fun _ h => h) ?_
  clear hK K
  try simp only [Act.put, List.setIfInBounds_toArray, List.set_cons_zero, List.set_cons_succ]
  repeat (refine mix_pure ?_ (by rfl) (fun w4 => ?_) ?_; rotate_left; (focus (go_simp; try with_reducible rfl)); simp only [Act.put, List.setIfInBounds_toArray, List.set_cons_zero, List.set_cons_succ])
  refine mix_step (fun K hK => ?_)
  go_simp
  refine (HTK.out _ (HR.out.below ((Dr.refl w).drew.below _))).mono ?_
  rintro e w5 ⟨A5, c5, rfl, r5, hR5, hg5⟩
  have HR5 := Lib.hid r5; have HRD5 := Lib.hid hR5; have HG5 := Lib.hid (G.trans (G.below (r := some r) ((Dr.refl w).drew.below _)) hg5)
  clear r5 hR5 hg5
  dsimp only
  refine hK.out _ _ (fun h => absurd h (by decide)) ?_
  clear hK K
  try simp only [Act.put, List.setIfInBounds_toArray, List.set_cons_zero, List.set_cons_succ]
  repeat (refine mix_pure ?_ (by rfl) (fun w4 => ?_) ?_; rotate_left; (focus (go_simp; try with_reducible rfl)); simp only [Act.put, List.setIfInBounds_toArray, List.set_cons_zero, List.set_cons_succ])
  refine mix_nil ?_
  have hsl0 := sl_length hn
  have HSL := Lib.hid hsl0
  rw [HSL.out]
  obtain ⟨xv, hv⟩ := hv
  have HV := Lib.hid hv
  clear hv hsl0
  go_wp2
  go_loopg [2, 3, 4, 10] 1 (fun gk u _ _ i wr => wr = w5 ∧ ∃ k : Nat, k ≤ 1 ∧ gk = 1 - k ∧ i = .int .i64 k ∧ u = .int .u64 ((leV (sl b p k) : Nat) : Int))
  case atStart => exact ⟨rfl, 0, Nat.zero_le _, rfl, rfl, by simp [sl, leV]⟩
  case round =>
    obtain ⟨rfl, k, hk, rfl, rfl, rfl⟩ := hrel
    by_cases hlt : k < 1
    · obtain ⟨b5, o5, rfl, hb5, hc5⟩ := HR5.out k (by rw [HSL.out]; exact hlt)
      have hcl : wr.cell? ⟨b5, o5 + k, none⟩ = some (.int .u8 ((b.getD (p + k) 0 : Nat) : Int)) := by
        rw [hc5]; show some (Value.int .u8 _) = some (Value.int .u8 _); rw [sl_get hlt]
      have hx8 := getD_256 HX.out (p + k)
      have HN := Lib.hid (leV_next (b := b) (p := p) (k := k) (by omega))
      have hul : leV (sl b p k) < 256 ^ k := by
        have h := leV_lt (sl b p k) fun x hx => HX.out x (sl_mem hx)
        rwa [sl_length (by omega)] at h
      clear hc5
      generalize b.getD (p + k) 0 = x at *
      generalize leV (sl b p k) = u at *
      have h4 : k = 0 := by omega
      rcases h4 with rfl
      · have hor : bits .or .u64 (u : Int) (x : Int) = ((u + x * 256 ^ 0 : Nat) : Int) := by
          rw [show ((x : Int) : Int) = ((x * 256 ^ 0 : Nat) : Int) by omega, u64_or_nat u (x * 256 ^ 0) (by omega) (by omega), or_shift 0 hul]
        simp only [Nat.add_zero] at hcl
        go_wp2
        go_roundg (1 - (0 + 1))
        case measure => omega
        case rel => exact ⟨rfl, 0 + 1, by omega, rfl, by go_num, by rw [HN.out]; exact congrArg (Value.int .u64) (by omega)⟩
    · have hkn : k = 1 := by omega
      subst hkn
      have HNUM := Lib.hid (show leV (sl b p 1) = num b p 1 from rfl)
      have hnl : leV (sl b p 1) < 256 ^ 1 := by
        have h := leV_lt (sl b p 1) fun x hx => HX.out x (sl_mem hx)
        rwa [sl_length (by omega)] at h
      generalize leV (sl b p 1) = u at *
      have hcv : IntKind.u8.wrap (u : Int) = (u : Int) := by rw [IntKind.wrap_u8]; omega
      have hpv : wr.heap[pv]? = some (.cells #[.int .u8 xv] 5 (0, 0)) := by
        rw [HG5.out.block pv (Array.getElem?_eq_some_iff.1 HV.out).1 (fun e => hne (Option.some.inj e))]; exact HV.out
      have hpc : wr.cell? ⟨pv, 0, none⟩ = some (.int .u8 xv) := by simp [World.cell?, hpv]
      have hpf : wr.frozen? ⟨pv, 0, none⟩ = false := by simp [World.frozen?, hpv]
      have HH := Lib.hid hpv
      clear hpv
      go_wp2
      go_end0
      exact ⟨rfl, wr, HG5.out, HRD5.out, by rw [← HNUM.out]⟩
theorem run_own_call {f : FuncId} {fn : Func} (hf : Try.prog.funcs[f]? = some fn) (hname : (fn.name == "runtime.NumGoroutine") = false) (hb : fn.body.isNone = false) (args : Array Value) (w : World) : (callFunc f args).run Try.prog w = .ok (.enter f args) w := by
  have hne : fn.name ≠ "runtime.NumGoroutine" := by simpa using hname
  have hb' : ¬ fn.body = none := by intro e; rw [e] at hb; cases hb
  simp [callFunc, hf, hne, hb']
theorem G.setNew {w w1 : World} {r : Option Nat} (h : w.grownBy w1 r) {a : Addr} (ha : w.heap.size ≤ a.block) (v : Value) : w.grownBy (w1.setCell a v) r :=
  ⟨h.os, h.tape, h.output, by simpa using h.size, fun k hk hne => by rw [Below.heap_setCell _ _ _ _ (by omega)]; exact h.block k hk hne⟩
theorem RdAt.setFar {w0 w : World} {r : Nat} {A : Option Addr} {b : List Nat} {c p p0 : Nat} (h0 : RdAt w0 r A b c p0) (h : RdAt w r A b c p) {a : Addr} (ha : w0.heap.size ≤ a.block) (v : Value) : RdAt (w.setCell a v) r A b c p := by
  have hr := h0.lt
  refine ⟨by rw [Below.heap_setCell _ _ _ _ (by omega)]; exact h.heap, fun i hi => ?_, h.cap⟩
  obtain ⟨bk, o, e, hb, hc⟩ := h.rl i hi
  obtain ⟨bk0, o0, e0, hb0, _⟩ := h0.rl i hi
  rw [e] at e0
  injection e0 with e0
  injection e0 with e1 e2
  subst e1
  refine ⟨bk, o, e, by simpa using hb, ?_⟩
  rw [← hc]
  exact World.cell?_of_block (a := ⟨bk, o + i, none⟩) (Below.heap_setCell _ _ _ _ (by show bk ≠ a.block; omega))
set_option maxRecDepth 100000 in
set_option maxHeartbeats 2000000 in
theorem take32_any (r : Nat) (A : Option Addr) (b : List Nat) (c p : Nat) (w : World) (hR : RdAt w r A b c p) (hn : p + 4 ≤ b.length) (hbl : b.length ≤ 150000000000000) (hc : c ≤ maxLen) (hx : ∀ x ∈ b, x < 256) :
    Calls Try.prog 76 #[.pointer (some ⟨r, 0, none⟩)] w fun e w' => e = .returned (.int .u32 (num b p 4 : Nat)) ∧ RdAt w' r A b c (p + 4) ∧ w.grownBy w' (some r) := by
  have hmf : ∀ (fn : Fn) (first cap : Array Value) (w : World), (Instr.makeFunc fn first cap).run Try.prog w = .ok (.func fn first cap) w := fun _ _ _ _ => rfl
  have hbA := ((Below.refl w.heap.size w).alloc (Nat.le_refl _) (.cells #[.pointer (some ⟨r, 0, none⟩)] 117)).alloc (by simp) (.cells #[.int .u32 0] 78)
  have hlt := hR.lt
  have HR := Lib.hid hR
  have HX := Lib.hid hx
  go_enter Try.func76, Try.ntmps76
  go_wp2_with fail
  obtain ⟨wA, hwA⟩ : ∃ wA, wA = (w.alloc (.cells #[.pointer (some ⟨r, 0, none⟩)] 117)).alloc (.cells #[.int .u32 0] 78) := ⟨_, rfl⟩
  have hbox : wA.cell? ⟨w.heap.size, 0, none⟩ = some (.pointer (some ⟨r, 0, none⟩)) := by rw [hwA]; go_simp
  have hvar : wA.heap[w.heap.size + 1]? = some (.cells #[.int .u32 0] 78 (0, 0)) := by
    rw [hwA]
    have := heap_alloc_new (w.alloc (.cells #[.pointer (some ⟨r, 0, none⟩)] 117)) (.cells #[.int .u32 0] 78 (0, 0))
    simpa using this
  have hsz : wA.heap.size = w.heap.size + 2 := by rw [hwA]; simp
  rw [← hwA] at hbA ⊢
  clear hwA hR hx
  refine (reading_any r A b c p 85 #[.pointer (some ⟨w.heap.size, 0, none⟩), .pointer (some ⟨w.heap.size + 1, 0, none⟩)] wA
    (fun w2 w' => ∃ w1, w2.grownBy w1 (some r) ∧ RdAt w1 r A b c (p + 4) ∧ w' = w1.setCell ⟨w.heap.size + 1, 0, none⟩ (.int .u32 (num b p 4 : Nat)))
    (HR.out.below hbA) (run_own_call Try.func85 (by kernel_rfl) (by kernel_rfl) _) (fun w2 hb => tk32_any r A b c p w.heap.size (w.heap.size + 1) w2 ((HR.out.below hbA).below hb) ((hb.cell (p := ⟨w.heap.size, 0, none⟩) (by show w.heap.size < _; omega)).trans hbox) ⟨0, by rw [hb.block _ (by omega)]; exact hvar⟩ (by omega) hn hbl hc HX.out)).mono ?_
  rintro e w' ⟨rfl, w2, hb2, w1, hg, hR1, rfl⟩
  have hv1 : w1.heap[w.heap.size + 1]? = some (.cells #[.int .u32 0] 78 (0, 0)) := by
    rw [hg.block _ (by have := hb2.size; omega) (fun e => by injection e with e; omega), hb2.block _ (by omega)]; exact hvar
  have HRF := Lib.hid (RdAt.setFar HR.out hR1 (a := ⟨w.heap.size + 1, 0, none⟩) (Nat.le_succ _) (.int .u32 (num b p 4 : Nat)))
  have hbAll := hbA.trans (hb2.mono hbA.size)
  have HG := Lib.hid (G.setNew (G.trans (G.below (r := some r) hbAll) ⟨hg.os, hg.tape, hg.output, hg.size, hg.block⟩) (a := ⟨w.heap.size + 1, 0, none⟩) (Nat.le_succ _) (.int .u32 (num b p 4 : Nat)))
  have hcl : (w1.setCell ⟨w.heap.size + 1, 0, none⟩ (.int .u32 (num b p 4 : Nat))).cell? ⟨w.heap.size + 1, 0, none⟩ = some (.int .u32 (num b p 4 : Nat)) := by
    have : (w1.setCell ⟨w.heap.size + 1, 0, none⟩ (.int .u32 (num b p 4 : Nat))).heap[w.heap.size + 1]? = some (.cells #[.int .u32 (num b p 4 : Nat)] 78 (0, 0)) := by simp [World.setCell, hv1, Array.getElem?_modify]
    simp [World.cell?, this]
  generalize w1.setCell ⟨w.heap.size + 1, 0, none⟩ (.int .u32 (num b p 4 : Nat)) = wF at *
  obtain ⟨nn, hnn⟩ : ∃ nn, nn = num b p 4 := ⟨_, rfl⟩
  rw [← hnn] at hcl
  have HNN := Lib.hid hnn
  clear hnn hv1 hg hR1 hb2 hbox hvar hbAll hbA
  go_wp2
  go_ret
  exact ⟨by rw [← HNN.out]; rfl, HRF.out, HG.out⟩
set_option maxRecDepth 100000 in
set_option maxHeartbeats 2000000 in
theorem take8_any (r : Nat) (A : Option Addr) (b : List Nat) (c p : Nat) (w : World) (hR : RdAt w r A b c p) (hn : p + 1 ≤ b.length) (hbl : b.length ≤ 150000000000000) (hc : c ≤ maxLen) (hx : ∀ x ∈ b, x < 256) :
    Calls Try.prog 75 #[.pointer (some ⟨r, 0, none⟩)] w fun e w' => e = .returned (.int .u8 (num b p 1 : Nat)) ∧ RdAt w' r A b c (p + 1) ∧ w.grownBy w' (some r) := by
  have hmf : ∀ (fn : Fn) (first cap : Array Value) (w : World), (Instr.makeFunc fn first cap).run Try.prog w = .ok (.func fn first cap) w := fun _ _ _ _ => rfl
  have hbA := ((Below.refl w.heap.size w).alloc (Nat.le_refl _) (.cells #[.pointer (some ⟨r, 0, none⟩)] 117)).alloc (by simp) (.cells #[.int .u8 0] 5)
  have hlt := hR.lt
  have HR := Lib.hid hR
  have HX := Lib.hid hx
  go_enter Try.func75, Try.ntmps75
  go_wp2_with fail
  obtain ⟨wA, hwA⟩ : ∃ wA, wA = (w.alloc (.cells #[.pointer (some ⟨r, 0, none⟩)] 117)).alloc (.cells #[.int .u8 0] 5) := ⟨_, rfl⟩
  have hbox : wA.cell? ⟨w.heap.size, 0, none⟩ = some (.pointer (some ⟨r, 0, none⟩)) := by rw [hwA]; go_simp
  have hvar : wA.heap[w.heap.size + 1]? = some (.cells #[.int .u8 0] 5 (0, 0)) := by
    rw [hwA]
    have := heap_alloc_new (w.alloc (.cells #[.pointer (some ⟨r, 0, none⟩)] 117)) (.cells #[.int .u8 0] 5 (0, 0))
    simpa using this
  have hsz : wA.heap.size = w.heap.size + 2 := by rw [hwA]; simp
  rw [← hwA] at hbA ⊢
  clear hwA hR hx
  refine (reading_any r A b c p 83 #[.pointer (some ⟨w.heap.size, 0, none⟩), .pointer (some ⟨w.heap.size + 1, 0, none⟩)] wA
    (fun w2 w' => ∃ w1, w2.grownBy w1 (some r) ∧ RdAt w1 r A b c (p + 1) ∧ w' = w1.setCell ⟨w.heap.size + 1, 0, none⟩ (.int .u8 (num b p 1 : Nat)))
    (HR.out.below hbA) (run_own_call Try.func83 (by kernel_rfl) (by kernel_rfl) _) (fun w2 hb => tk8_any r A b c p w.heap.size (w.heap.size + 1) w2 ((HR.out.below hbA).below hb) ((hb.cell (p := ⟨w.heap.size, 0, none⟩) (by show w.heap.size < _; omega)).trans hbox) ⟨0, by rw [hb.block _ (by omega)]; exact hvar⟩ (by omega) hn hbl hc HX.out)).mono ?_
  rintro e w' ⟨rfl, w2, hb2, w1, hg, hR1, rfl⟩
  have hv1 : w1.heap[w.heap.size + 1]? = some (.cells #[.int .u8 0] 5 (0, 0)) := by
    rw [hg.block _ (by have := hb2.size; omega) (fun e => by injection e with e; omega), hb2.block _ (by omega)]; exact hvar
  have HRF := Lib.hid (RdAt.setFar HR.out hR1 (a := ⟨w.heap.size + 1, 0, none⟩) (Nat.le_succ _) (.int .u8 (num b p 1 : Nat)))
  have hbAll := hbA.trans (hb2.mono hbA.size)
  have HG := Lib.hid (G.setNew (G.trans (G.below (r := some r) hbAll) ⟨hg.os, hg.tape, hg.output, hg.size, hg.block⟩) (a := ⟨w.heap.size + 1, 0, none⟩) (Nat.le_succ _) (.int .u8 (num b p 1 : Nat)))
  have hcl : (w1.setCell ⟨w.heap.size + 1, 0, none⟩ (.int .u8 (num b p 1 : Nat))).cell? ⟨w.heap.size + 1, 0, none⟩ = some (.int .u8 (num b p 1 : Nat)) := by
    have : (w1.setCell ⟨w.heap.size + 1, 0, none⟩ (.int .u8 (num b p 1 : Nat))).heap[w.heap.size + 1]? = some (.cells #[.int .u8 (num b p 1 : Nat)] 5 (0, 0)) := by simp [World.setCell, hv1, Array.getElem?_modify]
    simp [World.cell?, this]
  generalize w1.setCell ⟨w.heap.size + 1, 0, none⟩ (.int .u8 (num b p 1 : Nat)) = wF at *
  obtain ⟨nn, hnn⟩ : ∃ nn, nn = num b p 1 := ⟨_, rfl⟩
  rw [← hnn] at hcl
  have HNN := Lib.hid hnn
  clear hnn hv1 hg hR1 hb2 hbox hvar hbAll hbA
  go_wp2
  go_ret
  exact ⟨by rw [← HNN.out]; rfl, HRF.out, HG.out⟩
end Go.Proofs.Ytbioanbokbhmgaa

/- The reader of bytes: Bytes, Open: the walks. Conditions: that there are so many bytes. -/
namespace Go.Proofs.Ytbioanbokbhmgaa
open Go.RowKit

theorem setCell_same {w : World} {a : Addr} {v : Value} (h : w.cell? a = some v) (hf : w.frozen? a = false) : w.setCell a v = w := by
  have _ := hf
  obtain ⟨b, o, sp⟩ := a
  have hs : sp = none := World.cell?_spot h
  subst hs
  unfold World.cell? at h
  cases hb : w.heap[b]? with
  | none => simp [hb] at h
  | some x =>
    rw [hb] at h
    cases x with
    | cells c t f =>
      have hlt := (Array.getElem?_eq_some_iff.1 hb).1
      have hc : c[o]? = some v := by simpa using h
      have hset : c.setIfInBounds o v = c := by
        apply Array.ext_getElem?
        intro i
        rw [Array.getElem?_setIfInBounds]
        by_cases e : o = i
        · subst e; simp only [if_true]; split
          · exact hc.symm
          · rw [Array.getElem?_eq_none (by omega)]
        · rw [if_neg e]
      have hm : (w.setCell ⟨b, o, none⟩ v).heap = w.heap := by
        apply Array.ext_getElem?
        intro i
        by_cases e : b = i
        · subst e; simp [World.setCell, hb, Array.getElem?_modify, hset]
        · exact Below.heap_setCell _ _ _ _ (fun e' => e e'.symm)
      show ({ w with heap := (w.setCell ⟨b, o, none⟩ v).heap } : World) = w
      rw [hm]
    | _ => simp at h
set_option maxRecDepth 100000 in
set_option maxHeartbeats 2000000 in
theorem by_any (r : Nat) (A : Option Addr) (b : List Nat) (c p n pn pr pv : Nat) (w : World) (hR : RdAt w r A b c p) (hboxn : w.cell? ⟨pn, 0, none⟩ = some (.int .i64 (n : Int))) (hbox : w.cell? ⟨pr, 0, none⟩ = some (.pointer (some ⟨r, 0, none⟩))) (hv : w.heap[pv]? = some (.cells #[.slice none 0 0] 47 (0, 0)))
    (hne : pv ≠ r) (_hnn : pn ≠ r) (_hnr : pr ≠ r) (h0 : 0 < n) (hn : p + n ≤ b.length) (hbl : b.length ≤ 150000000000000) (hc : c ≤ maxLen) :
    Calls Try.prog 80 #[.pointer (some ⟨pn, 0, none⟩), .pointer (some ⟨pr, 0, none⟩), .pointer (some ⟨pv, 0, none⟩)] w fun e w' => e = .returned (.tuple #[]) ∧ ∃ w1 o, w.grownBy w1 (some r) ∧ RdAt w1 r A b c (p + n) ∧ OwnB w1 w.heap.size o (sl b p n) ∧ w' = w1.setCell ⟨pv, 0, none⟩ o := by
  have HTK := Lib.hid (take_any r A b c p n w hR h0 hn (by omega) hc)
  have HR := Lib.hid hR
  have HV := Lib.hid hv
  have hpr : pr < w.heap.size := by
    cases h : w.heap[pr]? with
    | none => simp [World.cell?, h] at hbox
    | some x => exact (Array.getElem?_eq_some_iff.1 h).1
  have hge : (0 : Int) ≤ (n : Int) := by omega
  have hcv : IntKind.u64.wrap (n : Int) = (n : Int) := by rw [IntKind.wrap_u64]; omega
  clear hR hv
  go_enter Try.func80, Try.ntmps80
  go_wp2_with fail
  refine (must_any 2 w).mono ?_
  rintro e w0 ⟨rfl, rfl⟩
  go_wp2_with fail
  refine HTK.out.mono ?_
  rintro e w1 ⟨A1, c1, rfl, r1, hR1, hg1⟩
  have hsl := sl_length hn
  have HR1 := Lib.hid hR1; have HG1 := Lib.hid hg1; have Hr1 := Lib.hid r1
  clear r1 hR1 hg1 hboxn hbox
  obtain ⟨l, hl⟩ : ∃ l, l = sl b p n := ⟨_, rfl⟩
  rw [← hl] at Hr1 hsl ⊢
  have hll : l.length ≤ 150000000000000 := by omega
  have HLL := Lib.hid hl
  clear hl hsl
  go_wp2_with fail
  refine (clone_any A1 c1 l w1 hll Hr1.out).mono ?_
  rintro e w2 ⟨o, rfl, hO, hb2⟩
  have hsz := HG1.out.size
  have HO := Lib.hid (hO.mono hsz)
  have HG2 := Lib.hid (G.trans HG1.out (G.below (r := some r) hb2))
  have HR2 := Lib.hid (HR1.out.below hb2)
  have hv2 : w2.heap[pv]? = some (.cells #[.slice none 0 0] 47 (0, 0)) := by
    rw [HG2.out.block pv (Array.getElem?_eq_some_iff.1 HV.out).1 (fun e => hne (Option.some.inj e))]; exact HV.out
  have hpc : w2.cell? ⟨pv, 0, none⟩ = some (.slice none 0 0) := by simp [World.cell?, hv2]
  have hpf : w2.frozen? ⟨pv, 0, none⟩ = false := by simp [World.frozen?, hv2]
  obtain ⟨Ao, co, eo, _, _, _, _⟩ := hO.rd
  subst eo
  clear hO hb2 hv2
  go_wp2
  go_end0
  exact ⟨rfl, w2, _, HG2.out, HR2.out, by rw [← HLL.out]; exact HO.out, rfl⟩
set_option maxRecDepth 100000 in
set_option maxHeartbeats 2000000 in
theorem bytes_any (r : Nat) (A : Option Addr) (b : List Nat) (c p n : Nat) (w : World) (hR : RdAt w r A b c p) (h0 : 0 < n) (hn : p + n ≤ b.length) (hbl : b.length ≤ 150000000000000) (hc : c ≤ maxLen) :
    Calls Try.prog 74 #[.pointer (some ⟨r, 0, none⟩), .int .i64 (n : Int)] w fun e w' => ∃ A' c', e = .returned (.slice A' (sl b p n).length c') ∧ RL w' A' (sl b p n) ∧ RdAt w' r A b c (p + n) ∧ w.grownBy w' (some r) := by
  have hmf : ∀ (fn : Fn) (first cap : Array Value) (w : World), (Instr.makeFunc fn first cap).run Try.prog w = .ok (.func fn first cap) w := fun _ _ _ _ => rfl
  have hbA := (((Below.refl w.heap.size w).alloc (Nat.le_refl _) (.cells #[.pointer (some ⟨r, 0, none⟩)] 117)).alloc (by simp) (.cells #[.int .i64 (n : Int)] 3)).alloc (by simp; omega) (.cells #[.slice none 0 0] 47)
  have hlt := hR.lt
  have HR := Lib.hid hR
  go_enter Try.func74, Try.ntmps74
  go_wp2_with fail
  obtain ⟨wA, hwA⟩ : ∃ wA, wA = ((w.alloc (.cells #[.pointer (some ⟨r, 0, none⟩)] 117)).alloc (.cells #[.int .i64 (n : Int)] 3)).alloc (.cells #[.slice none 0 0] 47) := ⟨_, rfl⟩
  have hbox : wA.cell? ⟨w.heap.size, 0, none⟩ = some (.pointer (some ⟨r, 0, none⟩)) := by rw [hwA]; go_simp
  have hboxn : wA.cell? ⟨w.heap.size + 1, 0, none⟩ = some (.int .i64 (n : Int)) := by rw [hwA]; go_simp
  have hvar : wA.heap[w.heap.size + 1 + 1]? = some (.cells #[.slice none 0 0] 47 (0, 0)) := by
    rw [hwA]
    have := heap_alloc_new ((w.alloc (.cells #[.pointer (some ⟨r, 0, none⟩)] 117)).alloc (.cells #[.int .i64 (n : Int)] 3)) (.cells #[.slice none 0 0] 47 (0, 0))
    simpa using this
  have hsz : wA.heap.size = w.heap.size + 3 := by rw [hwA]; simp
  rw [← hwA] at hbA ⊢
  clear hwA hR
  refine (reading_any r A b c p 80 #[.pointer (some ⟨w.heap.size + 1, 0, none⟩), .pointer (some ⟨w.heap.size, 0, none⟩), .pointer (some ⟨w.heap.size + 1 + 1, 0, none⟩)] wA
    (fun w2 w' => ∃ w1 o, w2.grownBy w1 (some r) ∧ RdAt w1 r A b c (p + n) ∧ OwnB w1 w2.heap.size o (sl b p n) ∧ w' = w1.setCell ⟨w.heap.size + 1 + 1, 0, none⟩ o)
    (HR.out.below hbA) (run_own_call Try.func80 (by kernel_rfl) (by kernel_rfl) _) (fun w2 hb => by_any r A b c p n (w.heap.size + 1) w.heap.size (w.heap.size + 1 + 1) w2 ((HR.out.below hbA).below hb) ((hb.cell (p := ⟨w.heap.size + 1, 0, none⟩) (by show w.heap.size + 1 < _; omega)).trans hboxn) ((hb.cell (p := ⟨w.heap.size, 0, none⟩) (by show w.heap.size < _; omega)).trans hbox) (by rw [hb.block _ (by omega)]; exact hvar) (by omega) (by omega) (by omega) h0 hn hbl hc)).mono ?_
  rintro e w' ⟨rfl, w2, hb2, w1, o, hg, hR1, hO1, rfl⟩
  have hsz2 := hb2.size
  have hv1 : w1.heap[w.heap.size + 1 + 1]? = some (.cells #[.slice none 0 0] 47 (0, 0)) := by
    rw [hg.block _ (by omega) (fun e => by injection e with e; omega), hb2.block _ (by omega)]; exact hvar
  have HRF := Lib.hid (RdAt.setFar HR.out hR1 (a := ⟨w.heap.size + 1 + 1, 0, none⟩) (by show w.heap.size ≤ w.heap.size + 1 + 1; omega) o)
  have hbAll := hbA.trans (hb2.mono hbA.size)
  have HG := Lib.hid (G.setNew (G.trans (G.below (r := some r) hbAll) ⟨hg.os, hg.tape, hg.output, hg.size, hg.block⟩) (a := ⟨w.heap.size + 1 + 1, 0, none⟩) (by show w.heap.size ≤ w.heap.size + 1 + 1; omega) o)
  have hheap : (w1.setCell ⟨w.heap.size + 1 + 1, 0, none⟩ o).heap[w.heap.size + 1 + 1]? = some (.cells #[o] 47 (0, 0)) := by simp [World.setCell, hv1, Array.getElem?_modify]
  have hcl : (w1.setCell ⟨w.heap.size + 1 + 1, 0, none⟩ o).cell? ⟨w.heap.size + 1 + 1, 0, none⟩ = some o := by simp [World.cell?, hheap]
  have hfz : (w1.setCell ⟨w.heap.size + 1 + 1, 0, none⟩ o).frozen? ⟨w.heap.size + 1 + 1, 0, none⟩ = false := by simp [World.frozen?, hheap]
  have hOF : OwnB (w1.setCell ⟨w.heap.size + 1 + 1, 0, none⟩ o) w2.heap.size o (sl b p n) := by
    refine hO1.keptRow (r := some (w.heap.size + 1 + 1)) ⟨rfl, rfl, rfl, by simp, fun k _ hk => Below.heap_setCell _ _ _ _ (fun e => hk (by rw [e]))⟩ ?_
    cases ho : o.ownBlock with
    | none => exact .inl rfl
    | some k => exact .inr (fun e => by injection e with e; have := (hO1.lt k ho).1; omega)
  obtain ⟨A', c', e', _, _, r', _⟩ := hOF.rd
  subst e'
  have Hr' := Lib.hid r'
  have HBK := Lib.hid hheap
  generalize w1.setCell ⟨w.heap.size + 1 + 1, 0, none⟩ (.slice A' (sl b p n).length c') = wF at *
  clear hv1 hg hR1 hb2 hbox hvar hbAll hbA hO1 hOF r' hheap
  have hself : wF.setCell ⟨w.heap.size + 1 + 1, 0, none⟩ (.slice A' (sl b p n).length c') = wF := setCell_same hcl hfz
  obtain ⟨l, hl⟩ : ∃ l, l = sl b p n := ⟨_, rfl⟩
  rw [← hl] at hcl hself Hr'
  have HLL := Lib.hid hl
  clear hl
  go_wp2
  exact bodyPost_ret (v := .slice A' l.length c') (by simp [results, Try.results74, go_sem, hcl]) rfl ⟨A', c', by rw [← HLL.out], by rw [← HLL.out]; exact Hr'.out, HRF.out, HG.out⟩
set_option maxRecDepth 100000 in
set_option maxHeartbeats 2000000 in
theorem open_any (A : Option Addr) (c : Nat) (b : List Nat) (w : World) (hbl : b.length ≤ 150000000000000) (hA : RL w A b) :
    Calls Try.prog 73 #[.slice A b.length c] w fun e w' => ∃ r A' c', e = .returned (.pointer (some ⟨r, 0, none⟩)) ∧ RdAt w' r A' b c' 0 ∧ Below w.heap.size w w' ∧ w.heap.size ≤ r ∧ c' ≤ maxLen := by
  have HC := Lib.hid (clone_any A c b w hbl hA)
  clear hA
  go_enter Try.func73, Try.ntmps73
  go_wp2_with fail
  refine HC.out.mono ?_
  rintro e w1 ⟨o, rfl, hO, hb1⟩
  obtain ⟨A1, c1, e1, hc1, hm1, r1, _⟩ := hO.rd
  subst e1
  have HR := Lib.hid (show RdAt (w1.alloc (.cells #[.slice A1 b.length c1, .int .i64 0, .int .i64 0] 127)) w1.heap.size A1 b c1 0 from ⟨heap_alloc_new _ _, r1.below ((Below.refl _ _).alloc (Nat.le_refl _) _), hc1⟩)
  have HB := Lib.hid (hb1.alloc hb1.size (.cells #[.slice A1 b.length c1, .int .i64 0, .int .i64 0] 127))
  have hsz := hb1.size
  have HM := Lib.hid hm1
  clear hO hb1 r1 hm1
  go_wp2
  go_ret
  exact ⟨w1.heap.size, A1, c1, rfl, HR.out, HB.out, hsz, HM.out⟩
end Go.Proofs.Ytbioanbokbhmgaa
