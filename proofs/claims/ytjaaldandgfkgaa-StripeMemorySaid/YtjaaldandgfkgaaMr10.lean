/- The rows of shards that were answered, gathered. Conditions: as the theorems have them. -/
import Derived.Test.YtjaaldandgfkgaaApi
import Derived.Test.YtjaaldandgfkgaaCop10
namespace Go.Proofs.Ytjaaldandgfkgaa
open Go.RowKit

theorem CopSd.blocks {w w' : World} {B n : Nat} {v : Value} {H : Nat → Hd} {V : Nat → Value} {T U : Nat → Nat} {BL : Nat → List (List Nat)} (h : CopSd w B v n n H V T U BL) (hs : w.heap.size ≤ w'.heap.size) (hb : ∀ k, B ≤ k → k < w.heap.size → w'.heap[k]? = w.heap[k]?) : CopSd w' B v n n H V T U BL :=
  ⟨h.top.blkX fun k hk => hb k (h.top.lt k hk).1 (h.top.lt k hk).2, fun i hi => (h.row i hi).blocks fun k h1 h2 => hb k (Nat.le_trans (h.lo i hi) h1) (Nat.lt_of_lt_of_le h2 (h.le i hi)), h.off, h.ord, fun i hi => Nat.le_trans (h.le i hi) hs, h.lo⟩
theorem OwnSd.marks {w : World} {B g c n : Nat} {H : Nat → Hd} {V : Nat → Value} {BL : Nat → List (List Nat)} {T : Nat → Nat} (h : OwnSd w B g c n H V BL T) : B ≤ g ∧ ∀ i, i ≤ n → g < T i := by
  refine ⟨(h.top.lt g rfl).1, fun i => ?_⟩
  induction i with
  | zero => intro _; exact h.lo
  | succ i ih => intro hi; exact Nat.lt_of_lt_of_le (ih (by omega)) (h.mono i (by omega))
theorem getD_mapR {n : Nat} {f : Nat → Rw} {j : Nat} (hj : j < n) : ((List.range n).map f).getD j rw0 = f j := by simp [List.getD, hj]
theorem getL_mem {LL : List (List Nat)} {i : Nat} (hi : i < LL.length) : LL.getD i [] ∈ LL := by
  rw [List.getD_eq_getElem?_getD, List.getElem?_eq_getElem hi]
  exact List.getElem_mem hi
/-- The blocks of a shard as rows. -/
theorem ar_ofBk {w : World} {B T : Nat} {v : Value} {LL : List (List Nat)} (h : OwnBk w B T v LL) : ∃ (R : List Rw) (A : Option Addr) (c : Nat), v = .slice A R.length c ∧ R.length = LL.length ∧ Rd w A R.length (fun j => (R.getD j rw0).v) ∧ AR w B 5 (fun k => B ≤ k ∧ k < T ∧ k < w.heap.size) R ∧ ∀ r ∈ R, ∃ l ∈ LL, r.n = l.length := by
  obtain ⟨⟨S, C, h1, h2⟩, _⟩ := h
  obtain ⟨A, c, e, _, _, hr, _⟩ := h1.top.rd
  have hlen : ((List.range LL.length).map fun i => (⟨S i, (LL.getD i []).length, C i, fun q => .int .u8 (((LL.getD i []).getD q 0 : Nat) : Int)⟩ : Rw)).length = LL.length := by simp
  refine ⟨(List.range LL.length).map fun i => ⟨S i, (LL.getD i []).length, C i, fun q => .int .u8 (((LL.getD i []).getD q 0 : Nat) : Int)⟩, A, c, by rw [hlen]; exact e, hlen, ?_, ⟨fun r hr' => ?_, ?_, fun r hr' k hk => ?_⟩, fun r hr' => ?_⟩
  · intro j hj
    rw [hlen] at hj
    obtain ⟨b, o, e1, hb, hc⟩ := hr j hj
    exact ⟨b, o, e1, hb, by dsimp only; rw [getD_mapR hj]; exact hc⟩
  · obtain ⟨i, hi, rfl⟩ := List.mem_map.1 hr'
    exact (h1.row i (List.mem_range.1 hi)).own
  · rw [List.pairwise_map]
    exact List.pairwise_iff_getElem.2 fun i j hi hj hij k hk => by
      rw [List.getElem_range] at hk ⊢
      exact h1.apart i j hij (by simpa using hj) k hk
  · obtain ⟨i, hi, rfl⟩ := List.mem_map.1 hr'
    have hi := List.mem_range.1 hi
    exact ⟨((h1.row i hi).lt k hk).1, h2 i hi k hk, ((h1.row i hi).lt k hk).2⟩
  · obtain ⟨i, hi, rfl⟩ := List.mem_map.1 hr'
    exact ⟨_, getL_mem (List.mem_range.1 hi), rfl⟩
/-- The list of the blocks as a row. -/
theorem hd_ofBk {w : World} {B T : Nat} {v : Value} {LL : List (List Nat)} (h : OwnBk w B T v LL) : ∃ r : Rw, v = r.v ∧ r.n = LL.length ∧ AR w B 43 (fun k => B ≤ k ∧ k < T ∧ k < w.heap.size) [r] := by
  obtain ⟨⟨S, C, h1, _⟩, h3⟩ := h
  obtain ⟨A, c, e, _, _, _, _⟩ := h1.top.rd
  refine ⟨⟨A, LL.length, c, rowV S C LL⟩, e, rfl, AR.one (by have := h1.top; rw [e] at this; exact this) fun k hk => ?_⟩
  rw [← e] at hk
  exact ⟨(h1.top.lt k hk).1, h3 k hk, (h1.top.lt k hk).2⟩
/-- The rows and the list of shard i. -/
theorem sd_rows {w : World} {B g c n : Nat} {H : Nat → Hd} {V : Nat → Value} {BL : Nat → List (List Nat)} {T : Nat → Nat} (h : OwnSd w B g c n H V BL T) {i : Nat} (hi : i < n) :
    ∃ (R : List Rw) (A : Option Addr) (d : Nat) (f : Nat → Value), V i = .slice A R.length d ∧ R.length = (BL i).length ∧ Rd w A R.length (fun j => (R.getD j rw0).v) ∧ AR w B 5 (fun k => B ≤ k ∧ k < w.heap.size ∧ T i ≤ k ∧ k < T (i + 1)) R ∧ (∀ r ∈ R, ∃ l ∈ BL i, r.n = l.length) ∧
      AR w B 43 (fun k => B ≤ k ∧ k < w.heap.size ∧ T i ≤ k ∧ k < T (i + 1)) [⟨A, R.length, d, f⟩] := by
  obtain ⟨h1, h2⟩ := h.marks
  have h3 := h2 i (by omega)
  obtain ⟨R, A, d, e, hl, hr, hA, hn⟩ := ar_ofBk (h.blk i hi)
  obtain ⟨⟨A', n', d', f⟩, e', hn', hA'⟩ := hd_ofBk (h.blk i hi)
  rw [e] at e'
  unfold Rw.v at e'
  injection e' with e1 e2 e3
  replace e1 : A = A' := e1
  replace e2 : R.length = n' := e2
  replace e3 : d = d' := e3
  subst e1 e2 e3
  exact ⟨R, A, d, f, e, hl, hr, (hA.monoB (by omega)).mono fun k hk => by (try dsimp only at *); omega, hn, (hA'.monoB (by omega)).mono fun k hk => by (try dsimp only at *); omega⟩
/-- Where the rows gathered lie. -/
def Ua (lb hb lo1 hi1 lo2 hi2 lo3 hi3 t1 t2 t3 k : Nat) : Prop := (lb ≤ k ∧ k < hb) ∨ (lo1 ≤ k ∧ k < hi1 ∧ k < t1) ∨ (lo2 ≤ k ∧ k < hi2 ∧ k < t2) ∨ (lo3 ≤ k ∧ k < hi3 ∧ k < t3)
theorem AR.app3 {w : World} {B e lb hb lo1 hi1 lo2 hi2 lo3 hi3 t1 t2 t3 s1 s2 s3 : Nat} {R R1 R2 R3 : List Rw} (o1 : hi1 ≤ lo2) (l2 : lo2 ≤ hi2) (o2 : hi2 ≤ lo3) (l3 : lo3 ≤ hi3) (o3 : hi3 ≤ lb) (m1 : t1 ≤ s1) (m2 : t2 ≤ s2) (m3 : t3 ≤ s3) (h : AR w B e (Ua lb hb lo1 hi1 lo2 hi2 lo3 hi3 t1 t2 t3) R)
    (h1 : AR w B e (fun k => lo1 ≤ k ∧ k < hi1 ∧ t1 ≤ k ∧ k < s1) R1) (h2 : AR w B e (fun k => lo2 ≤ k ∧ k < hi2 ∧ t2 ≤ k ∧ k < s2) R2) (h3 : AR w B e (fun k => lo3 ≤ k ∧ k < hi3 ∧ t3 ≤ k ∧ k < s3) R3) :
    AR w B e (Ua lb hb lo1 hi1 lo2 hi2 lo3 hi3 s1 s2 s3) (R ++ R1 ++ R2 ++ R3) := by
  have a1 : AR w B e (Ua lb hb lo1 hi1 lo2 hi2 lo3 hi3 s1 t2 t3) (R ++ R1) := h.app h1 (fun k hk hk' => by unfold Ua at hk; (try dsimp only at *); omega) (fun k hk => by unfold Ua at hk ⊢; (try dsimp only at *); omega) (fun k hk => by unfold Ua; (try dsimp only at *); omega)
  have a2 : AR w B e (Ua lb hb lo1 hi1 lo2 hi2 lo3 hi3 s1 s2 t3) (R ++ R1 ++ R2) := a1.app h2 (fun k hk hk' => by unfold Ua at hk; (try dsimp only at *); omega) (fun k hk => by unfold Ua at hk ⊢; (try dsimp only at *); omega) (fun k hk => by unfold Ua; (try dsimp only at *); omega)
  exact a2.app h3 (fun k hk hk' => by unfold Ua at hk; (try dsimp only at *); omega) (fun k hk => by unfold Ua at hk ⊢; (try dsimp only at *); omega) (fun k hk => by unfold Ua; (try dsimp only at *); omega)
/-- An array of headers that was just made. -/
theorem OwnR.made (w : World) (eh : Nat) (C : Array Value) (m : Nat) (R : List Rw) (hC : C.toList = R.map Rw.v) (hm : m = R.length) (hl : R.length ≤ maxLen) : OwnR (w.alloc (.cells C eh)) w.heap.size eh (.slice (some ⟨w.heap.size, 0, none⟩) m m) R := by
  subst hm
  have hs : C.size = R.length := by rw [← Array.length_toList, hC, List.length_map]
  refine ⟨by simp, .inr ⟨w.heap.size, R.length, C, rfl, Nat.le_refl _, heap_alloc_new w _, Nat.le_refl _, hl, by omega, ?_⟩⟩
  rw [hC, List.take_of_length_le (by simp)]
theorem AR.pair {w : World} {B e lo m hi : Nat} {U : Nat → Prop} {R R' : List Rw} (h : AR w B e (fun k => lo ≤ k ∧ k < m) R) (h' : AR w B e (fun k => m ≤ k ∧ k < hi) R') (hU : ∀ k, lo ≤ k → k < hi → U k) (h1 : lo ≤ m) (h2 : m ≤ hi) : AR w B e U (R ++ R') :=
  h.app h' (fun k hk hk' => by (try dsimp only at *); omega) (fun k hk => by (try dsimp only at *); exact hU k (by omega) (by omega)) (fun k hk => by (try dsimp only at *); exact hU k (by omega) (by omega))
theorem OwnR.grown {w w' : World} {B B2 e1 e2 : Nat} {v v2 v' : Value} {R R2 : List Rw} (h : OwnR w B e1 v R) (h2 : OwnR w B2 e2 v2 R2) (hne : e1 ≠ e2) (hat : (v'.ownBlock = v2.ownBlock ∧ w.grownBy w' v2.ownBlock) ∨ (v'.ownBlock = some w.heap.size ∧ w.grownBy w' none)) : OwnR w' B e1 v R := by
  have hg : w.grownBy w' v2.ownBlock := by
    rcases hat with ⟨_, h⟩ | ⟨_, h⟩
    · exact h
    · exact ⟨h.os, h.tape, h.output, h.size, fun k hk _ => h.block k hk (by simp)⟩
  exact OwnR.of (h.own.keptRow hg (own_ne h.own h2.own hne))
theorem OwnR.grw {w w' : World} {B B2 e1 e2 : Nat} {v v2 v' : Value} {R R2 : List Rw} (h : OwnR w B e1 v R) (h2 : OwnR w B2 e2 v2 R2) (hne : e1 ≠ e2) (hat : Grw w w' v2 v') : OwnR w' B e1 v R := OwnR.of (h.own.keptRow hat.gr (own_ne h.own h2.own hne))
theorem Only.trans' {Q X : Nat → Prop} {a b c : World} (h : Only Q a b) (h2 : Only X b c) (hX : ∀ k, X k → Q k) : Only Q a c := h.trans (h2.mono hX)
/-- Rows of another kind were written. -/
theorem Own.past {w w' : World} {B B0 e e' sz sz2 n N : Nat} {v : Value} {F : Nat → List Value} {S : Nat → Option Addr} {L C : Nat → Nat} {G : Nat → Nat → List Value} (h : Own w B e' sz v n F) (hR : ∀ t, t < N → Own w B0 e sz2 (.slice (S t) (L t) (C t)) (L t) (G t)) (hne : e' ≠ e) (ho : Only (RB N S) w w') : Own w' B e' sz v n F :=
  ho.own h fun k hk ⟨t, o, ht, hs⟩ => by
    have h2 := ((hR t ht).off hs).2
    rcases own_ne h (hR t ht) hne with h3 | h3
    · rw [hk] at h3; cases h3
    · exact h3 (by rw [hk, h2])
theorem AR.past {w w' : World} {B B0 e e' N : Nat} {U : Nat → Prop} {R : List Rw} {S : Nat → Option Addr} {L C : Nat → Nat} {G : Nat → Nat → List Value} (h : AR w B e' U R) (hR : ∀ t, t < N → Own w B0 e 1 (.slice (S t) (L t) (C t)) (L t) (G t)) (hne : e' ≠ e) (ho : Only (RB N S) w w') : AR w' B e' U R :=
  ⟨fun r hr => Own.past (h.row r hr) hR hne ho, h.apart, h.inU⟩
theorem OwnR.past {w w' : World} {B B0 e e' N : Nat} {v : Value} {R : List Rw} {S : Nat → Option Addr} {L C : Nat → Nat} {G : Nat → Nat → List Value} (h : OwnR w B e' v R) (hR : ∀ t, t < N → Own w B0 e 1 (.slice (S t) (L t) (C t)) (L t) (G t)) (hne : e' ≠ e) (ho : Only (RB N S) w w') : OwnR w' B e' v R :=
  OwnR.of (Own.past h.own hR hne ho)
theorem Below.setC {w w' : World} {B : Nat} (h : Below B w w') {q : Addr} (hq : B ≤ q.block) (u : Value) : Below B w (w'.setCell q u) :=
  ⟨h.os, h.tape, h.output, by have := h.size; simp; omega, fun k hk => (Below.heap_setCell _ _ _ _ (by omega)).trans (h.block k hk)⟩
end Go.Proofs.Ytjaaldandgfkgaa
