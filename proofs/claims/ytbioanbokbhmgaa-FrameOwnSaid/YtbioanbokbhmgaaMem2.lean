/- Words for memory: slices that are read by index, slices that a call has built; what keeps them. Conditions: none of any program. -/
import Derived.Test.YtbioanbokbhmgaaProg
import Derived.WalkKit
import Derived.WalkSpells
import Derived.WalkLawsBesides
import Derived.Lib.Hide
import Derived.Deep.QuietTactic
import Derived.BigQuiet
import Derived.Deep.LoopGhost
import Derived.Deep.OwnRows
import Derived.Deep.Draws
import Derived.Deep.RegionHeld3
import Derived.StillTailTactics
import Derived.Handy
import Derived.Deep.DeepFit
import Derived.Maps.AppendAt
import Derived.Laws.CopyOwn
namespace Go.Proofs.Ytbioanbokbhmgaa
open Go.RowKit

/-- A slice value's n elements of one cell each, read by index. -/
def Rd (w : World) (A : Option Addr) (n : Nat) (f : Nat → Value) : Prop :=
  ∀ i, i < n → ∃ b o, A = some ⟨b, o, none⟩ ∧ b < w.heap.size ∧ w.cell? ⟨b, o + i, none⟩ = some (f i)

theorem Rd.keep {w w' : World} {A : Option Addr} {n : Nat} {f : Nat → Value} (h : Rd w A n f) (hs : w.heap.size ≤ w'.heap.size)
    (hk : ∀ p : Addr, p.block < w.heap.size → w'.cell? p = w.cell? p) : Rd w' A n f := fun i hi => by
  obtain ⟨b, o, e, hb, hc⟩ := h i hi
  exact ⟨b, o, e, by omega, (hk _ hb).trans hc⟩
theorem Rd.below {w w' : World} {A : Option Addr} {n : Nat} {f : Nat → Value} (h : Rd w A n f) (hb : Below w.heap.size w w') : Rd w' A n f :=
  h.keep hb.size fun _ hp => hb.cell hp
theorem Rd.congr {w : World} {A : Option Addr} {n : Nat} {f g : Nat → Value} (h : Rd w A n f) (e : ∀ i, i < n → f i = g i) : Rd w A n g := fun i hi => by
  obtain ⟨b, o, h1, h2, h3⟩ := h i hi
  exact ⟨b, o, h1, h2, by rw [h3, e i hi]⟩
theorem Rd.zero (w : World) (A : Option Addr) (f : Nat → Value) : Rd w A 0 f := fun i hi => absurd hi (by omega)

/-- What a call has built: n elements of 'sz' cells, element i's cells are 'f i'. -/
def Own (w : World) (B e sz : Nat) (v : Value) (n : Nat) (f : Nat → List Value) : Prop :=
  w.ownsRow B e sz v n ((List.range n).flatMap f)

theorem Own.nil (w : World) (B e sz : Nat) (f : Nat → List Value) : Own w B e sz (.slice none 0 0) 0 f := World.ownsRow_nil _ _ _ _
theorem Own.alloc {w : World} {B e sz : Nat} {v : Value} {n : Nat} {f : Nat → List Value} (h : Own w B e sz v n f) (o : Obj) : Own (w.alloc o) B e sz v n f := World.ownsRow.alloc h o
theorem Own.push {w : World} {B e sz : Nat} {v : Value} {n : Nat} {f : Nat → List Value} (h : w.ownsRow B e sz v (n + 1) ((List.range n).flatMap f ++ f n)) : Own w B e sz v (n + 1) f := by
  unfold Own
  rw [List.range_succ, List.flatMap_append]
  simpa using h
theorem Own.congr {w : World} {B e sz : Nat} {v : Value} {n : Nat} {f g : Nat → List Value} (h : Own w B e sz v n f) (hfg : ∀ i, i < n → f i = g i) : Own w B e sz v n g := by
  have : (List.range n).flatMap f = (List.range n).flatMap g := by
    simp only [List.flatMap]
    congr 1
    exact List.map_congr_left fun i hi => hfg i (List.mem_range.1 hi)
  unfold Own at h ⊢
  rwa [← this]
theorem Own.kept {w w' : World} {B e sz : Nat} {v : Value} {n : Nat} {f : Nat → List Value} (h : Own w B e sz v n f) (hb : Below w.heap.size w w') : Own w' B e sz v n f :=
  World.ownsRow.kept (row := none) h ⟨hb.os, hb.tape, hb.output, hb.size, fun k hk _ => hb.block k hk⟩ (by cases v.ownBlock <;> simp)
theorem Own.keptRow {w w' : World} {B e sz : Nat} {v : Value} {n : Nat} {f : Nat → List Value} (h : Own w B e sz v n f) {r : Option Nat} (hg : w.grownBy w' r) (hr : v.ownBlock = none ∨ v.ownBlock ≠ r) : Own w' B e sz v n f :=
  World.ownsRow.kept h hg hr
theorem Own.mono {w : World} {B B' e sz : Nat} {v : Value} {n : Nat} {f : Nat → List Value} (h : Own w B e sz v n f) (hB : B' ≤ B) : Own w B' e sz v n f := by
  obtain ⟨h1, h2⟩ := h
  refine ⟨h1, ?_⟩
  rcases h2 with h2 | ⟨g, cap, cur, hv, hg, r⟩
  · exact .inl h2
  · exact .inr ⟨g, cap, cur, hv, Nat.le_trans hB hg, r⟩
/-- An owned slice of one-cell elements, read by index. -/
theorem Own.rd {w : World} {B e : Nat} {v : Value} {n : Nat} {f : Nat → Value} (h : Own w B e 1 v n fun i => [f i]) :
    ∃ A c, v = .slice A n c ∧ n ≤ c ∧ c ≤ maxLen ∧ Rd w A n f ∧ (∀ b o, A = some ⟨b, o, none⟩ → B ≤ b) := by
  obtain ⟨h1, h2⟩ := h
  rcases h2 with ⟨rfl, rfl⟩ | ⟨g, cap, cur, rfl, hg, hh, hn, hc, hcur, htake⟩
  · exact ⟨none, 0, rfl, Nat.le_refl _, by unfold maxLen; omega, Rd.zero _ _ _, by intro b o h; cases h⟩
  · refine ⟨_, cap, rfl, hn, hc, fun i hi => ⟨g, 0, rfl, (Array.getElem?_eq_some_iff.1 hh).1, ?_⟩, by intro b o h; injection h with h; injection h with h _ _; omega⟩
    rw [Nat.zero_add, cell_of_row w g i cur e (0, 0) hh]
    have h3 : ((List.range n).flatMap fun i => [f i]) = (List.range n).map f := by
      rw [List.flatMap_def]; induction (List.range n) with
      | nil => rfl
      | cons a l ih => simp [ih]
    rw [h3] at htake
    have h4 : (cur.toList.take (n * 1))[i]? = some (f i) := by rw [htake]; simp [hi]
    rw [List.getElem?_take, if_pos (by omega)] at h4
    simpa using h4

theorem below_row {w w' : World} {B b t n : Nat} {f : Nat → Value} (h : w.rowIs b t n f) (hb : Below B w w') (hB : b < B) : w'.rowIs b t n f := h.of_block (hb.block b hB)

/-- A matrix of the call's own: block b holds the rows' slices, row i lies alone in block S i, whole (n rows; L numbers, M cells a row). -/
structure Mx (w : World) (B b tR e n : Nat) (S : Nat → Nat) (L M : Nat) (f : Nat → Nat → Value) : Prop where
  top : w.rowIs b tR n (fun i => .slice (some ⟨S i, 0, none⟩) L L)
  row : ∀ i, i < n → w.rowIs (S i) e M (f i)
  lob : B ≤ b
  los : ∀ i, i < n → B ≤ S i
  inj : ∀ i j, i < n → j < n → S i = S j → i = j
  off : ∀ i, i < n → S i ≠ b

theorem Mx.congr {w : World} {B b tR e n L M : Nat} {S : Nat → Nat} {f g : Nat → Nat → Value} (h : Mx w B b tR e n S L M f) (hfg : ∀ i j, i < n → j < M → f i j = g i j) : Mx w B b tR e n S L M g :=
  ⟨h.top, fun i hi => (h.row i hi).congr fun j hj => hfg i j hi hj, h.lob, h.los, h.inj, h.off⟩
theorem Mx.keep {w w' : World} {B b tR e n L M : Nat} {S : Nat → Nat} {f : Nat → Nat → Value} (h : Mx w B b tR e n S L M f) (hb : Below w.heap.size w w') : Mx w' B b tR e n S L M f :=
  ⟨below_row h.top hb h.top.lt, fun i hi => below_row (h.row i hi) hb (h.row i hi).lt, h.lob, h.los, h.inj, h.off⟩
theorem Mx.drew {w : World} {B b tR e n L M : Nat} {S : Nat → Nat} {f : Nat → Nat → Value} (h : Mx w B b tR e n S L M f) : Mx w.drew B b tR e n S L M f := ⟨h.top, h.row, h.lob, h.los, h.inj, h.off⟩
theorem Mx.alloc {w : World} {B b tR e n L M : Nat} {S : Nat → Nat} {f : Nat → Nat → Value} (h : Mx w B b tR e n S L M f) (o : Obj) : Mx (w.alloc o) B b tR e n S L M f :=
  h.keep ((Below.refl _ _).alloc (Nat.le_refl _) o)
/-- One cell is written. -/
theorem Mx.set {w : World} {B b tR e n L M : Nat} {S : Nat → Nat} {f : Nat → Nat → Value} (h : Mx w B b tR e n S L M f) {i : Nat} (hi : i < n) (j : Nat) (v : Value) :
    Mx (w.setCell ⟨S i, j, none⟩ v) B b tR e n S L M (fun i' j' => if i' = i ∧ j' = j then v else f i' j') := by
  refine ⟨h.top.setOther (fun e => h.off i hi e.symm) v, fun i' hi' => ?_, h.lob, h.los, h.inj, h.off⟩
  by_cases e : i' = i
  · subst e
    exact ((h.row i' hi').set j v).congr fun j' _ => by simp
  · exact ((h.row i' hi').setOther (fun e' => e (h.inj i' i hi' hi e')) v).congr fun j' _ => by simp [e]
/-- What 'zeros' has made when k of its rows are. -/
structure Zs (w wr : World) (tR e r k L M : Nat) (z : Nat → Value) : Prop where
  below : Below w.heap.size w wr
  size : wr.heap.size = w.heap.size + 1 + k
  top : wr.rowIs w.heap.size tR r (fun i => if i < k then .slice (some ⟨w.heap.size + 1 + i, 0, none⟩) L L else .slice none 0 0)
  row : ∀ i, i < k → wr.rowIs (w.heap.size + 1 + i) e M z

theorem Zs.start (w : World) (tR e r L M : Nat) (z : Nat → Value) : Zs w (w.alloc (.cells (madeCells #[.slice none 0 0] r) tR)) tR e r 0 L M z :=
  ⟨(Below.refl _ _).alloc (Nat.le_refl _) _, by simp, (World.rowIs_made w _ r tR).congr (fun j _ => by simp), fun i hi => absurd hi (by omega)⟩
theorem Zs.step {w wr : World} {tR e r k L M : Nat} {z : Nat → Value} (h : Zs w wr tR e r k L M z) {cs : Array Value}
    (hcs : (wr.alloc (.cells cs e)).rowIs wr.heap.size e M z) :
    Zs w ((wr.alloc (.cells cs e)).setCell ⟨w.heap.size, k, none⟩ (.slice (some ⟨wr.heap.size, 0, none⟩) L L)) tR e r (k + 1) L M z := by
  have hs := h.size
  refine ⟨(h.below.alloc h.below.size _).setCell (Nat.le_refl _) _, by simp [hs]; omega, ((h.top.alloc _).set k _).congr (fun i _ => ?_), fun i hi => ?_⟩
  · by_cases e1 : i = k
    · subst e1; simp [hs]
    · by_cases hlt : i < k
      · simp [e1, hlt, show i < k + 1 by omega]
      · simp [e1, hlt, show ¬ i < k + 1 by omega]
  · by_cases e1 : i = k
    · subst e1
      rw [hs] at hcs
      exact hcs.setOther (by show w.heap.size + 1 + i ≠ w.heap.size; omega) _
    · exact ((h.row i (by omega)).alloc _).setOther (by show w.heap.size + 1 + i ≠ w.heap.size; omega) _
theorem Zs.done {w wr : World} {tR e r L M : Nat} {z : Nat → Value} (h : Zs w wr tR e r r L M z) : Mx wr w.heap.size w.heap.size tR e r (fun i => w.heap.size + 1 + i) L M (fun _ => z) :=
  ⟨h.top.congr fun i hi => by simp [hi], h.row, Nat.le_refl _, fun i _ => by omega, fun i j _ _ e => by omega, fun i _ => by omega⟩

/-- A matrix that is read: n rows, row i has L i numbers of one cell each. -/
def RdM (w : World) (A : Option Addr) (n : Nat) (L : Nat → Nat) (f : Nat → Nat → Value) : Prop :=
  ∃ (S : Nat → Option Addr) (C : Nat → Nat), Rd w A n (fun i => .slice (S i) (L i) (C i)) ∧ ∀ i, i < n → Rd w (S i) (L i) (f i)

theorem RdM.below {w w' : World} {A : Option Addr} {n : Nat} {L : Nat → Nat} {f : Nat → Nat → Value} (h : RdM w A n L f) (hb : Below w.heap.size w w') : RdM w' A n L f := by
  obtain ⟨S, C, h1, h2⟩ := h
  exact ⟨S, C, h1.below hb, fun i hi => (h2 i hi).below hb⟩
theorem row_rd {w : World} {b t n : Nat} {f : Nat → Value} (h : w.rowIs b t n f) : Rd w (some ⟨b, 0, none⟩) n f := fun i hi => ⟨b, 0, rfl, h.lt, by rw [Nat.zero_add]; exact h.cell hi⟩
theorem Mx.rdm {w : World} {B b tR e n L : Nat} {S : Nat → Nat} {f : Nat → Nat → Value} (h : Mx w B b tR e n S L L f) : RdM w (some ⟨b, 0, none⟩) n (fun _ => L) f :=
  ⟨fun i => some ⟨S i, 0, none⟩, fun _ => L, row_rd h.top, fun i hi => row_rd (h.row i hi)⟩

/-! ### append of one element onto what the call has built -/
theorem cells_new (w : World) (C : Array Value) (e : Nat) : ∀ j u, C.toList[j]? = some u → (w.alloc (.cells C e)).cell? ((⟨w.heap.size, 0, none⟩ : Addr).add j) = some u := by
  intro j u hu
  have hadd : (⟨w.heap.size, 0, none⟩ : Addr).add j = ⟨w.heap.size, j, none⟩ := by unfold Addr.add; split <;> simp_all
  rw [hadd, cell_of_row _ _ j C e (0, 0) (heap_alloc_new w _)]
  simpa using hu
section
variable {P : Program}
/-- 'out = append(out, x)': x is C's cells; k elements stood there. -/
theorem wpList_push (w : World) {ops : Array Oper} {rest : List Oper} {o : Oper} {a : Act} {Q : Exit → Act → World → Prop} (hgd : o.guard = none) (s x : Operand) (t : TypeId)
    (ho : o.op = .call { callee := .builtin .append, args := #[s, x], argTypes := #[t, t] })
    (B e sz bytes : Nat) (z : Value) (C : Array Value) (ht : P.underlying t = some (.slice e)) (hinfo : (P.info? e).map (fun i => (i.zero, i.size, i.bytes)) = some (some z, sz, bytes)) (hzs : z.cells.size = sz) (hsz : 0 < sz)
    (v : Value) (k : Nat) (f : Nat → List Value) (hs : a.eval s = v) (hown : Own w B e sz v k f) (hB : B ≤ w.heap.size)
    (N : Nat) (hN : w.heap.size = N) (hx : a.eval x = .slice (some ⟨N, 0, none⟩) 1 1) (hu : C.toList = f k) (hC : C.size = sz) (h1 : C.toList.all Value.oneCell' = true)
    (hk : k < 1000000000000000000) (hbytes : (k + 1) * bytes ≤ 140737488355328)
    (h : ∀ v' w', Own w' B e sz v' (k + 1) f → Below B w w' → w.grownBy w' v.ownBlock → (v'.ownBlock = v.ownBlock ∨ v'.ownBlock = some (w.heap.size + 1)) → wpList P ops Q rest (a.put o.dst v') w') :
    wpList P ops Q (o :: rest) a (w.alloc (.cells C e)) := by
  subst hN
  obtain ⟨i0, hi, hz0, hz1, hz2⟩ := info_parts hinfo
  refine wpList_append_own_at _ hgd s x t ho B e i0 z sz bytes ht hi hz0 hz1 hz2 hzs hsz v k _ hs (hown.alloc _) ⟨w.heap.size, 0, none⟩ 1 1 C.toList hx (by simp [hC]) (cells_new _ _ _) (fun u hu => List.all_eq_true.1 h1 u hu) (by unfold maxLen; omega) hbytes (by simp; omega) ?_
  intro v' w' hown' hg _ hat
  have hg' : w.grownBy w' v.ownBlock := ⟨hg.os, hg.tape, hg.output, by have := hg.size; simp at this; omega, fun i hi hne => by
    rw [hg.block i (by simp; omega) hne]; exact Below.heap_alloc _ _ _ hi⟩
  exact h v' w' (Own.push (by rw [← hu]; exact hown')) ((Below.refl _ _).grown hg' hB (fun g hg => (hown.lt g hg).1)) hg' (by simpa using hat)
end

theorem Own.lt {w : World} {B e sz : Nat} {v : Value} {n : Nat} {f : Nat → List Value} (h : Own w B e sz v n f) : ∀ k, v.ownBlock = some k → B ≤ k ∧ k < w.heap.size := World.ownsRow.lt h
/-- Rows of unlike element types lie apart. -/
theorem own_ne {w : World} {B B' e e' sz sz' n n' : Nat} {v v' : Value} {f f' : Nat → List Value} (h : Own w B e sz v n f) (h' : Own w B' e' sz' v' n' f') (hne : e ≠ e') : v.ownBlock = none ∨ v.ownBlock ≠ v'.ownBlock := by
  rcases h.2 with ⟨rfl, _⟩ | ⟨g, cap, cur, rfl, _, hh, _⟩
  · exact .inl rfl
  · right
    rcases h'.2 with ⟨rfl, _⟩ | ⟨g', cap', cur', rfl, _, hh', _⟩
    · simp [Value.ownBlock]
    · simp only [Value.ownBlock, ne_eq, Option.some.injEq]
      rintro rfl
      rw [hh] at hh'
      injection hh' with hh'
      injection hh' with _ ht
      exact hne ht

/-- An owned slice that is not empty: where it lies; its cells; no cell is frozen; a store into it. -/
theorem Own.form {w : World} {B e sz : Nat} {v : Value} {n : Nat} {f : Nat → List Value} (h : Own w B e sz v n f) (hn : 0 < n) :
    ∃ g c, v = .slice (some ⟨g, 0, none⟩) n c ∧ B ≤ g ∧ g < w.heap.size ∧ n ≤ c ∧ (∀ i, w.frozen? ⟨g, i, none⟩ = false) := by
  rcases h.2 with ⟨_, h0⟩ | ⟨g, cap, cur, rfl, hg, hh, hnc, _⟩
  · omega
  · exact ⟨g, cap, rfl, hg, (Array.getElem?_eq_some_iff.1 hh).1, hnc, fun i => by simp [World.frozen?, hh]⟩
theorem flat1 (n : Nat) (f : Nat → Value) : ((List.range n).flatMap fun i => [f i]) = (List.range n).map f := by
  rw [List.flatMap_def]; induction (List.range n) with
  | nil => rfl
  | cons a l ih => simp [ih]
theorem Own.cell1 {w : World} {B e g c : Nat} {n : Nat} {f : Nat → Value} (h : Own w B e 1 (.slice (some ⟨g, 0, none⟩) n c) n (fun i => [f i])) {i : Nat} (hi : i < n) : w.cell? ⟨g, i, none⟩ = some (f i) := by
  have := World.ownsRow.cellAt h i (by omega)
  rw [this, flat1]
  simp [hi]
theorem Own.set1 {w : World} {B e g c : Nat} {n : Nat} {f : Nat → Value} (h : Own w B e 1 (.slice (some ⟨g, 0, none⟩) n c) n (fun i => [f i])) {i : Nat} (hi : i < n) (u : Value) :
    Own (w.setCell ⟨g, i, none⟩ u) B e 1 (.slice (some ⟨g, 0, none⟩) n c) n (fun j => [if j = i then u else f j]) := by
  have := World.ownsRow.stored h i u
  unfold Own
  rw [flat1] at this ⊢
  have e2 : ((List.range n).map f).set i u = (List.range n).map fun j => if j = i then u else f j := by
    apply List.ext_getElem?
    intro j
    rw [List.getElem?_set]
    by_cases e : i = j
    · subst e; simp [hi]
    · simp only [e, if_false]
      by_cases hj : j < n
      · have e' : ¬ j = i := fun h => e h.symm
        simp [hj, e']
      · simp [hj]
  rw [e2] at this
  exact this.1

def upd {α : Type} (S : Nat → α) (k : Nat) (a : α) (i : Nat) : α := if i = k then a else S i
theorem upd_at {α : Type} (S : Nat → α) (k : Nat) (a : α) : upd S k a k = a := by simp [upd]
theorem upd_ne {α : Type} (S : Nat → α) (k : Nat) (a : α) {i : Nat} (h : i ≠ k) : upd S k a i = S i := by simp [upd, h]

/-- A list of rows that the call builds by append, each row built by append. -/
def OwnM (w : World) (B tR e : Nat) (v : Value) (k : Nat) (S : Nat → Option Addr) (C : Nat → Nat) (L : Nat → Nat) (f : Nat → Nat → Value) : Prop :=
  Own w B tR 1 v k (fun i => [.slice (S i) (L i) (C i)]) ∧ ∀ i, i < k → Own w B e 1 (.slice (S i) (L i) (C i)) (L i) (fun j => [f i j])
theorem OwnM.nil (w : World) (B tR e : Nat) (S : Nat → Option Addr) (C : Nat → Nat) (L : Nat → Nat) (f : Nat → Nat → Value) : OwnM w B tR e (.slice none 0 0) 0 S C L f := ⟨Own.nil _ _ _ _ _, fun i hi => absurd hi (by omega)⟩
theorem OwnM.kept {w w' : World} {B tR e : Nat} {v : Value} {k : Nat} {S : Nat → Option Addr} {C : Nat → Nat} {L : Nat → Nat} {f : Nat → Nat → Value} (h : OwnM w B tR e v k S C L f) (hb : Below w.heap.size w w') : OwnM w' B tR e v k S C L f :=
  ⟨h.1.kept hb, fun i hi => (h.2 i hi).kept hb⟩
theorem OwnM.next {w : World} {B tR e : Nat} {v : Value} {k : Nat} {S : Nat → Option Addr} {C : Nat → Nat} {L : Nat → Nat} {f : Nat → Nat → Value} (h : OwnM w B tR e v k S C L f) (A : Option Addr) (c : Nat) : OwnM w B tR e v k (upd S k A) (upd C k c) L f :=
  ⟨h.1.congr fun i hi => by rw [upd_ne _ _ _ (by omega), upd_ne _ _ _ (by omega)], fun i hi => by rw [upd_ne _ _ _ (by omega), upd_ne _ _ _ (by omega)]; exact h.2 i hi⟩
/-- Behind the append of a row. -/
theorem OwnM.push {w w' : World} {B tR e : Nat} {v v' : Value} {k : Nat} {S : Nat → Option Addr} {C : Nat → Nat} {L : Nat → Nat} {f : Nat → Nat → Value} (hne : e ≠ tR) (h : OwnM w B tR e v k S C L f)
    (hr : Own w B e 1 (.slice (S k) (L k) (C k)) (L k) (fun j => [f k j])) (hown : Own w' B tR 1 v' (k + 1) (fun i => [.slice (S i) (L i) (C i)])) (hg : w.grownBy w' v.ownBlock) : OwnM w' B tR e v' (k + 1) S C L f :=
  ⟨hown, fun i hi => by
    by_cases e1 : i = k
    · subst e1; exact hr.keptRow hg (own_ne hr h.1 hne)
    · exact (h.2 i (by omega)).keptRow hg (own_ne (h.2 i (by omega)) h.1 hne)⟩
theorem OwnM.rdm {w : World} {B tR e : Nat} {v : Value} {k : Nat} {S : Nat → Option Addr} {C : Nat → Nat} {L : Nat → Nat} {f : Nat → Nat → Value} (h : OwnM w B tR e v k S C L f) : ∃ A c, v = .slice A k c ∧ k ≤ c ∧ RdM w A k L f := by
  obtain ⟨A, c, hv, hkc, _, hr, _⟩ := h.1.rd
  refine ⟨A, c, hv, hkc, S, C, hr, fun i hi => ?_⟩
  obtain ⟨A', c', e1, _, _, hr', _⟩ := (h.2 i hi).rd
  injection e1 with e1 _ _
  rw [e1]; exact hr'

/-- w' is w behind some draws. -/
def Dr (w w' : World) : Prop := ∃ m, w' = w.drewN m
theorem Dr.refl (w : World) : Dr w w := ⟨0, rfl⟩
theorem Dr.drewN {w w' : World} (h : Dr w w') (n : Nat) : Dr w (w'.drewN n) := by
  obtain ⟨m, rfl⟩ := h
  exact ⟨m + n, by rw [World.drewN_drewN]⟩
theorem Dr.drew {w w' : World} (h : Dr w w') : Dr w w'.drew := h.drewN 1
theorem Dr.trans {a b c : World} (h : Dr a b) (k : Dr b c) : Dr a c := by
  obtain ⟨m, rfl⟩ := k
  exact h.drewN m
theorem Dr.cell {w w' : World} (h : Dr w w') (p : Addr) : w'.cell? p = w.cell? p := by obtain ⟨m, rfl⟩ := h; rfl
theorem Dr.below {w w' : World} (h : Dr w w') (B : Nat) : Below B w w' := by obtain ⟨m, rfl⟩ := h; exact ⟨rfl, rfl, rfl, Nat.le_refl _, fun _ _ => rfl⟩
theorem Dr.rd {w w' : World} (h : Dr w w') {A : Option Addr} {n : Nat} {f : Nat → Value} (hr : Rd w A n f) : Rd w' A n f := by obtain ⟨m, rfl⟩ := h; exact hr
theorem Dr.below' {w w' w'' : World} (h : Dr w' w'') {B : Nat} (hb : Below B w w') : Below B w w'' := hb.trans (h.below B)
/-- At a quiet region's call. -/
theorem quiet_dr {P : Program} {f : FuncId} {args : Array Value} {w : World} {n : Nat} {v : Value}
    (h : Calls P f args (w.drewN n) fun e w' => e = .returned v ∧ Dr (w.drewN n) w') : Calls P f args (w.drewN n) fun e w'' => e = .returned v ∧ ∃ m, w'' = w.drewN m :=
  h.mono fun _ _ ⟨he, m, hm⟩ => ⟨he, n + m, by rw [hm, World.drewN_drewN]⟩

theorem cell_set_ne {w : World} {p q : Addr} (v : Value) (h : q.block ≠ p.block) : (w.setCell p v).cell? q = w.cell? q := World.cell?_of_block (Below.heap_setCell _ _ _ _ h)

theorem RdM.congr {w : World} {A : Option Addr} {n : Nat} {L : Nat → Nat} {f g : Nat → Nat → Value} (h : RdM w A n L f) (e : ∀ i, i < n → ∀ j, j < L i → f i j = g i j) : RdM w A n L g := by
  obtain ⟨S, C, h1, h2⟩ := h
  exact ⟨S, C, h1, fun i hi => (h2 i hi).congr (e i hi)⟩
theorem RdM.zero (w : World) (A : Option Addr) (L : Nat → Nat) (f : Nat → Nat → Value) : RdM w A 0 L f := ⟨fun _ => none, fun _ => 0, Rd.zero _ _ _, fun i hi => absurd hi (by omega)⟩
theorem RdM.drew {w : World} {A : Option Addr} {n : Nat} {L : Nat → Nat} {f : Nat → Nat → Value} (h : RdM w A n L f) : RdM w.drew A n L f := h
/-- A slice value's n elements of two cells each, read by index. -/
def Rd2 (w : World) (A : Option Addr) (n : Nat) (f g : Nat → Value) : Prop :=
  ∀ i, i < n → ∃ b o, A = some ⟨b, o, none⟩ ∧ b < w.heap.size ∧ w.cell? ⟨b, o + i * 2, none⟩ = some (f i) ∧ w.cell? ⟨b, o + i * 2 + 1, none⟩ = some (g i)
theorem Rd2.below {w w' : World} {A : Option Addr} {n : Nat} {f g : Nat → Value} (h : Rd2 w A n f g) (hb : Below w.heap.size w w') : Rd2 w' A n f g := fun i hi => by
  obtain ⟨b, o, e, hlt, h1, h2⟩ := h i hi
  exact ⟨b, o, e, Nat.lt_of_lt_of_le hlt hb.size, (hb.cell hlt).trans h1, (hb.cell hlt).trans h2⟩
def RdM2 (w : World) (A : Option Addr) (n : Nat) (L : Nat → Nat) (f g : Nat → Nat → Value) : Prop :=
  ∃ (S : Nat → Option Addr) (C : Nat → Nat), Rd w A n (fun i => .slice (S i) (L i) (C i)) ∧ ∀ i, i < n → Rd2 w (S i) (L i) (f i) (g i)
theorem RdM2.below {w w' : World} {A : Option Addr} {n : Nat} {L : Nat → Nat} {f g : Nat → Nat → Value} (h : RdM2 w A n L f g) (hb : Below w.heap.size w w') : RdM2 w' A n L f g := by
  obtain ⟨S, C, h1, h2⟩ := h
  exact ⟨S, C, h1.below hb, fun i hi => (h2 i hi).below hb⟩


theorem Rd2.drew {w : World} {A : Option Addr} {n : Nat} {f g : Nat → Value} (h : Rd2 w A n f g) : Rd2 w.drew A n f g := h
theorem RdM2.drew {w : World} {A : Option Addr} {n : Nat} {L : Nat → Nat} {f g : Nat → Nat → Value} (h : RdM2 w A n L f g) : RdM2 w.drew A n L f g := h
theorem RdM2.zero (w : World) (A : Option Addr) (L : Nat → Nat) (f g : Nat → Nat → Value) : RdM2 w A 0 L f g := ⟨fun _ => none, fun _ => 0, Rd.zero _ _ _, fun i hi => absurd hi (by omega)⟩
theorem Mx.rdm2 {w : World} {B b tR e n L : Nat} {S : Nat → Nat} {f : Nat → Nat → Value} (h : Mx w B b tR e n S L (L * 2) f) : RdM2 w (some ⟨b, 0, none⟩) n (fun _ => L) (fun i j => f i (j * 2)) (fun i j => f i (j * 2 + 1)) :=
  ⟨fun i => some ⟨S i, 0, none⟩, fun _ => L, row_rd h.top, fun i hi j hj => have hj' : j < L := hj; ⟨S i, 0, rfl, (h.row i hi).lt, by rw [Nat.zero_add]; exact (h.row i hi).cell (by omega), by rw [Nat.zero_add]; exact (h.row i hi).cell (by omega)⟩⟩
theorem RdM2.congr {w : World} {A : Option Addr} {n : Nat} {L : Nat → Nat} {f g f' g' : Nat → Nat → Value} (h : RdM2 w A n L f g) (e : ∀ i, i < n → ∀ j, j < L i → f i j = f' i j) (e' : ∀ i, i < n → ∀ j, j < L i → g i j = g' i j) : RdM2 w A n L f' g' := by
  obtain ⟨S, C, h1, h2⟩ := h
  refine ⟨S, C, h1, fun i hi j hj => ?_⟩
  obtain ⟨b, o, q1, q2, q3, q4⟩ := h2 i hi j hj
  exact ⟨b, o, q1, q2, by rw [q3, e i hi j hj], by rw [q4, e' i hi j hj]⟩

/-- A row that was made is owned. -/
theorem own_of_row {w : World} {b e n B : Nat} {f : Nat → Value} (h : w.rowIs b e n f) (hB : B ≤ b) (hn : n ≤ maxLen) : Own w B e 1 (.slice (some ⟨b, 0, none⟩) n n) n (fun i => [f i]) := by
  obtain ⟨c, hb, hs, hc⟩ := h
  refine ⟨by rw [flat1]; simp, .inr ⟨b, n, c, rfl, hB, hb, Nat.le_refl _, hn, by omega, ?_⟩⟩
  rw [flat1]
  apply List.ext_getElem?
  intro j
  rw [List.getElem?_take]
  by_cases hj : j < n
  · rw [if_pos (by omega)]
    have := hc j hj
    simp [hj] at this ⊢
    exact this
  · rw [if_neg (by omega)]
    simp [hj]
end Go.Proofs.Ytbioanbokbhmgaa

/- More words for memory: copy of a whole row; rows of whatever cells; make of rows. Conditions: none of any program. -/
namespace Go.Proofs.Ytbioanbokbhmgaa
open Go.RowKit

section
variable {P : Program}
theorem run_copyAll (w : World) (dT sT ty e : TypeId) (sz g n c1 c2 : Nat) (A : Option Addr) (t : TypeId) (f0 f : Nat → Value) (hu : P.underlying dT = some (.slice e)) (hs : (P.info? e).map (·.size) = some sz)
    (hrow : w.rowIs g t (n * sz) f0) (hsrc : Rd w A (n * sz) f) (h1 : ∀ j, j < n * sz → (f j).oneCell' = true) :
    ∃ w', (Builtin.copy_ #[dT, sT] ty #[.slice (some ⟨g, 0, none⟩) n c1, .slice A n c2]).run P w = .ok (goInt n) w' ∧ w'.rowIs g t (n * sz) f ∧ w.grownBy w' (some g) := by
  obtain ⟨i, hi, his⟩ := Option.map_eq_some_iff.1 hs
  subst his
  obtain ⟨cur, hg, hcs, hcur⟩ := hrow
  rcases Nat.eq_zero_or_pos (n * i.size) with h0 | h0
  · have hl : ∀ (x : Addr), (loadCells x 0).run P w = .ok #[] w := fun x => by simpa using run_loadCells_list (P := P) w x [] (by simp)
    refine ⟨w, ?_, ⟨cur, hg, hcs, fun j hj => by omega⟩, World.grownBy.refl w _⟩
    cases A <;> simp [Builtin.copy_, run_underlying hu, Builtin.lenOf, Builtin.firstCells, sizeOf, typeInfo, hi, storeCells, h0, hl]
  · obtain ⟨b, o, rfl, _, _⟩ := hsrc 0 h0
    have hcells : ∀ j v, ((List.range (n * i.size)).map f)[j]? = some v → w.cell? ((⟨b, o, none⟩ : Addr).add j) = some v := by
      intro j v hj
      have hlt : j < n * i.size := by
        have := (List.getElem?_eq_some_iff.1 hj).1; simpa using this
      obtain ⟨b', o', e1, _, hc⟩ := hsrc j hlt
      injection e1 with e1; injection e1 with e1 e2; subst e1 e2
      have hadd : (⟨b, o, none⟩ : Addr).add j = ⟨b, o + j, none⟩ := by unfold Addr.add; split <;> simp_all
      rw [hadd, hc]
      simpa [hlt] using hj
    have hl := run_loadCells_list (P := P) w ⟨b, o, none⟩ _ hcells
    have hst := run_storeCells_at P g 0 t ((List.range (n * i.size)).map f) 0 cur w hg (by simp [hcs]) (by
      intro v hv
      obtain ⟨j, hj, rfl⟩ := List.mem_map.1 hv
      exact h1 j (List.mem_range.1 hj))
    simp only [List.length_map, List.length_range] at hl hst
    obtain ⟨R, hR⟩ : ∃ R : Array Value, R = (cur.toList.take (0 + 0) ++ (List.range (n * i.size)).map f ++ cur.toList.drop (0 + 0 + n * i.size)).toArray := ⟨_, rfl⟩
    rw [← hR] at hst
    refine ⟨w.setRow g R, ?_, ?_, ?_⟩
    · simp [Builtin.copy_, run_underlying hu, Builtin.lenOf, Builtin.firstCells, sizeOf, typeInfo, hi, hl, hst]
    · refine ⟨R, setRow_heap w g _ _ t _ hg, ?_, ?_⟩
      · rw [hR]; simp [hcs]
      · intro j hj
        rw [hR]
        simp [List.getElem?_append, hj]
    · exact ⟨rfl, rfl, rfl, by simp [World.setRow], fun k _ hk => setRow_other w g k _ (fun e => hk (by rw [e]))⟩

/-- 'copy(row, src)', the row made whole, the source of its length. -/
theorem wpList_copyAll {w : World} {ops : Array Oper} {rest : List Oper} {o : Oper} {a : Act} {Q : Exit → Act → World → Prop} (hgd : o.guard = none) (d s : Operand) (dT sT : TypeId)
    (ho : o.op = .call { callee := .builtin .copy, args := #[d, s], argTypes := #[dT, sT] }) (e sz g n c1 c2 : Nat) (A : Option Addr) (t : TypeId) (f0 f : Nat → Value) (hu : P.underlying dT = some (.slice e)) (hs : (P.info? e).map (·.size) = some sz)
    (hd : a.eval d = .slice (some ⟨g, 0, none⟩) n c1) (hsv : a.eval s = .slice A n c2) (hrow : w.rowIs g t (n * sz) f0) (hsrc : Rd w A (n * sz) f) (h1 : ∀ j, j < n * sz → (f j).oneCell' = true)
    (h : ∀ w', w'.rowIs g t (n * sz) f → w.grownBy w' (some g) → wpList P ops Q rest (a.put o.dst (goInt n)) w') : wpList P ops Q (o :: rest) a w := by
  refine wpList_plain hgd fun K hK => ?_
  obtain ⟨w', hrun, h2, h3⟩ := run_copyAll (P := P) w dT sT o.type e sz g n c1 c2 A t f0 f hu hs hrow hsrc h1
  unfold Oper.wp
  simp [execOp, ho, resolve, invoke, builtin, hd, hsv, hrun, Result.andThen]
  exact hK _ _ (h w' h2 h3)
end

/-- Two cells an element, as cells. -/
def two (f g : Nat → Value) (j : Nat) : Value := if j % 2 = 0 then f (j / 2) else g (j / 2)
theorem Rd2.cells {w : World} {A : Option Addr} {n : Nat} {f g : Nat → Value} (h : Rd2 w A n f g) : Rd w A (n * 2) (two f g) := fun j hj => by
  obtain ⟨b, o, e, hb, h1, h2⟩ := h (j / 2) (by omega)
  refine ⟨b, o, e, hb, ?_⟩
  unfold two
  rcases Nat.mod_two_eq_zero_or_one j with hm | hm
  · rw [if_pos hm, show o + j = o + j / 2 * 2 by omega]; exact h1
  · rw [if_neg (by omega), show o + j = o + j / 2 * 2 + 1 by omega]; exact h2
theorem flat2 (n : Nat) (f g : Nat → Value) : ((List.range n).flatMap fun i => [f i, g i]) = (List.range (n * 2)).map (two f g) := by
  induction n with
  | zero => rfl
  | succ n ih =>
    rw [List.range_succ, List.flatMap_append, ih, show (n + 1) * 2 = n * 2 + 1 + 1 by omega, List.range_succ, List.range_succ]
    simp [two, show n * 2 / 2 = n by omega, show (n * 2 + 1) / 2 = n by omega]
theorem Own.rd2 {w : World} {B e : Nat} {v : Value} {n : Nat} {f g : Nat → Value} (h : Own w B e 2 v n fun i => [f i, g i]) :
    ∃ A c, v = .slice A n c ∧ n ≤ c ∧ c ≤ maxLen ∧ Rd2 w A n f g := by
  obtain ⟨h1, h2⟩ := h
  rcases h2 with ⟨rfl, rfl⟩ | ⟨b, cap, cur, rfl, hg, hh, hn, hc, hcur, htake⟩
  · exact ⟨none, 0, rfl, Nat.le_refl _, by unfold maxLen; omega, fun i hi => absurd hi (by omega)⟩
  · refine ⟨_, cap, rfl, hn, hc, fun i hi => ⟨b, 0, rfl, (Array.getElem?_eq_some_iff.1 hh).1, ?_, ?_⟩⟩
    all_goals
      rw [Nat.zero_add, cell_of_row w b _ cur e (0, 0) hh]
      rw [flat2] at htake
    · have h4 : (cur.toList.take (n * 2))[i * 2]? = some (f i) := by rw [htake]; simp [two, show i * 2 < n * 2 by omega]
      rw [List.getElem?_take, if_pos (by omega)] at h4
      simpa using h4
    · have h4 : (cur.toList.take (n * 2))[i * 2 + 1]? = some (g i) := by rw [htake]; simp [two, show i * 2 + 1 < n * 2 by omega, show (i * 2 + 1) / 2 = i by omega]
      rw [List.getElem?_take, if_pos (by omega)] at h4
      simpa using h4

/-- A list of rows that the call builds by append, each row its own memory, elements of sz cells. -/
def OwnQ (w : World) (B tR e sz : Nat) (v : Value) (k : Nat) (S : Nat → Option Addr) (C : Nat → Nat) (L : Nat → Nat) (f : Nat → Nat → List Value) : Prop :=
  Own w B tR 1 v k (fun i => [.slice (S i) (L i) (C i)]) ∧ ∀ i, i < k → Own w B e sz (.slice (S i) (L i) (C i)) (L i) (f i)
section
variable {w w' : World} {B tR e sz : Nat} {v v' : Value} {k : Nat} {S : Nat → Option Addr} {C : Nat → Nat} {L : Nat → Nat} {f : Nat → Nat → List Value}
theorem OwnQ.nil (w : World) (B tR e sz : Nat) (S : Nat → Option Addr) (C : Nat → Nat) (L : Nat → Nat) (f : Nat → Nat → List Value) : OwnQ w B tR e sz (.slice none 0 0) 0 S C L f := ⟨Own.nil _ _ _ _ _, fun i hi => absurd hi (by omega)⟩
theorem OwnQ.kept (h : OwnQ w B tR e sz v k S C L f) (hb : Below w.heap.size w w') : OwnQ w' B tR e sz v k S C L f := ⟨h.1.kept hb, fun i hi => (h.2 i hi).kept hb⟩
theorem OwnQ.mono {B' : Nat} (h : OwnQ w B tR e sz v k S C L f) (hB : B' ≤ B) : OwnQ w B' tR e sz v k S C L f := ⟨h.1.mono hB, fun i hi => (h.2 i hi).mono hB⟩
theorem OwnQ.next (h : OwnQ w B tR e sz v k S C L f) (A : Option Addr) (c : Nat) : OwnQ w B tR e sz v k (upd S k A) (upd C k c) L f :=
  ⟨h.1.congr fun i hi => by rw [upd_ne _ _ _ (by omega), upd_ne _ _ _ (by omega)], fun i hi => by rw [upd_ne _ _ _ (by omega), upd_ne _ _ _ (by omega)]; exact h.2 i hi⟩
theorem OwnQ.push (hne : e ≠ tR) (h : OwnQ w B tR e sz v k S C L f) (hr : Own w B e sz (.slice (S k) (L k) (C k)) (L k) (f k)) (hown : Own w' B tR 1 v' (k + 1) (fun i => [.slice (S i) (L i) (C i)])) (hg : w.grownBy w' v.ownBlock) : OwnQ w' B tR e sz v' (k + 1) S C L f :=
  ⟨hown, fun i hi => by
    by_cases e1 : i = k
    · subst e1; exact hr.keptRow hg (own_ne hr h.1 hne)
    · exact (h.2 i (by omega)).keptRow hg (own_ne (h.2 i (by omega)) h.1 hne)⟩
theorem OwnQ.rdm {g : Nat → Nat → Value} (h : OwnQ w B tR e 1 v k S C L fun i j => [g i j]) : ∃ A c, v = .slice A k c ∧ k ≤ c ∧ c ≤ maxLen ∧ RdM w A k L g := by
  obtain ⟨A, c, hv, hkc, hcm, hr, _⟩ := h.1.rd
  refine ⟨A, c, hv, hkc, hcm, S, C, hr, fun i hi => ?_⟩
  obtain ⟨A', c', e1, _, _, hr', _⟩ := (h.2 i hi).rd
  injection e1 with e1 _ _
  rw [e1]; exact hr'
theorem OwnQ.rdm2 {g1 g2 : Nat → Nat → Value} (h : OwnQ w B tR e 2 v k S C L fun i j => [g1 i j, g2 i j]) : ∃ A c, v = .slice A k c ∧ k ≤ c ∧ c ≤ maxLen ∧ RdM2 w A k L g1 g2 := by
  obtain ⟨A, c, hv, hkc, hcm, hr, _⟩ := h.1.rd
  refine ⟨A, c, hv, hkc, hcm, S, C, hr, fun i hi => ?_⟩
  obtain ⟨A', c', e1, _, _, hr'⟩ := (h.2 i hi).rd2
  injection e1 with e1 _ _
  rw [e1]; exact hr'
end

/-- A row known whole, owned, of whatever cells. -/
theorem own_of_rowN {w : World} {b e n sz B : Nat} {f : Nat → Value} {fl : Nat → List Value} (h : w.rowIs b e (n * sz) f) (hfl : (List.range n).flatMap fl = (List.range (n * sz)).map f) (hB : B ≤ b) (hn : n ≤ maxLen) : Own w B e sz (.slice (some ⟨b, 0, none⟩) n n) n fl := by
  obtain ⟨c, hb, hs, hc⟩ := h
  refine ⟨by rw [hfl]; simp, .inr ⟨b, n, c, rfl, hB, hb, Nat.le_refl _, hn, hs, ?_⟩⟩
  rw [hfl]
  apply List.ext_getElem?
  intro j
  rw [List.getElem?_take]
  by_cases hj : j < n * sz
  · rw [if_pos hj]
    have := hc j hj
    simp [hj] at this ⊢
    exact this
  · rw [if_neg hj]
    simp [hj]
end Go.Proofs.Ytbioanbokbhmgaa
