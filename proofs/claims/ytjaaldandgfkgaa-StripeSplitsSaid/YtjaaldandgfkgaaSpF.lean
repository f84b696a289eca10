/- Memory words for Split's last loops: what changes, what stays. Conditions: as the theorems have them. -/
import Derived.Test.YtjaaldandgfkgaaSpM
namespace Go.Proofs.Ytjaaldandgfkgaa
open Go.RowKit

/-- A later world: what was there is as it was, but for two blocks. -/
structure Bt (w w' : World) (a b : Nat) : Prop where
  os : w'.os = w.os
  tape : w'.tape = w.tape
  output : w'.output = w.output
  size : w.heap.size ≤ w'.heap.size
  block : ∀ k, k < w.heap.size → k ≠ a → k ≠ b → w'.heap[k]? = w.heap[k]?
theorem Bt.refl (w : World) (a b : Nat) : Bt w w a b := ⟨rfl, rfl, rfl, Nat.le_refl _, fun _ _ _ _ => rfl⟩
theorem Bt.below {w w' : World} {a b B : Nat} (h : Bt w w' a b) (ha : B ≤ a) (hb : B ≤ b) (hB : B ≤ w.heap.size) : Below B w w' := ⟨h.os, h.tape, h.output, h.size, fun k hk => h.block k (by omega) (by omega) (by omega)⟩
theorem Bt.kept {w w' w'' : World} {a b : Nat} (h : Bt w w' a b) (hb : Below w'.heap.size w' w'') : Bt w w'' a b :=
  ⟨hb.os.trans h.os, hb.tape.trans h.tape, hb.output.trans h.output, Nat.le_trans h.size hb.size, fun k hk h1 h2 => (hb.block k (Nat.lt_of_lt_of_le hk h.size)).trans (h.block k hk h1 h2)⟩
theorem Bt.grown {w w' w'' : World} {a b : Nat} {r : Option Nat} (h : Bt w w' a b) (hg : w'.grownBy w'' r) (hr : ∀ k, r = some k → w.heap.size ≤ k ∨ k = a ∨ k = b) : Bt w w'' a b :=
  ⟨hg.os.trans h.os, hg.tape.trans h.tape, hg.output.trans h.output, Nat.le_trans h.size hg.size, fun k hk h1 h2 => (hg.block k (Nat.lt_of_lt_of_le hk h.size) (fun e => by rcases hr k e.symm with h3 | h3 | h3 <;> omega)).trans (h.block k hk h1 h2)⟩
theorem Bt.set {w w' : World} {a b p i : Nat} (h : Bt w w' a b) (hp : p = a ∨ p = b) (x : Value) : Bt w (w'.setCell ⟨p, i, none⟩ x) a b :=
  h.grown (put_grown x) fun k e => by injection e with e; omega
theorem Bt.row {w w' : World} {a b k t n : Nat} {f : Nat → Value} (h : Bt w w' a b) (hr : w.rowIs k t n f) (h1 : k ≠ a) (h2 : k ≠ b) : w'.rowIs k t n f := hr.of_block (h.block k hr.lt h1 h2)
/-- Split's last loops: i shards have their blocks, of shard i those in bi. -/
structure FinS (w6 wr : World) (g tw n i : Nat) (H : Nat → Hd) (V U : Nat → Value) (Tm : Nat → Nat) (BL : Nat → List (List Nat)) (bi : List (List Nat)) : Prop where
  bt : Bt w6 wr g tw
  top : Own wr g 69 17 (.slice (some ⟨g, 0, none⟩) n n) n (fun t => sdC (H t) (V t))
  done : ∀ t, t < i → OwnBk wr (Tm t) (Tm (t + 1)) (V t) (BL t)
  now : OwnLA wr (Tm i) wr.heap.size (V i) bi
  lo : w6.heap.size ≤ Tm 0
  mono : ∀ t, t < i → Tm t ≤ Tm (t + 1)
  hi : Tm i ≤ wr.heap.size
  rest : ∀ t, i < t → V t = .slice none 0 0
  word : wr.rowIs tw 43 n U
theorem FinS.tm {w6 wr : World} {g tw n i : Nat} {H : Nat → Hd} {V U : Nat → Value} {Tm : Nat → Nat} {BL : Nat → List (List Nat)} {bi : List (List Nat)} (h : FinS w6 wr g tw n i H V U Tm BL bi) : ∀ t, t ≤ i → w6.heap.size ≤ Tm t
  | 0, _ => h.lo
  | t + 1, ht => Nat.le_trans (h.tm t (by omega)) (h.mono t (by omega))
theorem FinS.tmi {w6 wr : World} {g tw n i : Nat} {H : Nat → Hd} {V U : Nat → Value} {Tm : Nat → Nat} {BL : Nat → List (List Nat)} {bi : List (List Nat)} (h : FinS w6 wr g tw n i H V U Tm BL bi) {t : Nat} : ∀ {s : Nat}, t ≤ s → s ≤ i → Tm t ≤ Tm s
  | 0, h1, _ => by have : t = 0 := by omega
                   rw [this]; exact Nat.le_refl _
  | s + 1, h1, h2 => by
    by_cases e : t = s + 1
    · rw [e]; exact Nat.le_refl _
    · exact Nat.le_trans (h.tmi (t := t) (s := s) (by omega) (by omega)) (h.mono s (by omega))
/-- The next shard. -/
theorem FinS.next {w6 wr : World} {g tw n i : Nat} {H : Nat → Hd} {V U : Nat → Value} {Tm : Nat → Nat} {BL : Nat → List (List Nat)} (h : FinS w6 wr g tw n i H V U Tm BL (BL i)) : FinS w6 wr g tw n (i + 1) H V U (upd Tm (i + 1) wr.heap.size) BL [] := by
  have e : ∀ t, t ≤ i → upd Tm (i + 1) wr.heap.size t = Tm t := fun t ht => upd_ne _ _ _ (by omega)
  refine ⟨h.bt, h.top, fun t ht => ?_, ?_, ?_, fun t ht => ?_, ?_, fun t ht => h.rest t (by omega), h.word⟩
  · rw [e t (by omega)]
    by_cases et : t = i
    · subst et; rw [upd_at]; exact OwnBk.of h.now
    · rw [e (t + 1) (by omega)]; exact h.done t (by omega)
  · rw [upd_at, h.rest (i + 1) (by omega)]; exact OwnLA.nil _ _ _
  · rw [e 0 (by omega)]; exact h.lo
  · rw [e t (by omega)]
    by_cases et : t = i
    · subst et; rw [upd_at]; exact h.hi
    · rw [e (t + 1) (by omega)]; exact h.mono t (by omega)
  · rw [upd_at]; exact Nat.le_refl _
theorem FinS.sd {w6 wr : World} {g tw n : Nat} {H : Nat → Hd} {V U : Nat → Value} {Tm : Nat → Nat} {BL : Nat → List (List Nat)} {B : Nat} (h : FinS w6 wr g tw n n H V U Tm BL []) (hg : g < w6.heap.size) (hB : B ≤ g) : OwnSd wr B g n n H V BL Tm :=
  ⟨h.top.mono hB, h.done, Nat.lt_of_lt_of_le hg h.lo, h.mono⟩
/-- A block more: the row is made (w1), its header appended (w2), the list's header stored, the word's row cut. -/
theorem FinS.push {w6 wr w1 w2 : World} {g tw n i : Nat} {H : Nat → Hd} {V U : Nat → Value} {Tm : Nat → Nat} {BL : Nat → List (List Nat)} {bi bi' : List (List Nat)} {v' u : Value} (h : FinS w6 wr g tw n i H V U Tm BL bi) (hi : i < n) (hgt : g ≠ tw) (hg6 : g < w6.heap.size) (ht6 : tw < w6.heap.size)
    (hb : Below wr.heap.size wr w1) (hg : w1.grownBy w2 (V i).ownBlock) (hL : OwnLA w2 (Tm i) w2.heap.size v' bi') :
    FinS w6 ((w2.setCell ⟨g, i * 17 + 16, none⟩ v').setCell ⟨tw, i, none⟩ u) g tw n i H (upd V i v') (upd U i u) Tm BL bi' := by
  have hsz := h.bt.size
  have hTi := h.tm i (Nat.le_refl _)
  have hVi : ∀ k, (V i).ownBlock = some k → Tm i ≤ k := fun k hk => by
    obtain ⟨S, C, h1, _⟩ := h.now
    exact (h1.top.lt k hk).1
  have hsz1 := hb.size
  have hsz2 := hg.size
  have hblk : ∀ k, k < Tm i → w2.heap[k]? = wr.heap[k]? := fun k hk => by
    have hki := h.hi
    rw [hg.block k (by omega) (fun e => by have := hVi k e.symm; omega)]
    exact hb.block k (by omega)
  have hset : ∀ k, k ≠ g → k ≠ tw → ((w2.setCell ⟨g, i * 17 + 16, none⟩ v').setCell ⟨tw, i, none⟩ u).heap[k]? = w2.heap[k]? := fun k h1 h2 => by
    rw [Below.heap_setCell _ _ _ _ (by show k ≠ tw; exact h2), Below.heap_setCell _ _ _ _ (by show k ≠ g; exact h1)]
  have hszE : ((w2.setCell ⟨g, i * 17 + 16, none⟩ v').setCell ⟨tw, i, none⟩ u).heap.size = w2.heap.size := by simp
  have htop2 : Own w2 g 69 17 (.slice (some ⟨g, 0, none⟩) n n) n (fun t => sdC (H t) (V t)) := h.top.blocks fun k hk => by
    injection hk with hk
    exact hblk k (by show k < _; have : g = k := hk; omega)
  refine ⟨?_, ?_, fun t ht => ?_, ?_, h.lo, h.mono, ?_, fun t ht => ?_, ?_⟩
  · exact (((h.bt.kept hb).grown hg (fun k hk => .inl (Nat.le_trans hTi (hVi k hk)))).set (.inl rfl) v').set (.inr rfl) u
  · have h1 := (htop2.setN (fun _ _ => sdC_len _ _) hi (show 16 < 17 by decide) v').congr (g := fun t => sdC (H t) (upd V i v' t)) fun t _ => by
      by_cases e : t = i
      · subst e; rw [if_pos rfl, upd_at]; rfl
      · rw [if_neg e, upd_ne _ _ _ e]
    exact h1.keptRow (put_grown u) (.inr (by intro e; injection e with e; exact hgt e))
  · have hle : Tm (t + 1) ≤ Tm i := h.tmi (by omega) (Nat.le_refl _)
    have hlo := h.tm t (by omega)
    rw [upd_ne _ _ _ (by omega)]
    exact (h.done t ht).blocks fun k h1 h2 => by rw [hset k (by omega) (by omega)]; exact hblk k (by omega)
  · rw [upd_at]
    have h1 := (hL.set (p := g) (i := i * 17 + 16) (by omega) v').set (p := tw) (i := i) (by omega) u
    rw [hszE]
    exact h1
  · rw [hszE]; have := h.hi; omega
  · rw [upd_ne _ _ _ (by omega)]; exact h.rest t ht
  · have h1 : w2.rowIs tw 43 n U := h.word.of_block (hblk tw (by omega))
    refine ((h1.setOther (a := ⟨g, i * 17 + 16, none⟩) (by show tw ≠ g; exact fun e => hgt e.symm) v').set i u).congr fun t _ => ?_
    by_cases e : t = i
    · subst e; rw [if_pos rfl, upd_at]
    · rw [if_neg e, upd_ne _ _ _ e]
end Go.Proofs.Ytjaaldandgfkgaa
