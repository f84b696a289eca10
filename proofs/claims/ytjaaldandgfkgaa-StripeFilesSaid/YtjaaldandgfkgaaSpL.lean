/- Memory words for cutting objects: rows that grow beside each other; a head stored into a list of shards. Conditions: as the theorems have them. -/
import Derived.Test.YtjaaldandgfkgaaShM
import Derived.Test.YtjaaldandgfkgaaStP
namespace Go.Proofs.Ytjaaldandgfkgaa
open Go.RowKit

/-- Rows that grow: their headers in the block b, each row owned, no two in one block, none in b. -/
structure Rws (w : World) (B b n : Nat) (V : Nat → Value) (LL : Nat → List Nat) : Prop where
  top : w.rowIs b 43 n V
  row : ∀ i, i < n → OwnB w B (V i) (LL i)
  off : ∀ i, i < n → (V i).ownBlock ≠ some b
  apart : ∀ i j, i < n → j < n → i ≠ j → ∀ k, (V i).ownBlock = some k → (V j).ownBlock ≠ some k
theorem Rws.start (w : World) (B n : Nat) : Rws (w.alloc (.cells (madeCells #[.slice none 0 0] n) 43)) B w.heap.size n (fun _ => .slice none 0 0) (fun _ => []) :=
  ⟨World.rowIs_made _ _ _ _, fun _ _ => OwnB.nil _ _, (fun _ _ e => by cases e), (fun _ _ _ _ _ k e => by cases e)⟩
theorem Rws.kept {w w' : World} {B b n : Nat} {V : Nat → Value} {LL : Nat → List Nat} (h : Rws w B b n V LL) (hb : Below w.heap.size w w') : Rws w' B b n V LL :=
  ⟨below_row h.top hb h.top.lt, fun i hi => (h.row i hi).kept hb, h.off, h.apart⟩
theorem Rws.congr {w : World} {B b n : Nat} {V : Nat → Value} {LL LL' : Nat → List Nat} (h : Rws w B b n V LL) (e : ∀ i, i < n → LL i = LL' i) : Rws w B b n V LL' :=
  ⟨h.top, fun i hi => by rw [← e i hi]; exact h.row i hi, h.off, h.apart⟩
/-- One row is appended to, its header stored. -/
theorem Rws.app {w w' : World} {B b n i : Nat} {V : Nat → Value} {LL : Nat → List Nat} {v' : Value} {x : List Nat} (h : Rws w B b n V LL) (hi : i < n) (ho : OwnB w' B v' x) (hg : w.grownBy w' (V i).ownBlock) (hat : v'.ownBlock = (V i).ownBlock ∨ v'.ownBlock = some w.heap.size) :
    Rws (w'.setCell ⟨b, i, none⟩ v') B b n (upd V i v') (upd LL i x) := by
  have hbl := h.top.lt
  have hob : v'.ownBlock ≠ some b := by
    rcases hat with e | e
    · rw [e]; exact h.off i hi
    · rw [e]; intro e2; injection e2 with e2; omega
  have hap : ∀ t, t < n → t ≠ i → ∀ k, (V t).ownBlock = some k → v'.ownBlock ≠ some k := fun t ht hne k hk e2 => by
    rcases hat with e | e
    · exact h.apart t i ht hi hne k hk (e ▸ e2)
    · rw [e] at e2; injection e2 with e2; have := ((h.row t ht).lt k hk).2; omega
  have hput : w'.grownBy (w'.setCell ⟨b, i, none⟩ v') (some b) := put_grown _
  refine ⟨?_, fun t ht => ?_, fun t ht => ?_, fun s t hs ht hne k hk => ?_⟩
  · have h1 : w'.rowIs b 43 n V := h.top.of_block (hg.block b hbl fun e => h.off i hi e.symm)
    refine (h1.set i v').congr fun t _ => ?_
    by_cases e : t = i
    · subst e; rw [if_pos rfl, upd_at]
    · rw [if_neg e, upd_ne _ _ _ e]
  · by_cases e : t = i
    · subst e
      rw [upd_at, upd_at]
      exact ho.keptRow hput (.inr hob)
    · rw [upd_ne _ _ _ e, upd_ne _ _ _ e]
      have h1 : OwnB w' B (V t) (LL t) := (h.row t ht).keptRow hg (by
        cases ht' : (V t).ownBlock with
        | none => exact .inl rfl
        | some k => exact .inr fun e2 => h.apart t i ht hi e k ht' e2.symm)
      exact h1.keptRow hput (.inr (h.off t ht))
  · by_cases e : t = i
    · subst e; rw [upd_at]; exact hob
    · rw [upd_ne _ _ _ e]; exact h.off t ht
  · by_cases es : s = i
    · subst es
      rw [upd_at] at hk
      rw [upd_ne _ _ _ (Ne.symm hne)]
      intro e2
      exact hap t ht (Ne.symm hne) k e2 hk
    · rw [upd_ne _ _ _ es] at hk
      by_cases et : t = i
      · subst et; rw [upd_at]; exact hap s hs es k hk
      · rw [upd_ne _ _ _ et]; exact h.apart s t hs ht hne k hk
theorem Rws.rdm {w : World} {B b n len : Nat} {V : Nat → Value} {LL : Nat → List Nat} (h : Rws w B b n V LL) (hl : ∀ i, i < n → (LL i).length = len) : RdM w (some ⟨b, 0, none⟩) n (fun _ => len) (fun i c => .int .u8 ((LL i).getD c 0 : Nat)) := by
  have hv : ∀ i, ∃ A c, i < n → V i = .slice A len c ∧ Rd w A len (fun c => .int .u8 ((LL i).getD c 0 : Nat)) := fun i => by
    by_cases hi : i < n
    · obtain ⟨A, c, e, _, _, hr, _⟩ := (h.row i hi).rd
      unfold RL at hr
      rw [hl i hi] at hr
      exact ⟨A, c, fun _ => ⟨by rw [e, hl i hi], hr⟩⟩
    · exact ⟨none, 0, fun h => absurd h hi⟩
  refine ⟨fun i => Classical.choose (hv i), fun i => Classical.choose (Classical.choose_spec (hv i)), ?_, fun i hi => ?_⟩
  · exact (row_rd h.top).congr fun i hi => (Classical.choose_spec (Classical.choose_spec (hv i)) hi).1
  · exact (Classical.choose_spec (Classical.choose_spec (hv i)) hi).2
/-- A part of an element is stored at once. -/
theorem Own.part {w w' : World} {B e sz g c n i j : Nat} {f : Nat → List Value} {cur : Array Value} {cs : List Value} (h : Own w B e sz (.slice (some ⟨g, 0, none⟩) n c) n f) (hf : ∀ i, i < n → (f i).length = sz) (hg : w.heap[g]? = some (.cells cur e (0, 0))) (hi : i < n) (hj : j + cs.length ≤ sz)
    (hw : w'.heap[g]? = some (.cells (cur.toList.take (i * sz + j) ++ cs ++ cur.toList.drop (i * sz + j + cs.length)).toArray e (0, 0))) :
    Own w' B e sz (.slice (some ⟨g, 0, none⟩) n c) n (fun t => if t = i then (f i).take j ++ cs ++ (f i).drop (j + cs.length) else f t) := by
  have hlen : ∀ t, t < n → ((fun t => if t = i then (f i).take j ++ cs ++ (f i).drop (j + cs.length) else f t) t).length = sz := fun t ht => by
    by_cases e : t = i
    · subst e; simp only [↓reduceIte, List.length_append, List.length_take, List.length_drop, hf t ht]; omega
    · simp only [if_neg e]; exact hf t ht
  obtain ⟨h1, h2⟩ := id h
  rcases h2 with ⟨h2, _⟩ | ⟨g', cap, cur', e1, hg', hh, hn, hc, hcur, htake⟩
  · cases h2
  · injection e1 with e1 _ e3
    injection e1 with e1
    injection e1 with e1
    subst e1 e3
    rw [hg] at hh
    injection hh with hh
    injection hh with hh
    subst hh
    have hin : (i + 1) * sz ≤ n * sz := Nat.mul_le_mul_right _ hi
    have hcn : n * sz ≤ c * sz := Nat.mul_le_mul_right _ hn
    rw [Nat.add_mul] at hin
    have hcl : cur.toList.length = c * sz := by simpa using hcur
    refine ⟨by rw [flat_len hlen], .inr ⟨g, c, _, rfl, hg', hw, hn, hc, by simp only [List.size_toArray, List.length_append, List.length_take, List.length_drop, hcl]; omega, ?_⟩⟩
    refine flat_ext hlen (by simp only [List.length_take, List.length_append, List.length_drop, hcl]; omega) fun t s ht hs => ?_
    have hts : (t + 1) * sz ≤ n * sz := Nat.mul_le_mul_right _ ht
    rw [Nat.add_mul] at hts
    have hold : cur.toList[t * sz + s]? = (f t)[s]? := by
      have := flat_get (n := n) hf ht hs
      rw [← htake, List.getElem?_take, if_pos (by omega)] at this
      exact this
    rw [List.getElem?_take, if_pos (by omega)]
    show (cur.toList.take (i * sz + j) ++ cs ++ cur.toList.drop (i * sz + j + cs.length))[t * sz + s]? = _
    by_cases e : t = i
    · subst e
      rw [if_pos rfl]
      by_cases s1 : s < j
      · rw [List.append_assoc, List.append_assoc, List.getElem?_append_left (by rw [List.length_take, hcl]; omega), List.getElem?_append_left (by rw [List.length_take, hf t ht]; omega), List.getElem?_take, if_pos (by omega), List.getElem?_take, if_pos s1, hold]
      · by_cases s2 : s < j + cs.length
        · rw [List.getElem?_append_left (by rw [List.length_append, List.length_take, hcl]; omega), List.getElem?_append_right (by rw [List.length_take, hcl]; omega), List.getElem?_append_left (by rw [List.length_append, List.length_take, hf t ht]; omega), List.getElem?_append_right (by rw [List.length_take, hf t ht]; omega)]
          rw [List.length_take, List.length_take, hcl, hf t ht]
          congr 1; omega
        · rw [List.getElem?_append_right (by rw [List.length_append, List.length_take, hcl]; omega), List.getElem?_append_right (by rw [List.length_append, List.length_take, hf t ht]; omega), List.getElem?_drop, List.getElem?_drop]
          rw [List.length_append, List.length_append, List.length_take, List.length_take, hcl, hf t ht]
          rw [show t * sz + j + cs.length + (t * sz + s - (min (t * sz + j) (c * sz) + cs.length)) = t * sz + s by omega, show j + cs.length + (s - (min j sz + cs.length)) = s by omega, hold]
    · rw [if_neg e]
      rcases Nat.lt_or_ge t i with h3 | h3
      · have h4 : (t + 1) * sz ≤ i * sz := Nat.mul_le_mul_right _ h3
        rw [Nat.add_mul] at h4
        rw [List.append_assoc, List.getElem?_append_left (by rw [List.length_take, hcl]; omega), List.getElem?_take, if_pos (by omega), hold]
      · have h4 : (i + 1) * sz ≤ t * sz := Nat.mul_le_mul_right _ (by omega)
        rw [Nat.add_mul] at h4
        rw [List.getElem?_append_right (by rw [List.length_append, List.length_take, hcl]; omega), List.getElem?_drop]
        rw [List.length_append, List.length_take, hcl]
        rw [show i * sz + j + cs.length + (t * sz + s - (min (i * sz + j) (c * sz) + cs.length)) = t * sz + s by omega, hold]
theorem Own.cur {w : World} {B e sz g c n : Nat} {f : Nat → List Value} (h : Own w B e sz (.slice (some ⟨g, 0, none⟩) n c) n f) : ∃ cur, w.heap[g]? = some (.cells cur e (0, 0)) ∧ cur.size = c * sz ∧ n ≤ c ∧ B ≤ g := by
  obtain ⟨h1, h2⟩ := id h
  rcases h2 with ⟨h2, _⟩ | ⟨g', cap, cur', e1, hg', hh, hn, hc, hcur, htake⟩
  · cases h2
  · injection e1 with e1 _ e3
    injection e1 with e1
    injection e1 with e1
    subst e1 e3
    exact ⟨cur', hh, hcur, hn, hg'⟩
/-- A shard of zeros. -/
def hd0 : Hd := ⟨0, 0, 0, 0, 0, 0, 0, 0, 0, 0, 0, ⟨#[]⟩, 0, 0, 0, 0⟩
theorem shardInfo : (Try.prog.info? 69).map (fun i => (i.zero, i.size, i.bytes)) = some (some (.agg #[.int .u8 0, .int .u8 0, .int .u8 0, .int .u8 0, .int .u8 0, .int .u8 0, .int .u8 0, .int .u8 0, .int .i64 0, .int .i64 0, .int .i64 0, .string ⟨#[]⟩, .int .i64 0, .int .i64 0, .int .i64 0, .int .i64 0, .slice none 0 0]), 17, 104) := by kernel_rfl
theorem made_shards (w : World) (B n : Nat) (hB : B ≤ w.heap.size) (hn : n ≤ maxLen) :
    Own (w.alloc (.cells (madeCells (Value.agg #[.int .u8 0, .int .u8 0, .int .u8 0, .int .u8 0, .int .u8 0, .int .u8 0, .int .u8 0, .int .u8 0, .int .i64 0, .int .i64 0, .int .i64 0, .string ⟨#[]⟩, .int .i64 0, .int .i64 0, .int .i64 0, .int .i64 0, .slice none 0 0]).cells (n * 17)) 69)) B 69 17 (.slice (some ⟨w.heap.size, 0, none⟩) n n) n (fun _ => sdC hd0 (.slice none 0 0)) := by
  have hf : ∀ i, i < n → ((fun _ : Nat => sdC hd0 (.slice none 0 0)) i).length = 17 := fun _ _ => rfl
  refine ⟨by rw [flat_len hf], .inr ⟨w.heap.size, n, _, rfl, hB, heap_alloc_new w _, Nat.le_refl _, hn, by simp [madeCells], ?_⟩⟩
  refine flat_ext hf (by simp [madeCells]) fun i j hi hj => ?_
  have h1 : (i + 1) * 17 ≤ n * 17 := Nat.mul_le_mul_right _ hi
  have h2 : (i * 17 + j) % 17 = j := by omega
  rw [List.getElem?_take, if_pos (by omega)]
  simp only [madeCells, Array.getElem?_toList, Array.getElem?_map]
  rw [Array.getElem?_eq_getElem (by rw [Array.size_range]; omega), Array.getElem_range]
  show some ((#[Value.int .u8 0, .int .u8 0, .int .u8 0, .int .u8 0, .int .u8 0, .int .u8 0, .int .u8 0, .int .u8 0, .int .i64 0, .int .i64 0, .int .i64 0, .string ⟨#[]⟩, .int .i64 0, .int .i64 0, .int .i64 0, .int .i64 0, .slice none 0 0] : Array Value)[(i * 17 + j) % 17]!) = _
  rw [h2]
  match j, hj with
  | 0, _ => rfl
  | 1, _ => rfl
  | 2, _ => rfl
  | 3, _ => rfl
  | 4, _ => rfl
  | 5, _ => rfl
  | 6, _ => rfl
  | 7, _ => rfl
  | 8, _ => rfl
  | 9, _ => rfl
  | 10, _ => rfl
  | 11, _ => rfl
  | 12, _ => rfl
  | 13, _ => rfl
  | 14, _ => rfl
  | 15, _ => rfl
  | 16, _ => rfl
  | j + 17, h => exact absurd h (by omega)
end Go.Proofs.Ytjaaldandgfkgaa

/- Memory words for Split's last loops: what changes, what stays. Conditions: as the theorems have them. -/
namespace Go.Proofs.Ytjaaldandgfkgaa
open Go.RowKit

/-- A later world: what was there is as it was, but for two blocks. -/
structure Bt (w w' : World) (a b : Nat) : Prop where
  os : w'.os = w.os
  tape : w'.tape = w.tape
  output : w'.output = w.output
  size : w.heap.size ≤ w'.heap.size
  block : ∀ k, k < w.heap.size → k ≠ a → k ≠ b → w'.heap[k]? = w.heap[k]?
theorem Bt.refl (w : World) (a b : Nat) : Bt w w a b := ⟨rfl, rfl, rfl, Nat.le_refl _, fun _ _ _ _ => rfl⟩
theorem Bt.below {w w' : World} {a b B : Nat} (h : Bt w w' a b) (ha : B ≤ a) (hb : B ≤ b) (hB : B ≤ w.heap.size) : Below B w w' := ⟨h.os, h.tape, h.output, h.size, fun k hk => h.block k (by omega) (by omega) (by omega)⟩
theorem Bt.kept {w w' w'' : World} {a b : Nat} (h : Bt w w' a b) (hb : Below w'.heap.size w' w'') : Bt w w'' a b :=
  ⟨hb.os.trans h.os, hb.tape.trans h.tape, hb.output.trans h.output, Nat.le_trans h.size hb.size, fun k hk h1 h2 => (hb.block k (Nat.lt_of_lt_of_le hk h.size)).trans (h.block k hk h1 h2)⟩
theorem Bt.grown {w w' w'' : World} {a b : Nat} {r : Option Nat} (h : Bt w w' a b) (hg : w'.grownBy w'' r) (hr : ∀ k, r = some k → w.heap.size ≤ k ∨ k = a ∨ k = b) : Bt w w'' a b :=
  ⟨hg.os.trans h.os, hg.tape.trans h.tape, hg.output.trans h.output, Nat.le_trans h.size hg.size, fun k hk h1 h2 => (hg.block k (Nat.lt_of_lt_of_le hk h.size) (fun e => by rcases hr k e.symm with h3 | h3 | h3 <;> omega)).trans (h.block k hk h1 h2)⟩
theorem Bt.set {w w' : World} {a b p i : Nat} (h : Bt w w' a b) (hp : p = a ∨ p = b) (x : Value) : Bt w (w'.setCell ⟨p, i, none⟩ x) a b :=
  h.grown (put_grown x) fun k e => by injection e with e; omega
theorem Bt.row {w w' : World} {a b k t n : Nat} {f : Nat → Value} (h : Bt w w' a b) (hr : w.rowIs k t n f) (h1 : k ≠ a) (h2 : k ≠ b) : w'.rowIs k t n f := hr.of_block (h.block k hr.lt h1 h2)
/-- Split's last loops: i shards have their blocks, of shard i those in bi. -/
structure FinS (w6 wr : World) (g tw n i : Nat) (H : Nat → Hd) (V U : Nat → Value) (Tm : Nat → Nat) (BL : Nat → List (List Nat)) (bi : List (List Nat)) : Prop where
  bt : Bt w6 wr g tw
  top : Own wr g 69 17 (.slice (some ⟨g, 0, none⟩) n n) n (fun t => sdC (H t) (V t))
  done : ∀ t, t < i → OwnBk wr (Tm t) (Tm (t + 1)) (V t) (BL t)
  now : OwnLA wr (Tm i) wr.heap.size (V i) bi
  lo : w6.heap.size ≤ Tm 0
  mono : ∀ t, t < i → Tm t ≤ Tm (t + 1)
  hi : Tm i ≤ wr.heap.size
  rest : ∀ t, i < t → V t = .slice none 0 0
  word : wr.rowIs tw 43 n U
theorem FinS.tm {w6 wr : World} {g tw n i : Nat} {H : Nat → Hd} {V U : Nat → Value} {Tm : Nat → Nat} {BL : Nat → List (List Nat)} {bi : List (List Nat)} (h : FinS w6 wr g tw n i H V U Tm BL bi) : ∀ t, t ≤ i → w6.heap.size ≤ Tm t
  | 0, _ => h.lo
  | t + 1, ht => Nat.le_trans (h.tm t (by omega)) (h.mono t (by omega))
theorem FinS.tmi {w6 wr : World} {g tw n i : Nat} {H : Nat → Hd} {V U : Nat → Value} {Tm : Nat → Nat} {BL : Nat → List (List Nat)} {bi : List (List Nat)} (h : FinS w6 wr g tw n i H V U Tm BL bi) {t : Nat} : ∀ {s : Nat}, t ≤ s → s ≤ i → Tm t ≤ Tm s
  | 0, h1, _ => by have : t = 0 := by omega
                   rw [this]; exact Nat.le_refl _
  | s + 1, h1, h2 => by
    by_cases e : t = s + 1
    · rw [e]; exact Nat.le_refl _
    · exact Nat.le_trans (h.tmi (t := t) (s := s) (by omega) (by omega)) (h.mono s (by omega))
/-- The next shard. -/
theorem FinS.next {w6 wr : World} {g tw n i : Nat} {H : Nat → Hd} {V U : Nat → Value} {Tm : Nat → Nat} {BL : Nat → List (List Nat)} (h : FinS w6 wr g tw n i H V U Tm BL (BL i)) : FinS w6 wr g tw n (i + 1) H V U (upd Tm (i + 1) wr.heap.size) BL [] := by
  have e : ∀ t, t ≤ i → upd Tm (i + 1) wr.heap.size t = Tm t := fun t ht => upd_ne _ _ _ (by omega)
  refine ⟨h.bt, h.top, fun t ht => ?_, ?_, ?_, fun t ht => ?_, ?_, fun t ht => h.rest t (by omega), h.word⟩
  · rw [e t (by omega)]
    by_cases et : t = i
    · subst et; rw [upd_at]; exact OwnBk.of h.now
    · rw [e (t + 1) (by omega)]; exact h.done t (by omega)
  · rw [upd_at, h.rest (i + 1) (by omega)]; exact OwnLA.nil _ _ _
  · rw [e 0 (by omega)]; exact h.lo
  · rw [e t (by omega)]
    by_cases et : t = i
    · subst et; rw [upd_at]; exact h.hi
    · rw [e (t + 1) (by omega)]; exact h.mono t (by omega)
  · rw [upd_at]; exact Nat.le_refl _
theorem FinS.sd {w6 wr : World} {g tw n : Nat} {H : Nat → Hd} {V U : Nat → Value} {Tm : Nat → Nat} {BL : Nat → List (List Nat)} {B : Nat} (h : FinS w6 wr g tw n n H V U Tm BL []) (hg : g < w6.heap.size) (hB : B ≤ g) : OwnSd wr B g n n H V BL Tm :=
  ⟨h.top.mono hB, h.done, Nat.lt_of_lt_of_le hg h.lo, h.mono⟩
/-- A block more: the row is made (w1), its header appended (w2), the list's header stored, the word's row cut. -/
theorem FinS.push {w6 wr w1 w2 : World} {g tw n i : Nat} {H : Nat → Hd} {V U : Nat → Value} {Tm : Nat → Nat} {BL : Nat → List (List Nat)} {bi bi' : List (List Nat)} {v' u : Value} (h : FinS w6 wr g tw n i H V U Tm BL bi) (hi : i < n) (hgt : g ≠ tw) (hg6 : g < w6.heap.size) (ht6 : tw < w6.heap.size)
    (hb : Below wr.heap.size wr w1) (hg : w1.grownBy w2 (V i).ownBlock) (hL : OwnLA w2 (Tm i) w2.heap.size v' bi') :
    FinS w6 ((w2.setCell ⟨g, i * 17 + 16, none⟩ v').setCell ⟨tw, i, none⟩ u) g tw n i H (upd V i v') (upd U i u) Tm BL bi' := by
  have hsz := h.bt.size
  have hTi := h.tm i (Nat.le_refl _)
  have hVi : ∀ k, (V i).ownBlock = some k → Tm i ≤ k := fun k hk => by
    obtain ⟨S, C, h1, _⟩ := h.now
    exact (h1.top.lt k hk).1
  have hsz1 := hb.size
  have hsz2 := hg.size
  have hblk : ∀ k, k < Tm i → w2.heap[k]? = wr.heap[k]? := fun k hk => by
    have hki := h.hi
    rw [hg.block k (by omega) (fun e => by have := hVi k e.symm; omega)]
    exact hb.block k (by omega)
  have hset : ∀ k, k ≠ g → k ≠ tw → ((w2.setCell ⟨g, i * 17 + 16, none⟩ v').setCell ⟨tw, i, none⟩ u).heap[k]? = w2.heap[k]? := fun k h1 h2 => by
    rw [Below.heap_setCell _ _ _ _ (by show k ≠ tw; exact h2), Below.heap_setCell _ _ _ _ (by show k ≠ g; exact h1)]
  have hszE : ((w2.setCell ⟨g, i * 17 + 16, none⟩ v').setCell ⟨tw, i, none⟩ u).heap.size = w2.heap.size := by simp
  have htop2 : Own w2 g 69 17 (.slice (some ⟨g, 0, none⟩) n n) n (fun t => sdC (H t) (V t)) := h.top.blocks fun k hk => by
    injection hk with hk
    exact hblk k (by show k < _; have : g = k := hk; omega)
  refine ⟨?_, ?_, fun t ht => ?_, ?_, h.lo, h.mono, ?_, fun t ht => ?_, ?_⟩
  · exact (((h.bt.kept hb).grown hg (fun k hk => .inl (Nat.le_trans hTi (hVi k hk)))).set (.inl rfl) v').set (.inr rfl) u
  · have h1 := (htop2.setN (fun _ _ => sdC_len _ _) hi (show 16 < 17 by decide) v').congr (g := fun t => sdC (H t) (upd V i v' t)) fun t _ => by
      by_cases e : t = i
      · subst e; rw [if_pos rfl, upd_at]; rfl
      · rw [if_neg e, upd_ne _ _ _ e]
    exact h1.keptRow (put_grown u) (.inr (by intro e; injection e with e; exact hgt e))
  · have hle : Tm (t + 1) ≤ Tm i := h.tmi (by omega) (Nat.le_refl _)
    have hlo := h.tm t (by omega)
    rw [upd_ne _ _ _ (by omega)]
    exact (h.done t ht).blocks fun k h1 h2 => by rw [hset k (by omega) (by omega)]; exact hblk k (by omega)
  · rw [upd_at]
    have h1 := (hL.set (p := g) (i := i * 17 + 16) (by omega) v').set (p := tw) (i := i) (by omega) u
    rw [hszE]
    exact h1
  · rw [hszE]; have := h.hi; omega
  · rw [upd_ne _ _ _ (by omega)]; exact h.rest t ht
  · have h1 : w2.rowIs tw 43 n U := h.word.of_block (hblk tw (by omega))
    refine ((h1.setOther (a := ⟨g, i * 17 + 16, none⟩) (by show tw ≠ g; exact fun e => hgt e.symm) v').set i u).congr fun t _ => ?_
    by_cases e : t = i
    · subst e; rw [if_pos rfl, upd_at]
    · rw [if_neg e, upd_ne _ _ _ e]
end Go.Proofs.Ytjaaldandgfkgaa

/- Memory words for the document's Split: shards whose lists of blocks grow beside each other. Conditions: as the theorems have them. -/
namespace Go.Proofs.Ytjaaldandgfkgaa
open Go.RowKit

/-- Shards under way: the list g, each one's list of rows owned from B on, no two in one block. -/
structure Lls (w : World) (B g n c : Nat) (H : Nat → Hd) (V : Nat → Value) (LL : Nat → List (List Nat)) : Prop where
  top : Own w g 69 17 (.slice (some ⟨g, 0, none⟩) n c) n (fun t => sdC (H t) (V t))
  row : ∀ t, t < n → OwnLL w B (V t) (LL t)
  apart : ∀ s t, s < n → t < n → s ≠ t → ∀ k, (V s).ownBlock = some k → (V t).ownBlock ≠ some k
theorem OwnLL.top {w : World} {B : Nat} {v : Value} {LL : List (List Nat)} (h : OwnLL w B v LL) : ∃ f : Nat → List Value, Own w B 43 1 v LL.length f := by
  obtain ⟨S, C, h1, _⟩ := h
  exact ⟨_, h1⟩
theorem OwnLL.keptRow {w w' : World} {B B' m : Nat} {v u : Value} {f : Nat → List Value} {LL : List (List Nat)} (h : OwnLL w B v LL) (hu : Own w B' 43 1 u m f) (hg : w.grownBy w' u.ownBlock) (hv : v.ownBlock = none ∨ v.ownBlock ≠ u.ownBlock) : OwnLL w' B v LL := by
  obtain ⟨S, C, h1, h2⟩ := h
  exact ⟨S, C, h1.keptRow hg hv, fun i hi => (h2 i hi).keptRow hg (own_ne (h2 i hi).own hu (by decide))⟩
theorem OwnLL.other {w : World} {B B' g m i : Nat} {v u : Value} {f : Nat → List Value} {LL : List (List Nat)} (h : OwnLL w B v LL) (hu : Own w B' 69 17 u m f) (hg : u.ownBlock = some g) (x : Value) : OwnLL (w.setCell ⟨g, i, none⟩ x) B v LL := by
  obtain ⟨S, C, h1, h2⟩ := h
  have hp : w.grownBy (w.setCell ⟨g, i, none⟩ x) u.ownBlock := by rw [hg]; exact put_grown x
  exact ⟨S, C, h1.keptRow hp (own_ne h1 hu (by decide)), fun i hi => (h2 i hi).keptRow hp (own_ne (h2 i hi).own hu (by decide))⟩
theorem Lls.kept {w w' : World} {B g n c : Nat} {H : Nat → Hd} {V : Nat → Value} {LL : Nat → List (List Nat)} (h : Lls w B g n c H V LL) (hb : Below w.heap.size w w') : Lls w' B g n c H V LL :=
  ⟨h.top.kept hb, fun t ht => (h.row t ht).kept hb, h.apart⟩
theorem Lls.congr {w : World} {B g n c : Nat} {H : Nat → Hd} {V : Nat → Value} {LL LL' : Nat → List (List Nat)} (h : Lls w B g n c H V LL) (e : ∀ t, t < n → LL t = LL' t) : Lls w B g n c H V LL' :=
  ⟨h.top, fun t ht => by rw [← e t ht]; exact h.row t ht, h.apart⟩
theorem Lls.push {w w' : World} {B g n c i : Nat} {H : Nat → Hd} {V : Nat → Value} {LL : Nat → List (List Nat)} {v' : Value} {L' : List (List Nat)} (h : Lls w B g n c H V LL) (hi : i < n) (hL : OwnLL w' B v' L') (hg : w.grownBy w' (V i).ownBlock)
    (hat : v'.ownBlock = (V i).ownBlock ∨ ∃ k, v'.ownBlock = some k ∧ w.heap.size ≤ k) : Lls (w'.setCell ⟨g, i * 17 + 16, none⟩ v') B g n c H (upd V i v') (upd LL i L') := by
  obtain ⟨fi, hVi⟩ := (h.row i hi).top
  have htop : Own w' g 69 17 (.slice (some ⟨g, 0, none⟩) n c) n (fun t => sdC (H t) (V t)) := h.top.keptRow hg (own_ne h.top hVi (by decide))
  have hap : ∀ t, t < n → t ≠ i → ∀ k, (V t).ownBlock = some k → v'.ownBlock ≠ some k := fun t ht hne k hk e2 => by
    rcases hat with e | ⟨k', e, hk'⟩
    · exact h.apart t i ht hi hne k hk (e ▸ e2)
    · obtain ⟨ft, hVt⟩ := (h.row t ht).top
      rw [e] at e2; injection e2 with e2
      have := (hVt.lt k hk).2
      omega
  refine ⟨?_, fun t ht => ?_, fun s t hs ht hne k hk => ?_⟩
  · exact (htop.setN (fun _ _ => sdC_len _ _) hi (show 16 < 17 by decide) v').congr fun t _ => by
      by_cases e : t = i
      · subst e; rw [if_pos rfl, upd_at]; rfl
      · rw [if_neg e, upd_ne _ _ _ e]
  · by_cases e : t = i
    · subst e
      rw [upd_at, upd_at]
      exact hL.other htop rfl v'
    · rw [upd_ne _ _ _ e, upd_ne _ _ _ e]
      refine OwnLL.other ((h.row t ht).keptRow hVi hg ?_) htop rfl v'
      cases ho : (V t).ownBlock with
      | none => exact .inl rfl
      | some k => exact .inr fun e2 => h.apart t i ht hi e k ho e2.symm
  · by_cases es : s = i
    · subst es
      rw [upd_at] at hk
      rw [upd_ne _ _ _ (Ne.symm hne)]
      intro e2
      exact hap t ht (Ne.symm hne) k e2 hk
    · rw [upd_ne _ _ _ es] at hk
      by_cases et : t = i
      · subst et; rw [upd_at]; exact hap s hs es k hk
      · rw [upd_ne _ _ _ et]; exact h.apart s t hs ht hne k hk
theorem Lls.rsd {w : World} {B g n c : Nat} {H : Nat → Hd} {V : Nat → Value} {LL : Nat → List (List Nat)} (h : Lls w B g n c H V LL) : RSd w (some ⟨g, 0, none⟩) n H LL := by
  have hv : ∀ i, ∃ A c, i < n → V i = .slice A (LL i).length c ∧ RLL w A (LL i) ∧ (LL i).length ≤ c := fun i => by
    by_cases hi : i < n
    · obtain ⟨A, c, e, hc, hr⟩ := (h.row i hi).rd
      exact ⟨A, c, fun _ => ⟨e, hr, hc⟩⟩
    · exact ⟨none, 0, fun h => absurd h hi⟩
  refine ⟨fun i => Classical.choose (hv i), fun i => Classical.choose (Classical.choose_spec (hv i)), ?_, fun i hi => (Classical.choose_spec (Classical.choose_spec (hv i)) hi).2⟩
  exact (h.top.rdC fun i _ => sdC_len _ _).congr fun i hi => by rw [(Classical.choose_spec (Classical.choose_spec (hv i)) hi).1]
/-- Rows that can be read and lie from B on. -/
def RdMB (w : World) (B : Nat) (A : Option Addr) (n : Nat) (L : Nat → Nat) (f : Nat → Nat → Value) : Prop :=
  ∃ (S : Nat → Option Addr) (C : Nat → Nat), Rd w A n (fun i => .slice (S i) (L i) (C i)) ∧ (∀ b o, A = some ⟨b, o, none⟩ → B ≤ b) ∧ ∀ i, i < n → Rd w (S i) (L i) (f i) ∧ ∀ b o, S i = some ⟨b, o, none⟩ → B ≤ b
theorem OwnM.rdmb {w : World} {B tR e : Nat} {v : Value} {k : Nat} {S : Nat → Option Addr} {C : Nat → Nat} {L : Nat → Nat} {f : Nat → Nat → Value} (h : OwnM w B tR e v k S C L f) : ∃ A c, v = .slice A k c ∧ k ≤ c ∧ RdMB w B A k L f := by
  obtain ⟨A, c, hv, hc, _, hr, hlo⟩ := h.1.rd
  refine ⟨A, c, hv, hc, S, C, hr, hlo, fun i hi => ?_⟩
  obtain ⟨A', c', e, _, _, hr', hlo'⟩ := (h.2 i hi).rd
  injection e with e _ _
  rw [e]; exact ⟨hr', hlo'⟩
theorem RdMB.rdm {w : World} {B : Nat} {A : Option Addr} {n : Nat} {L : Nat → Nat} {f : Nat → Nat → Value} (h : RdMB w B A n L f) : RdM w A n L f := by
  obtain ⟨S, C, h1, _, h2⟩ := h
  exact ⟨S, C, h1, fun i hi => (h2 i hi).1⟩
theorem Rd.bt {w w' : World} {B g : Nat} {A : Option Addr} {n : Nat} {f : Nat → Value} (h : Rd w A n f) (hlo : ∀ b o, A = some ⟨b, o, none⟩ → B ≤ b) (hg : g < B) (hb : Bt w w' g g) : Rd w' A n f := fun i hi => by
  obtain ⟨b, o, e, hlt, hc⟩ := h i hi
  have := hlo b o e
  have hs := hb.size
  exact ⟨b, o, e, by omega, by rw [World.cell?_of_block (hb.block b hlt (by omega) (by omega))]; exact hc⟩
theorem RdMB.bt {w w' : World} {B g : Nat} {A : Option Addr} {n : Nat} {L : Nat → Nat} {f : Nat → Nat → Value} (h : RdMB w B A n L f) (hg : g < B) (hb : Bt w w' g g) : RdMB w' B A n L f := by
  obtain ⟨S, C, h1, h2, h3⟩ := h
  exact ⟨S, C, h1.bt h2 hg hb, h2, fun i hi => ⟨(h3 i hi).1.bt (h3 i hi).2 hg hb, (h3 i hi).2⟩⟩
theorem wpList_pushLLh {w : World} {ops : Array Oper} {rest : List Oper} {o : Oper} {a : Act} {Q : Exit → Act → World → Prop} {A : Option Addr} {c n : Nat} (hgd : o.guard = none) (s xo : Operand)
    (ho : o.op = .call { callee := .builtin .append, args := #[s, xo], argTypes := #[67, 67] }) (B : Nat) (v : Value) (LL : List (List Nat)) (hv : a.eval s = v) (hown : OwnLL w B v LL) (hB : B ≤ w.heap.size)
    (l : List Nat) (hn : n = l.length) (hrow : OwnB w B (.slice A n c) l) (N : Nat) (hN : w.heap.size = N) (hx : a.eval xo = .slice (some ⟨N, 0, none⟩) 1 1) (hlen : LL.length ≤ 1000000000000)
    (h : ∀ v' w', OwnLL w' B v' (LL ++ [l]) → Below B w w' → w.grownBy w' v.ownBlock → (v'.ownBlock = v.ownBlock ∨ ∃ k, v'.ownBlock = some k ∧ w.heap.size ≤ k) → wpList Try.prog ops Q rest (a.put o.dst v') w') : wpList Try.prog ops Q (o :: rest) a (w.alloc (.cells #[.slice A n c] 43)) := by
  subst hn
  obtain ⟨S, C, h1, h2⟩ := hown
  have h1' : Own w B 43 1 v LL.length (fun i => [.slice (upd S LL.length A i) ((LL ++ [l]).getD i []).length (upd C LL.length c i)]) := h1.congr fun i hi => by
    rw [upd_ne _ _ _ (by omega), upd_ne _ _ _ (by omega), getD_app_l hi]
  refine wpList_push w hgd s xo 67 ho B 43 1 24 (.slice none 0 0) #[.slice A l.length c] Try.underlying67 rowsInf rfl (by decide) v LL.length _ hv h1' hB N hN hx
    (by rw [upd_at, upd_at, getD_app_r]) rfl rfl (by omega) (by omega) ?_
  intro v' w' hown' hb hg hat
  refine h v' w' ⟨upd S LL.length A, upd C LL.length c, by rw [List.length_append]; exact hown', fun i hi => ?_⟩ hb hg (hat.imp id fun e => ⟨_, e, by omega⟩)
  have hi : i < LL.length + 1 := by rw [List.length_append] at hi; exact hi
  by_cases e : i = LL.length
  · subst e
    rw [upd_at, upd_at, getD_app_r]
    exact hrow.keptRow hg (own_ne hrow.own h1 (by decide))
  · rw [upd_ne _ _ _ e, upd_ne _ _ _ e, getD_app_l (by omega)]
    exact (h2 i (by omega)).keptRow hg (own_ne (h2 i (by omega)).own h1 (by decide))
end Go.Proofs.Ytjaaldandgfkgaa
