/- Memory words for cutting objects: rows that grow beside each other; a head stored into a list of shards. Conditions: as the theorems have them. -/
import Derived.Test.YtjaaldandgfkgaaShM
import Derived.Test.YtjaaldandgfkgaaStP
namespace Go.Proofs.Ytjaaldandgfkgaa
open Go.RowKit

/-- Rows that grow: their headers in the block b, each row owned, no two in one block, none in b. -/
structure Rws (w : World) (B b n : Nat) (V : Nat → Value) (LL : Nat → List Nat) : Prop where
  top : w.rowIs b 43 n V
  row : ∀ i, i < n → OwnB w B (V i) (LL i)
  off : ∀ i, i < n → (V i).ownBlock ≠ some b
  apart : ∀ i j, i < n → j < n → i ≠ j → ∀ k, (V i).ownBlock = some k → (V j).ownBlock ≠ some k
theorem Rws.start (w : World) (B n : Nat) : Rws (w.alloc (.cells (madeCells #[.slice none 0 0] n) 43)) B w.heap.size n (fun _ => .slice none 0 0) (fun _ => []) :=
  ⟨World.rowIs_made _ _ _ _, fun _ _ => OwnB.nil _ _, (fun _ _ e => by cases e), (fun _ _ _ _ _ k e => by cases e)⟩
theorem Rws.kept {w w' : World} {B b n : Nat} {V : Nat → Value} {LL : Nat → List Nat} (h : Rws w B b n V LL) (hb : Below w.heap.size w w') : Rws w' B b n V LL :=
  ⟨below_row h.top hb h.top.lt, fun i hi => (h.row i hi).kept hb, h.off, h.apart⟩
theorem Rws.congr {w : World} {B b n : Nat} {V : Nat → Value} {LL LL' : Nat → List Nat} (h : Rws w B b n V LL) (e : ∀ i, i < n → LL i = LL' i) : Rws w B b n V LL' :=
  ⟨h.top, fun i hi => by rw [← e i hi]; exact h.row i hi, h.off, h.apart⟩
/-- One row is appended to, its header stored. -/
theorem Rws.app {w w' : World} {B b n i : Nat} {V : Nat → Value} {LL : Nat → List Nat} {v' : Value} {x : List Nat} (h : Rws w B b n V LL) (hi : i < n) (ho : OwnB w' B v' x) (hg : w.grownBy w' (V i).ownBlock) (hat : v'.ownBlock = (V i).ownBlock ∨ v'.ownBlock = some w.heap.size) :
    Rws (w'.setCell ⟨b, i, none⟩ v') B b n (upd V i v') (upd LL i x) := by
  have hbl := h.top.lt
  have hob : v'.ownBlock ≠ some b := by
    rcases hat with e | e
    · rw [e]; exact h.off i hi
    · rw [e]; intro e2; injection e2 with e2; omega
  have hap : ∀ t, t < n → t ≠ i → ∀ k, (V t).ownBlock = some k → v'.ownBlock ≠ some k := fun t ht hne k hk e2 => by
    rcases hat with e | e
    · exact h.apart t i ht hi hne k hk (e ▸ e2)
    · rw [e] at e2; injection e2 with e2; have := ((h.row t ht).lt k hk).2; omega
  have hput : w'.grownBy (w'.setCell ⟨b, i, none⟩ v') (some b) := put_grown _
  refine ⟨?_, fun t ht => ?_, fun t ht => ?_, fun s t hs ht hne k hk => ?_⟩
  · have h1 : w'.rowIs b 43 n V := h.top.of_block (hg.block b hbl fun e => h.off i hi e.symm)
    refine (h1.set i v').congr fun t _ => ?_
    by_cases e : t = i
    · subst e; rw [if_pos rfl, upd_at]
    · rw [if_neg e, upd_ne _ _ _ e]
  · by_cases e : t = i
    · subst e
      rw [upd_at, upd_at]
      exact ho.keptRow hput (.inr hob)
    · rw [upd_ne _ _ _ e, upd_ne _ _ _ e]
      have h1 : OwnB w' B (V t) (LL t) := (h.row t ht).keptRow hg (by
        cases ht' : (V t).ownBlock with
        | none => exact .inl rfl
        | some k => exact .inr fun e2 => h.apart t i ht hi e k ht' e2.symm)
      exact h1.keptRow hput (.inr (h.off t ht))
  · by_cases e : t = i
    · subst e; rw [upd_at]; exact hob
    · rw [upd_ne _ _ _ e]; exact h.off t ht
  · by_cases es : s = i
    · subst es
      rw [upd_at] at hk
      rw [upd_ne _ _ _ (Ne.symm hne)]
      intro e2
      exact hap t ht (Ne.symm hne) k e2 hk
    · rw [upd_ne _ _ _ es] at hk
      by_cases et : t = i
      · subst et; rw [upd_at]; exact hap s hs es k hk
      · rw [upd_ne _ _ _ et]; exact h.apart s t hs ht hne k hk
theorem Rws.rdm {w : World} {B b n len : Nat} {V : Nat → Value} {LL : Nat → List Nat} (h : Rws w B b n V LL) (hl : ∀ i, i < n → (LL i).length = len) : RdM w (some ⟨b, 0, none⟩) n (fun _ => len) (fun i c => .int .u8 ((LL i).getD c 0 : Nat)) := by
  have hv : ∀ i, ∃ A c, i < n → V i = .slice A len c ∧ Rd w A len (fun c => .int .u8 ((LL i).getD c 0 : Nat)) := fun i => by
    by_cases hi : i < n
    · obtain ⟨A, c, e, _, _, hr, _⟩ := (h.row i hi).rd
      unfold RL at hr
      rw [hl i hi] at hr
      exact ⟨A, c, fun _ => ⟨by rw [e, hl i hi], hr⟩⟩
    · exact ⟨none, 0, fun h => absurd h hi⟩
  refine ⟨fun i => Classical.choose (hv i), fun i => Classical.choose (Classical.choose_spec (hv i)), ?_, fun i hi => ?_⟩
  · exact (row_rd h.top).congr fun i hi => (Classical.choose_spec (Classical.choose_spec (hv i)) hi).1
  · exact (Classical.choose_spec (Classical.choose_spec (hv i)) hi).2
/-- A part of an element is stored at once. -/
theorem Own.part {w w' : World} {B e sz g c n i j : Nat} {f : Nat → List Value} {cur : Array Value} {cs : List Value} (h : Own w B e sz (.slice (some ⟨g, 0, none⟩) n c) n f) (hf : ∀ i, i < n → (f i).length = sz) (hg : w.heap[g]? = some (.cells cur e (0, 0))) (hi : i < n) (hj : j + cs.length ≤ sz)
    (hw : w'.heap[g]? = some (.cells (cur.toList.take (i * sz + j) ++ cs ++ cur.toList.drop (i * sz + j + cs.length)).toArray e (0, 0))) :
    Own w' B e sz (.slice (some ⟨g, 0, none⟩) n c) n (fun t => if t = i then (f i).take j ++ cs ++ (f i).drop (j + cs.length) else f t) := by
  have hlen : ∀ t, t < n → ((fun t => if t = i then (f i).take j ++ cs ++ (f i).drop (j + cs.length) else f t) t).length = sz := fun t ht => by
    by_cases e : t = i
    · subst e; simp only [↓reduceIte, List.length_append, List.length_take, List.length_drop, hf t ht]; omega
    · simp only [if_neg e]; exact hf t ht
  obtain ⟨h1, h2⟩ := id h
  rcases h2 with ⟨h2, _⟩ | ⟨g', cap, cur', e1, hg', hh, hn, hc, hcur, htake⟩
  · cases h2
  · injection e1 with e1 _ e3
    injection e1 with e1
    injection e1 with e1
    subst e1 e3
    rw [hg] at hh
    injection hh with hh
    injection hh with hh
    subst hh
    have hin : (i + 1) * sz ≤ n * sz := Nat.mul_le_mul_right _ hi
    have hcn : n * sz ≤ c * sz := Nat.mul_le_mul_right _ hn
    rw [Nat.add_mul] at hin
    have hcl : cur.toList.length = c * sz := by simpa using hcur
    refine ⟨by rw [flat_len hlen], .inr ⟨g, c, _, rfl, hg', hw, hn, hc, by simp only [List.size_toArray, List.length_append, List.length_take, List.length_drop, hcl]; omega, ?_⟩⟩
    refine flat_ext hlen (by simp only [List.length_take, List.length_append, List.length_drop, hcl]; omega) fun t s ht hs => ?_
    have hts : (t + 1) * sz ≤ n * sz := Nat.mul_le_mul_right _ ht
    rw [Nat.add_mul] at hts
    have hold : cur.toList[t * sz + s]? = (f t)[s]? := by
      have := flat_get (n := n) hf ht hs
      rw [← htake, List.getElem?_take, if_pos (by omega)] at this
      exact this
    rw [List.getElem?_take, if_pos (by omega)]
    show (cur.toList.take (i * sz + j) ++ cs ++ cur.toList.drop (i * sz + j + cs.length))[t * sz + s]? = _
    by_cases e : t = i
    · subst e
      rw [if_pos rfl]
      by_cases s1 : s < j
      · rw [List.append_assoc, List.append_assoc, List.getElem?_append_left (by rw [List.length_take, hcl]; omega), List.getElem?_append_left (by rw [List.length_take, hf t ht]; omega), List.getElem?_take, if_pos (by omega), List.getElem?_take, if_pos s1, hold]
      · by_cases s2 : s < j + cs.length
        · rw [List.getElem?_append_left (by rw [List.length_append, List.length_take, hcl]; omega), List.getElem?_append_right (by rw [List.length_take, hcl]; omega), List.getElem?_append_left (by rw [List.length_append, List.length_take, hf t ht]; omega), List.getElem?_append_right (by rw [List.length_take, hf t ht]; omega)]
          rw [List.length_take, List.length_take, hcl, hf t ht]
          congr 1; omega
        · rw [List.getElem?_append_right (by rw [List.length_append, List.length_take, hcl]; omega), List.getElem?_append_right (by rw [List.length_append, List.length_take, hf t ht]; omega), List.getElem?_drop, List.getElem?_drop]
          rw [List.length_append, List.length_append, List.length_take, List.length_take, hcl, hf t ht]
          rw [show t * sz + j + cs.length + (t * sz + s - (min (t * sz + j) (c * sz) + cs.length)) = t * sz + s by omega, show j + cs.length + (s - (min j sz + cs.length)) = s by omega, hold]
    · rw [if_neg e]
      rcases Nat.lt_or_ge t i with h3 | h3
      · have h4 : (t + 1) * sz ≤ i * sz := Nat.mul_le_mul_right _ h3
        rw [Nat.add_mul] at h4
        rw [List.append_assoc, List.getElem?_append_left (by rw [List.length_take, hcl]; omega), List.getElem?_take, if_pos (by omega), hold]
      · have h4 : (i + 1) * sz ≤ t * sz := Nat.mul_le_mul_right _ (by omega)
        rw [Nat.add_mul] at h4
        rw [List.getElem?_append_right (by rw [List.length_append, List.length_take, hcl]; omega), List.getElem?_drop]
        rw [List.length_append, List.length_take, hcl]
        rw [show i * sz + j + cs.length + (t * sz + s - (min (i * sz + j) (c * sz) + cs.length)) = t * sz + s by omega, hold]
theorem Own.cur {w : World} {B e sz g c n : Nat} {f : Nat → List Value} (h : Own w B e sz (.slice (some ⟨g, 0, none⟩) n c) n f) : ∃ cur, w.heap[g]? = some (.cells cur e (0, 0)) ∧ cur.size = c * sz ∧ n ≤ c ∧ B ≤ g := by
  obtain ⟨h1, h2⟩ := id h
  rcases h2 with ⟨h2, _⟩ | ⟨g', cap, cur', e1, hg', hh, hn, hc, hcur, htake⟩
  · cases h2
  · injection e1 with e1 _ e3
    injection e1 with e1
    injection e1 with e1
    subst e1 e3
    exact ⟨cur', hh, hcur, hn, hg'⟩
/-- A shard of zeros. -/
def hd0 : Hd := ⟨0, 0, 0, 0, 0, 0, 0, 0, 0, 0, 0, ⟨#[]⟩, 0, 0, 0, 0⟩
theorem shardInfo : (Try.prog.info? 69).map (fun i => (i.zero, i.size, i.bytes)) = some (some (.agg #[.int .u8 0, .int .u8 0, .int .u8 0, .int .u8 0, .int .u8 0, .int .u8 0, .int .u8 0, .int .u8 0, .int .i64 0, .int .i64 0, .int .i64 0, .string ⟨#[]⟩, .int .i64 0, .int .i64 0, .int .i64 0, .int .i64 0, .slice none 0 0]), 17, 104) := by kernel_rfl
theorem made_shards (w : World) (B n : Nat) (hB : B ≤ w.heap.size) (hn : n ≤ maxLen) :
    Own (w.alloc (.cells (madeCells (Value.agg #[.int .u8 0, .int .u8 0, .int .u8 0, .int .u8 0, .int .u8 0, .int .u8 0, .int .u8 0, .int .u8 0, .int .i64 0, .int .i64 0, .int .i64 0, .string ⟨#[]⟩, .int .i64 0, .int .i64 0, .int .i64 0, .int .i64 0, .slice none 0 0]).cells (n * 17)) 69)) B 69 17 (.slice (some ⟨w.heap.size, 0, none⟩) n n) n (fun _ => sdC hd0 (.slice none 0 0)) := by
  have hf : ∀ i, i < n → ((fun _ : Nat => sdC hd0 (.slice none 0 0)) i).length = 17 := fun _ _ => rfl
  refine ⟨by rw [flat_len hf], .inr ⟨w.heap.size, n, _, rfl, hB, heap_alloc_new w _, Nat.le_refl _, hn, by simp [madeCells], ?_⟩⟩
  refine flat_ext hf (by simp [madeCells]) fun i j hi hj => ?_
  have h1 : (i + 1) * 17 ≤ n * 17 := Nat.mul_le_mul_right _ hi
  have h2 : (i * 17 + j) % 17 = j := by omega
  rw [List.getElem?_take, if_pos (by omega)]
  simp only [madeCells, Array.getElem?_toList, Array.getElem?_map]
  rw [Array.getElem?_eq_getElem (by rw [Array.size_range]; omega), Array.getElem_range]
  show some ((#[Value.int .u8 0, .int .u8 0, .int .u8 0, .int .u8 0, .int .u8 0, .int .u8 0, .int .u8 0, .int .u8 0, .int .i64 0, .int .i64 0, .int .i64 0, .string ⟨#[]⟩, .int .i64 0, .int .i64 0, .int .i64 0, .int .i64 0, .slice none 0 0] : Array Value)[(i * 17 + j) % 17]!) = _
  rw [h2]
  match j, hj with
  | 0, _ => rfl
  | 1, _ => rfl
  | 2, _ => rfl
  | 3, _ => rfl
  | 4, _ => rfl
  | 5, _ => rfl
  | 6, _ => rfl
  | 7, _ => rfl
  | 8, _ => rfl
  | 9, _ => rfl
  | 10, _ => rfl
  | 11, _ => rfl
  | 12, _ => rfl
  | 13, _ => rfl
  | 14, _ => rfl
  | 15, _ => rfl
  | 16, _ => rfl
  | j + 17, h => exact absurd h (by omega)
end Go.Proofs.Ytjaaldandgfkgaa
