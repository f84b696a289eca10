/- Memory for shards that were lent: each one's rows with marks behind them, apart from the others'. Conditions: as the theorems have them. -/
import Derived.Test.YtjaaldandgfkgaaShM
import Derived.Test.YtjaaldandgfkgaaSameS
import Derived.Test.YtjaaldandgfkgaaSpL
import Derived.Test.YtjaaldandgfkgaaSdW
namespace Go.Proofs.Ytjaaldandgfkgaa
open Go.RowKit

/-- How long the rows of a list are. -/
def lenL (LL : List (List Nat)) (i : Nat) : Nat := (LL.getD i []).length
def getL (LL : List (List Nat)) (i j : Nat) : Nat := (LL.getD i []).getD j 0
/-- One shard's rows, lent: all in blocks between lo and hi. -/
def LsR (w : World) (lo hi : Nat) (V : Value) (LL : List (List Nat)) : Prop :=
  ∃ (t c : Nat) (S C : Nat → Nat), V = .slice (some ⟨t, 0, none⟩) LL.length c ∧ LentW w lo (.slice (some ⟨t, 0, none⟩) (LL.length + 64) c) (LL.length + 64) S (lnL LL.length (lenL LL)) C (lnM LL.length (lenL LL)) (lnF LL.length (lenL LL) (getL LL)) ∧
    LL.length + 64 ≤ c ∧ (∀ i, i < LL.length + 64 → lnM LL.length (lenL LL) i ≤ C i) ∧ t < hi ∧ ∀ i, i < LL.length + 64 → S i < hi
theorem LsR.kept {w w' : World} {lo hi : Nat} {V : Value} {LL : List (List Nat)} (h : LsR w lo hi V LL) (hb : Below w.heap.size w w') : LsR w' lo hi V LL := by
  obtain ⟨t, c, S, C, h1, h2, h3, h4, h5, h6⟩ := h
  exact ⟨t, c, S, C, h1, h2.kept hb, h3, h4, h5, h6⟩
theorem LsR.mono {w : World} {lo hi hi' : Nat} {V : Value} {LL : List (List Nat)} (h : LsR w lo hi V LL) (hh : hi ≤ hi') : LsR w lo hi' V LL := by
  obtain ⟨t, c, S, C, h1, h2, h3, h4, h5, h6⟩ := h
  exact ⟨t, c, S, C, h1, h2, h3, h4, by omega, fun i hi => Nat.lt_of_lt_of_le (h6 i hi) hh⟩
/-- A block outside is written. -/
theorem LsR.row_ {w w' : World} {lo hi : Nat} {V : Value} {LL : List (List Nat)} {r : Option Nat} (h : LsR w lo hi V LL) (hg : w.grownBy w' r) (hr : ∀ k, r = some k → k < lo ∨ hi ≤ k) : LsR w' lo hi V LL := by
  obtain ⟨t, c, S, C, h1, h2, h3, h4, h5, h6⟩ := h
  have ne : ∀ k, lo ≤ k → k < hi → some k ≠ r := fun k h1 h2 e => by rcases hr k e.symm with h3 | h3 <;> omega
  refine ⟨t, c, S, C, h1, ⟨h2.top.keptRow hg (.inr (ne t (h2.top.lt t rfl).1 h5)), fun i hi => (h2.row i hi).keptRow hg (.inr (ne (S i) ((h2.row i hi).lt (S i) rfl).1 (h6 i hi))), h2.inj⟩, h3, h4, h5, h6⟩
/-- Shards, n of them, N in the list: each one's rows lie between two marks of its own, as R says. -/
structure ShL (R : World → Nat → Nat → Value → List (List Nat) → Prop) (w : World) (B : Nat) (v : Value) (n N : Nat) (H : Nat → Hd) (V : Nat → Value) (T U : Nat → Nat) (BL : Nat → List (List Nat)) : Prop where
  top : Own w B 69 17 v N (fun i => sdC (H i) (V i))
  row : ∀ i, i < n → R w (T i) (U i) (V i) (BL i)
  off : ∀ k, v.ownBlock = some k → ∀ i, i < n → k < T i ∨ U i ≤ k
  ord : ∀ i j, i < j → j < n → U i ≤ T j
  le : ∀ i, i < n → U i ≤ w.heap.size
  lo : ∀ i, i < n → B ≤ T i
/-- What is asked of R: other blocks may be written. -/
def RKept (R : World → Nat → Nat → Value → List (List Nat) → Prop) : Prop := ∀ (w w' : World) (lo hi : Nat) (V : Value) (LL : List (List Nat)) (r : Option Nat), R w lo hi V LL → hi ≤ w.heap.size → w.grownBy w' r → (∀ k, r = some k → k < lo ∨ hi ≤ k) → R w' lo hi V LL
abbrev LentSd := ShL LsR
abbrev CopSd := ShL OwnBk
theorem lsR_kept : RKept LsR := fun _ _ _ _ _ _ _ h _ hg hr => h.row_ hg hr
theorem ownBk_kept : RKept OwnBk := fun _ _ _ _ _ _ _ h hw hg hr => h.blocks fun k h1 h2 => hg.block k (by omega) (fun e => by rcases hr k e.symm with h3 | h3 <;> omega)
theorem below_grown {w w' : World} (hb : Below w.heap.size w w') : w.grownBy w' none := ⟨hb.os, hb.tape, hb.output, hb.size, fun k hk _ => hb.block k hk⟩
section
variable {R : World → Nat → Nat → Value → List (List Nat) → Prop}
theorem ShL.nil (w : World) (B : Nat) (H : Nat → Hd) (V : Nat → Value) (T U : Nat → Nat) (BL : Nat → List (List Nat)) : ShL R w B (.slice none 0 0) 0 0 H V T U BL :=
  ⟨Own.nil _ _ _ _ _, fun i hi => absurd hi (by omega), fun _ _ i hi => absurd hi (by omega), fun i j _ hj => absurd hj (by omega), fun i hi => absurd hi (by omega), fun i hi => absurd hi (by omega)⟩
theorem ShL.kept (hR : RKept R) {w w' : World} {B : Nat} {v : Value} {n N : Nat} {H : Nat → Hd} {V : Nat → Value} {T U : Nat → Nat} {BL : Nat → List (List Nat)} (h : ShL R w B v n N H V T U BL) (hb : Below w.heap.size w w') : ShL R w' B v n N H V T U BL :=
  ⟨h.top.kept hb, fun i hi => hR _ _ _ _ _ _ _ (h.row i hi) (h.le i hi) (below_grown hb) (fun _ e => by cases e), h.off, h.ord, fun i hi => Nat.le_trans (h.le i hi) hb.size, h.lo⟩
/-- Behind the append of one more. -/
theorem ShL.push (hR : RKept R) {w w' : World} {B k lo hi : Nat} {v v' x : Value} {H : Nat → Hd} {V : Nat → Value} {T U : Nat → Nat} {BL : Nat → List (List Nat)} (h : ShL R w B v k k H V T U BL) (hr : R w lo hi x (BL k)) (hv : ∀ q, v.ownBlock = some q → q < lo) (hw : hi ≤ w.heap.size) (hlo : B ≤ lo)
    (hm : ∀ i, i < k → U i ≤ lo) (ho : Own w' B 69 17 v' (k + 1) (fun i => sdC (H i) (upd V k x i))) (hg : w.grownBy w' v.ownBlock) (hat : v'.ownBlock = v.ownBlock ∨ ∃ q, v'.ownBlock = some q ∧ w.heap.size ≤ q) :
    ShL R w' B v' (k + 1) (k + 1) H (upd V k x) (upd T k lo) (upd U k hi) BL := by
  refine ⟨ho, fun i hi' => ?_, fun q hq i hi' => ?_, fun i j hij hj => ?_, fun i hi' => ?_, fun i hi' => ?_⟩
  · by_cases e : i = k
    · subst e
      rw [upd_at, upd_at, upd_at]
      exact hR _ _ _ _ _ _ _ hr hw hg fun q hq => .inl (hv q hq)
    · rw [upd_ne _ _ _ e, upd_ne _ _ _ e, upd_ne _ _ _ e]
      exact hR _ _ _ _ _ _ _ (h.row i (by omega)) (h.le i (by omega)) hg fun q hq => h.off q hq i (by omega)
  · rcases hat with h1 | ⟨q', h1, h2⟩
    · rw [h1] at hq
      by_cases e : i = k
      · subst e; rw [upd_at]; exact .inl (hv q hq)
      · rw [upd_ne _ _ _ e, upd_ne _ _ _ e]; exact h.off q hq i (by omega)
    · rw [h1] at hq; injection hq with hq
      by_cases e : i = k
      · subst e; rw [upd_at, upd_at]; exact .inr (by omega)
      · rw [upd_ne _ _ _ e, upd_ne _ _ _ e]; have := h.le i (by omega); exact .inr (by omega)
  · by_cases e : j = k
    · subst e; rw [upd_at, upd_ne _ _ _ (by omega)]; exact hm i (by omega)
    · rw [upd_ne _ _ _ (by omega), upd_ne _ _ _ (by omega)]; exact h.ord i j hij (by omega)
  · by_cases e : i = k
    · subst e; rw [upd_at]; exact Nat.le_trans hw hg.size
    · rw [upd_ne _ _ _ e]; exact Nat.le_trans (h.le i (by omega)) hg.size
  · by_cases e : i = k
    · subst e; rw [upd_at]; exact hlo
    · rw [upd_ne _ _ _ e]; exact h.lo i (by omega)
/-- Behind the append of one that is not looked at. -/
theorem ShL.more (hR : RKept R) {w w' : World} {B n k : Nat} {v v' : Value} {H H' : Nat → Hd} {V V' : Nat → Value} {T U : Nat → Nat} {BL : Nat → List (List Nat)} (h : ShL R w B v n k H V T U BL) (hV : ∀ i, i < n → V' i = V i)
    (ho : Own w' B 69 17 v' (k + 1) (fun i => sdC (H' i) (V' i))) (hg : w.grownBy w' v.ownBlock) (hat : v'.ownBlock = v.ownBlock ∨ ∃ q, v'.ownBlock = some q ∧ w.heap.size ≤ q) :
    ShL R w' B v' n (k + 1) H' V' T U BL := by
  refine ⟨ho, fun i hi => ?_, fun q hq i hi => ?_, h.ord, fun i hi => Nat.le_trans (h.le i hi) hg.size, h.lo⟩
  · rw [hV i hi]
    exact hR _ _ _ _ _ _ _ (h.row i hi) (h.le i hi) hg fun q hq => h.off q hq i hi
  · rcases hat with h1 | ⟨q', h1, h2⟩
    · rw [h1] at hq; exact h.off q hq i hi
    · rw [h1] at hq; injection hq with hq
      have := h.le i hi
      exact .inr (by omega)
theorem ShL.congr {w : World} {B n N : Nat} {v : Value} {H H' : Nat → Hd} {V : Nat → Value} {T U : Nat → Nat} {BL BL' : Nat → List (List Nat)} (h : ShL R w B v n N H V T U BL) (eH : ∀ i, i < N → H' i = H i) (eB : ∀ i, i < n → BL' i = BL i) : ShL R w B v n N H' V T U BL' :=
  ⟨h.top.congr fun i hi => by rw [eH i hi], fun i hi => by rw [eB i hi]; exact h.row i hi, h.off, h.ord, h.le, h.lo⟩
end
/-- A whole head, loaded, as a look in a region. -/
theorem run_loadAgg {P : Program} {o : Oper} {a : Act} {w : World} (ty : TypeId) (x : Operand) (ho : o.op = .load ty x)
    (ad : Addr) (hx : a.eval x = .pointer (some ad)) (cs : Array Value) (d : TypeDesc) (hc : ∀ j v, cs.toList[j]? = some v → w.cell? (ad.add j) = some v) (hu : P.underlying ty = some d) (hd : (match d with | .struct _ | .array _ _ => true | _ => false) = true) (hi : (P.info? ty).map (·.size) = some cs.size) :
    (execOp a.eval o).run P w = .ok (.value (.agg cs)) w := by
  unfold execOp
  simp only [ho, hx, Instr.loadAt, Instr.sureAddr, Sem.run_bind, Sem.run_pure, Result.andThen_ok, run_loadVar_at w ad ty cs d hc hu hd hi]
/-- The push of an element of several cells, within growslice's own test. -/
theorem wpList_pushW (w : World) {ops : Array Oper} {rest : List Oper} {o : Oper} {a : Act} {Q : Exit → Act → World → Prop} (hgd : o.guard = none) (s x : Operand)
    (ho : o.op = .call { callee := .builtin .append, args := #[s, x], argTypes := #[45, 45] })
    (B : Nat) (C : Array Value) (v : Value) (k : Nat) (f : Nat → List Value) (hs : a.eval s = v) (hown : Own w B 69 17 v k f) (hB : B ≤ w.heap.size)
    (N : Nat) (hN : w.heap.size = N) (hx : a.eval x = .slice (some ⟨N, 0, none⟩) 1 1) (hu : C.toList = f k) (hC : C.size = 17) (h1 : C.toList.all Value.oneCell' = true)
    (hk : k < 1800000000000)
    (h : ∀ v' w', Own w' B 69 17 v' (k + 1) f → Below B w w' → w.grownBy w' v.ownBlock → (v'.ownBlock = v.ownBlock ∨ ∃ q, v'.ownBlock = some q ∧ w.heap.size ≤ q) → wpList Try.prog ops Q rest (a.put o.dst v') w') :
    wpList Try.prog ops Q (o :: rest) a (w.alloc (.cells C 69)) := by
  subst hN
  have hlen : C.toList.length = 17 := by simpa using hC
  refine wpList_append_srcW hgd s x 45 45 ho B 69 _ 17 104 Try.underlying45 shardInfo rfl v k _ hs (World.ownsRow.alloc hown _) _ 1 C.toList hx
    (Src.ofSlice _ Try.underlying45 _ _ _ _ (by rw [hlen]) (fun j u hu => cells_new _ _ _ j u hu) (fun u hu => List.all_eq_true.1 h1 u hu)) (by unfold maxLen; omega) (.inr (by omega)) (by simp; omega) ?_
  intro v' w' h1' hg hat
  have hg' : w.grownBy w' v.ownBlock := ⟨hg.os, hg.tape, hg.output, by have := hg.size; simp at this; omega, fun i hi hne => by
    rw [hg.block i (by simp; omega) hne]; exact Below.heap_alloc _ _ _ hi⟩
  refine h v' w' (Own.push (by rw [← hu]; exact h1')) ((Below.refl _ _).grown hg' hB fun g hg => (hown.lt g hg).1) hg' ?_
  rcases hat with e | e
  · exact .inl e
  · exact .inr ⟨_, e, by simp⟩
/-- The push of a row onto rows that lie apart, as far as memory goes. -/
theorem wpList_pushLAW {w : World} {ops : Array Oper} {rest : List Oper} {o : Oper} {a : Act} {Q : Exit → Act → World → Prop} {A : Option Addr} {c n : Nat} (hgd : o.guard = none) (s xo : Operand)
    (ho : o.op = .call { callee := .builtin .append, args := #[s, xo], argTypes := #[67, 67] }) (B T : Nat) (v : Value) (LL : List (List Nat)) (hv : a.eval s = v) (hown : OwnLA w B T v LL) (hB : B ≤ w.heap.size) (hBT : B ≤ T)
    (l : List Nat) (hn : n = l.length) (hrow : OwnB w T (.slice A n c) l) (N : Nat) (hN : w.heap.size = N) (hx : a.eval xo = .slice (some ⟨N, 0, none⟩) 1 1) (hlen : (LL.length + 1) * 24 ≤ 140737488355328)
    (h : ∀ v' w', OwnLA w' B w'.heap.size v' (LL ++ [l]) → Below B w w' → w.grownBy w' v.ownBlock → wpList Try.prog ops Q rest (a.put o.dst v') w') : wpList Try.prog ops Q (o :: rest) a (w.alloc (.cells #[.slice A n c] 43)) := by
  subst hn
  obtain ⟨S, C, hL, hT⟩ := hown
  have h1' : Own w B 43 1 v LL.length (fun i => [rowV (upd S LL.length A) (upd C LL.length c) (LL ++ [l]) i]) := hL.top.congr fun i hi => by
    unfold rowV; rw [upd_ne _ _ _ (by omega), upd_ne _ _ _ (by omega), getD_app_l hi]
  refine wpList_push w hgd s xo 67 ho B 43 1 24 (.slice none 0 0) #[.slice A l.length c] Try.underlying67 rowsInf rfl (by decide) v LL.length _ hv h1' hB N hN hx
    (by unfold rowV; rw [upd_at, upd_at, getD_app_r]) rfl rfl (by omega) (by omega) ?_
  intro v' w' hown' hb hg hat
  have eO : ∀ i, i < LL.length → rowV (upd S LL.length A) (upd C LL.length c) (LL ++ [l]) i = rowV S C LL i := fun i hi => by
    unfold rowV; rw [upd_ne _ _ _ (by omega), upd_ne _ _ _ (by omega), getD_app_l hi]
  have eN : rowV (upd S LL.length A) (upd C LL.length c) (LL ++ [l]) LL.length = .slice A l.length c := by unfold rowV; rw [upd_at, upd_at, getD_app_r]
  have hrows : ∀ i, i < (LL ++ [l]).length → OwnB w' B (rowV (upd S LL.length A) (upd C LL.length c) (LL ++ [l]) i) ((LL ++ [l]).getD i []) := fun i hi => by
    have hi : i < LL.length + 1 := by rw [List.length_append] at hi; exact hi
    by_cases e : i = LL.length
    · subst e
      rw [eN, getD_app_r]
      exact (hrow.mono hBT).keptRow hg (own_ne hrow.own hL.top (by decide))
    · rw [eO i (by omega), getD_app_l (by omega)]
      exact (hL.row i (by omega)).keptRow hg (own_ne (hL.row i (by omega)).own hL.top (by decide))
  refine h v' w' ⟨upd S LL.length A, upd C LL.length c, ⟨by rw [List.length_append]; exact hown', hrows, fun i j hij hj k hk => ?_⟩, fun i hi k hk => ((hrows i hi).lt k hk).2⟩ hb hg
  have hj : j < LL.length + 1 := by rw [List.length_append] at hj; exact hj
  rw [eO i (by omega)] at hk
  by_cases e : j = LL.length
  · subst e
    rw [eN]
    intro e2
    have h3 := (hrow.lt k e2).1
    have h4 := hT i (by omega) k hk
    omega
  · rw [eO j (by omega)]
    exact hL.apart i j hij (by omega) k hk
theorem lentR_any (A : Option Addr) (c : Nat) (LL : List (List Nat)) (w : World) (hn : LL.length * 24 ≤ 140737488351232) (hL : ∀ i, i < LL.length → lenL LL i ≤ 140737488351232) (hA : RLL w A LL) :
    Calls Try.prog 57 #[.slice A LL.length c] w fun e w' => ∃ V, e = .returned V ∧ LsR w' w.heap.size w'.heap.size V LL ∧ Below w.heap.size w w' := by
  refine (lentRows_any A LL.length c (lenL LL) (getL LL) w hn hL hA).mono ?_
  rintro e w' ⟨T, cT, S, C, rfl, hW, hb, hc, hC⟩
  exact ⟨_, rfl, ⟨T, cT, S, C, rfl, hW, hc, hC, (hW.top.lt T rfl).2, fun i hi => hW.lt i hi⟩, hb⟩
theorem LsR.rll {w : World} {lo hi : Nat} {V : Value} {LL : List (List Nat)} (h : LsR w lo hi V LL) : ∃ A c, V = .slice A LL.length c ∧ LL.length ≤ c ∧ RLL w A LL := by
  obtain ⟨t, c, S, C, h1, h2, h3, h4, h5, h6⟩ := h
  refine ⟨_, c, h1, by omega, ?_⟩
  have hr := h2.rdm (n := LL.length) (by omega) (fun i hi => by unfold lnL lnM; rw [if_pos hi, if_pos hi]; omega)
  obtain ⟨S', C', r1, r2⟩ := hr
  refine ⟨S', C', r1.congr fun i hi => ?_, fun i hi => ?_⟩
  · unfold lnL; rw [if_pos hi]; rfl
  · have h7 := r2 i hi
    unfold lnL at h7
    rw [if_pos hi] at h7
    refine Rd.congr h7 fun j hj => ?_
    show Value.int .u8 ((lnF LL.length (lenL LL) (getL LL) i j : Nat) : Int) = _
    unfold lnF mkd
    rw [if_pos hi, if_pos (show j < lenL LL i from hj)]; rfl
theorem LsR.low {w : World} {lo lo' hi : Nat} {V : Value} {LL : List (List Nat)} (h : LsR w lo hi V LL) (hl : lo' ≤ lo) : LsR w lo' hi V LL := by
  obtain ⟨t, c, S, C, h1, h2, h3, h4, h5, h6⟩ := h
  exact ⟨t, c, S, C, h1, ⟨h2.top.mono hl, fun i hi => (h2.row i hi).mono hl, h2.inj⟩, h3, h4, h5, h6⟩
end Go.Proofs.Ytjaaldandgfkgaa

/- lentShards: the walk. Conditions: shards that memory bears. -/
namespace Go.Proofs.Ytjaaldandgfkgaa
open Go.RowKit

/-- The heads behind what is lent. -/
def hd77 : Hd := { hd0 with size := -77 }
def bhH (n : Nat) (H : Nat → Hd) (i : Nat) : Hd := if i < n then H i else hd77
def bhV (n : Nat) (V : Nat → Value) (i : Nat) : Value := if i < n then V i else .slice none 0 0
theorem LsR.form {w : World} {lo hi : Nat} {V : Value} {LL : List (List Nat)} (h : LsR w lo hi V LL) : ∃ t c, V = .slice (some ⟨t, 0, none⟩) LL.length c := by
  obtain ⟨t, c, S, C, rfl, _⟩ := h
  exact ⟨t, c, rfl⟩
theorem lsh_push {w5 w9 : World} {B k lo : Nat} {v v9 V5 : Value} {H : Nat → Hd} {V : Nat → Value} {T U : Nat → Nat} {BL : Nat → List (List Nat)} (h : LentSd w5 B v k k H V T U BL) (hr : LsR w5 lo w5.heap.size V5 (BL k)) (hv : ∀ q, v.ownBlock = some q → q < lo) (hm : ∀ i, i < k → U i ≤ lo) (hlo : B ≤ lo)
    (ho : Own w9 B 69 17 v9 (k + 1) (fun i => sdC (H i) (upd V k V5 i))) (_hb : Below B w5 w9) (hg : w5.grownBy w9 v.ownBlock) (hat : v9.ownBlock = v.ownBlock ∨ ∃ q, v9.ownBlock = some q ∧ w5.heap.size ≤ q) :
    ∃ V' T' U', LentSd w9 B v9 (k + 1) (k + 1) H V' T' U' BL ∧ (∀ i, i < k + 1 → U' i ≤ w9.heap.size) :=
  have h1 := h.push lsR_kept hr hv (Nat.le_refl _) hlo hm ho hg hat
  ⟨_, _, _, h1, h1.le⟩
set_option maxRecDepth 100000 in
set_option maxHeartbeats 4000000 in
theorem lentShards_any (A : Option Addr) (n c : Nat) (H : Nat → Hd) (BL : Nat → List (List Nat)) (w : World) (hn : n * 104 ≤ 140737488351232) (hA : RSd w A n H BL) (hL : ∀ i, i < n → (BL i).length * 24 ≤ 140737488351232) (hLL : ∀ i, i < n → ∀ j, j < (BL i).length → lenL (BL i) j ≤ 140737488351232) :
    Calls Try.prog 25 #[.slice A n c] w fun e w' => ∃ g cg V T U, e = .returned (.slice (some ⟨g, 0, none⟩) n cg) ∧ LentSd w' w.heap.size (.slice (some ⟨g, 0, none⟩) (n + 64) cg) n (n + 64) (bhH n H) (bhV n V) T U BL ∧ n + 64 ≤ cg ∧ cg ≤ maxLen ∧ Below w.heap.size w w' := by
  have HA := Lib.hid hA; have HL := Lib.hid hL; have HLL0 := Lib.hid hLL
  clear hA hL hLL
  go_enter Try.func25, Try.ntmps25
  go_wp2
  go_loopg [3, 4] n (fun gk x i wr => ∃ (k : Nat) (v : Value) (V : Nat → Value) (T U : Nat → Nat), v = x ∧ k ≤ n ∧ gk = n - k ∧ i = .int .i64 k ∧ LentSd wr w.heap.size v k k H V T U BL ∧ Below w.heap.size w wr)
  case atStart => exact ⟨0, _, fun _ => .slice none 0 0, fun _ => 0, fun _ => 0, rfl, Nat.zero_le _, rfl, rfl, ShL.nil _ _ _ _ _ _ _, Below.refl _ _⟩
  case round =>
    obtain ⟨k, v, V, T, U, rfl, hk, rfl, rfl, hO, hb⟩ := hrel
    have hsz := hb.size
    by_cases hlt : k < n
    · obtain ⟨S, C, hS1, hS2⟩ := HA.out
      have HBW := Lib.hid (fun w' (h : Below wr.heap.size wr w') => hb.trans (h.mono hsz))
      obtain ⟨b, o, rfl⟩ := hS1.ex_ hlt
      obtain ⟨Y, hY⟩ : ∃ Y, Y = H k := ⟨_, rfl⟩
      obtain ⟨LB, hLB⟩ : ∃ LB, LB = BL k := ⟨_, rfl⟩
      obtain ⟨SA, hSA⟩ : ∃ SA, SA = S k := ⟨_, rfl⟩
      obtain ⟨CA, hCA⟩ : ∃ CA, CA = C k := ⟨_, rfl⟩
      have KS : Hid (∀ w4, Below w.heap.size w w4 → (∀ j u, (#[.int .u8 Y.s0, .int .u8 Y.s1, .int .u8 Y.s2, .int .u8 Y.s3, .int .u8 Y.s4, .int .u8 Y.s5, .int .u8 Y.s6, .int .u8 Y.s7, .int .i64 Y.K, .int .i64 Y.M, .int .i64 Y.B, .string Y.key, .int .i64 Y.size, .int .i64 Y.idx, .int .i64 Y.ep, .int .i64 Y.ct] : Array Value).toList[j]? = some u → w4.cell? ((⟨b, o + k * 17, none⟩ : Addr).add j) = some u) ∧ w4.cell? ⟨b, o + k * 17 + 16, none⟩ = some (.slice SA LB.length CA)) := Lib.hid fun w4 hb4 => by
        have h1 := hS1.keep hb4
        rw [hY, hLB, hSA, hCA]
        exact ⟨h1.head hlt, h1.list hlt⟩
      have HRL : Hid (RLL wr SA LB) := Lib.hid (by rw [hSA, hLB]; exact (hS2 k hlt).1.below hb)
      have hlb24 : LB.length * 24 ≤ 140737488351232 := by rw [hLB]; exact HL.out k hlt
      have HLL : Hid (∀ i, i < LB.length → lenL LB i ≤ 140737488351232) := Lib.hid (by rw [hLB]; exact HLL0.out k hlt)
      have HTOP : Hid (∀ V5 w5, Below wr.heap.size wr w5 → Own w5 w.heap.size 69 17 v k (fun i => sdC (H i) (upd V k V5 i))) := Lib.hid fun V5 w5 hb5 => (hO.top.kept hb5).congr fun i hi => by rw [upd_ne _ _ _ (by omega)]
      have HSZ : Hid (∀ w5, Below wr.heap.size wr w5 → w.heap.size ≤ w5.heap.size) := Lib.hid fun w5 hb5 => Nat.le_trans hsz hb5.size
      have HHK : Hid (∀ V5, sdC (H k) (upd V k V5 k) = (#[.int .u8 Y.s0, .int .u8 Y.s1, .int .u8 Y.s2, .int .u8 Y.s3, .int .u8 Y.s4, .int .u8 Y.s5, .int .u8 Y.s6, .int .u8 Y.s7, .int .i64 Y.K, .int .i64 Y.M, .int .i64 Y.B, .string Y.key, .int .i64 Y.size, .int .i64 Y.idx, .int .i64 Y.ep, .int .i64 Y.ct, V5] : Array Value).toList) := Lib.hid fun V5 => by rw [upd_at, hY]; rfl
      have HPUSH : Hid (∀ V5 w5 v9 w9, Below wr.heap.size wr w5 → LsR w5 wr.heap.size w5.heap.size V5 LB → Own w9 w.heap.size 69 17 v9 (k + 1) (fun i => sdC (H i) (upd V k V5 i)) → Below w.heap.size w5 w9 → w5.grownBy w9 v.ownBlock → (v9.ownBlock = v.ownBlock ∨ ∃ q, v9.ownBlock = some q ∧ w5.heap.size ≤ q) → (∃ V' T' U', LentSd w9 w.heap.size v9 (k + 1) (k + 1) H V' T' U' BL ∧ (∀ i, i < k + 1 → U' i ≤ w9.heap.size)) ∧ Below w.heap.size w w9) := Lib.hid fun V5 w5 v9 w9 hb5 hl5 ho9 hb9 hg9 hat9 =>
        ⟨lsh_push (hO.kept lsR_kept hb5) (by rw [← hLB]; exact hl5) (fun q hq => (hO.top.lt q hq).2) hO.le hsz ho9 hb9 hg9 hat9, (hb.trans (hb5.mono hsz)).trans hb9⟩
      clear hO hb hS1 hS2 hY hLB hSA hCA
      go_wp2_with fail
      refine wp_region_mix [(true, true, false), (true, true, false), (true, true, false), (true, true, false), (true, true, false), (true, true, true), (true, true, false), (true, true, false), (true, true, false), (true, true, false), (true, true, true), (false, false, false), (false, true, false), (false, false, false), (false, false, false), (false, true, false)] mixed (by kernel_rfl) (fun w4 => (∀ j u, (#[.int .u8 Y.s0, .int .u8 Y.s1, .int .u8 Y.s2, .int .u8 Y.s3, .int .u8 Y.s4, .int .u8 Y.s5, .int .u8 Y.s6, .int .u8 Y.s7, .int .i64 Y.K, .int .i64 Y.M, .int .i64 Y.B, .string Y.key, .int .i64 Y.size, .int .i64 Y.idx, .int .i64 Y.ep, .int .i64 Y.ct] : Array Value).toList[j]? = some u → w4.cell? ((⟨b, o + k * 17, none⟩ : Addr).add j) = some u) ∧ w4.cell? ⟨b, o + k * 17 + 16, none⟩ = some (.slice SA LB.length CA)) (KS.out _ (HBW.out _ (Below.refl _ _).drew)) ?_
      intro hSw0
      simp only [hdM, tlM, List.cons_append, List.nil_append]
      repeat (first
        | (refine mix_look hSw0.out (.agg #[.int .u8 Y.s0, .int .u8 Y.s1, .int .u8 Y.s2, .int .u8 Y.s3, .int .u8 Y.s4, .int .u8 Y.s5, .int .u8 Y.s6, .int .u8 Y.s7, .int .i64 Y.K, .int .i64 Y.M, .int .i64 Y.B, .string Y.key, .int .i64 Y.size, .int .i64 Y.idx, .int .i64 Y.ep, .int .i64 Y.ct]) (by rfl) (fun w4 hSw => run_loadAgg 42 (.tmp 16) rfl ⟨b, o + k * 17, none⟩ rfl #[.int .u8 Y.s0, .int .u8 Y.s1, .int .u8 Y.s2, .int .u8 Y.s3, .int .u8 Y.s4, .int .u8 Y.s5, .int .u8 Y.s6, .int .u8 Y.s7, .int .i64 Y.K, .int .i64 Y.M, .int .i64 Y.B, .string Y.key, .int .i64 Y.size, .int .i64 Y.idx, .int .i64 Y.ep, .int .i64 Y.ct] _ hSw.1 Try.underlying42 rfl info_H) ?_; simp only [Act.put, List.setIfInBounds_toArray, List.set_cons_zero, List.set_cons_succ])
        | (refine mix_look hSw0.out ?_ (by rfl) (fun w4 hSw => ?_) ?_; rotate_left; (focus (obtain ⟨s1, s2⟩ := hSw; clear s1; go_simp; try with_reducible rfl)); simp only [Act.put, List.setIfInBounds_toArray, List.set_cons_zero, List.set_cons_succ])
        | (refine mix_pure ?_ (by rfl) (fun w4 => ?_) ?_; rotate_left; (focus (go_simp; try with_reducible rfl)); simp only [Act.put, List.setIfInBounds_toArray, List.set_cons_zero, List.set_cons_succ]))
      refine mix_step (fun K hK => ?_)
      go_simp
      refine (lentR_any SA CA LB wr.drew (by omega) HLL.out (HRL.out.below (Below.refl _ _).drew)).mono ?_
      rintro e w5 ⟨V5, rfl, hL5, hb5⟩
      have HB5 : Hid (Below wr.heap.size wr w5) := Lib.hid ((Below.refl wr.heap.size wr).drew.trans hb5)
      have HL5 : Hid (LsR w5 wr.heap.size w5.heap.size V5 LB) := Lib.hid hL5
      clear hL5 hb5
      obtain ⟨t5, c5, rfl⟩ := HL5.out.form
      dsimp only
      refine hK.out _ _ (fun _ _ => KS.out _ (HBW.out _ HB5.out)) ?_
      clear hK K
      try simp only [Act.put, List.setIfInBounds_toArray, List.set_cons_zero, List.set_cons_succ]
      repeat (refine mix_pure ?_ (by rfl) (fun w4 => ?_) ?_; rotate_left; (focus (go_simp; try with_reducible rfl)); simp only [Act.put, List.setIfInBounds_toArray, List.set_cons_zero, List.set_cons_succ])
      refine mix_step (fun K hK => ?_)
      go_simp
      refine hK.out _ _ (fun _ _ => KS.out _ (HBW.out _ (HB5.out.alloc HB5.out.size _))) ?_
      clear hK K
      try simp only [Act.put, List.setIfInBounds_toArray, List.set_cons_zero, List.set_cons_succ]
      refine mix_list (fun K hK => ?_)
      change wpList _ _ _ _ _ (World.alloc w5 _)
      refine wpList_pushW w5 rfl (.tmp 12) (.tmp 25) rfl w.heap.size #[.int .u8 Y.s0, .int .u8 Y.s1, .int .u8 Y.s2, .int .u8 Y.s3, .int .u8 Y.s4, .int .u8 Y.s5, .int .u8 Y.s6, .int .u8 Y.s7, .int .i64 Y.K, .int .i64 Y.M, .int .i64 Y.B, .string Y.key, .int .i64 Y.size, .int .i64 Y.idx, .int .i64 Y.ep, .int .i64 Y.ct, .slice (some ⟨t5, 0, none⟩) LB.length c5] v k _ rfl (HTOP.out _ w5 HB5.out) (HSZ.out w5 HB5.out) w5.heap.size rfl rfl (HHK.out _).symm rfl rfl (by omega) ?_
      intro v9 w9 hO9 hb9 hg9 hat9
      have HP := Lib.hid (HPUSH.out _ w5 v9 w9 HB5.out HL5.out hO9 hb9 hg9 hat9)
      clear hO9 hb9 hg9 hat9
      refine hK.out _ _ (fun _ _ => KS.out _ HP.out.2) ?_
      clear hK K
      try simp only [Act.put, List.setIfInBounds_toArray, List.set_cons_zero, List.set_cons_succ]
      repeat (refine mix_pure ?_ (by rfl) (fun w4 => ?_) ?_; rotate_left; (focus (go_simp; try with_reducible rfl)); simp only [Act.put, List.setIfInBounds_toArray, List.set_cons_zero, List.set_cons_succ])
      refine mix_nil ?_
      obtain ⟨⟨V', T', U', hP1, hP2⟩, hP3⟩ := HP.out
      have HP1 := Lib.hid hP1
      clear hP1 hP2 HP HPUSH
      go_wp2
      go_roundg (n - (k + 1))
      case measure => omega
      case rel => exact ⟨k + 1, v9, V', T', U', rfl, by omega, rfl, by go_num, HP1.out, hP3⟩
    · obtain rfl : n = k := by omega
      have HO := Lib.hid hO; have HB := Lib.hid hb
      clear hO hb
      go_wp2
      go_loopg [3, 5] 64 (fun gk v i wr => ∃ (k : Nat), k ≤ 64 ∧ gk = 64 - k ∧ i = .int .i64 k ∧ LentSd wr w.heap.size v n (n + k) (bhH n H) (bhV n V) T U BL ∧ Below w.heap.size w wr)
      case atStart => exact ⟨0, Nat.zero_le _, rfl, rfl, ⟨HO.out.top.congr fun i hi => by unfold bhH bhV; rw [if_pos (by omega), if_pos (by omega)], fun i hi => by unfold bhV; rw [if_pos hi]; exact HO.out.row i hi, HO.out.off, HO.out.ord, HO.out.le, HO.out.lo⟩, HB.out⟩
      case round =>
        clear HO HB hsz
        obtain ⟨k, hk, rfl, rfl, hO, hb⟩ := hrel
        have hsz := hb.size
        have hs' : w.heap.size ≤ wr.heap.size + 1 := by omega
        by_cases hlt : k < 64
        · have hu : Hid ((#[.int .u8 0, .int .u8 0, .int .u8 0, .int .u8 0, .int .u8 0, .int .u8 0, .int .u8 0, .int .u8 0, .int .i64 0, .int .i64 0, .int .i64 0, .string ⟨#[]⟩, .int .i64 (-77), .int .i64 0, .int .i64 0, .int .i64 0, .slice none 0 0] : Array Value).toList = sdC (bhH n H (n + k)) (bhV n V (n + k))) := Lib.hid (by unfold bhH bhV; rw [if_neg (by omega), if_neg (by omega)]; rfl)
          have HO := Lib.hid hO; have HB := Lib.hid hb
          clear hO hb
          go_wp2_with (at_builtin; refine wpList_pushW _ rfl (.tmp 31) (.tmp 34) rfl w.heap.size #[.int .u8 0, .int .u8 0, .int .u8 0, .int .u8 0, .int .u8 0, .int .u8 0, .int .u8 0, .int .u8 0, .int .i64 0, .int .i64 0, .int .i64 0, .string ⟨#[]⟩, .int .i64 (-77), .int .i64 0, .int .i64 0, .int .i64 0, .slice none 0 0] _ (n + k) _ rfl HO.out.top hsz _ rfl rfl hu.out rfl rfl (by omega) ?_)
          intro v2 w2 hO2 hb2 hg2 hat2
          have HO2 := Lib.hid (HO.out.more lsR_kept (fun _ _ => rfl) hO2 hg2 hat2)
          have HB2 := Lib.hid (HB.out.trans hb2)
          clear hO2 hb2 hg2 hat2 hu
          go_wp2
          go_roundg (64 - (k + 1))
          case measure => omega
          case rel => exact ⟨k + 1, by omega, rfl, by go_num, HO2.out, HB2.out⟩
        · obtain rfl : k = 64 := by omega
          obtain ⟨g, cg, rfl, _, _, hcg, _⟩ := hO.top.form (by omega)
          have hcm : cg ≤ maxLen := by obtain ⟨A', c', e', _, h4, _⟩ := hO.top.rdC' (fun _ _ => sdC_len _ _); injection e' with _ _ e3; omega
          have hs1 : (0 : Int) ≤ (n : Int) := by omega
          have hs2 : (n : Int) ≤ (cg : Int) := by omega
          have HO := Lib.hid hO; have HB := Lib.hid hb
          clear hO hb
          go_wp2
          go_ret
          exact ⟨g, cg, V, T, U, rfl, HO.out, hcg, hcm, HB.out⟩
end Go.Proofs.Ytjaaldandgfkgaa

/- copied: the walk. Conditions: shards that memory bears. -/
namespace Go.Proofs.Ytjaaldandgfkgaa
open Go.RowKit

theorem cop_push {w5 w9 : World} {B k lo : Nat} {v v9 V5 : Value} {H : Nat → Hd} {V : Nat → Value} {T U : Nat → Nat} {BL : Nat → List (List Nat)} (h : CopSd w5 B v k k H V T U BL) (hr : OwnBk w5 lo w5.heap.size V5 (BL k)) (hv : ∀ q, v.ownBlock = some q → q < lo) (hm : ∀ i, i < k → U i ≤ lo) (hlo : B ≤ lo)
    (ho : Own w9 B 69 17 v9 (k + 1) (fun i => sdC (H i) (upd V k V5 i))) (hg : w5.grownBy w9 v.ownBlock) (hat : v9.ownBlock = v.ownBlock ∨ ∃ q, v9.ownBlock = some q ∧ w5.heap.size ≤ q) :
    ∃ V' T' U', CopSd w9 B v9 (k + 1) (k + 1) H V' T' U' BL ∧ (∀ i, i < k + 1 → U' i ≤ w9.heap.size) :=
  have h1 := h.push ownBk_kept hr hv (Nat.le_refl _) hlo hm ho hg hat
  ⟨_, _, _, h1, h1.le⟩
theorem CopSd.rsd {w : World} {B n : Nat} {v : Value} {H : Nat → Hd} {V : Nat → Value} {T U : Nat → Nat} {BL : Nat → List (List Nat)} (h : CopSd w B v n n H V T U BL) : ∃ A c, v = .slice A n c ∧ n ≤ c ∧ c ≤ maxLen ∧ RSd w A n H BL := by
  obtain ⟨A, c, e, h1, h2, h3⟩ := h.top.rdC' fun _ _ => sdC_len _ _
  have hv : ∀ i, ∃ A c, i < n → V i = .slice A (BL i).length c ∧ RLL w A (BL i) ∧ (BL i).length ≤ c := fun i => by
    by_cases hi : i < n
    · obtain ⟨A, c, e, hc, hr⟩ := (h.row i hi).rd
      exact ⟨A, c, fun _ => ⟨e, hr, hc⟩⟩
    · exact ⟨none, 0, fun h => absurd h hi⟩
  refine ⟨A, c, e, h1, h2, fun i => Classical.choose (hv i), fun i => Classical.choose (Classical.choose_spec (hv i)), ?_, fun i hi => (Classical.choose_spec (Classical.choose_spec (hv i)) hi).2⟩
  exact h3.congr fun i hi => by rw [(Classical.choose_spec (Classical.choose_spec (hv i)) hi).1]
theorem take_nextL {LL : List (List Nat)} {j : Nat} (h : j < LL.length) : LL.take j ++ [LL.getD j []] = LL.take (j + 1) := by
  rw [List.getD_eq_getElem?_getD, List.getElem?_eq_getElem h, List.take_add_one, List.getElem?_eq_getElem h]
  rfl
set_option maxRecDepth 100000 in
set_option maxHeartbeats 4000000 in
theorem copied_any (A : Option Addr) (n c : Nat) (H : Nat → Hd) (BL : Nat → List (List Nat)) (w : World) (hn : n * 104 ≤ 140737488351232) (hA : RSd w A n H BL) (hL : ∀ i, i < n → (BL i).length * 24 ≤ 140737488351232) (hLL : ∀ i, i < n → ∀ l ∈ BL i, l.length ≤ 140737488351232) :
    Calls Try.prog 26 #[.slice A n c] w fun e w' => ∃ v V T U, e = .returned v ∧ CopSd w' w.heap.size v n n H V T U BL ∧ Below w.heap.size w w' := by
  have HA := Lib.hid hA; have HL := Lib.hid hL; have HLL0 := Lib.hid hLL
  clear hA hL hLL
  go_enter Try.func26, Try.ntmps26
  go_wp2
  go_loopg [3, 4, 5, 6] n (fun gk x i _ _ wo => ∃ (k : Nat) (v : Value) (V : Nat → Value) (T U : Nat → Nat), v = x ∧ k ≤ n ∧ gk = n - k ∧ i = .int .i64 k ∧ CopSd wo w.heap.size v k k H V T U BL ∧ Below w.heap.size w wo)
  case atStart => exact ⟨0, _, fun _ => .slice none 0 0, fun _ => 0, fun _ => 0, rfl, Nat.zero_le _, rfl, rfl, ShL.nil _ _ _ _ _ _ _, Below.refl _ _⟩
  case round =>
    obtain ⟨k, v, V, T, U, rfl, hk, rfl, rfl, hO, hb⟩ := hrel
    obtain ⟨wo, rfl⟩ : ∃ wo : World, wo = wr := ⟨_, rfl⟩
    have hsz := hb.size
    by_cases hlt : k < n
    · obtain ⟨S, C, hS1, hS2⟩ := HA.out
      obtain ⟨b, o, rfl⟩ := hS1.ex_ hlt
      obtain ⟨Y, hY⟩ : ∃ Y, Y = H k := ⟨_, rfl⟩
      obtain ⟨LB, hLB⟩ : ∃ LB, LB = BL k := ⟨_, rfl⟩
      obtain ⟨SA, hSA⟩ : ∃ SA, SA = S k := ⟨_, rfl⟩
      obtain ⟨CA, hCA⟩ : ∃ CA, CA = C k := ⟨_, rfl⟩
      have KS : Hid (∀ w4, Below w.heap.size w w4 → (∀ j u, (#[.int .u8 Y.s0, .int .u8 Y.s1, .int .u8 Y.s2, .int .u8 Y.s3, .int .u8 Y.s4, .int .u8 Y.s5, .int .u8 Y.s6, .int .u8 Y.s7, .int .i64 Y.K, .int .i64 Y.M, .int .i64 Y.B, .string Y.key, .int .i64 Y.size, .int .i64 Y.idx, .int .i64 Y.ep, .int .i64 Y.ct] : Array Value).toList[j]? = some u → w4.cell? ((⟨b, o + k * 17, none⟩ : Addr).add j) = some u) ∧ w4.cell? ⟨b, o + k * 17 + 16, none⟩ = some (.slice SA LB.length CA)) := Lib.hid fun w4 hb4 => by
        have h1 := hS1.keep hb4
        rw [hY, hLB, hSA, hCA]
        exact ⟨h1.head hlt, h1.list hlt⟩
      have HRL : Hid (RLL w SA LB) := Lib.hid (by rw [hSA, hLB]; exact (hS2 k hlt).1)
      have hlb24 : LB.length * 24 ≤ 140737488351232 := by rw [hLB]; exact HL.out k hlt
      have HLL : Hid (∀ l ∈ LB, l.length ≤ 140737488351232) := Lib.hid (by rw [hLB]; exact HLL0.out k hlt)
      have HO := Lib.hid hO; have HB := Lib.hid hb; have HLBE := Lib.hid hLB; have HYE := Lib.hid hY
      obtain ⟨lb, hlb⟩ : ∃ lb, lb = LB.length := ⟨_, rfl⟩
      have HLBN := Lib.hid hlb
      rw [← hlb] at hlb24 KS
      clear hO hb hS1 hS2 hY hLB hSA hCA hlb
      go_wp2_with fail
      go_loopg [5, 6] lb (fun gj x i w1 => ∃ (j : Nat) (u : Value), u = x ∧ j ≤ lb ∧ gj = lb - j ∧ i = .int .i64 j ∧ OwnLA w1 wo.heap.size w1.heap.size u (LB.take j) ∧ Below wo.heap.size wo w1)
      case atStart => exact ⟨0, _, rfl, Nat.zero_le _, rfl, rfl, by rw [List.take_zero]; exact OwnLA.nil _ _ _, Below.refl _ _⟩
      case round =>
        obtain ⟨j, u, rfl, hj, rfl, rfl, hR, hb1⟩ := hrel
        have HR := Lib.hid hR; have HB1 := Lib.hid hb1
        have HBW := Lib.hid (HB.out.trans (hb1.mono hsz))
        have hsz1 := hb1.size
        have c16 := (KS.out _ HBW.out).2
        clear hR hb1
        by_cases hlj : j < lb
        · obtain ⟨S1, C1, hr1, hr2⟩ := HRL.out
          have hlj' : j < LB.length := by rw [← HLBN.out]; exact hlj
          obtain ⟨b1, o1, rfl, hb1, hc1⟩ := hr1 j hlj'
          obtain ⟨X, hX⟩ : ∃ X, X = LB.getD j [] := ⟨_, rfl⟩
          obtain ⟨lx, hlx⟩ : ∃ lx, lx = X.length := ⟨_, rfl⟩
          have hcj : wr.cell? ⟨b1, o1 + j, none⟩ = some (.slice (S1 j) lx (C1 j)) := by rw [HBW.out.cell hb1, hc1, hlx, hX]
          have HRX : Hid (RL wr (S1 j) X) := Lib.hid (by rw [hX]; exact (hr2 j hlj').below HBW.out)
          have hlx2 : lx ≤ 140737488351232 := by rw [hlx, hX]; exact HLL.out _ (getD_memL hlj')
          obtain ⟨S2, hS2⟩ : ∃ S2, S2 = S1 j := ⟨_, rfl⟩
          obtain ⟨C2, hC2⟩ : ∃ C2, C2 = C1 j := ⟨_, rfl⟩
          rw [← hS2, ← hC2] at hcj
          rw [← hS2] at HRX
          have HXE := Lib.hid hX; have HLX := Lib.hid hlx
          have hrow : Rd wr S2 lx (fun q => .int .u8 (X.getD q 0 : Nat)) := by rw [hlx]; exact HRX.out
          clear hr1 hr2 hb1 hc1 hX hlx hS2 hC2
          go_wp2_with (at_builtin; refine wpList_appendRd rfl (.const (.slice none 0 0)) (.tmp 31) 43 rfl wr.heap.size 5 1 (.int .u8 0) Try.underlying43 byteInfo rfl rfl (Nat.le_refl _) S2 lx C2 (fun q => .int .u8 (X.getD q 0 : Nat)) rfl hrow (fun _ _ => rfl) (by omega) (by omega) ?_)
          intro v7 w7 hO7 hb7
          obtain ⟨A7, c7, rfl, _, _, _, _⟩ := hO7.rd
          have HO7 : Hid (OwnB w7 wr.heap.size (.slice A7 lx c7) X) := Lib.hid (OwnB.of (by rw [← HLX.out]; exact hO7))
          have HB7 := Lib.hid hb7
          have hsz7 := hb7.size
          clear hO7 hb7 hrow hcj c16
          have HO8 := Lib.hid (HO7.out.kept ((Below.refl w7.heap.size w7).alloc (Nat.le_refl _) (.cells #[.slice A7 lx c7] 43)))
          have HR8 := Lib.hid ((HR.out.kept HB7.out))
          go_wp2_with (at_builtin; refine wpList_pushLAW rfl (.tmp 23) (.tmp 33) rfl wo.heap.size wr.heap.size u (LB.take j) rfl HR8.out (by omega) hsz1 X HLX.out HO7.out w7.heap.size rfl rfl (by rw [List.length_take]; omega) ?_)
          intro v9 w9 hO9 hb9 hg9
          have HO9 : Hid (OwnLA w9 wo.heap.size w9.heap.size v9 (LB.take (j + 1))) := Lib.hid (by rw [← take_nextL hlj', ← HXE.out]; exact hO9)
          have HB9 : Hid (Below wo.heap.size wo w9) := Lib.hid ((HB1.out.trans (HB7.out.mono hsz1)).trans hb9)
          clear hO9 hb9 hg9 HO8 HR8 HO7 HB7 HRX HR HB1
          go_wp2
          go_roundg (lb - (j + 1))
          case measure => omega
          case rel => exact ⟨j + 1, v9, rfl, by omega, rfl, by go_num, HO9.out, HB9.out⟩
        · obtain rfl : lb = j := by omega
          have HRb : Hid (OwnBk wr wo.heap.size wr.heap.size u LB) := Lib.hid (OwnBk.of (by have h1 := HR.out; rw [List.take_of_length_le (by rw [← HLBN.out]; exact Nat.le_refl _)] at h1; exact h1))
          obtain ⟨A5, c5, e5, _, _⟩ := HRb.out.rd
          rw [← HLBN.out] at e5
          subst e5
          have HHK : Hid (∀ V5, sdC (H k) (upd V k V5 k) = (#[.int .u8 Y.s0, .int .u8 Y.s1, .int .u8 Y.s2, .int .u8 Y.s3, .int .u8 Y.s4, .int .u8 Y.s5, .int .u8 Y.s6, .int .u8 Y.s7, .int .i64 Y.K, .int .i64 Y.M, .int .i64 Y.B, .string Y.key, .int .i64 Y.size, .int .i64 Y.idx, .int .i64 Y.ep, .int .i64 Y.ct, V5] : Array Value).toList) := Lib.hid fun V5 => by rw [upd_at, ← HYE.out]; rfl
          have HTOP : Hid (∀ V5, Own wr w.heap.size 69 17 v k (fun i => sdC (H i) (upd V k V5 i))) := Lib.hid fun V5 => (HO.out.top.kept HB1.out).congr fun i hi => by rw [upd_ne _ _ _ (by omega)]
          have HC0 := Lib.hid (KS.out _ HBW.out).1
          have hszw := HBW.out.size
          clear HR
          go_wp2_with (first | (refine wpList_loadAt rfl 42 (.tmp 39) rfl ⟨b, o + k * 17, none⟩ rfl #[.int .u8 Y.s0, .int .u8 Y.s1, .int .u8 Y.s2, .int .u8 Y.s3, .int .u8 Y.s4, .int .u8 Y.s5, .int .u8 Y.s6, .int .u8 Y.s7, .int .i64 Y.K, .int .i64 Y.M, .int .i64 Y.B, .string Y.key, .int .i64 Y.size, .int .i64 Y.idx, .int .i64 Y.ep, .int .i64 Y.ct] _ HC0.out Try.underlying42 rfl info_H ?_) | (at_builtin; refine wpList_pushW _ rfl (.tmp 35) (.tmp 43) rfl w.heap.size #[.int .u8 Y.s0, .int .u8 Y.s1, .int .u8 Y.s2, .int .u8 Y.s3, .int .u8 Y.s4, .int .u8 Y.s5, .int .u8 Y.s6, .int .u8 Y.s7, .int .i64 Y.K, .int .i64 Y.M, .int .i64 Y.B, .string Y.key, .int .i64 Y.size, .int .i64 Y.idx, .int .i64 Y.ep, .int .i64 Y.ct, .slice A5 lb c5] v k _ rfl (HTOP.out _) hszw _ rfl rfl (HHK.out _).symm rfl rfl (by omega) ?_))
          intro v9 w9 hO9 hb9 hg9 hat9
          have HP := Lib.hid (cop_push (HO.out.kept ownBk_kept HB1.out) (by rw [← HLBE.out]; exact HRb.out) (fun q hq => (HO.out.top.lt q hq).2) HO.out.le hsz hO9 hg9 hat9)
          have HB9 := Lib.hid (HBW.out.trans hb9)
          clear hO9 hb9 hg9 hat9 HTOP
          obtain ⟨V', T', U', hP1, _⟩ := HP.out
          have HP1 := Lib.hid hP1
          clear hP1 HP HRb HBW
          go_wp2
          go_roundg (n - (k + 1))
          case measure => omega
          case rel => exact ⟨k + 1, v9, V', T', U', rfl, by omega, rfl, by go_num, HP1.out, HB9.out⟩
    · obtain rfl : n = k := by omega
      have HO := Lib.hid hO; have HB := Lib.hid hb
      clear hO hb
      go_wp2
      go_ret
      exact ⟨_, V, T, U, rfl, HO.out, HB.out⟩
end Go.Proofs.Ytjaaldandgfkgaa
