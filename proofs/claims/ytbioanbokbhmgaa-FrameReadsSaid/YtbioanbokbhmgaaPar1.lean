/- The callbacks of Parse and Spoilt: the walks. Conditions: what they captured stands where it stood. -/
import Derived.Test.YtbioanbokbhmgaaBlk
import Derived.Test.YtbioanbokbhmgaaMix
namespace Go.Proofs.Ytbioanbokbhmgaa
open Go.RowKit

theorem wpList_pushLLg {w : World} {ops : Array Oper} {rest : List Oper} {o : Oper} {a : Act} {Q : Exit → Act → World → Prop} {A : Option Addr} {c n : Nat} (hgd : o.guard = none) (s xo : Operand)
    (ho : o.op = .call { callee := .builtin .append, args := #[s, xo], argTypes := #[44, 44] }) (B : Nat) (v : Value) (LL : List (List Nat)) (hv : a.eval s = v) (hown : OwnLL w B v LL) (hB : B ≤ w.heap.size)
    (l : List Nat) (hn : n = l.length) (hrow : OwnB w B (.slice A n c) l) (N : Nat) (hN : w.heap.size = N) (hx : a.eval xo = .slice (some ⟨N, 0, none⟩) 1 1) (hlen : LL.length ≤ 1000000000000)
    (h : ∀ v' w', OwnLL w' B v' (LL ++ [l]) → Below B w w' → w.grownBy w' v.ownBlock → (v'.ownBlock = v.ownBlock ∨ v'.ownBlock = some (w.heap.size + 1)) → wpList Try.prog ops Q rest (a.put o.dst v') w') : wpList Try.prog ops Q (o :: rest) a (w.alloc (.cells #[.slice A n c] 47)) := by
  subst hn
  obtain ⟨S, C, h1, h2⟩ := hown
  have h1' : Own w B 47 1 v LL.length (fun i => [.slice (upd S LL.length A i) ((LL ++ [l]).getD i []).length (upd C LL.length c i)]) := h1.congr fun i hi => by
    rw [upd_ne _ _ _ (by omega), upd_ne _ _ _ (by omega), getD_app_l hi]
  refine wpList_push w hgd s xo 44 ho B 47 1 24 (.slice none 0 0) #[.slice A l.length c] Try.underlying44 rowsInf rfl (by decide) v LL.length _ hv h1' hB N hN hx
    (by rw [upd_at, upd_at, getD_app_r]) rfl rfl (by omega) (by omega) ?_
  intro v' w' hown' hb hg hat
  refine h v' w' ⟨upd S LL.length A, upd C LL.length c, by rw [List.length_append]; exact hown', fun i hi => ?_⟩ hb hg hat
  have hi : i < LL.length + 1 := by rw [List.length_append] at hi; exact hi
  by_cases e : i = LL.length
  · subst e
    rw [upd_at, upd_at, getD_app_r]
    exact hrow.keptRow hg (own_ne hrow.own h1 (by decide))
  · rw [upd_ne _ _ _ e, upd_ne _ _ _ e, getD_app_l (by omega)]
    exact (h2 i (by omega)).keptRow hg (own_ne (h2 i (by omega)).own h1 (by decide))
theorem OwnLL.ge {w : World} {B : Nat} {v : Value} {LL : List (List Nat)} (h : OwnLL w B v LL) : ∀ k, v.ownBlock = some k → B ≤ k ∧ k < w.heap.size := by
  obtain ⟨S, C, h1, _⟩ := h
  exact h1.lt
theorem far_grown {w : World} {p i : Nat} (x : Value) : w.grownBy (w.setCell ⟨p, i, none⟩ x) (some p) := ⟨rfl, rfl, rfl, by simp, fun k _ hk => Below.heap_setCell _ _ _ _ (fun e => hk (by rw [e]))⟩
theorem OwnLL.set {w : World} {B p i : Nat} {v : Value} {LL : List (List Nat)} (h : OwnLL w B v LL) (hp : p < B) (x : Value) : OwnLL (w.setCell ⟨p, i, none⟩ x) B v LL := by
  obtain ⟨S, C, h1, h2⟩ := h
  have ne : ∀ u : Value, (∀ k, u.ownBlock = some k → B ≤ k ∧ k < w.heap.size) → u.ownBlock = none ∨ u.ownBlock ≠ some p := fun u hu => by
    cases ho : u.ownBlock with
    | none => exact .inl rfl
    | some k => exact .inr fun e => by injection e with e; have := (hu k ho).1; omega
  exact ⟨S, C, h1.keptRow (far_grown x) (ne _ h1.lt), fun i hi => (h2 i hi).keptRow (far_grown x) (ne _ (h2 i hi).lt)⟩
/-- What one call of a callback may have touched: blocks p and q and the row that v owns. -/
structure Touch (w w' : World) (p q : Nat) (v : Value) : Prop where
  os : w'.os = w.os
  tape : w'.tape = w.tape
  output : w'.output = w.output
  size : w.heap.size ≤ w'.heap.size
  block : ∀ k, k < w.heap.size → k ≠ p → k ≠ q → v.ownBlock ≠ some k → w'.heap[k]? = w.heap[k]?
theorem Touch.below {w w' : World} {p q P : Nat} {v : Value} (h : Touch w w' p q v) (hP : P ≤ w.heap.size) (hp : P ≤ p) (hq : P ≤ q) (hv : ∀ k, v.ownBlock = some k → P ≤ k) : Below P w w' :=
  ⟨h.os, h.tape, h.output, h.size, fun k hk => h.block k (by omega) (by omega) (by omega) fun e => by have := hv k e; omega⟩
theorem rl_not {w : World} {p T : Nat} {x : Value} {A : Option Addr} {l : List Nat} (hh : w.heap[p]? = some (.cells #[x] T (0, 0))) (hx : ∀ n, x ≠ .int .u8 n) (h : RL w A l) : ∀ i, i < l.length → ∀ bk o, A = some ⟨bk, o, none⟩ → bk ≠ p := by
  rintro i hi bk o e rfl
  obtain ⟨b', o', e', _, hc⟩ := h i hi
  rw [e] at e'
  injection e' with e'
  injection e' with e1 e2
  subst e1 e2
  unfold World.cell? at hc
  rw [hh] at hc
  simp only at hc
  match hj : o + i, hc with
  | 0, hc => simp at hc; exact hx _ hc
  | n + 1, hc => simp at hc
def Prs1Post (w : World) (h : Hd) (v : Value) (LL : List (List Nat)) (l : List Nat) (r : Bool) (pr ps B : Nat) (e : Ending) (w' : World) : Prop :=
  e = .returned (.tuple #[]) ∧ ∃ v', w'.heap[pr]? = some (.cells #[.bool r] 4 (0, 0)) ∧ w'.heap[ps]? = some (.cells #[.int .u8 h.s0, .int .u8 h.s1, .int .u8 h.s2, .int .u8 h.s3, .int .u8 h.s4, .int .u8 h.s5, .int .u8 h.s6, .int .u8 h.s7, .int .i64 h.K, .int .i64 h.M, .int .i64 h.B, .string h.key, .int .i64 h.size, .int .i64 h.idx, .int .i64 h.ep, .int .i64 h.ct, v'] 46 (0, 0)) ∧ OwnLL w' B v' (LL ++ [l]) ∧ (v'.ownBlock = v.ownBlock ∨ ∃ k, v'.ownBlock = some k ∧ w.heap.size ≤ k) ∧ Touch w w' pr ps v
theorem prs1_fin {w W w5 w6 : World} {pr ps B : Nat} {h : Hd} {v v' : Value} {LL : List (List Nat)} {l : List Nat} {x : Bool} (HT : Touch w W pr ps v) (hsz : W.heap.size = w.heap.size) (h5 : Below W.heap.size W w5) (hg : w5.grownBy w6 v.ownBlock) (_hz : w5.heap.size ≤ w6.heap.size)
    (hps6 : w6.heap[ps]? = some (.cells #[.int .u8 h.s0, .int .u8 h.s1, .int .u8 h.s2, .int .u8 h.s3, .int .u8 h.s4, .int .u8 h.s5, .int .u8 h.s6, .int .u8 h.s7, .int .i64 h.K, .int .i64 h.M, .int .i64 h.B, .string h.key, .int .i64 h.size, .int .i64 h.idx, .int .i64 h.ep, .int .i64 h.ct, v] 46 (0, 0))) (hpr6 : w6.heap[pr]? = some (.cells #[.bool x] 4 (0, 0))) (hne : pr ≠ ps) (hO : OwnLL w6 B v' (LL ++ [l])) (hps : ps < B) (hat : v'.ownBlock = v.ownBlock ∨ ∃ k, v'.ownBlock = some k ∧ w.heap.size ≤ k) :
    Prs1Post w h v LL l x pr ps B (.returned (.tuple #[])) (w6.setCell ⟨ps, 16, none⟩ v') := by
  refine ⟨rfl, v', ?_, by simp [World.setCell, hps6, Array.getElem?_modify], hO.set hps _, hat, ?_⟩
  · rw [Below.heap_setCell _ _ _ _ (by show pr ≠ ps; exact hne)]; exact hpr6
  · have h5s := h5.size
    refine ⟨hg.os.trans (h5.os.trans HT.os), hg.tape.trans (h5.tape.trans HT.tape), hg.output.trans (h5.output.trans HT.output), by simp; have := HT.size; omega, fun k hk h1 h2 h3 => ?_⟩
    rw [Below.heap_setCell _ _ _ _ (by show k ≠ ps; exact h2), hg.block k (by omega) (fun e => h3 e.symm), h5.block k (by omega)]
    exact HT.block k hk h1 h2 h3
set_option maxRecDepth 100000 in
set_option maxHeartbeats 2000000 in
theorem prs1_any (j : Int) (A : Option Addr) (c : Nat) (l : List Nat) (q r : Bool) (pr ps B : Nat) (h : Hd) (v : Value) (LL : List (List Nat)) (w : World) (hll : l.length ≤ 140737488351232) (hLL : LL.length ≤ 1000000000000)
    (hr : w.heap[pr]? = some (.cells #[.bool r] 4 (0, 0))) (hs : w.heap[ps]? = some (.cells #[.int .u8 h.s0, .int .u8 h.s1, .int .u8 h.s2, .int .u8 h.s3, .int .u8 h.s4, .int .u8 h.s5, .int .u8 h.s6, .int .u8 h.s7, .int .i64 h.K, .int .i64 h.M, .int .i64 h.B, .string h.key, .int .i64 h.size, .int .i64 h.idx, .int .i64 h.ep, .int .i64 h.ct, v] 46 (0, 0))) (hO : OwnLL w B v LL) (hpr : pr < B) (hps : ps < B) (hne : pr ≠ ps) (hB : B ≤ w.heap.size) (hA : RL w A l) :
    Calls Try.prog 61 #[.int .i64 j, .slice A l.length c, .bool q, .pointer (some ⟨pr, 0, none⟩), .pointer (some ⟨ps, 0, none⟩)] w (Prs1Post w h v LL l (r && q) pr ps B) := by
  have c0 : w.cell? ⟨pr, 0, none⟩ = some (.bool r) := by simp [World.cell?, hr]
  have f0 : w.frozen? ⟨pr, 0, none⟩ = false := by simp [World.frozen?, hr]
  obtain ⟨x, hx⟩ : ∃ x, x = (r && q) := ⟨_, rfl⟩
  have HX := Lib.hid hx
  have HA := Lib.hid (RL.other (j := 0) (v := .bool x) hA (rl_not hr (fun n e => by cases e) hA))
  have HO := Lib.hid (hO.set (i := 0) hpr (.bool x))
  have hpb : (w.setCell ⟨pr, 0, none⟩ (.bool x)).heap[pr]? = some (.cells #[.bool x] 4 (0, 0)) := by simp [World.setCell, hr, Array.getElem?_modify]
  have hsb : (w.setCell ⟨pr, 0, none⟩ (.bool x)).heap[ps]? = some (.cells #[.int .u8 h.s0, .int .u8 h.s1, .int .u8 h.s2, .int .u8 h.s3, .int .u8 h.s4, .int .u8 h.s5, .int .u8 h.s6, .int .u8 h.s7, .int .i64 h.K, .int .i64 h.M, .int .i64 h.B, .string h.key, .int .i64 h.size, .int .i64 h.idx, .int .i64 h.ep, .int .i64 h.ct, v] 46 (0, 0)) := by rw [Below.heap_setCell _ _ _ _ (by show ps ≠ pr; omega)]; exact hs
  have HPB := Lib.hid hpb
  have HSB := Lib.hid hsb
  have hsz : (w.setCell ⟨pr, 0, none⟩ (.bool x)).heap.size = w.heap.size := by simp
  have HT := Lib.hid (show Touch w (w.setCell ⟨pr, 0, none⟩ (.bool x)) pr ps v from ⟨rfl, rfl, rfl, by simp, fun k _ h1 _ _ => Below.heap_setCell _ _ _ _ h1⟩)
  clear hA hO hpb hsb hs hr
  have hq : (if r = true then q else false) = x := by rw [hx]; cases r <;> rfl
  go_enter Try.func61, Try.ntmps61
  cases r
  · simp only [Bool.false_and] at hx
    subst hx
    clear hq
    go_wp2_with fail
    obtain ⟨W, hW⟩ : ∃ W, W = w.setCell ⟨pr, 0, none⟩ (.bool false) := ⟨_, rfl⟩
    rw [← hW] at HA HO HPB HSB HT hsz ⊢
    clear hW c0 f0
    have hsc : W.cell? ⟨ps, 16, none⟩ = some v := by have := HSB.out; simp [World.cell?, this]
    have KS : Hid (∀ w', Below W.heap.size W w' → w'.cell? ⟨ps, 16, none⟩ = some v) := Lib.hid fun w' hb => (hb.cell (p := ⟨ps, 16, none⟩) (by show ps < _; omega)).trans hsc
    clear hsc
    refine wp_region_mix [(true, true, false), (true, true, true), (true, true, false), (false, false, false), (false, false, false), (false, false, false), (false, true, false), (false, false, true)] mixed (by kernel_rfl) (fun w4 => w4.cell? ⟨ps, 16, none⟩ = some v) (KS.out _ (Below.refl _ _).drew) ?_
    intro hSw0
    simp only [hdM, tlM, List.cons_append, List.nil_append]
    repeat (first
      | (refine mix_look hSw0.out ?_ (by rfl) (fun w4 hSw => ?_) ?_; rotate_left; (focus (have s1 := hSw; go_simp; try with_reducible rfl)); simp only [Act.put, List.setIfInBounds_toArray, List.set_cons_zero, List.set_cons_succ])
      | (refine mix_pure ?_ (by rfl) (fun w4 => ?_) ?_; rotate_left; (focus (go_simp; try with_reducible rfl)); simp only [Act.put, List.setIfInBounds_toArray, List.set_cons_zero, List.set_cons_succ]))
    refine mix_step (fun K hK => ?_)
    go_simp
    refine (clone_any A c l _ hll (HA.out.below (Below.refl _ _).drew)).mono ?_
    rintro e w5 ⟨v5, rfl, hO5, hb5⟩
    obtain ⟨A5, c5, rfl, _, _, _, _⟩ := hO5.rd
    have hB5 : Below W.heap.size W w5 := (Below.refl _ _).drew.trans hb5
    have hz5 : W.heap.size ≤ w5.heap.size := hB5.size
    dsimp only
    refine hK.out _ _ (fun _ _ => KS.out _ hB5) ?_
    clear hK K
    try simp only [Act.put, List.setIfInBounds_toArray, List.set_cons_zero, List.set_cons_succ]
    refine mix_step (fun K hK => ?_)
    go_simp
    refine hK.out _ _ (fun _ _ => KS.out _ (hB5.alloc hz5 _)) ?_
    clear hK K
    try simp only [Act.put, List.setIfInBounds_toArray, List.set_cons_zero, List.set_cons_succ]
    refine mix_list (fun K hK => ?_)
    change wpList _ _ _ _ _ (World.alloc w5 _)
    refine wpList_pushLLg rfl (.tmp 13) (.tmp 16) rfl B v LL rfl (HO.out.kept hB5) (by omega) l rfl (hO5.mono (by show B ≤ W.drew.heap.size; simp; omega)) _ rfl rfl hLL ?_
    intro v6 w6 hO6 hb6 hg6 hat
    refine hK.out _ _ (fun _ _ => by rw [← KS.out _ hB5]; exact hb6.cell (p := ⟨ps, 16, none⟩) hps) ?_
    clear hK K
    try simp only [Act.put, List.setIfInBounds_toArray, List.set_cons_zero, List.set_cons_succ]
    repeat (refine mix_pure ?_ (by rfl) (fun w4 => ?_) ?_; rotate_left; (focus (go_simp; try with_reducible rfl)); simp only [Act.put, List.setIfInBounds_toArray, List.set_cons_zero, List.set_cons_succ])
    have hps6 : w6.heap[ps]? = some (.cells #[.int .u8 h.s0, .int .u8 h.s1, .int .u8 h.s2, .int .u8 h.s3, .int .u8 h.s4, .int .u8 h.s5, .int .u8 h.s6, .int .u8 h.s7, .int .i64 h.K, .int .i64 h.M, .int .i64 h.B, .string h.key, .int .i64 h.size, .int .i64 h.idx, .int .i64 h.ep, .int .i64 h.ct, v] 46 (0, 0)) := by rw [hb6.block ps hps, hB5.block ps (by omega)]; exact HSB.out
    have hpr6 : w6.heap[pr]? = some (.cells #[.bool false] 4 (0, 0)) := by rw [hb6.block pr hpr, hB5.block pr (by omega)]; exact HPB.out
    have HF := Lib.hid (prs1_fin (v' := v6) HT.out hsz hB5 hg6 hb6.size hps6 hpr6 hne hO6 hps (by
      rcases hat with e | e
      · exact .inl e
      · exact .inr ⟨_, e, by omega⟩))
    obtain ⟨A6, c6, e6, _, _⟩ := hO6.rd
    obtain ⟨n6, hn6⟩ : ∃ n, n = (LL ++ [l]).length := ⟨_, rfl⟩
    rw [← hn6] at e6
    clear hn6
    subst e6
    have hcl : w6.cell? ⟨ps, 16, none⟩ = some v := by simp [World.cell?, hps6]
    have hfz : w6.frozen? ⟨ps, 16, none⟩ = false := by simp [World.frozen?, hps6]
    clear hps6 hpr6 hat hg6 hb6 hO6 hO5 hB5 hb5
    refine mix_step (fun K hK => ?_)
    go_simp
    refine hK.out _ _ (fun h => absurd h (by decide)) ?_
    clear hK K
    try simp only [Act.put, List.setIfInBounds_toArray, List.set_cons_zero, List.set_cons_succ]
    refine mix_nil ?_
    go_wp2
    go_end0
    exact HF.out
  · simp only [Bool.true_and] at hx
    subst hx
    clear hq
    go_wp2_with fail
    obtain ⟨W, hW⟩ : ∃ W, W = w.setCell ⟨pr, 0, none⟩ (.bool x) := ⟨_, rfl⟩
    rw [← hW] at HA HO HPB HSB HT hsz ⊢
    clear hW c0 f0
    have hsc : W.cell? ⟨ps, 16, none⟩ = some v := by have := HSB.out; simp [World.cell?, this]
    have KS : Hid (∀ w', Below W.heap.size W w' → w'.cell? ⟨ps, 16, none⟩ = some v) := Lib.hid fun w' hb => (hb.cell (p := ⟨ps, 16, none⟩) (by show ps < _; omega)).trans hsc
    clear hsc
    refine wp_region_mix [(true, true, false), (true, true, true), (true, true, false), (false, false, false), (false, false, false), (false, false, false), (false, true, false), (false, false, true)] mixed (by kernel_rfl) (fun w4 => w4.cell? ⟨ps, 16, none⟩ = some v) (KS.out _ (Below.refl _ _).drew) ?_
    intro hSw0
    simp only [hdM, tlM, List.cons_append, List.nil_append]
    repeat (first
      | (refine mix_look hSw0.out ?_ (by rfl) (fun w4 hSw => ?_) ?_; rotate_left; (focus (have s1 := hSw; go_simp; try with_reducible rfl)); simp only [Act.put, List.setIfInBounds_toArray, List.set_cons_zero, List.set_cons_succ])
      | (refine mix_pure ?_ (by rfl) (fun w4 => ?_) ?_; rotate_left; (focus (go_simp; try with_reducible rfl)); simp only [Act.put, List.setIfInBounds_toArray, List.set_cons_zero, List.set_cons_succ]))
    refine mix_step (fun K hK => ?_)
    go_simp
    refine (clone_any A c l _ hll (HA.out.below (Below.refl _ _).drew)).mono ?_
    rintro e w5 ⟨v5, rfl, hO5, hb5⟩
    obtain ⟨A5, c5, rfl, _, _, _, _⟩ := hO5.rd
    have hB5 : Below W.heap.size W w5 := (Below.refl _ _).drew.trans hb5
    have hz5 : W.heap.size ≤ w5.heap.size := hB5.size
    dsimp only
    refine hK.out _ _ (fun _ _ => KS.out _ hB5) ?_
    clear hK K
    try simp only [Act.put, List.setIfInBounds_toArray, List.set_cons_zero, List.set_cons_succ]
    refine mix_step (fun K hK => ?_)
    go_simp
    refine hK.out _ _ (fun _ _ => KS.out _ (hB5.alloc hz5 _)) ?_
    clear hK K
    try simp only [Act.put, List.setIfInBounds_toArray, List.set_cons_zero, List.set_cons_succ]
    refine mix_list (fun K hK => ?_)
    change wpList _ _ _ _ _ (World.alloc w5 _)
    refine wpList_pushLLg rfl (.tmp 13) (.tmp 16) rfl B v LL rfl (HO.out.kept hB5) (by omega) l rfl (hO5.mono (by show B ≤ W.drew.heap.size; simp; omega)) _ rfl rfl hLL ?_
    intro v6 w6 hO6 hb6 hg6 hat
    refine hK.out _ _ (fun _ _ => by rw [← KS.out _ hB5]; exact hb6.cell (p := ⟨ps, 16, none⟩) hps) ?_
    clear hK K
    try simp only [Act.put, List.setIfInBounds_toArray, List.set_cons_zero, List.set_cons_succ]
    repeat (refine mix_pure ?_ (by rfl) (fun w4 => ?_) ?_; rotate_left; (focus (go_simp; try with_reducible rfl)); simp only [Act.put, List.setIfInBounds_toArray, List.set_cons_zero, List.set_cons_succ])
    have hps6 : w6.heap[ps]? = some (.cells #[.int .u8 h.s0, .int .u8 h.s1, .int .u8 h.s2, .int .u8 h.s3, .int .u8 h.s4, .int .u8 h.s5, .int .u8 h.s6, .int .u8 h.s7, .int .i64 h.K, .int .i64 h.M, .int .i64 h.B, .string h.key, .int .i64 h.size, .int .i64 h.idx, .int .i64 h.ep, .int .i64 h.ct, v] 46 (0, 0)) := by rw [hb6.block ps hps, hB5.block ps (by omega)]; exact HSB.out
    have hpr6 : w6.heap[pr]? = some (.cells #[.bool x] 4 (0, 0)) := by rw [hb6.block pr hpr, hB5.block pr (by omega)]; exact HPB.out
    have HF := Lib.hid (prs1_fin (v' := v6) HT.out hsz hB5 hg6 hb6.size hps6 hpr6 hne hO6 hps (by
      rcases hat with e | e
      · exact .inl e
      · exact .inr ⟨_, e, by omega⟩))
    obtain ⟨A6, c6, e6, _, _⟩ := hO6.rd
    obtain ⟨n6, hn6⟩ : ∃ n, n = (LL ++ [l]).length := ⟨_, rfl⟩
    rw [← hn6] at e6
    clear hn6
    subst e6
    have hcl : w6.cell? ⟨ps, 16, none⟩ = some v := by simp [World.cell?, hps6]
    have hfz : w6.frozen? ⟨ps, 16, none⟩ = false := by simp [World.frozen?, hps6]
    clear hps6 hpr6 hat hg6 hb6 hO6 hO5 hB5 hb5
    refine mix_step (fun K hK => ?_)
    go_simp
    refine hK.out _ _ (fun h => absurd h (by decide)) ?_
    clear hK K
    try simp only [Act.put, List.setIfInBounds_toArray, List.set_cons_zero, List.set_cons_succ]
    refine mix_nil ?_
    go_wp2
    go_end0
    exact HF.out
def OwnI (w : World) (B : Nat) (v : Value) (L : List Nat) : Prop := Own w B 3 1 v L.length (fun i => [.int .i64 ((L.getD i 0 : Nat) : Int)])
theorem OwnI.nil (w : World) (B : Nat) : OwnI w B (.slice none 0 0) [] := Own.nil _ _ _ _ _
theorem OwnI.kept {w w' : World} {B : Nat} {v : Value} {L : List Nat} (h : OwnI w B v L) (hb : Below w.heap.size w w') : OwnI w' B v L := Own.kept h hb
theorem OwnI.set {w : World} {B p i : Nat} {v : Value} {L : List Nat} (h : OwnI w B v L) (hp : p < B) (x : Value) : OwnI (w.setCell ⟨p, i, none⟩ x) B v L := by
  refine Own.keptRow h (far_grown x) ?_
  cases ho : v.ownBlock with
  | none => exact .inl rfl
  | some k => exact .inr fun e => by injection e with e; have := (Own.lt h k ho).1; omega
def Spt1Post (w : World) (v : Value) (L : List Nat) (po B : Nat) (e : Ending) (w' : World) : Prop :=
  e = .returned (.tuple #[]) ∧ ∃ v', w'.heap[po]? = some (.cells #[v'] 30 (0, 0)) ∧ OwnI w' B v' L ∧ (v'.ownBlock = v.ownBlock ∨ ∃ k, v'.ownBlock = some k ∧ w.heap.size ≤ k) ∧ Touch w w' po po v
theorem spt1_fin {w w6 : World} {po B : Nat} {v v0 v' : Value} {L : List Nat} (hg : w.grownBy w6 v.ownBlock) (hpo6 : w6.heap[po]? = some (.cells #[v0] 30 (0, 0))) (hO : OwnI w6 B v' L) (hpo : po < B) (hat : v'.ownBlock = v.ownBlock ∨ ∃ k, v'.ownBlock = some k ∧ w.heap.size ≤ k) :
    Spt1Post w v L po B (.returned (.tuple #[])) (w6.setCell ⟨po, 0, none⟩ v') := by
  refine ⟨rfl, v', by simp [World.setCell, hpo6, Array.getElem?_modify], hO.set hpo _, hat, hg.os, hg.tape, hg.output, by simpa using hg.size, fun k hk h1 _ h3 => ?_⟩
  rw [Below.heap_setCell _ _ _ _ (by show k ≠ po; exact h1), hg.block k (by omega) (fun e => h3 e.symm)]
set_option maxRecDepth 100000 in
set_option maxHeartbeats 2000000 in
theorem spt1_any (j : Nat) (x : Value) (q : Bool) (po B : Nat) (v : Value) (L : List Nat) (w : World) (hL : L.length ≤ 1000000000000) (ho : w.heap[po]? = some (.cells #[v] 30 (0, 0))) (hO : OwnI w B v L) (hpo : po < B) (hB : B ≤ w.heap.size) :
    Calls Try.prog 63 #[.int .i64 (j : Int), x, .bool q, .pointer (some ⟨po, 0, none⟩)] w (Spt1Post w v (if q = true then L else L ++ [j]) po B) := by
  have hpl : po < w.heap.size := by omega
  cases q
  · have hcl : w.cell? ⟨po, 0, none⟩ = some v := by simp [World.cell?, ho]
    have HO := Lib.hid hO
    have HP := Lib.hid ho
    have HF := Lib.hid (show Own w B 3 1 v L.length (fun i => [.int .i64 (((L ++ [j]).getD i 0 : Nat) : Int)]) from Own.congr hO fun i hi => by rw [getD_app_l hi])
    have HU := Lib.hid (show (#[Value.int .i64 (j : Int)] : Array Value).toList = [.int .i64 (((L ++ [j]).getD L.length 0 : Nat) : Int)] by rw [getD_app_r])
    clear hO ho
    go_enter Try.func63, Try.ntmps63
    go_wp2_with (at_builtin; refine wpList_push w rfl (.tmp 9) (.tmp 11) 30 rfl B 3 1 8 (.int .i64 0) #[.int .i64 (j : Int)] Try.underlying30 intInfo rfl (by decide) v L.length _ rfl HF.out hB _ rfl rfl HU.out rfl rfl (by omega) (by omega) ?_)
    intro v' w' hown hb hg hat
    have hO' : OwnI w' B v' (L ++ [j]) := by unfold OwnI; rw [List.length_append]; exact hown
    have hpo' : w'.heap[po]? = some (.cells #[v] 30 (0, 0)) := (hb.block po hpo).trans HP.out
    have HFI := Lib.hid (spt1_fin hg hpo' hO' hpo (by
      rcases hat with e | e
      · exact .inl e
      · exact .inr ⟨_, e, by omega⟩))
    obtain ⟨A6, c6, e6, _, _⟩ := hown.rd
    obtain ⟨n6, hn6⟩ : ∃ n, n = L.length + 1 := ⟨_, rfl⟩
    rw [← hn6] at e6
    subst e6
    have hcl6 : w'.cell? ⟨po, 0, none⟩ = some v := by simp [World.cell?, hpo']
    have hfz6 : w'.frozen? ⟨po, 0, none⟩ = false := by simp [World.frozen?, hpo']
    clear hn6 hown hb hg hat hO' hpo' hcl HF HU HO
    go_wp2
    go_end0
    exact HFI.out
  · have HF := Lib.hid (show Spt1Post w v L po B (.returned (.tuple #[])) w from ⟨rfl, v, ho, hO, .inl rfl, rfl, rfl, rfl, Nat.le_refl _, fun _ _ _ _ _ => rfl⟩)
    clear hO ho
    go_enter Try.func63, Try.ntmps63
    go_wp2
    go_end0
    exact HF.out
end Go.Proofs.Ytbioanbokbhmgaa
