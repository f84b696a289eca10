/- The callbacks of Parse and Spoilt: the walks. Conditions: what they captured stands where it stood. -/
import Derived.Test.YtbioanbokbhmgaaBlk
import Derived.Test.YtbioanbokbhmgaaFactG
import Derived.Test.YtbioanbokbhmgaaRw16
namespace Go.Proofs.Ytbioanbokbhmgaa
open Go.RowKit

theorem wpList_pushLLg {w : World} {ops : Array Oper} {rest : List Oper} {o : Oper} {a : Act} {Q : Exit → Act → World → Prop} {A : Option Addr} {c n : Nat} (hgd : o.guard = none) (s xo : Operand)
    (ho : o.op = .call { callee := .builtin .append, args := #[s, xo], argTypes := #[44, 44] }) (B : Nat) (v : Value) (LL : List (List Nat)) (hv : a.eval s = v) (hown : OwnLL w B v LL) (hB : B ≤ w.heap.size)
    (l : List Nat) (hn : n = l.length) (hrow : OwnB w B (.slice A n c) l) (N : Nat) (hN : w.heap.size = N) (hx : a.eval xo = .slice (some ⟨N, 0, none⟩) 1 1) (hlen : LL.length ≤ 1000000000000)
    (h : ∀ v' w', OwnLL w' B v' (LL ++ [l]) → Below B w w' → w.grownBy w' v.ownBlock → (v'.ownBlock = v.ownBlock ∨ v'.ownBlock = some (w.heap.size + 1)) → wpList Try.prog ops Q rest (a.put o.dst v') w') : wpList Try.prog ops Q (o :: rest) a (w.alloc (.cells #[.slice A n c] 47)) := by
  subst hn
  obtain ⟨S, C, h1, h2⟩ := hown
  have h1' : Own w B 47 1 v LL.length (fun i => [.slice (upd S LL.length A i) ((LL ++ [l]).getD i []).length (upd C LL.length c i)]) := h1.congr fun i hi => by
    rw [upd_ne _ _ _ (by omega), upd_ne _ _ _ (by omega), getD_app_l hi]
  refine wpList_push w hgd s xo 44 ho B 47 1 24 (.slice none 0 0) #[.slice A l.length c] Try.underlying44 rowsInf rfl (by decide) v LL.length _ hv h1' hB N hN hx
    (by rw [upd_at, upd_at, getD_app_r]) rfl rfl (by omega) (by omega) ?_
  intro v' w' hown' hb hg hat
  refine h v' w' ⟨upd S LL.length A, upd C LL.length c, by rw [List.length_append]; exact hown', fun i hi => ?_⟩ hb hg hat
  have hi : i < LL.length + 1 := by rw [List.length_append] at hi; exact hi
  by_cases e : i = LL.length
  · subst e
    rw [upd_at, upd_at, getD_app_r]
    exact hrow.keptRow hg (own_ne hrow.own h1 (by decide))
  · rw [upd_ne _ _ _ e, upd_ne _ _ _ e, getD_app_l (by omega)]
    exact (h2 i (by omega)).keptRow hg (own_ne (h2 i (by omega)).own h1 (by decide))
theorem OwnLL.ge {w : World} {B : Nat} {v : Value} {LL : List (List Nat)} (h : OwnLL w B v LL) : ∀ k, v.ownBlock = some k → B ≤ k ∧ k < w.heap.size := by
  obtain ⟨S, C, h1, _⟩ := h
  exact h1.lt
theorem far_grown {w : World} {p i : Nat} (x : Value) : w.grownBy (w.setCell ⟨p, i, none⟩ x) (some p) := ⟨rfl, rfl, rfl, by simp, fun k _ hk => Below.heap_setCell _ _ _ _ (fun e => hk (by rw [e]))⟩
theorem OwnLL.set {w : World} {B p i : Nat} {v : Value} {LL : List (List Nat)} (h : OwnLL w B v LL) (hp : p < B) (x : Value) : OwnLL (w.setCell ⟨p, i, none⟩ x) B v LL := by
  obtain ⟨S, C, h1, h2⟩ := h
  have ne : ∀ u : Value, (∀ k, u.ownBlock = some k → B ≤ k ∧ k < w.heap.size) → u.ownBlock = none ∨ u.ownBlock ≠ some p := fun u hu => by
    cases ho : u.ownBlock with
    | none => exact .inl rfl
    | some k => exact .inr fun e => by injection e with e; have := (hu k ho).1; omega
  exact ⟨S, C, h1.keptRow (far_grown x) (ne _ h1.lt), fun i hi => (h2 i hi).keptRow (far_grown x) (ne _ (h2 i hi).lt)⟩
/-- What one call of a callback may have touched: blocks p and q and the row that v owns. -/
structure Touch (w w' : World) (p q : Nat) (v : Value) : Prop where
  os : w'.os = w.os
  tape : w'.tape = w.tape
  output : w'.output = w.output
  size : w.heap.size ≤ w'.heap.size
  block : ∀ k, k < w.heap.size → k ≠ p → k ≠ q → v.ownBlock ≠ some k → w'.heap[k]? = w.heap[k]?
theorem Touch.below {w w' : World} {p q P : Nat} {v : Value} (h : Touch w w' p q v) (hP : P ≤ w.heap.size) (hp : P ≤ p) (hq : P ≤ q) (hv : ∀ k, v.ownBlock = some k → P ≤ k) : Below P w w' :=
  ⟨h.os, h.tape, h.output, h.size, fun k hk => h.block k (by omega) (by omega) (by omega) fun e => by have := hv k e; omega⟩
theorem rl_not {w : World} {p T : Nat} {x : Value} {A : Option Addr} {l : List Nat} (hh : w.heap[p]? = some (.cells #[x] T (0, 0))) (hx : ∀ n, x ≠ .int .u8 n) (h : RL w A l) : ∀ i, i < l.length → ∀ bk o, A = some ⟨bk, o, none⟩ → bk ≠ p := by
  rintro i hi bk o e rfl
  obtain ⟨b', o', e', _, hc⟩ := h i hi
  rw [e] at e'
  injection e' with e'
  injection e' with e1 e2
  subst e1 e2
  unfold World.cell? at hc
  rw [hh] at hc
  simp only at hc
  match hj : o + i, hc with
  | 0, hc => simp at hc; exact hx _ hc
  | n + 1, hc => simp at hc
def Prs1Post (w : World) (h : Hd) (v : Value) (LL : List (List Nat)) (l : List Nat) (r : Bool) (pr ps B : Nat) (e : Ending) (w' : World) : Prop :=
  e = .returned (.tuple #[]) ∧ ∃ v', w'.heap[pr]? = some (.cells #[.bool r] 4 (0, 0)) ∧ w'.heap[ps]? = some (.cells #[.int .u8 h.s0, .int .u8 h.s1, .int .u8 h.s2, .int .u8 h.s3, .int .u8 h.s4, .int .u8 h.s5, .int .u8 h.s6, .int .u8 h.s7, .int .i64 h.K, .int .i64 h.M, .int .i64 h.B, .string h.key, .int .i64 h.size, .int .i64 h.idx, .int .i64 h.ep, .int .i64 h.ct, v'] 46 (0, 0)) ∧ OwnLL w' B v' (LL ++ [l]) ∧ (v'.ownBlock = v.ownBlock ∨ ∃ k, v'.ownBlock = some k ∧ w.heap.size ≤ k) ∧ Touch w w' pr ps v
theorem prs1_fin {w W w5 w6 : World} {pr ps B : Nat} {h : Hd} {v v' : Value} {LL : List (List Nat)} {l : List Nat} {x : Bool} (HT : Touch w W pr ps v) (hsz : W.heap.size = w.heap.size) (h5 : Below W.heap.size W w5) (hg : w5.grownBy w6 v.ownBlock) (_hz : w5.heap.size ≤ w6.heap.size)
    (hps6 : w6.heap[ps]? = some (.cells #[.int .u8 h.s0, .int .u8 h.s1, .int .u8 h.s2, .int .u8 h.s3, .int .u8 h.s4, .int .u8 h.s5, .int .u8 h.s6, .int .u8 h.s7, .int .i64 h.K, .int .i64 h.M, .int .i64 h.B, .string h.key, .int .i64 h.size, .int .i64 h.idx, .int .i64 h.ep, .int .i64 h.ct, v] 46 (0, 0))) (hpr6 : w6.heap[pr]? = some (.cells #[.bool x] 4 (0, 0))) (hne : pr ≠ ps) (hO : OwnLL w6 B v' (LL ++ [l])) (hps : ps < B) (hat : v'.ownBlock = v.ownBlock ∨ ∃ k, v'.ownBlock = some k ∧ w.heap.size ≤ k) :
    Prs1Post w h v LL l x pr ps B (.returned (.tuple #[])) (w6.setCell ⟨ps, 16, none⟩ v') := by
  refine ⟨rfl, v', ?_, by simp [World.setCell, hps6, Array.getElem?_modify], hO.set hps _, hat, ?_⟩
  · rw [Below.heap_setCell _ _ _ _ (by show pr ≠ ps; exact hne)]; exact hpr6
  · have h5s := h5.size
    refine ⟨hg.os.trans (h5.os.trans HT.os), hg.tape.trans (h5.tape.trans HT.tape), hg.output.trans (h5.output.trans HT.output), by simp; have := HT.size; omega, fun k hk h1 h2 h3 => ?_⟩
    rw [Below.heap_setCell _ _ _ _ (by show k ≠ ps; exact h2), hg.block k (by omega) (fun e => h3 e.symm), h5.block k (by omega)]
    exact HT.block k hk h1 h2 h3
set_option maxRecDepth 100000 in
set_option maxHeartbeats 2000000 in
theorem prs1_any (j : Int) (A : Option Addr) (c : Nat) (l : List Nat) (q r : Bool) (pr ps B : Nat) (h : Hd) (v : Value) (LL : List (List Nat)) (w : World) (hll : l.length ≤ 150000000000000) (hLL : LL.length ≤ 1000000000000)
    (hr : w.heap[pr]? = some (.cells #[.bool r] 4 (0, 0))) (hs : w.heap[ps]? = some (.cells #[.int .u8 h.s0, .int .u8 h.s1, .int .u8 h.s2, .int .u8 h.s3, .int .u8 h.s4, .int .u8 h.s5, .int .u8 h.s6, .int .u8 h.s7, .int .i64 h.K, .int .i64 h.M, .int .i64 h.B, .string h.key, .int .i64 h.size, .int .i64 h.idx, .int .i64 h.ep, .int .i64 h.ct, v] 46 (0, 0))) (hO : OwnLL w B v LL) (hpr : pr < B) (hps : ps < B) (hne : pr ≠ ps) (hB : B ≤ w.heap.size) (hA : RL w A l) :
    Calls Try.prog 61 #[.int .i64 j, .slice A l.length c, .bool q, .pointer (some ⟨pr, 0, none⟩), .pointer (some ⟨ps, 0, none⟩)] w (Prs1Post w h v LL l (r && q) pr ps B) := by
  have c0 : w.cell? ⟨pr, 0, none⟩ = some (.bool r) := by simp [World.cell?, hr]
  have f0 : w.frozen? ⟨pr, 0, none⟩ = false := by simp [World.frozen?, hr]
  obtain ⟨x, hx⟩ : ∃ x, x = (r && q) := ⟨_, rfl⟩
  have HX := Lib.hid hx
  have HA := Lib.hid (RL.other (j := 0) (v := .bool x) hA (rl_not hr (fun n e => by cases e) hA))
  have HO := Lib.hid (hO.set (i := 0) hpr (.bool x))
  have hpb : (w.setCell ⟨pr, 0, none⟩ (.bool x)).heap[pr]? = some (.cells #[.bool x] 4 (0, 0)) := by simp [World.setCell, hr, Array.getElem?_modify]
  have hsb : (w.setCell ⟨pr, 0, none⟩ (.bool x)).heap[ps]? = some (.cells #[.int .u8 h.s0, .int .u8 h.s1, .int .u8 h.s2, .int .u8 h.s3, .int .u8 h.s4, .int .u8 h.s5, .int .u8 h.s6, .int .u8 h.s7, .int .i64 h.K, .int .i64 h.M, .int .i64 h.B, .string h.key, .int .i64 h.size, .int .i64 h.idx, .int .i64 h.ep, .int .i64 h.ct, v] 46 (0, 0)) := by rw [Below.heap_setCell _ _ _ _ (by show ps ≠ pr; omega)]; exact hs
  have HPB := Lib.hid hpb
  have HSB := Lib.hid hsb
  have hsz : (w.setCell ⟨pr, 0, none⟩ (.bool x)).heap.size = w.heap.size := by simp
  have HT := Lib.hid (show Touch w (w.setCell ⟨pr, 0, none⟩ (.bool x)) pr ps v from ⟨rfl, rfl, rfl, by simp, fun k _ h1 _ _ => Below.heap_setCell _ _ _ _ h1⟩)
  clear hA hO hpb hsb hs hr
  have hq : (if r = true then q else false) = x := by rw [hx]; cases r <;> rfl
  go_enter Try.func61, Try.ntmps61
  cases r
  · simp only [Bool.false_and] at hx
    subst hx
    clear hq
    go_wp2_with fail
    obtain ⟨W, hW⟩ : ∃ W, W = w.setCell ⟨pr, 0, none⟩ (.bool false) := ⟨_, rfl⟩
    rw [← hW] at HA HO HPB HSB HT hsz ⊢
    clear hW c0 f0
    have hsc : W.cell? ⟨ps, 16, none⟩ = some v := by have := HSB.out; simp [World.cell?, this]
    have KS : Hid (∀ w', Below W.heap.size W w' → w'.cell? ⟨ps, 16, none⟩ = some v) := Lib.hid fun w' hb => (hb.cell (p := ⟨ps, 16, none⟩) (by show ps < _; omega)).trans hsc
    clear hsc
    refine wp_region_mix [(true, true, false), (true, true, true), (true, true, false), (false, false, false), (false, false, false), (false, false, false), (false, true, false), (false, false, true)] mixed (by kernel_rfl) (fun w4 => w4.cell? ⟨ps, 16, none⟩ = some v) (KS.out _ (Below.refl _ _).drew) ?_
    intro hSw0
    simp only [hdM, tlM, List.cons_append, List.nil_append]
    repeat (first
      | (refine mix_look hSw0.out ?_ (by rfl) (fun w4 hSw => ?_) ?_; rotate_left; (focus (have s1 := hSw; go_simp; try with_reducible rfl)); simp only [Act.put, List.setIfInBounds_toArray, List.set_cons_zero, List.set_cons_succ])
      | (refine mix_pure ?_ (by rfl) (fun w4 => ?_) ?_; rotate_left; (focus (go_simp; try with_reducible rfl)); simp only [Act.put, List.setIfInBounds_toArray, List.set_cons_zero, List.set_cons_succ]))
    refine mix_step (fun K hK => ?_)
    go_simp
    refine (clone_any A c l _ hll (HA.out.below (Below.refl _ _).drew)).mono ?_
    rintro e w5 ⟨v5, rfl, hO5, hb5⟩
    obtain ⟨A5, c5, rfl, _, _, _, _⟩ := hO5.rd
    have hB5 : Below W.heap.size W w5 := (Below.refl _ _).drew.trans hb5
    have hz5 : W.heap.size ≤ w5.heap.size := hB5.size
    dsimp only
    refine hK.out _ _ (fun _ _ => KS.out _ hB5) ?_
    clear hK K
    try simp only [Act.put, List.setIfInBounds_toArray, List.set_cons_zero, List.set_cons_succ]
    refine mix_step (fun K hK => ?_)
    go_simp
    refine hK.out _ _ (fun _ _ => KS.out _ (hB5.alloc hz5 _)) ?_
    clear hK K
    try simp only [Act.put, List.setIfInBounds_toArray, List.set_cons_zero, List.set_cons_succ]
    refine mix_list (fun K hK => ?_)
    change wpList _ _ _ _ _ (World.alloc w5 _)
    refine wpList_pushLLg rfl (.tmp 13) (.tmp 16) rfl B v LL rfl (HO.out.kept hB5) (by omega) l rfl (hO5.mono (by show B ≤ W.drew.heap.size; simp; omega)) _ rfl rfl hLL ?_
    intro v6 w6 hO6 hb6 hg6 hat
    refine hK.out _ _ (fun _ _ => by rw [← KS.out _ hB5]; exact hb6.cell (p := ⟨ps, 16, none⟩) hps) ?_
    clear hK K
    try simp only [Act.put, List.setIfInBounds_toArray, List.set_cons_zero, List.set_cons_succ]
    repeat (refine mix_pure ?_ (by rfl) (fun w4 => ?_) ?_; rotate_left; (focus (go_simp; try with_reducible rfl)); simp only [Act.put, List.setIfInBounds_toArray, List.set_cons_zero, List.set_cons_succ])
    have hps6 : w6.heap[ps]? = some (.cells #[.int .u8 h.s0, .int .u8 h.s1, .int .u8 h.s2, .int .u8 h.s3, .int .u8 h.s4, .int .u8 h.s5, .int .u8 h.s6, .int .u8 h.s7, .int .i64 h.K, .int .i64 h.M, .int .i64 h.B, .string h.key, .int .i64 h.size, .int .i64 h.idx, .int .i64 h.ep, .int .i64 h.ct, v] 46 (0, 0)) := by rw [hb6.block ps hps, hB5.block ps (by omega)]; exact HSB.out
    have hpr6 : w6.heap[pr]? = some (.cells #[.bool false] 4 (0, 0)) := by rw [hb6.block pr hpr, hB5.block pr (by omega)]; exact HPB.out
    have HF := Lib.hid (prs1_fin (v' := v6) HT.out hsz hB5 hg6 hb6.size hps6 hpr6 hne hO6 hps (by
      rcases hat with e | e
      · exact .inl e
      · exact .inr ⟨_, e, by omega⟩))
    obtain ⟨A6, c6, e6, _, _⟩ := hO6.rd
    obtain ⟨n6, hn6⟩ : ∃ n, n = (LL ++ [l]).length := ⟨_, rfl⟩
    rw [← hn6] at e6
    clear hn6
    subst e6
    have hcl : w6.cell? ⟨ps, 16, none⟩ = some v := by simp [World.cell?, hps6]
    have hfz : w6.frozen? ⟨ps, 16, none⟩ = false := by simp [World.frozen?, hps6]
    clear hps6 hpr6 hat hg6 hb6 hO6 hO5 hB5 hb5
    refine mix_step (fun K hK => ?_)
    go_simp
    refine hK.out _ _ (fun h => absurd h (by decide)) ?_
    clear hK K
    try simp only [Act.put, List.setIfInBounds_toArray, List.set_cons_zero, List.set_cons_succ]
    refine mix_nil ?_
    go_wp2
    go_end0
    exact HF.out
  · simp only [Bool.true_and] at hx
    subst hx
    clear hq
    go_wp2_with fail
    obtain ⟨W, hW⟩ : ∃ W, W = w.setCell ⟨pr, 0, none⟩ (.bool x) := ⟨_, rfl⟩
    rw [← hW] at HA HO HPB HSB HT hsz ⊢
    clear hW c0 f0
    have hsc : W.cell? ⟨ps, 16, none⟩ = some v := by have := HSB.out; simp [World.cell?, this]
    have KS : Hid (∀ w', Below W.heap.size W w' → w'.cell? ⟨ps, 16, none⟩ = some v) := Lib.hid fun w' hb => (hb.cell (p := ⟨ps, 16, none⟩) (by show ps < _; omega)).trans hsc
    clear hsc
    refine wp_region_mix [(true, true, false), (true, true, true), (true, true, false), (false, false, false), (false, false, false), (false, false, false), (false, true, false), (false, false, true)] mixed (by kernel_rfl) (fun w4 => w4.cell? ⟨ps, 16, none⟩ = some v) (KS.out _ (Below.refl _ _).drew) ?_
    intro hSw0
    simp only [hdM, tlM, List.cons_append, List.nil_append]
    repeat (first
      | (refine mix_look hSw0.out ?_ (by rfl) (fun w4 hSw => ?_) ?_; rotate_left; (focus (have s1 := hSw; go_simp; try with_reducible rfl)); simp only [Act.put, List.setIfInBounds_toArray, List.set_cons_zero, List.set_cons_succ])
      | (refine mix_pure ?_ (by rfl) (fun w4 => ?_) ?_; rotate_left; (focus (go_simp; try with_reducible rfl)); simp only [Act.put, List.setIfInBounds_toArray, List.set_cons_zero, List.set_cons_succ]))
    refine mix_step (fun K hK => ?_)
    go_simp
    refine (clone_any A c l _ hll (HA.out.below (Below.refl _ _).drew)).mono ?_
    rintro e w5 ⟨v5, rfl, hO5, hb5⟩
    obtain ⟨A5, c5, rfl, _, _, _, _⟩ := hO5.rd
    have hB5 : Below W.heap.size W w5 := (Below.refl _ _).drew.trans hb5
    have hz5 : W.heap.size ≤ w5.heap.size := hB5.size
    dsimp only
    refine hK.out _ _ (fun _ _ => KS.out _ hB5) ?_
    clear hK K
    try simp only [Act.put, List.setIfInBounds_toArray, List.set_cons_zero, List.set_cons_succ]
    refine mix_step (fun K hK => ?_)
    go_simp
    refine hK.out _ _ (fun _ _ => KS.out _ (hB5.alloc hz5 _)) ?_
    clear hK K
    try simp only [Act.put, List.setIfInBounds_toArray, List.set_cons_zero, List.set_cons_succ]
    refine mix_list (fun K hK => ?_)
    change wpList _ _ _ _ _ (World.alloc w5 _)
    refine wpList_pushLLg rfl (.tmp 13) (.tmp 16) rfl B v LL rfl (HO.out.kept hB5) (by omega) l rfl (hO5.mono (by show B ≤ W.drew.heap.size; simp; omega)) _ rfl rfl hLL ?_
    intro v6 w6 hO6 hb6 hg6 hat
    refine hK.out _ _ (fun _ _ => by rw [← KS.out _ hB5]; exact hb6.cell (p := ⟨ps, 16, none⟩) hps) ?_
    clear hK K
    try simp only [Act.put, List.setIfInBounds_toArray, List.set_cons_zero, List.set_cons_succ]
    repeat (refine mix_pure ?_ (by rfl) (fun w4 => ?_) ?_; rotate_left; (focus (go_simp; try with_reducible rfl)); simp only [Act.put, List.setIfInBounds_toArray, List.set_cons_zero, List.set_cons_succ])
    have hps6 : w6.heap[ps]? = some (.cells #[.int .u8 h.s0, .int .u8 h.s1, .int .u8 h.s2, .int .u8 h.s3, .int .u8 h.s4, .int .u8 h.s5, .int .u8 h.s6, .int .u8 h.s7, .int .i64 h.K, .int .i64 h.M, .int .i64 h.B, .string h.key, .int .i64 h.size, .int .i64 h.idx, .int .i64 h.ep, .int .i64 h.ct, v] 46 (0, 0)) := by rw [hb6.block ps hps, hB5.block ps (by omega)]; exact HSB.out
    have hpr6 : w6.heap[pr]? = some (.cells #[.bool x] 4 (0, 0)) := by rw [hb6.block pr hpr, hB5.block pr (by omega)]; exact HPB.out
    have HF := Lib.hid (prs1_fin (v' := v6) HT.out hsz hB5 hg6 hb6.size hps6 hpr6 hne hO6 hps (by
      rcases hat with e | e
      · exact .inl e
      · exact .inr ⟨_, e, by omega⟩))
    obtain ⟨A6, c6, e6, _, _⟩ := hO6.rd
    obtain ⟨n6, hn6⟩ : ∃ n, n = (LL ++ [l]).length := ⟨_, rfl⟩
    rw [← hn6] at e6
    clear hn6
    subst e6
    have hcl : w6.cell? ⟨ps, 16, none⟩ = some v := by simp [World.cell?, hps6]
    have hfz : w6.frozen? ⟨ps, 16, none⟩ = false := by simp [World.frozen?, hps6]
    clear hps6 hpr6 hat hg6 hb6 hO6 hO5 hB5 hb5
    refine mix_step (fun K hK => ?_)
    go_simp
    refine hK.out _ _ (fun h => absurd h (by decide)) ?_
    clear hK K
    try simp only [Act.put, List.setIfInBounds_toArray, List.set_cons_zero, List.set_cons_succ]
    refine mix_nil ?_
    go_wp2
    go_end0
    exact HF.out
def OwnI (w : World) (B : Nat) (v : Value) (L : List Nat) : Prop := Own w B 3 1 v L.length (fun i => [.int .i64 ((L.getD i 0 : Nat) : Int)])
theorem OwnI.nil (w : World) (B : Nat) : OwnI w B (.slice none 0 0) [] := Own.nil _ _ _ _ _
theorem OwnI.kept {w w' : World} {B : Nat} {v : Value} {L : List Nat} (h : OwnI w B v L) (hb : Below w.heap.size w w') : OwnI w' B v L := Own.kept h hb
theorem OwnI.set {w : World} {B p i : Nat} {v : Value} {L : List Nat} (h : OwnI w B v L) (hp : p < B) (x : Value) : OwnI (w.setCell ⟨p, i, none⟩ x) B v L := by
  refine Own.keptRow h (far_grown x) ?_
  cases ho : v.ownBlock with
  | none => exact .inl rfl
  | some k => exact .inr fun e => by injection e with e; have := (Own.lt h k ho).1; omega
def Spt1Post (w : World) (v : Value) (L : List Nat) (po B : Nat) (e : Ending) (w' : World) : Prop :=
  e = .returned (.tuple #[]) ∧ ∃ v', w'.heap[po]? = some (.cells #[v'] 30 (0, 0)) ∧ OwnI w' B v' L ∧ (v'.ownBlock = v.ownBlock ∨ ∃ k, v'.ownBlock = some k ∧ w.heap.size ≤ k) ∧ Touch w w' po po v
theorem spt1_fin {w w6 : World} {po B : Nat} {v v0 v' : Value} {L : List Nat} (hg : w.grownBy w6 v.ownBlock) (hpo6 : w6.heap[po]? = some (.cells #[v0] 30 (0, 0))) (hO : OwnI w6 B v' L) (hpo : po < B) (hat : v'.ownBlock = v.ownBlock ∨ ∃ k, v'.ownBlock = some k ∧ w.heap.size ≤ k) :
    Spt1Post w v L po B (.returned (.tuple #[])) (w6.setCell ⟨po, 0, none⟩ v') := by
  refine ⟨rfl, v', by simp [World.setCell, hpo6, Array.getElem?_modify], hO.set hpo _, hat, hg.os, hg.tape, hg.output, by simpa using hg.size, fun k hk h1 _ h3 => ?_⟩
  rw [Below.heap_setCell _ _ _ _ (by show k ≠ po; exact h1), hg.block k (by omega) (fun e => h3 e.symm)]
set_option maxRecDepth 100000 in
set_option maxHeartbeats 2000000 in
theorem spt1_any (j : Nat) (x : Value) (q : Bool) (po B : Nat) (v : Value) (L : List Nat) (w : World) (hL : L.length ≤ 1000000000000) (ho : w.heap[po]? = some (.cells #[v] 30 (0, 0))) (hO : OwnI w B v L) (hpo : po < B) (hB : B ≤ w.heap.size) :
    Calls Try.prog 63 #[.int .i64 (j : Int), x, .bool q, .pointer (some ⟨po, 0, none⟩)] w (Spt1Post w v (if q = true then L else L ++ [j]) po B) := by
  have hpl : po < w.heap.size := by omega
  cases q
  · have hcl : w.cell? ⟨po, 0, none⟩ = some v := by simp [World.cell?, ho]
    have HO := Lib.hid hO
    have HP := Lib.hid ho
    have HF := Lib.hid (show Own w B 3 1 v L.length (fun i => [.int .i64 (((L ++ [j]).getD i 0 : Nat) : Int)]) from Own.congr hO fun i hi => by rw [getD_app_l hi])
    have HU := Lib.hid (show (#[Value.int .i64 (j : Int)] : Array Value).toList = [.int .i64 (((L ++ [j]).getD L.length 0 : Nat) : Int)] by rw [getD_app_r])
    clear hO ho
    go_enter Try.func63, Try.ntmps63
    go_wp2_with (at_builtin; refine wpList_push w rfl (.tmp 9) (.tmp 11) 30 rfl B 3 1 8 (.int .i64 0) #[.int .i64 (j : Int)] Try.underlying30 intInfo rfl (by decide) v L.length _ rfl HF.out hB _ rfl rfl HU.out rfl rfl (by omega) (by omega) ?_)
    intro v' w' hown hb hg hat
    have hO' : OwnI w' B v' (L ++ [j]) := by unfold OwnI; rw [List.length_append]; exact hown
    have hpo' : w'.heap[po]? = some (.cells #[v] 30 (0, 0)) := (hb.block po hpo).trans HP.out
    have HFI := Lib.hid (spt1_fin hg hpo' hO' hpo (by
      rcases hat with e | e
      · exact .inl e
      · exact .inr ⟨_, e, by omega⟩))
    obtain ⟨A6, c6, e6, _, _⟩ := hown.rd
    obtain ⟨n6, hn6⟩ : ∃ n, n = L.length + 1 := ⟨_, rfl⟩
    rw [← hn6] at e6
    subst e6
    have hcl6 : w'.cell? ⟨po, 0, none⟩ = some v := by simp [World.cell?, hpo']
    have hfz6 : w'.frozen? ⟨po, 0, none⟩ = false := by simp [World.frozen?, hpo']
    clear hn6 hown hb hg hat hO' hpo' hcl HF HU HO
    go_wp2
    go_end0
    exact HFI.out
  · have HF := Lib.hid (show Spt1Post w v L po B (.returned (.tuple #[])) w from ⟨rfl, v, ho, hO, .inl rfl, rfl, rfl, rfl, Nat.le_refl _, fun _ _ _ _ _ => rfl⟩)
    clear hO ho
    go_enter Try.func63, Try.ntmps63
    go_wp2
    go_end0
    exact HF.out
end Go.Proofs.Ytbioanbokbhmgaa

/- ParseHead, Spoilt, Parse of the program: the walks. Conditions: bytes. -/
namespace Go.Proofs.Ytbioanbokbhmgaa
open Go.RowKit

set_option maxRecDepth 100000 in
set_option maxHeartbeats 2000000 in
theorem ph_any (HOP : OpnAll) (A : Option Addr) (c : Nat) (b : List Nat) (w : World) (hx : ∀ x ∈ b, x < 256) (hbl : b.length ≤ 150000000000000) (hbc : b.length ≤ c) (hc : c ≤ maxLen) (hA : RL w A b) : Calls Try.prog 30 #[.slice A b.length c] w (RphPost w b) := by
  have hbA := Lib.hid ((Below.refl w.heap.size w).alloc (Nat.le_refl _) (.cells #[.int .u8 0, .int .u8 0, .int .u8 0, .int .u8 0, .int .u8 0, .int .u8 0, .int .u8 0, .int .u8 0, .int .i64 0, .int .i64 0, .int .i64 0, .string ⟨#[]⟩, .int .i64 0, .int .i64 0, .int .i64 0, .int .i64 0] 28))
  have HO := Lib.hid (HOP A c b (w.alloc (.cells #[.int .u8 0, .int .u8 0, .int .u8 0, .int .u8 0, .int .u8 0, .int .u8 0, .int .u8 0, .int .u8 0, .int .i64 0, .int .i64 0, .int .i64 0, .string ⟨#[]⟩, .int .i64 0, .int .i64 0, .int .i64 0, .int .i64 0] 28)) hx hbl hbc hc (hA.below hbA.out))
  clear hx hA
  go_enter Try.func30, Try.ntmps30
  go_wp2_with fail
  refine HO.out.mono ?_
  rintro e w1 ⟨rfl, hb1⟩
  have HW := Lib.hid (hbA.out.trans (hb1.mono hbA.out.size))
  have hz : w1.heap[w.heap.size]? = some (.cells #[.int .u8 0, .int .u8 0, .int .u8 0, .int .u8 0, .int .u8 0, .int .u8 0, .int .u8 0, .int .u8 0, .int .i64 0, .int .i64 0, .int .i64 0, .string ⟨#[]⟩, .int .i64 0, .int .i64 0, .int .i64 0, .int .i64 0] 28 (0, 0)) := by
    rw [hb1.block w.heap.size (by simp)]
    exact heap_alloc_new w _
  obtain ⟨H, hH⟩ : ∃ H, H = rdH b := ⟨_, rfl⟩
  obtain ⟨er, her⟩ : ∃ er, er = headE b := ⟨_, rfl⟩
  rw [← hH, ← her]
  have HH := Lib.hid hH
  have HER := Lib.hid her
  have HZA := Lib.hid (show (w1.alloc (.cells #[.int .u8 H.s0, .int .u8 H.s1, .int .u8 H.s2, .int .u8 H.s3, .int .u8 H.s4, .int .u8 H.s5, .int .u8 H.s6, .int .u8 H.s7, .int .i64 H.K, .int .i64 H.M, .int .i64 H.B, .string H.key, .int .i64 H.size, .int .i64 H.idx, .int .i64 H.ep, .int .i64 H.ct] 28)).heap[w.heap.size]? = some (.cells #[.int .u8 0, .int .u8 0, .int .u8 0, .int .u8 0, .int .u8 0, .int .u8 0, .int .u8 0, .int .u8 0, .int .i64 0, .int .i64 0, .int .i64 0, .string ⟨#[]⟩, .int .i64 0, .int .i64 0, .int .i64 0, .int .i64 0] 28 (0, 0)) from (((Below.refl w1.heap.size w1).alloc (Nat.le_refl _) _).block _ (Array.getElem?_eq_some_iff.1 hz).1).trans hz)
  have hlt : w.heap.size < w1.heap.size := (Array.getElem?_eq_some_iff.1 hz).1
  clear hH her hb1 hz HO hbA
  unfold HdV
  go_wp2_with (first | (refine wpList_storeNewH rfl (.tmp 4) (.tmp 10) rfl #[.int .u8 H.s0, .int .u8 H.s1, .int .u8 H.s2, .int .u8 H.s3, .int .u8 H.s4, .int .u8 H.s5, .int .u8 H.s6, .int .u8 H.s7, .int .i64 H.K, .int .i64 H.M, .int .i64 H.B, .string H.key, .int .i64 H.size, .int .i64 H.idx, .int .i64 H.ep, .int .i64 H.ct] rfl rfl rfl rfl rfl ?_) | (refine wpList_loadH rfl (.tmp 4) rfl w1.heap.size rfl #[.int .u8 H.s0, .int .u8 H.s1, .int .u8 H.s2, .int .u8 H.s3, .int .u8 H.s4, .int .u8 H.s5, .int .u8 H.s6, .int .u8 H.s7, .int .i64 H.K, .int .i64 H.M, .int .i64 H.B, .string H.key, .int .i64 H.size, .int .i64 H.idx, .int .i64 H.ep, .int .i64 H.ct] rfl (heap_alloc_new w1 _) ?_) | (refine wpList_storeH rfl (.tmp 2) (.tmp 13) rfl w.heap.size #[.int .u8 H.s0, .int .u8 H.s1, .int .u8 H.s2, .int .u8 H.s3, .int .u8 H.s4, .int .u8 H.s5, .int .u8 H.s6, .int .u8 H.s7, .int .i64 H.K, .int .i64 H.M, .int .i64 H.B, .string H.key, .int .i64 H.size, .int .i64 H.idx, .int .i64 H.ep, .int .i64 H.ct] rfl rfl rfl #[.int .u8 0, .int .u8 0, .int .u8 0, .int .u8 0, .int .u8 0, .int .u8 0, .int .u8 0, .int .u8 0, .int .i64 0, .int .i64 0, .int .i64 0, .string ⟨#[]⟩, .int .i64 0, .int .i64 0, .int .i64 0, .int .i64 0] rfl HZA.out rfl ?_; intro w2 h2 g2 z2))
  have HB2 := Lib.hid (show Below w.heap.size w w2 from Below.trans_row (HW.out.alloc HW.out.size _) g2 (Nat.le_refl _) (by simp; omega))
  exact ret_cellH Try.results30 rfl rfl rfl h2 ⟨by rw [HER.out, ← HH.out]; rfl, HB2.out⟩
end Go.Proofs.Ytbioanbokbhmgaa

/- Spoilt of the program: the walk. Conditions: bytes. -/
namespace Go.Proofs.Ytbioanbokbhmgaa
open Go.RowKit

def sptL (b : List Nat) : List Nat := if headE b = 0 then badL b (sizeN (hdOf b).K (hdOf b).M (hdOf b).B (hdOf b).size) else []
def SptPost (w : World) (b : List Nat) (e : Ending) (w' : World) : Prop := ∃ v, e = .returned (.tuple #[v, .int .i64 (headE b)]) ∧ OwnI w' w.heap.size v (sptL b) ∧ Below w.heap.size w w'
/-- What holds behind j calls of Spoilt's callback. -/
structure SptI (w0 : World) (b : List Nat) (po B kl j : Nat) (w : World) : Prop where
  far : Below w0.heap.size w0 w
  ge : B ≤ kl
  sz : B ≤ w.heap.size
  at_ : ∃ v, w.heap[po]? = some (.cells #[v] 30 (0, 0)) ∧ OwnI w B v (badL b j) ∧ v.ownBlock ≠ some kl
theorem SptI.kept {w0 w w' : World} {b : List Nat} {po B kl j : Nat} (h : SptI w0 b po B kl j w) (hb : Below w.heap.size w w') : SptI w0 b po B kl j w' := by
  obtain ⟨v, hv, hO, hne⟩ := h.at_
  exact ⟨h.far.trans (hb.mono h.far.size), h.ge, Nat.le_trans h.sz hb.size, v, (hb.block po (Array.getElem?_eq_some_iff.1 hv).1).trans hv, hO.kept hb, hne⟩
theorem badL_step (b : List Nat) (j : Nat) : (if (!badF b j) = true then badL b j else badL b j ++ [j]) = badL b (j + 1) := by
  show _ = if badF b j = true then badL b j ++ [j] else badL b j
  cases badF b j <;> rfl
theorem spt_step (w0 : World) (b : List Nat) (po B : Nat) (hpo : po < B) (hp0 : w0.heap.size ≤ po) (kl j : Nat) (A' : Option Addr) (c' n : Nat) (w1 : World) (hj : j ≤ 4096) (hkl : kl < w1.heap.size) (hI : SptI w0 b po B kl j w1) :
    Calls Try.prog 63 (#[.int .i64 (j : Int), .slice A' n c', .bool (!badF b j)] ++ #[.pointer (some ⟨po, 0, none⟩)]) w1 fun e w2 => e = .returned (.tuple #[]) ∧ SptI w0 b po B kl (j + 1) w2 ∧ w2.heap[kl]? = w1.heap[kl]? := by
  obtain ⟨v, hv, hO, hne⟩ := hI.at_
  have hge := hI.ge
  have hlen := badL_length b j
  have hs := hI.far.size
  refine (spt1_any j (.slice A' n c') (!badF b j) po B v (badL b j) w1 (by omega) hv hO hpo hI.sz).mono ?_
  rintro e w2 ⟨rfl, v', hv', hO', hat, HT⟩
  rw [badL_step] at hO'
  have hge2 : ∀ k, v.ownBlock = some k → w0.heap.size ≤ k := fun k e => by have := (Own.lt hO k e).1; omega
  refine ⟨rfl, ⟨hI.far.trans (HT.below (by omega) hp0 hp0 hge2), hge, Nat.le_trans hI.sz HT.size, v', hv', hO', ?_⟩, HT.block kl hkl (by omega) (by omega) hne⟩
  rcases hat with e | ⟨k, e, hk⟩
  · rw [e]; exact hne
  · rw [e]; intro e'; injection e' with e'; omega
set_option maxRecDepth 100000 in
set_option maxHeartbeats 2000000 in
theorem spt_any (HOP : OpnAll) (A : Option Addr) (c : Nat) (b : List Nat) (w : World) (hx : ∀ x ∈ b, x < 256) (hbl : b.length ≤ 150000000000000) (hbc : b.length ≤ c) (hc : c ≤ maxLen) (hA : RL w A b) : Calls Try.prog 32 #[.slice A b.length c] w (SptPost w b) := by
  have HO := Lib.hid (HOP A c b w hx hbl hbc hc hA)
  have hmf : ∀ (fn : Fn) (first cap : Array Value) (w : World), (Instr.makeFunc fn first cap).run Try.prog w = .ok (.func fn first cap) w := fun _ _ _ _ => rfl
  have HX := Lib.hid hx
  have HA := Lib.hid hA
  clear hx hA
  go_enter Try.func32, Try.ntmps32
  go_wp2_with fail
  refine HO.out.mono ?_
  rintro e w1 ⟨rfl, hb1⟩
  have HW := Lib.hid hb1
  have hsz1 := hb1.size
  clear hb1 HO
  by_cases h0 : headE b = 0
  · have HR := Lib.hid (show rdH b = hdOf b from if_pos h0)
    have HS := Lib.hid (show rdS b = sum2 (hdOf b) from if_pos h0)
    rw [HR.out, HS.out, h0]
    have HL := Lib.hid (show sptL b = badL b (sizeN (hdOf b).K (hdOf b).M (hdOf b).B (hdOf b).size) from if_pos h0)
    have H0 := Lib.hid h0
    have HN := Lib.hid (sizeN_le (hdOf b).K (hdOf b).M (hdOf b).B (hdOf b).size)
    go_wp2_with (first | (refine wpList_storeNewH rfl (.tmp 4) (.tmp 11) rfl #[.int .u8 (hdOf b).s0, .int .u8 (hdOf b).s1, .int .u8 (hdOf b).s2, .int .u8 (hdOf b).s3, .int .u8 (hdOf b).s4, .int .u8 (hdOf b).s5, .int .u8 (hdOf b).s6, .int .u8 (hdOf b).s7, .int .i64 (hdOf b).K, .int .i64 (hdOf b).M, .int .i64 (hdOf b).B, .string (hdOf b).key, .int .i64 (hdOf b).size, .int .i64 (hdOf b).idx, .int .i64 (hdOf b).ep, .int .i64 (hdOf b).ct] rfl rfl rfl rfl rfl ?_) | (refine wpList_loadH rfl (.tmp 4) rfl w1.heap.size rfl #[.int .u8 (hdOf b).s0, .int .u8 (hdOf b).s1, .int .u8 (hdOf b).s2, .int .u8 (hdOf b).s3, .int .u8 (hdOf b).s4, .int .u8 (hdOf b).s5, .int .u8 (hdOf b).s6, .int .u8 (hdOf b).s7, .int .i64 (hdOf b).K, .int .i64 (hdOf b).M, .int .i64 (hdOf b).B, .string (hdOf b).key, .int .i64 (hdOf b).size, .int .i64 (hdOf b).idx, .int .i64 (hdOf b).ep, .int .i64 (hdOf b).ct] rfl ?c1 ?_))
    case c1 => exact ((((Below.refl _ _).alloc (Nat.le_refl _) _).block w1.heap.size (by simp)).trans (heap_alloc_new w1 _))
    obtain ⟨wB, hwB⟩ : ∃ wB, wB = (w1.alloc (.cells #[.int .u8 (hdOf b).s0, .int .u8 (hdOf b).s1, .int .u8 (hdOf b).s2, .int .u8 (hdOf b).s3, .int .u8 (hdOf b).s4, .int .u8 (hdOf b).s5, .int .u8 (hdOf b).s6, .int .u8 (hdOf b).s7, .int .i64 (hdOf b).K, .int .i64 (hdOf b).M, .int .i64 (hdOf b).B, .string (hdOf b).key, .int .i64 (hdOf b).size, .int .i64 (hdOf b).idx, .int .i64 (hdOf b).ep, .int .i64 (hdOf b).ct] 28)).alloc (.cells #[.slice none 0 0] 30) := ⟨_, rfl⟩
    have hsB : wB.heap.size = w1.heap.size + 2 := by rw [hwB]; simp
    have hpo : wB.heap[w1.heap.size + 1]? = some (.cells #[.slice none 0 0] 30 (0, 0)) := by
      rw [hwB]
      have := heap_alloc_new (w1.alloc (.cells #[.int .u8 (hdOf b).s0, .int .u8 (hdOf b).s1, .int .u8 (hdOf b).s2, .int .u8 (hdOf b).s3, .int .u8 (hdOf b).s4, .int .u8 (hdOf b).s5, .int .u8 (hdOf b).s6, .int .u8 (hdOf b).s7, .int .i64 (hdOf b).K, .int .i64 (hdOf b).M, .int .i64 (hdOf b).B, .string (hdOf b).key, .int .i64 (hdOf b).size, .int .i64 (hdOf b).idx, .int .i64 (hdOf b).ep, .int .i64 (hdOf b).ct] 28)) (.cells #[.slice none 0 0] 30)
      simpa using this
    have hbw : Below w.heap.size w wB := by rw [hwB]; exact (HW.out.alloc hsz1 _).alloc (by simp; omega) _
    rw [← hwB]
    clear hwB
    refine (blocks_any A c b w wB hbw 63 #[.pointer (some ⟨w1.heap.size + 1, 0, none⟩)] (fun kl j w' => SptI w b (w1.heap.size + 1) (w1.heap.size + 2) kl j w') HX.out hbl hbc hc H0.out
      (fun j x q w => run_own_call Try.func63 (by kernel_rfl) (by kernel_rfl) _ w) HA.out (fun kl j w' h => h.far) (fun kl j w' w'' h hb => h.kept hb)
      (fun kl hkl => ⟨hbw, by omega, by omega, _, hpo, OwnI.nil _ _, by intro e; cases e⟩)
      (fun kl j A' c' w1' hj hkl hI _ _ => spt_step w b (w1.heap.size + 1) (w1.heap.size + 2) (by omega) (by omega) kl j A' c' _ w1' (by have := HN.out; omega) hkl hI)).mono ?_
    rintro e w3 ⟨rfl, kl, hI⟩
    obtain ⟨v, hv, hO, _⟩ := hI.at_
    have HB3 := Lib.hid hI.far
    have HO3 := Lib.hid (Own.mono hO (show w.heap.size ≤ w1.heap.size + 2 by omega))
    have hcl : w3.cell? ⟨w1.heap.size + 1, 0, none⟩ = some v := by simp [World.cell?, hv]
    obtain ⟨A3, c3, e3, _⟩ := Own.rd hO
    clear hv hO hI hbw hpo hsB
    subst e3
    go_wp2
    go_ret2
    exact ⟨.slice A3 (badL b (sizeN (hdOf b).K (hdOf b).M (hdOf b).B (hdOf b).size)).length c3, by rw [H0.out]; rfl, by rw [HL.out]; exact HO3.out, HB3.out⟩
  · have H0 := Lib.hid h0
    have hne : (headE b != 0) = true := by simpa using h0
    obtain ⟨H, hH⟩ : ∃ H, H = rdH b := ⟨_, rfl⟩
    rw [← hH]
    clear hH
    have HF := Lib.hid (show sptL b = [] from if_neg h0)
    clear h0
    go_wp2_with (refine wpList_storeNewH rfl (.tmp 4) (.tmp 11) rfl #[.int .u8 H.s0, .int .u8 H.s1, .int .u8 H.s2, .int .u8 H.s3, .int .u8 H.s4, .int .u8 H.s5, .int .u8 H.s6, .int .u8 H.s7, .int .i64 H.K, .int .i64 H.M, .int .i64 H.B, .string H.key, .int .i64 H.size, .int .i64 H.idx, .int .i64 H.ep, .int .i64 H.ct] rfl rfl rfl rfl rfl ?_)
    go_ret2
    exact ⟨_, rfl, by rw [HF.out]; exact OwnI.nil _ _, HW.out.alloc hsz1 _⟩
end Go.Proofs.Ytbioanbokbhmgaa

/- Parse of the program: the walk. Conditions: bytes. -/
namespace Go.Proofs.Ytbioanbokbhmgaa
open Go.RowKit

def prsH (b : List Nat) : Hd := if prsE b = 0 then hdOf b else zeroHd
def prsB (b : List Nat) : List (List Nat) := if prsE b = 0 then blksL b (sizeN (hdOf b).K (hdOf b).M (hdOf b).B (hdOf b).size) else []
def PrsPost (w : World) (b : List Nat) (e : Ending) (w' : World) : Prop := ∃ v, e = .returned (.tuple #[.agg #[.int .u8 (prsH b).s0, .int .u8 (prsH b).s1, .int .u8 (prsH b).s2, .int .u8 (prsH b).s3, .int .u8 (prsH b).s4, .int .u8 (prsH b).s5, .int .u8 (prsH b).s6, .int .u8 (prsH b).s7, .int .i64 (prsH b).K, .int .i64 (prsH b).M, .int .i64 (prsH b).B, .string (prsH b).key, .int .i64 (prsH b).size, .int .i64 (prsH b).idx, .int .i64 (prsH b).ep, .int .i64 (prsH b).ct, v], .int .i64 (prsE b)]) ∧ OwnLL w' w.heap.size v (prsB b) ∧ Below w.heap.size w w'
theorem prs_no {w w' : World} {b : List Nat} {n : Int} (h : prsE b = n) (hn : n ≠ 0) (hb : Below w.heap.size w w') : PrsPost w b (.returned (.tuple #[.agg #[.int .u8 0, .int .u8 0, .int .u8 0, .int .u8 0, .int .u8 0, .int .u8 0, .int .u8 0, .int .u8 0, .int .i64 0, .int .i64 0, .int .i64 0, .string ⟨#[]⟩, .int .i64 0, .int .i64 0, .int .i64 0, .int .i64 0, .slice none 0 0], .int .i64 n])) w' := by
  have h0 : ¬ prsE b = 0 := by rw [h]; exact hn
  refine ⟨.slice none 0 0, ?_, by rw [show prsB b = [] from if_neg h0]; exact OwnLL.nil _ _, hb⟩
  unfold prsH
  rw [if_neg h0, h]
  rfl
theorem prs_yes {w w' : World} {b : List Nat} {v : Value} (h : prsE b = 0) (hO : OwnLL w' w.heap.size v (blksL b (sizeN (hdOf b).K (hdOf b).M (hdOf b).B (hdOf b).size))) (hb : Below w.heap.size w w') : PrsPost w b (.returned (.tuple #[.agg #[.int .u8 (hdOf b).s0, .int .u8 (hdOf b).s1, .int .u8 (hdOf b).s2, .int .u8 (hdOf b).s3, .int .u8 (hdOf b).s4, .int .u8 (hdOf b).s5, .int .u8 (hdOf b).s6, .int .u8 (hdOf b).s7, .int .i64 (hdOf b).K, .int .i64 (hdOf b).M, .int .i64 (hdOf b).B, .string (hdOf b).key, .int .i64 (hdOf b).size, .int .i64 (hdOf b).idx, .int .i64 (hdOf b).ep, .int .i64 (hdOf b).ct, v], .int .i64 0])) w' := by
  refine ⟨v, ?_, by rw [show prsB b = _ from if_pos h]; exact hO, hb⟩
  unfold prsH
  rw [if_pos h, h]
theorem cells_ofS {w : World} {hb T : Nat} {c0 c1 c2 c3 c4 c5 c6 c7 c8 c9 c10 c11 c12 c13 c14 c15 c16 : Value} (h : w.heap[hb]? = some (.cells #[c0, c1, c2, c3, c4, c5, c6, c7, c8, c9, c10, c11, c12, c13, c14, c15, c16] T (0, 0))) : w.cell? ⟨hb, 0, none⟩ = some c0 ∧ w.cell? ⟨hb, 1, none⟩ = some c1 ∧ w.cell? ⟨hb, 2, none⟩ = some c2 ∧ w.cell? ⟨hb, 3, none⟩ = some c3 ∧ w.cell? ⟨hb, 4, none⟩ = some c4 ∧ w.cell? ⟨hb, 5, none⟩ = some c5 ∧ w.cell? ⟨hb, 6, none⟩ = some c6 ∧ w.cell? ⟨hb, 7, none⟩ = some c7 ∧ w.cell? ⟨hb, 8, none⟩ = some c8 ∧ w.cell? ⟨hb, 9, none⟩ = some c9 ∧ w.cell? ⟨hb, 10, none⟩ = some c10 ∧ w.cell? ⟨hb, 11, none⟩ = some c11 ∧ w.cell? ⟨hb, 12, none⟩ = some c12 ∧ w.cell? ⟨hb, 13, none⟩ = some c13 ∧ w.cell? ⟨hb, 14, none⟩ = some c14 ∧ w.cell? ⟨hb, 15, none⟩ = some c15 ∧ w.cell? ⟨hb, 16, none⟩ = some c16 := by
  refine ⟨?_, ?_, ?_, ?_, ?_, ?_, ?_, ?_, ?_, ?_, ?_, ?_, ?_, ?_, ?_, ?_, ?_⟩ <;> simp [World.cell?, h]
def blks' (b : List Nat) : Nat → List (List Nat)
  | 0 => []
  | n + 1 => blks' b n ++ [blkAt b n]
theorem blks'_length (b : List Nat) : ∀ n, (blks' b n).length = n
  | 0 => rfl
  | n + 1 => by show (blks' b n ++ [blkAt b n]).length = n + 1; rw [List.length_append, blks'_length b n]; rfl
theorem offF_le (h : Hd) : ∀ (n j : Nat), j ≤ n → offF h j ≤ offF h n
  | 0, j, hj => by have : j = 0 := by omega
                   subst this; exact Nat.le_refl _
  | n + 1, j, hj => by
    rcases Nat.lt_or_ge j (n + 1) with h1 | h1
    · have := offF_le h n j (by omega); have := offF_next h n; omega
    · have : j = n + 1 := by omega
      subst this; exact Nat.le_refl _
theorem blks'_eq {b : List Nat} {n : Nat} (hl : offF (hdOf b) n ≤ b.length) : ∀ j, j ≤ n → blks' b j = blksL b j
  | 0, _ => rfl
  | j + 1, hj => by
    show blks' b j ++ [blkAt b j] = blksL b j ++ [sl b (offF (hdOf b) j) (lenF (hdOf b) j)]
    have h1 := offF_le (hdOf b) n (j + 1) hj
    have h2 := offF_next (hdOf b) j
    rw [blks'_eq hl j (by omega), blkAt_sl (by omega)]
/-- What holds behind j calls of Parse's callback. -/
structure PrsI (w0 : World) (b : List Nat) (pr ps B kl j : Nat) (w : World) : Prop where
  far : Below w0.heap.size w0 w
  ge : B ≤ kl
  sz : B ≤ w.heap.size
  right : w.heap[pr]? = some (.cells #[.bool (decide (badL b j = []))] 4 (0, 0))
  at_ : ∃ v, w.heap[ps]? = some (.cells #[.int .u8 (hdOf b).s0, .int .u8 (hdOf b).s1, .int .u8 (hdOf b).s2, .int .u8 (hdOf b).s3, .int .u8 (hdOf b).s4, .int .u8 (hdOf b).s5, .int .u8 (hdOf b).s6, .int .u8 (hdOf b).s7, .int .i64 (hdOf b).K, .int .i64 (hdOf b).M, .int .i64 (hdOf b).B, .string (hdOf b).key, .int .i64 (hdOf b).size, .int .i64 (hdOf b).idx, .int .i64 (hdOf b).ep, .int .i64 (hdOf b).ct, v] 46 (0, 0)) ∧ OwnLL w B v (blks' b j) ∧ v.ownBlock ≠ some kl
theorem PrsI.kept {w0 w w' : World} {b : List Nat} {pr ps B kl j : Nat} (h : PrsI w0 b pr ps B kl j w) (hb : Below w.heap.size w w') : PrsI w0 b pr ps B kl j w' := by
  obtain ⟨v, hv, hO, hne⟩ := h.at_
  exact ⟨h.far.trans (hb.mono h.far.size), h.ge, Nat.le_trans h.sz hb.size, (hb.block pr (Array.getElem?_eq_some_iff.1 h.right).1).trans h.right, v, (hb.block ps (Array.getElem?_eq_some_iff.1 hv).1).trans hv, hO.kept hb, hne⟩
theorem right_step (b : List Nat) (j : Nat) : (decide (badL b j = []) && !badF b j) = decide (badL b (j + 1) = []) := by
  show _ = decide ((if badF b j = true then badL b j ++ [j] else badL b j) = [])
  cases badF b j <;> simp
theorem prs_step (w0 : World) (b : List Nat) (pr ps B : Nat) (hpr : pr < B) (hps : ps < B) (hne : pr ≠ ps) (hp0 : w0.heap.size ≤ pr) (hp1 : w0.heap.size ≤ ps) (hbl : b.length ≤ 150000000000000) (kl j : Nat) (A' : Option Addr) (c' : Nat) (w1 : World) (hj : j ≤ 4096) (hkl : kl < w1.heap.size) (hI : PrsI w0 b pr ps B kl j w1) (hA : RL w1 A' (blkAt b j)) :
    Calls Try.prog 61 (#[.int .i64 (j : Int), .slice A' (blkAt b j).length c', .bool (!badF b j)] ++ #[.pointer (some ⟨pr, 0, none⟩), .pointer (some ⟨ps, 0, none⟩)]) w1 fun e w2 => e = .returned (.tuple #[]) ∧ PrsI w0 b pr ps B kl (j + 1) w2 ∧ w2.heap[kl]? = w1.heap[kl]? := by
  obtain ⟨v, hv, hO, hne2⟩ := hI.at_
  have hge := hI.ge
  have hlen := blks'_length b j
  have hs := hI.far.size
  have hbk : (blkAt b j).length ≤ b.length := by
    unfold blkAt
    by_cases hq : b.length < offF (hdOf b) j + lenF (hdOf b) j + 4
    · rw [if_pos hq]; exact Nat.zero_le _
    · rw [if_neg hq, sl_length (by omega)]; omega
  refine (prs1_any j A' c' (blkAt b j) (!badF b j) (decide (badL b j = [])) pr ps B (hdOf b) v (blks' b j) w1 (by omega) (by omega) hI.right hv hO hpr hps hne hI.sz hA).mono ?_
  rintro e w2 ⟨rfl, v', hr', hv', hO', hat, HT⟩
  rw [right_step] at hr'
  have hge2 : ∀ k, v.ownBlock = some k → w0.heap.size ≤ k := fun k e => by have := (hO.ge k e).1; omega
  refine ⟨rfl, ⟨hI.far.trans (HT.below (by omega) hp0 hp1 hge2), hge, Nat.le_trans hI.sz HT.size, hr', v', hv', hO', ?_⟩, HT.block kl hkl (by omega) (by omega) hne2⟩
  rcases hat with e | ⟨k, e, hk⟩
  · rw [e]; exact hne2
  · rw [e]; intro e'; injection e' with e'; omega
theorem own_row {w w' : World} {B g : Nat} {v : Value} {LL : List (List Nat)} (h : OwnLL w B v LL) (hg : g < B) (hgr : w.grownBy w' (some g)) : OwnLL w' g v LL := by
  obtain ⟨S, C, h1, h2⟩ := h
  have ne : ∀ u : Value, (∀ k, u.ownBlock = some k → B ≤ k ∧ k < w.heap.size) → u.ownBlock = none ∨ u.ownBlock ≠ some g := fun u hu => by
    cases ho : u.ownBlock with
    | none => exact .inl rfl
    | some k => exact .inr fun e => by injection e with e; have := (hu k ho).1; omega
  exact ⟨S, C, (h1.keptRow hgr (ne _ h1.lt)).mono (by omega), fun i hi => ((h2 i hi).keptRow hgr (ne _ (h2 i hi).lt)).mono (by omega)⟩
set_option maxRecDepth 100000 in
set_option maxHeartbeats 4000000 in
theorem prs_any (HOP : OpnAll) (A : Option Addr) (c : Nat) (b : List Nat) (w : World) (hx : ∀ x ∈ b, x < 256) (hbl : b.length ≤ 150000000000000) (hbc : b.length ≤ c) (hc : c ≤ maxLen) (hA : RL w A b) : Calls Try.prog 31 #[.slice A b.length c] w (PrsPost w b) := by
  have hbA := Lib.hid ((Below.refl w.heap.size w).alloc (Nat.le_refl _) (.cells #[.int .u8 0, .int .u8 0, .int .u8 0, .int .u8 0, .int .u8 0, .int .u8 0, .int .u8 0, .int .u8 0, .int .i64 0, .int .i64 0, .int .i64 0, .string ⟨#[]⟩, .int .i64 0, .int .i64 0, .int .i64 0, .int .i64 0, .slice none 0 0] 46))
  have HO := Lib.hid (HOP A c b (w.alloc (.cells #[.int .u8 0, .int .u8 0, .int .u8 0, .int .u8 0, .int .u8 0, .int .u8 0, .int .u8 0, .int .u8 0, .int .i64 0, .int .i64 0, .int .i64 0, .string ⟨#[]⟩, .int .i64 0, .int .i64 0, .int .i64 0, .int .i64 0, .slice none 0 0] 46)) hx hbl hbc hc (hA.below hbA.out))
  have hmf : ∀ (fn : Fn) (first cap : Array Value) (w : World), (Instr.makeFunc fn first cap).run Try.prog w = .ok (.func fn first cap) w := fun _ _ _ _ => rfl
  have HX := Lib.hid hx
  have HA := Lib.hid hA
  clear hx hA
  go_enter Try.func31, Try.ntmps31
  go_wp2_with fail
  refine HO.out.mono ?_
  rintro e w1 ⟨rfl, hb1⟩
  have HW := Lib.hid (hbA.out.trans (hb1.mono hbA.out.size))
  have HB1 := Lib.hid hb1
  have hzA : (w.alloc (.cells #[.int .u8 0, .int .u8 0, .int .u8 0, .int .u8 0, .int .u8 0, .int .u8 0, .int .u8 0, .int .u8 0, .int .i64 0, .int .i64 0, .int .i64 0, .string ⟨#[]⟩, .int .i64 0, .int .i64 0, .int .i64 0, .int .i64 0, .slice none 0 0] 46)).heap.size = w.heap.size + 1 := by simp
  have HRA := Lib.hid (HA.out.below hbA.out)
  have HZ0 := Lib.hid (heap_alloc_new w (.cells #[.int .u8 0, .int .u8 0, .int .u8 0, .int .u8 0, .int .u8 0, .int .u8 0, .int .u8 0, .int .u8 0, .int .i64 0, .int .i64 0, .int .i64 0, .string ⟨#[]⟩, .int .i64 0, .int .i64 0, .int .i64 0, .int .i64 0, .slice none 0 0] 46))
  have HBA := Lib.hid hbA.out
  have hz : w1.heap[w.heap.size]? = some (.cells #[.int .u8 0, .int .u8 0, .int .u8 0, .int .u8 0, .int .u8 0, .int .u8 0, .int .u8 0, .int .u8 0, .int .i64 0, .int .i64 0, .int .i64 0, .string ⟨#[]⟩, .int .i64 0, .int .i64 0, .int .i64 0, .int .i64 0, .slice none 0 0] 46 (0, 0)) := by
    rw [hb1.block w.heap.size (by simp)]
    exact heap_alloc_new w _
  have hsz1 := HW.out.size
  have hlt := (Array.getElem?_eq_some_iff.1 hz).1
  have HZ := Lib.hid hz
  clear hb1 HO hz hbA
  by_cases h0 : headE b = 0
  · have HR := Lib.hid (show rdH b = hdOf b from if_pos h0)
    have HS := Lib.hid (show rdS b = sum2 (hdOf b) from if_pos h0)
    rw [HR.out, HS.out, h0]
    have H0 := Lib.hid h0
    have HZA := Lib.hid (show (w1.alloc (.cells #[.int .u8 (hdOf b).s0, .int .u8 (hdOf b).s1, .int .u8 (hdOf b).s2, .int .u8 (hdOf b).s3, .int .u8 (hdOf b).s4, .int .u8 (hdOf b).s5, .int .u8 (hdOf b).s6, .int .u8 (hdOf b).s7, .int .i64 (hdOf b).K, .int .i64 (hdOf b).M, .int .i64 (hdOf b).B, .string (hdOf b).key, .int .i64 (hdOf b).size, .int .i64 (hdOf b).idx, .int .i64 (hdOf b).ep, .int .i64 (hdOf b).ct] 28)).heap[w.heap.size]? = some (.cells #[.int .u8 0, .int .u8 0, .int .u8 0, .int .u8 0, .int .u8 0, .int .u8 0, .int .u8 0, .int .u8 0, .int .i64 0, .int .i64 0, .int .i64 0, .string ⟨#[]⟩, .int .i64 0, .int .i64 0, .int .i64 0, .int .i64 0, .slice none 0 0] 46 (0, 0)) from (((Below.refl w1.heap.size w1).alloc (Nat.le_refl _) _).block _ hlt).trans HZ.out)
    have HCK := Lib.hid (headE_facts h0).2.2.2.2.2
    clear h0
    go_wp2_with (first | (refine wpList_storeNewH rfl (.tmp 4) (.tmp 13) rfl #[.int .u8 (hdOf b).s0, .int .u8 (hdOf b).s1, .int .u8 (hdOf b).s2, .int .u8 (hdOf b).s3, .int .u8 (hdOf b).s4, .int .u8 (hdOf b).s5, .int .u8 (hdOf b).s6, .int .u8 (hdOf b).s7, .int .i64 (hdOf b).K, .int .i64 (hdOf b).M, .int .i64 (hdOf b).B, .string (hdOf b).key, .int .i64 (hdOf b).size, .int .i64 (hdOf b).idx, .int .i64 (hdOf b).ep, .int .i64 (hdOf b).ct] rfl rfl rfl rfl rfl ?_) | (refine wpList_loadH rfl (.tmp 4) rfl w1.heap.size rfl #[.int .u8 (hdOf b).s0, .int .u8 (hdOf b).s1, .int .u8 (hdOf b).s2, .int .u8 (hdOf b).s3, .int .u8 (hdOf b).s4, .int .u8 (hdOf b).s5, .int .u8 (hdOf b).s6, .int .u8 (hdOf b).s7, .int .i64 (hdOf b).K, .int .i64 (hdOf b).M, .int .i64 (hdOf b).B, .string (hdOf b).key, .int .i64 (hdOf b).size, .int .i64 (hdOf b).idx, .int .i64 (hdOf b).ep, .int .i64 (hdOf b).ct] rfl (heap_alloc_new w1 _) ?_))
    refine (flen_ok (hdOf b) _ HCK.out).mono ?_
    rintro e w2 ⟨rfl, hb2⟩
    obtain ⟨L, hL, hLb⟩ := lenE_nat HCK.out
    rw [hL]
    have hzz : w.heap.size < (w1.alloc (.cells #[.int .u8 (hdOf b).s0, .int .u8 (hdOf b).s1, .int .u8 (hdOf b).s2, .int .u8 (hdOf b).s3, .int .u8 (hdOf b).s4, .int .u8 (hdOf b).s5, .int .u8 (hdOf b).s6, .int .u8 (hdOf b).s7, .int .i64 (hdOf b).K, .int .i64 (hdOf b).M, .int .i64 (hdOf b).B, .string (hdOf b).key, .int .i64 (hdOf b).size, .int .i64 (hdOf b).idx, .int .i64 (hdOf b).ep, .int .i64 (hdOf b).ct] 28)).heap.size := by simp; omega
    have HW2 := Lib.hid ((HW.out.alloc hsz1 (.cells #[.int .u8 (hdOf b).s0, .int .u8 (hdOf b).s1, .int .u8 (hdOf b).s2, .int .u8 (hdOf b).s3, .int .u8 (hdOf b).s4, .int .u8 (hdOf b).s5, .int .u8 (hdOf b).s6, .int .u8 (hdOf b).s7, .int .i64 (hdOf b).K, .int .i64 (hdOf b).M, .int .i64 (hdOf b).B, .string (hdOf b).key, .int .i64 (hdOf b).size, .int .i64 (hdOf b).idx, .int .i64 (hdOf b).ep, .int .i64 (hdOf b).ct] 28)).trans (hb2.mono (by simp; omega)))
    have HBW2 := Lib.hid (show Below (w.alloc (.cells #[.int .u8 0, .int .u8 0, .int .u8 0, .int .u8 0, .int .u8 0, .int .u8 0, .int .u8 0, .int .u8 0, .int .i64 0, .int .i64 0, .int .i64 0, .string ⟨#[]⟩, .int .i64 0, .int .i64 0, .int .i64 0, .int .i64 0, .slice none 0 0] 46)).heap.size (w.alloc (.cells #[.int .u8 0, .int .u8 0, .int .u8 0, .int .u8 0, .int .u8 0, .int .u8 0, .int .u8 0, .int .u8 0, .int .i64 0, .int .i64 0, .int .i64 0, .string ⟨#[]⟩, .int .i64 0, .int .i64 0, .int .i64 0, .int .i64 0, .slice none 0 0] 46)) w2 from (HB1.out.alloc (by rw [hzA]; omega) (.cells #[.int .u8 (hdOf b).s0, .int .u8 (hdOf b).s1, .int .u8 (hdOf b).s2, .int .u8 (hdOf b).s3, .int .u8 (hdOf b).s4, .int .u8 (hdOf b).s5, .int .u8 (hdOf b).s6, .int .u8 (hdOf b).s7, .int .i64 (hdOf b).K, .int .i64 (hdOf b).M, .int .i64 (hdOf b).B, .string (hdOf b).key, .int .i64 (hdOf b).size, .int .i64 (hdOf b).idx, .int .i64 (hdOf b).ep, .int .i64 (hdOf b).ct] 28)).trans (hb2.mono (by rw [hzA]; simp; omega)))
    have HZ2 := Lib.hid ((hb2.block _ hzz).trans HZA.out)
    have HHB := Lib.hid ((hb2.block w1.heap.size (by simp)).trans (heap_alloc_new w1 (.cells #[.int .u8 (hdOf b).s0, .int .u8 (hdOf b).s1, .int .u8 (hdOf b).s2, .int .u8 (hdOf b).s3, .int .u8 (hdOf b).s4, .int .u8 (hdOf b).s5, .int .u8 (hdOf b).s6, .int .u8 (hdOf b).s7, .int .i64 (hdOf b).K, .int .i64 (hdOf b).M, .int .i64 (hdOf b).B, .string (hdOf b).key, .int .i64 (hdOf b).size, .int .i64 (hdOf b).idx, .int .i64 (hdOf b).ep, .int .i64 (hdOf b).ct] 28)))
    have hlt2 : w1.heap.size < w2.heap.size := (Array.getElem?_eq_some_iff.1 HHB.out).1
    have HL := Lib.hid (show (lenE (hdOf b)).toNat = L by rw [hL]; rfl)
    clear hL hb2 hzz HZ HZA
    by_cases h70 : b.length < L
    · have t1 : (b.length : Int) < (L : Int) := by omega
      go_wp2_with (refine wpList_storeS rfl (.tmp 2) (.tmp 27) rfl w.heap.size #[.int .u8 0, .int .u8 0, .int .u8 0, .int .u8 0, .int .u8 0, .int .u8 0, .int .u8 0, .int .u8 0, .int .i64 0, .int .i64 0, .int .i64 0, .string ⟨#[]⟩, .int .i64 0, .int .i64 0, .int .i64 0, .int .i64 0, .slice none 0 0] rfl rfl rfl #[.int .u8 0, .int .u8 0, .int .u8 0, .int .u8 0, .int .u8 0, .int .u8 0, .int .u8 0, .int .u8 0, .int .i64 0, .int .i64 0, .int .i64 0, .string ⟨#[]⟩, .int .i64 0, .int .i64 0, .int .i64 0, .int .i64 0, .slice none 0 0] rfl HZ2.out rfl ?_; intro w9 h9 g9 z9)
      have HB9 := Lib.hid (Below.trans_row HW2.out g9 (Nat.le_refl _) (Nat.le_of_lt (Array.getElem?_eq_some_iff.1 HZ2.out).1))
      have HPE := Lib.hid (show prsE b = 70 by unfold prsE; rw [if_neg (not_not_intro H0.out), if_pos (by rw [HL.out]; exact h70)])
      exact ret_cellS Try.results31 rfl rfl rfl h9 (prs_no HPE.out (by decide) HB9.out)
    · have t1 : ¬ (b.length : Int) < (L : Int) := by omega
      by_cases h72 : L < b.length
      · have t2 : (L : Int) < (b.length : Int) := by omega
        go_wp2_with (refine wpList_storeS rfl (.tmp 2) (.tmp 33) rfl w.heap.size #[.int .u8 0, .int .u8 0, .int .u8 0, .int .u8 0, .int .u8 0, .int .u8 0, .int .u8 0, .int .u8 0, .int .i64 0, .int .i64 0, .int .i64 0, .string ⟨#[]⟩, .int .i64 0, .int .i64 0, .int .i64 0, .int .i64 0, .slice none 0 0] rfl rfl rfl #[.int .u8 0, .int .u8 0, .int .u8 0, .int .u8 0, .int .u8 0, .int .u8 0, .int .u8 0, .int .u8 0, .int .i64 0, .int .i64 0, .int .i64 0, .string ⟨#[]⟩, .int .i64 0, .int .i64 0, .int .i64 0, .int .i64 0, .slice none 0 0] rfl HZ2.out rfl ?_; intro w9 h9 g9 z9)
        have HB9 := Lib.hid (Below.trans_row HW2.out g9 (Nat.le_refl _) (Nat.le_of_lt (Array.getElem?_eq_some_iff.1 HZ2.out).1))
        have HPE := Lib.hid (show prsE b = 72 by unfold prsE; rw [if_neg (not_not_intro H0.out), if_neg (by rw [HL.out]; exact h70), if_pos (by rw [HL.out]; exact h72)])
        exact ret_cellS Try.results31 rfl rfl rfl h9 (prs_no HPE.out (by decide) HB9.out)
      · have t2 : ¬ (L : Int) < (b.length : Int) := by omega
        have hLe : b.length = L := by omega
        have HLE := Lib.hid (show b.length = (lenE (hdOf b)).toNat by rw [HL.out]; exact hLe)
        clear hLe
        go_wp2_with (first | (refine wpList_loadH rfl (.tmp 4) rfl w1.heap.size rfl #[.int .u8 (hdOf b).s0, .int .u8 (hdOf b).s1, .int .u8 (hdOf b).s2, .int .u8 (hdOf b).s3, .int .u8 (hdOf b).s4, .int .u8 (hdOf b).s5, .int .u8 (hdOf b).s6, .int .u8 (hdOf b).s7, .int .i64 (hdOf b).K, .int .i64 (hdOf b).M, .int .i64 (hdOf b).B, .string (hdOf b).key, .int .i64 (hdOf b).size, .int .i64 (hdOf b).idx, .int .i64 (hdOf b).ep, .int .i64 (hdOf b).ct] rfl HHB.out ?_) | (refine wpList_storeNewS rfl (.tmp 8) (.tmp 35) rfl #[.int .u8 (hdOf b).s0, .int .u8 (hdOf b).s1, .int .u8 (hdOf b).s2, .int .u8 (hdOf b).s3, .int .u8 (hdOf b).s4, .int .u8 (hdOf b).s5, .int .u8 (hdOf b).s6, .int .u8 (hdOf b).s7, .int .i64 (hdOf b).K, .int .i64 (hdOf b).M, .int .i64 (hdOf b).B, .string (hdOf b).key, .int .i64 (hdOf b).size, .int .i64 (hdOf b).idx, .int .i64 (hdOf b).ep, .int .i64 (hdOf b).ct, .slice none 0 0] rfl rfl rfl rfl rfl ?_) | (refine wpList_loadH rfl (.tmp 4) rfl w1.heap.size rfl #[.int .u8 (hdOf b).s0, .int .u8 (hdOf b).s1, .int .u8 (hdOf b).s2, .int .u8 (hdOf b).s3, .int .u8 (hdOf b).s4, .int .u8 (hdOf b).s5, .int .u8 (hdOf b).s6, .int .u8 (hdOf b).s7, .int .i64 (hdOf b).K, .int .i64 (hdOf b).M, .int .i64 (hdOf b).B, .string (hdOf b).key, .int .i64 (hdOf b).size, .int .i64 (hdOf b).idx, .int .i64 (hdOf b).ep, .int .i64 (hdOf b).ct] rfl ?c2 ?_))
        case c2 => exact ((((Below.refl w2.heap.size w2).alloc (Nat.le_refl _) _).alloc (by simp) _).block w1.heap.size hlt2).trans HHB.out
        obtain ⟨wB, hwB⟩ : ∃ wB, wB = (w2.alloc (.cells #[.int .u8 (hdOf b).s0, .int .u8 (hdOf b).s1, .int .u8 (hdOf b).s2, .int .u8 (hdOf b).s3, .int .u8 (hdOf b).s4, .int .u8 (hdOf b).s5, .int .u8 (hdOf b).s6, .int .u8 (hdOf b).s7, .int .i64 (hdOf b).K, .int .i64 (hdOf b).M, .int .i64 (hdOf b).B, .string (hdOf b).key, .int .i64 (hdOf b).size, .int .i64 (hdOf b).idx, .int .i64 (hdOf b).ep, .int .i64 (hdOf b).ct, .slice none 0 0] 46)).alloc (.cells #[.bool true] 4) := ⟨_, rfl⟩
        have hsB : wB.heap.size = w2.heap.size + 2 := by rw [hwB]; simp
        have hpr : wB.heap[w2.heap.size + 1]? = some (.cells #[.bool true] 4 (0, 0)) := by
          rw [hwB]
          have := heap_alloc_new (w2.alloc (.cells #[.int .u8 (hdOf b).s0, .int .u8 (hdOf b).s1, .int .u8 (hdOf b).s2, .int .u8 (hdOf b).s3, .int .u8 (hdOf b).s4, .int .u8 (hdOf b).s5, .int .u8 (hdOf b).s6, .int .u8 (hdOf b).s7, .int .i64 (hdOf b).K, .int .i64 (hdOf b).M, .int .i64 (hdOf b).B, .string (hdOf b).key, .int .i64 (hdOf b).size, .int .i64 (hdOf b).idx, .int .i64 (hdOf b).ep, .int .i64 (hdOf b).ct, .slice none 0 0] 46)) (.cells #[.bool true] 4)
          simpa using this
        have hps : wB.heap[w2.heap.size]? = some (.cells #[.int .u8 (hdOf b).s0, .int .u8 (hdOf b).s1, .int .u8 (hdOf b).s2, .int .u8 (hdOf b).s3, .int .u8 (hdOf b).s4, .int .u8 (hdOf b).s5, .int .u8 (hdOf b).s6, .int .u8 (hdOf b).s7, .int .i64 (hdOf b).K, .int .i64 (hdOf b).M, .int .i64 (hdOf b).B, .string (hdOf b).key, .int .i64 (hdOf b).size, .int .i64 (hdOf b).idx, .int .i64 (hdOf b).ep, .int .i64 (hdOf b).ct, .slice none 0 0] 46 (0, 0)) := by
          rw [hwB, ((Below.refl _ _).alloc (Nat.le_refl _) _).block _ (by simp)]
          exact heap_alloc_new w2 _
        have hs2 := HBW2.out.size
        have hbw : Below (w.alloc (.cells #[.int .u8 0, .int .u8 0, .int .u8 0, .int .u8 0, .int .u8 0, .int .u8 0, .int .u8 0, .int .u8 0, .int .i64 0, .int .i64 0, .int .i64 0, .string ⟨#[]⟩, .int .i64 0, .int .i64 0, .int .i64 0, .int .i64 0, .slice none 0 0] 46)).heap.size (w.alloc (.cells #[.int .u8 0, .int .u8 0, .int .u8 0, .int .u8 0, .int .u8 0, .int .u8 0, .int .u8 0, .int .u8 0, .int .i64 0, .int .i64 0, .int .i64 0, .string ⟨#[]⟩, .int .i64 0, .int .i64 0, .int .i64 0, .int .i64 0, .slice none 0 0] 46)) wB := by rw [hwB]; exact (HBW2.out.alloc hs2 _).alloc (by simp; omega) _
        have HN := Lib.hid (sizeN_le (hdOf b).K (hdOf b).M (hdOf b).B (hdOf b).size)
        rw [← hwB]
        clear hwB
        refine (blocks_any A c b (w.alloc (.cells #[.int .u8 0, .int .u8 0, .int .u8 0, .int .u8 0, .int .u8 0, .int .u8 0, .int .u8 0, .int .u8 0, .int .i64 0, .int .i64 0, .int .i64 0, .string ⟨#[]⟩, .int .i64 0, .int .i64 0, .int .i64 0, .int .i64 0, .slice none 0 0] 46)) wB hbw 61 #[.pointer (some ⟨w2.heap.size + 1, 0, none⟩), .pointer (some ⟨w2.heap.size, 0, none⟩)] (fun kl j w' => PrsI (w.alloc (.cells #[.int .u8 0, .int .u8 0, .int .u8 0, .int .u8 0, .int .u8 0, .int .u8 0, .int .u8 0, .int .u8 0, .int .i64 0, .int .i64 0, .int .i64 0, .string ⟨#[]⟩, .int .i64 0, .int .i64 0, .int .i64 0, .int .i64 0, .slice none 0 0] 46)) b (w2.heap.size + 1) w2.heap.size (w2.heap.size + 2) kl j w') HX.out hbl hbc hc H0.out
          (fun j x q w => run_own_call Try.func61 (by kernel_rfl) (by kernel_rfl) _ w) HRA.out (fun kl j w' h => h.far) (fun kl j w' w'' h hb => h.kept hb)
          (fun kl hkl => ⟨hbw, by omega, by omega, hpr, _, hps, OwnLL.nil _ _, by intro e; cases e⟩)
          (fun kl j A' c' w1' hj hkl hI hr _ => prs_step _ b (w2.heap.size + 1) w2.heap.size (w2.heap.size + 2) (by omega) (by omega) (by omega) (by omega) (by omega) hbl kl j A' c' w1' (by have := HN.out; omega) hkl hI hr)).mono ?_
        rintro e w3 ⟨rfl, kl, hI⟩
        obtain ⟨v, hv, hO, _⟩ := hI.at_
        have HZ3 := Lib.hid ((hI.far.block w.heap.size (by rw [hzA]; omega)).trans HZ0.out)
        have HB3 := Lib.hid (HBA.out.trans (hI.far.mono HBA.out.size))
        have HO3 := Lib.hid (hO.mono (show w.heap.size + 1 ≤ w2.heap.size + 2 by omega))
        have HBs := Lib.hid (show w.heap.size < w.heap.size + 1 by omega)
        obtain ⟨A3, c3, e3, _⟩ := hO.rd
        obtain ⟨n3, hn3⟩ : ∃ n3, n3 = (blks' b (sizeN (hdOf b).K (hdOf b).M (hdOf b).B (hdOf b).size)).length := ⟨_, rfl⟩
        rw [← hn3] at e3
        subst e3
        clear hn3
        have HV3 := Lib.hid hv
        have hright : w3.cell? ⟨w2.heap.size + 1, 0, none⟩ = some (.bool (decide (badL b (sizeN (hdOf b).K (hdOf b).M (hdOf b).B (hdOf b).size) = []))) := by have := hI.right; simp [World.cell?, this]
        clear hv hO hI hbw hpr hps hsB
        by_cases hg : badL b (sizeN (hdOf b).K (hdOf b).M (hdOf b).B (hdOf b).size) = []
        · rw [decide_eq_true hg] at hright
          have HG := Lib.hid hg
          clear hg
          go_wp2_with (first | (refine wpList_loadS rfl (.tmp 8) rfl w2.heap.size rfl #[.int .u8 (hdOf b).s0, .int .u8 (hdOf b).s1, .int .u8 (hdOf b).s2, .int .u8 (hdOf b).s3, .int .u8 (hdOf b).s4, .int .u8 (hdOf b).s5, .int .u8 (hdOf b).s6, .int .u8 (hdOf b).s7, .int .i64 (hdOf b).K, .int .i64 (hdOf b).M, .int .i64 (hdOf b).B, .string (hdOf b).key, .int .i64 (hdOf b).size, .int .i64 (hdOf b).idx, .int .i64 (hdOf b).ep, .int .i64 (hdOf b).ct, .slice A3 n3 c3] rfl HV3.out ?_) | (refine wpList_storeS rfl (.tmp 2) (.tmp 44) rfl w.heap.size #[.int .u8 (hdOf b).s0, .int .u8 (hdOf b).s1, .int .u8 (hdOf b).s2, .int .u8 (hdOf b).s3, .int .u8 (hdOf b).s4, .int .u8 (hdOf b).s5, .int .u8 (hdOf b).s6, .int .u8 (hdOf b).s7, .int .i64 (hdOf b).K, .int .i64 (hdOf b).M, .int .i64 (hdOf b).B, .string (hdOf b).key, .int .i64 (hdOf b).size, .int .i64 (hdOf b).idx, .int .i64 (hdOf b).ep, .int .i64 (hdOf b).ct, .slice A3 n3 c3] rfl rfl rfl #[.int .u8 0, .int .u8 0, .int .u8 0, .int .u8 0, .int .u8 0, .int .u8 0, .int .u8 0, .int .u8 0, .int .i64 0, .int .i64 0, .int .i64 0, .string ⟨#[]⟩, .int .i64 0, .int .i64 0, .int .i64 0, .int .i64 0, .slice none 0 0] rfl HZ3.out rfl ?_; intro w9 h9 g9 z9))
          have HB9 := Lib.hid (Below.trans_row HB3.out g9 (Nat.le_refl _) (Nat.le_of_lt (Array.getElem?_eq_some_iff.1 HZ3.out).1))
          have HPE := Lib.hid (show prsE b = 0 by unfold prsE; rw [if_neg (not_not_intro H0.out), if_neg (by rw [HL.out]; exact h70), if_neg (by rw [HL.out]; exact h72), if_neg (not_not_intro HG.out)])
          have hOw := own_row HO3.out HBs.out g9
          rw [blks'_eq (b := b) (n := sizeN (hdOf b).K (hdOf b).M (hdOf b).B (hdOf b).size) (by rw [← lenE_off HCK.out, ← HLE.out]; exact Nat.le_refl _) _ (Nat.le_refl _)] at hOw
          have HOW := Lib.hid hOw
          clear hOw
          exact ret_cellS Try.results31 rfl rfl rfl h9 (prs_yes HPE.out HOW.out HB9.out)
        · rw [decide_eq_false hg] at hright
          have HG := Lib.hid hg
          clear hg
          go_wp2_with (refine wpList_storeS rfl (.tmp 2) (.tmp 43) rfl w.heap.size #[.int .u8 0, .int .u8 0, .int .u8 0, .int .u8 0, .int .u8 0, .int .u8 0, .int .u8 0, .int .u8 0, .int .i64 0, .int .i64 0, .int .i64 0, .string ⟨#[]⟩, .int .i64 0, .int .i64 0, .int .i64 0, .int .i64 0, .slice none 0 0] rfl rfl rfl #[.int .u8 0, .int .u8 0, .int .u8 0, .int .u8 0, .int .u8 0, .int .u8 0, .int .u8 0, .int .u8 0, .int .i64 0, .int .i64 0, .int .i64 0, .string ⟨#[]⟩, .int .i64 0, .int .i64 0, .int .i64 0, .int .i64 0, .slice none 0 0] rfl HZ3.out rfl ?_; intro w9 h9 g9 z9)
          have HB9 := Lib.hid (Below.trans_row HB3.out g9 (Nat.le_refl _) (Nat.le_of_lt (Array.getElem?_eq_some_iff.1 HZ3.out).1))
          have HPE := Lib.hid (show prsE b = 82 by unfold prsE; rw [if_neg (not_not_intro H0.out), if_neg (by rw [HL.out]; exact h70), if_neg (by rw [HL.out]; exact h72), if_pos HG.out])
          exact ret_cellS Try.results31 rfl rfl rfl h9 (prs_no HPE.out (by decide) HB9.out)
  · have H0 := Lib.hid h0
    have hne : (headE b != 0) = true := by simpa using h0
    obtain ⟨H, hH⟩ : ∃ H, H = rdH b := ⟨_, rfl⟩
    obtain ⟨er, her⟩ : ∃ er, er = headE b := ⟨_, rfl⟩
    rw [← her] at H0 hne
    rw [← hH, ← her]
    have HER := Lib.hid her
    have HZA := Lib.hid (show (w1.alloc (.cells #[.int .u8 H.s0, .int .u8 H.s1, .int .u8 H.s2, .int .u8 H.s3, .int .u8 H.s4, .int .u8 H.s5, .int .u8 H.s6, .int .u8 H.s7, .int .i64 H.K, .int .i64 H.M, .int .i64 H.B, .string H.key, .int .i64 H.size, .int .i64 H.idx, .int .i64 H.ep, .int .i64 H.ct] 28)).heap[w.heap.size]? = some (.cells #[.int .u8 0, .int .u8 0, .int .u8 0, .int .u8 0, .int .u8 0, .int .u8 0, .int .u8 0, .int .u8 0, .int .i64 0, .int .i64 0, .int .i64 0, .string ⟨#[]⟩, .int .i64 0, .int .i64 0, .int .i64 0, .int .i64 0, .slice none 0 0] 46 (0, 0)) from (((Below.refl w1.heap.size w1).alloc (Nat.le_refl _) _).block _ hlt).trans HZ.out)
    clear h0 hH her
    go_wp2_with (first | (refine wpList_storeNewH rfl (.tmp 4) (.tmp 13) rfl #[.int .u8 H.s0, .int .u8 H.s1, .int .u8 H.s2, .int .u8 H.s3, .int .u8 H.s4, .int .u8 H.s5, .int .u8 H.s6, .int .u8 H.s7, .int .i64 H.K, .int .i64 H.M, .int .i64 H.B, .string H.key, .int .i64 H.size, .int .i64 H.idx, .int .i64 H.ep, .int .i64 H.ct] rfl rfl rfl rfl rfl ?_) | (refine wpList_storeS rfl (.tmp 2) (.tmp 18) rfl w.heap.size #[.int .u8 0, .int .u8 0, .int .u8 0, .int .u8 0, .int .u8 0, .int .u8 0, .int .u8 0, .int .u8 0, .int .i64 0, .int .i64 0, .int .i64 0, .string ⟨#[]⟩, .int .i64 0, .int .i64 0, .int .i64 0, .int .i64 0, .slice none 0 0] rfl rfl rfl #[.int .u8 0, .int .u8 0, .int .u8 0, .int .u8 0, .int .u8 0, .int .u8 0, .int .u8 0, .int .u8 0, .int .i64 0, .int .i64 0, .int .i64 0, .string ⟨#[]⟩, .int .i64 0, .int .i64 0, .int .i64 0, .int .i64 0, .slice none 0 0] rfl HZA.out rfl ?_; intro w9 h9 g9 z9))
    have HB9 := Lib.hid (Below.trans_row (HW.out.alloc hsz1 _) g9 (Nat.le_refl _) (Nat.le_of_lt (Array.getElem?_eq_some_iff.1 HZA.out).1))
    have HPE := Lib.hid (show prsE b = er by unfold prsE; rw [if_pos (by rw [← HER.out]; exact H0.out)]; exact HER.out.symm)
    exact ret_cellS Try.results31 rfl rfl rfl h9 (prs_no HPE.out H0.out HB9.out)
end Go.Proofs.Ytbioanbokbhmgaa
