/- The callback of Parse: the walk, the blocks told to lie apart. Conditions: what it captured stands where it stood. -/
import Derived.Test.YtbioanbokbhmgaaOwa
import Derived.Test.YtbioanbokbhmgaaPar4
import Derived.Test.YtbioanbokbhmgaaCop8
import Derived.Test.YtbioanbokbhmgaaWk8
import Derived.Test.YtbioanbokbhmgaaApi
import Derived.Test.YtbioanbokbhmgaaApR8
namespace Go.Proofs.Ytbioanbokbhmgaa
open Go.RowKit

/-- Rows that lie apart, made by now. -/
def OwnLB (w : World) (B : Nat) (v : Value) (LL : List (List Nat)) : Prop := OwnLA w B w.heap.size v LL
section
variable {w w' : World} {B B' : Nat} {v : Value} {LL : List (List Nat)}
theorem OwnLB.nil (w : World) (B : Nat) : OwnLB w B (.slice none 0 0) [] := OwnLA.nil w B _
theorem OwnLB.kept (h : OwnLB w B v LL) (hb : Below w.heap.size w w') : OwnLB w' B v LL := (OwnLA.kept h hb).fresh
theorem OwnLB.mono (h : OwnLB w B v LL) (hB : B' ≤ B) : OwnLB w B' v LL := OwnLA.mono h hB
theorem OwnLB.ll (h : OwnLB w B v LL) : OwnLL w B v LL := OwnLA.ll h
theorem OwnLB.rd (h : OwnLB w B v LL) : ∃ A c, v = .slice A LL.length c ∧ LL.length ≤ c ∧ RLL w A LL := h.ll.rd
theorem OwnLB.set {p i : Nat} (h : OwnLB w B v LL) (hp : p < B) (x : Value) : OwnLB (w.setCell ⟨p, i, none⟩ x) B v LL := (OwnLA.set h hp x).fresh
theorem OwnLB.ge (h : OwnLB w B v LL) : ∀ k, v.ownBlock = some k → B ≤ k ∧ k < w.heap.size := h.ll.ge
theorem own_rowA {g : Nat} (h : OwnLB w B v LL) (hg : g < B) (hgr : w.grownBy w' (some g)) : OwnLB w' g v LL := ((OwnLA.row_ h hg hgr).mono (Nat.le_of_lt hg)).fresh
end
def Prs1PostA (w : World) (h : Hd) (v : Value) (LL : List (List Nat)) (l : List Nat) (r : Bool) (pr ps B : Nat) (e : Ending) (w' : World) : Prop :=
  e = .returned (.tuple #[]) ∧ ∃ v', w'.heap[pr]? = some (.cells #[.bool r] 4 (0, 0)) ∧ w'.heap[ps]? = some (.cells #[.int .u8 h.s0, .int .u8 h.s1, .int .u8 h.s2, .int .u8 h.s3, .int .u8 h.s4, .int .u8 h.s5, .int .u8 h.s6, .int .u8 h.s7, .int .i64 h.K, .int .i64 h.M, .int .i64 h.B, .string h.key, .int .i64 h.size, .int .i64 h.idx, .int .i64 h.ep, .int .i64 h.ct, v'] 46 (0, 0)) ∧ OwnLB w' B v' (LL ++ [l]) ∧ (v'.ownBlock = v.ownBlock ∨ ∃ k, v'.ownBlock = some k ∧ w.heap.size ≤ k) ∧ Touch w w' pr ps v
theorem prs1_finA {w W w5 w6 : World} {pr ps B : Nat} {h : Hd} {v v' : Value} {LL : List (List Nat)} {l : List Nat} {x : Bool} (HT : Touch w W pr ps v) (hsz : W.heap.size = w.heap.size) (h5 : Below W.heap.size W w5) (hg : w5.grownBy w6 v.ownBlock) (_hz : w5.heap.size ≤ w6.heap.size)
    (hps6 : w6.heap[ps]? = some (.cells #[.int .u8 h.s0, .int .u8 h.s1, .int .u8 h.s2, .int .u8 h.s3, .int .u8 h.s4, .int .u8 h.s5, .int .u8 h.s6, .int .u8 h.s7, .int .i64 h.K, .int .i64 h.M, .int .i64 h.B, .string h.key, .int .i64 h.size, .int .i64 h.idx, .int .i64 h.ep, .int .i64 h.ct, v] 46 (0, 0))) (hpr6 : w6.heap[pr]? = some (.cells #[.bool x] 4 (0, 0))) (hne : pr ≠ ps) (hO : OwnLB w6 B v' (LL ++ [l])) (hps : ps < B) (hat : v'.ownBlock = v.ownBlock ∨ ∃ k, v'.ownBlock = some k ∧ w.heap.size ≤ k) :
    Prs1PostA w h v LL l x pr ps B (.returned (.tuple #[])) (w6.setCell ⟨ps, 16, none⟩ v') := by
  refine ⟨rfl, v', ?_, by simp [World.setCell, hps6, Array.getElem?_modify], hO.set hps _, hat, ?_⟩
  · rw [Below.heap_setCell _ _ _ _ (by show pr ≠ ps; exact hne)]; exact hpr6
  · have h5s := h5.size
    refine ⟨hg.os.trans (h5.os.trans HT.os), hg.tape.trans (h5.tape.trans HT.tape), hg.output.trans (h5.output.trans HT.output), by simp; have := HT.size; omega, fun k hk h1 h2 h3 => ?_⟩
    rw [Below.heap_setCell _ _ _ _ (by show k ≠ ps; exact h2), hg.block k (by omega) (fun e => h3 e.symm), h5.block k (by omega)]
    exact HT.block k hk h1 h2 h3
set_option maxRecDepth 100000 in
set_option maxHeartbeats 2000000 in
theorem prs1_anyA (j : Int) (A : Option Addr) (c : Nat) (l : List Nat) (q r : Bool) (pr ps B : Nat) (h : Hd) (v : Value) (LL : List (List Nat)) (w : World) (hll : l.length ≤ 150000000000000) (hLL : LL.length ≤ 1000000000000)
    (hr : w.heap[pr]? = some (.cells #[.bool r] 4 (0, 0))) (hs : w.heap[ps]? = some (.cells #[.int .u8 h.s0, .int .u8 h.s1, .int .u8 h.s2, .int .u8 h.s3, .int .u8 h.s4, .int .u8 h.s5, .int .u8 h.s6, .int .u8 h.s7, .int .i64 h.K, .int .i64 h.M, .int .i64 h.B, .string h.key, .int .i64 h.size, .int .i64 h.idx, .int .i64 h.ep, .int .i64 h.ct, v] 46 (0, 0))) (hO : OwnLB w B v LL) (hpr : pr < B) (hps : ps < B) (hne : pr ≠ ps) (hB : B ≤ w.heap.size) (hA : RL w A l) :
    Calls Try.prog 61 #[.int .i64 j, .slice A l.length c, .bool q, .pointer (some ⟨pr, 0, none⟩), .pointer (some ⟨ps, 0, none⟩)] w (Prs1PostA w h v LL l (r && q) pr ps B) := by
  have c0 : w.cell? ⟨pr, 0, none⟩ = some (.bool r) := by simp [World.cell?, hr]
  have f0 : w.frozen? ⟨pr, 0, none⟩ = false := by simp [World.frozen?, hr]
  obtain ⟨x, hx⟩ : ∃ x, x = (r && q) := ⟨_, rfl⟩
  have HX := Lib.hid hx
  have HA := Lib.hid (RL.other (j := 0) (v := .bool x) hA (rl_not hr (fun n e => by cases e) hA))
  have HO := Lib.hid (hO.set (i := 0) hpr (.bool x))
  have hpb : (w.setCell ⟨pr, 0, none⟩ (.bool x)).heap[pr]? = some (.cells #[.bool x] 4 (0, 0)) := by simp [World.setCell, hr, Array.getElem?_modify]
  have hsb : (w.setCell ⟨pr, 0, none⟩ (.bool x)).heap[ps]? = some (.cells #[.int .u8 h.s0, .int .u8 h.s1, .int .u8 h.s2, .int .u8 h.s3, .int .u8 h.s4, .int .u8 h.s5, .int .u8 h.s6, .int .u8 h.s7, .int .i64 h.K, .int .i64 h.M, .int .i64 h.B, .string h.key, .int .i64 h.size, .int .i64 h.idx, .int .i64 h.ep, .int .i64 h.ct, v] 46 (0, 0)) := by rw [Below.heap_setCell _ _ _ _ (by show ps ≠ pr; omega)]; exact hs
  have HPB := Lib.hid hpb
  have HSB := Lib.hid hsb
  have hsz : (w.setCell ⟨pr, 0, none⟩ (.bool x)).heap.size = w.heap.size := by simp
  have HT := Lib.hid (show Touch w (w.setCell ⟨pr, 0, none⟩ (.bool x)) pr ps v from ⟨rfl, rfl, rfl, by simp, fun k _ h1 _ _ => Below.heap_setCell _ _ _ _ h1⟩)
  clear hA hO hpb hsb hs hr
  have hq : (if r = true then q else false) = x := by rw [hx]; cases r <;> rfl
  go_enter Try.func61, Try.ntmps61
  cases r
  · simp only [Bool.false_and] at hx
    subst hx
    clear hq
    go_wp2_with fail
    obtain ⟨W, hW⟩ : ∃ W, W = w.setCell ⟨pr, 0, none⟩ (.bool false) := ⟨_, rfl⟩
    rw [← hW] at HA HO HPB HSB HT hsz ⊢
    clear hW c0 f0
    have hsc : W.cell? ⟨ps, 16, none⟩ = some v := by have := HSB.out; simp [World.cell?, this]
    have KS : Hid (∀ w', Below W.heap.size W w' → w'.cell? ⟨ps, 16, none⟩ = some v) := Lib.hid fun w' hb => (hb.cell (p := ⟨ps, 16, none⟩) (by show ps < _; omega)).trans hsc
    clear hsc
    refine wp_region_mix [(true, true, false), (true, true, true), (true, true, false), (false, false, false), (false, false, false), (false, false, false), (false, true, false), (false, false, true)] mixed (by kernel_rfl) (fun w4 => w4.cell? ⟨ps, 16, none⟩ = some v) (KS.out _ (Below.refl _ _).drew) ?_
    intro hSw0
    simp only [hdM, tlM, List.cons_append, List.nil_append]
    repeat (first
      | (refine mix_look hSw0.out ?_ (by rfl) (fun w4 hSw => ?_) ?_; rotate_left; (focus (have s1 := hSw; go_simp; try with_reducible rfl)); simp only [Act.put, List.setIfInBounds_toArray, List.set_cons_zero, List.set_cons_succ])
      | (refine mix_pure ?_ (by rfl) (fun w4 => ?_) ?_; rotate_left; (focus (go_simp; try with_reducible rfl)); simp only [Act.put, List.setIfInBounds_toArray, List.set_cons_zero, List.set_cons_succ]))
    refine mix_step (fun K hK => ?_)
    go_simp
    refine (clone_any A c l _ hll (HA.out.below (Below.refl _ _).drew)).mono ?_
    rintro e w5 ⟨v5, rfl, hO5, hb5⟩
    obtain ⟨A5, c5, rfl, _, _, _, _⟩ := hO5.rd
    have hB5 : Below W.heap.size W w5 := (Below.refl _ _).drew.trans hb5
    have hz5 : W.heap.size ≤ w5.heap.size := hB5.size
    dsimp only
    refine hK.out _ _ (fun _ _ => KS.out _ hB5) ?_
    clear hK K
    try simp only [Act.put, List.setIfInBounds_toArray, List.set_cons_zero, List.set_cons_succ]
    refine mix_step (fun K hK => ?_)
    go_simp
    refine hK.out _ _ (fun _ _ => KS.out _ (hB5.alloc hz5 _)) ?_
    clear hK K
    try simp only [Act.put, List.setIfInBounds_toArray, List.set_cons_zero, List.set_cons_succ]
    refine mix_list (fun K hK => ?_)
    change wpList _ _ _ _ _ (World.alloc w5 _)
    refine wpList_pushLA rfl (.tmp 13) (.tmp 16) rfl B W.heap.size v LL rfl (OwnLA.kept HO.out hB5) (by omega) (by omega) l rfl (hO5.mono (by show W.heap.size ≤ W.drew.heap.size; simp)) _ rfl rfl hLL ?_
    intro v6 w6 hO6 hb6 hg6 hat
    refine hK.out _ _ (fun _ _ => by rw [← KS.out _ hB5]; exact hb6.cell (p := ⟨ps, 16, none⟩) hps) ?_
    clear hK K
    try simp only [Act.put, List.setIfInBounds_toArray, List.set_cons_zero, List.set_cons_succ]
    repeat (refine mix_pure ?_ (by rfl) (fun w4 => ?_) ?_; rotate_left; (focus (go_simp; try with_reducible rfl)); simp only [Act.put, List.setIfInBounds_toArray, List.set_cons_zero, List.set_cons_succ])
    have hps6 : w6.heap[ps]? = some (.cells #[.int .u8 h.s0, .int .u8 h.s1, .int .u8 h.s2, .int .u8 h.s3, .int .u8 h.s4, .int .u8 h.s5, .int .u8 h.s6, .int .u8 h.s7, .int .i64 h.K, .int .i64 h.M, .int .i64 h.B, .string h.key, .int .i64 h.size, .int .i64 h.idx, .int .i64 h.ep, .int .i64 h.ct, v] 46 (0, 0)) := by rw [hb6.block ps hps, hB5.block ps (by omega)]; exact HSB.out
    have hpr6 : w6.heap[pr]? = some (.cells #[.bool false] 4 (0, 0)) := by rw [hb6.block pr hpr, hB5.block pr (by omega)]; exact HPB.out
    have HF := Lib.hid (prs1_finA (v' := v6) HT.out hsz hB5 hg6 hb6.size hps6 hpr6 hne hO6 hps (by
      rcases hat with e | e
      · exact .inl e
      · exact .inr ⟨_, e, by omega⟩))
    obtain ⟨A6, c6, e6, _, _⟩ := OwnLB.rd hO6
    obtain ⟨n6, hn6⟩ : ∃ n, n = (LL ++ [l]).length := ⟨_, rfl⟩
    rw [← hn6] at e6
    clear hn6
    subst e6
    have hcl : w6.cell? ⟨ps, 16, none⟩ = some v := by simp [World.cell?, hps6]
    have hfz : w6.frozen? ⟨ps, 16, none⟩ = false := by simp [World.frozen?, hps6]
    clear hps6 hpr6 hat hg6 hb6 hO6 hO5 hB5 hb5
    refine mix_step (fun K hK => ?_)
    go_simp
    refine hK.out _ _ (fun h => absurd h (by decide)) ?_
    clear hK K
    try simp only [Act.put, List.setIfInBounds_toArray, List.set_cons_zero, List.set_cons_succ]
    refine mix_nil ?_
    go_wp2
    go_end0
    exact HF.out
  · simp only [Bool.true_and] at hx
    subst hx
    clear hq
    go_wp2_with fail
    obtain ⟨W, hW⟩ : ∃ W, W = w.setCell ⟨pr, 0, none⟩ (.bool x) := ⟨_, rfl⟩
    rw [← hW] at HA HO HPB HSB HT hsz ⊢
    clear hW c0 f0
    have hsc : W.cell? ⟨ps, 16, none⟩ = some v := by have := HSB.out; simp [World.cell?, this]
    have KS : Hid (∀ w', Below W.heap.size W w' → w'.cell? ⟨ps, 16, none⟩ = some v) := Lib.hid fun w' hb => (hb.cell (p := ⟨ps, 16, none⟩) (by show ps < _; omega)).trans hsc
    clear hsc
    refine wp_region_mix [(true, true, false), (true, true, true), (true, true, false), (false, false, false), (false, false, false), (false, false, false), (false, true, false), (false, false, true)] mixed (by kernel_rfl) (fun w4 => w4.cell? ⟨ps, 16, none⟩ = some v) (KS.out _ (Below.refl _ _).drew) ?_
    intro hSw0
    simp only [hdM, tlM, List.cons_append, List.nil_append]
    repeat (first
      | (refine mix_look hSw0.out ?_ (by rfl) (fun w4 hSw => ?_) ?_; rotate_left; (focus (have s1 := hSw; go_simp; try with_reducible rfl)); simp only [Act.put, List.setIfInBounds_toArray, List.set_cons_zero, List.set_cons_succ])
      | (refine mix_pure ?_ (by rfl) (fun w4 => ?_) ?_; rotate_left; (focus (go_simp; try with_reducible rfl)); simp only [Act.put, List.setIfInBounds_toArray, List.set_cons_zero, List.set_cons_succ]))
    refine mix_step (fun K hK => ?_)
    go_simp
    refine (clone_any A c l _ hll (HA.out.below (Below.refl _ _).drew)).mono ?_
    rintro e w5 ⟨v5, rfl, hO5, hb5⟩
    obtain ⟨A5, c5, rfl, _, _, _, _⟩ := hO5.rd
    have hB5 : Below W.heap.size W w5 := (Below.refl _ _).drew.trans hb5
    have hz5 : W.heap.size ≤ w5.heap.size := hB5.size
    dsimp only
    refine hK.out _ _ (fun _ _ => KS.out _ hB5) ?_
    clear hK K
    try simp only [Act.put, List.setIfInBounds_toArray, List.set_cons_zero, List.set_cons_succ]
    refine mix_step (fun K hK => ?_)
    go_simp
    refine hK.out _ _ (fun _ _ => KS.out _ (hB5.alloc hz5 _)) ?_
    clear hK K
    try simp only [Act.put, List.setIfInBounds_toArray, List.set_cons_zero, List.set_cons_succ]
    refine mix_list (fun K hK => ?_)
    change wpList _ _ _ _ _ (World.alloc w5 _)
    refine wpList_pushLA rfl (.tmp 13) (.tmp 16) rfl B W.heap.size v LL rfl (OwnLA.kept HO.out hB5) (by omega) (by omega) l rfl (hO5.mono (by show W.heap.size ≤ W.drew.heap.size; simp)) _ rfl rfl hLL ?_
    intro v6 w6 hO6 hb6 hg6 hat
    refine hK.out _ _ (fun _ _ => by rw [← KS.out _ hB5]; exact hb6.cell (p := ⟨ps, 16, none⟩) hps) ?_
    clear hK K
    try simp only [Act.put, List.setIfInBounds_toArray, List.set_cons_zero, List.set_cons_succ]
    repeat (refine mix_pure ?_ (by rfl) (fun w4 => ?_) ?_; rotate_left; (focus (go_simp; try with_reducible rfl)); simp only [Act.put, List.setIfInBounds_toArray, List.set_cons_zero, List.set_cons_succ])
    have hps6 : w6.heap[ps]? = some (.cells #[.int .u8 h.s0, .int .u8 h.s1, .int .u8 h.s2, .int .u8 h.s3, .int .u8 h.s4, .int .u8 h.s5, .int .u8 h.s6, .int .u8 h.s7, .int .i64 h.K, .int .i64 h.M, .int .i64 h.B, .string h.key, .int .i64 h.size, .int .i64 h.idx, .int .i64 h.ep, .int .i64 h.ct, v] 46 (0, 0)) := by rw [hb6.block ps hps, hB5.block ps (by omega)]; exact HSB.out
    have hpr6 : w6.heap[pr]? = some (.cells #[.bool x] 4 (0, 0)) := by rw [hb6.block pr hpr, hB5.block pr (by omega)]; exact HPB.out
    have HF := Lib.hid (prs1_finA (v' := v6) HT.out hsz hB5 hg6 hb6.size hps6 hpr6 hne hO6 hps (by
      rcases hat with e | e
      · exact .inl e
      · exact .inr ⟨_, e, by omega⟩))
    obtain ⟨A6, c6, e6, _, _⟩ := OwnLB.rd hO6
    obtain ⟨n6, hn6⟩ : ∃ n, n = (LL ++ [l]).length := ⟨_, rfl⟩
    rw [← hn6] at e6
    clear hn6
    subst e6
    have hcl : w6.cell? ⟨ps, 16, none⟩ = some v := by simp [World.cell?, hps6]
    have hfz : w6.frozen? ⟨ps, 16, none⟩ = false := by simp [World.frozen?, hps6]
    clear hps6 hpr6 hat hg6 hb6 hO6 hO5 hB5 hb5
    refine mix_step (fun K hK => ?_)
    go_simp
    refine hK.out _ _ (fun h => absurd h (by decide)) ?_
    clear hK K
    try simp only [Act.put, List.setIfInBounds_toArray, List.set_cons_zero, List.set_cons_succ]
    refine mix_nil ?_
    go_wp2
    go_end0
    exact HF.out
end Go.Proofs.Ytbioanbokbhmgaa

/- Parse of the program: the walk, the blocks told to lie apart. Conditions: bytes. -/
namespace Go.Proofs.Ytbioanbokbhmgaa
open Go.RowKit

def PrsPostA (w : World) (b : List Nat) (e : Ending) (w' : World) : Prop := ∃ v, e = .returned (.tuple #[.agg #[.int .u8 (prsH b).s0, .int .u8 (prsH b).s1, .int .u8 (prsH b).s2, .int .u8 (prsH b).s3, .int .u8 (prsH b).s4, .int .u8 (prsH b).s5, .int .u8 (prsH b).s6, .int .u8 (prsH b).s7, .int .i64 (prsH b).K, .int .i64 (prsH b).M, .int .i64 (prsH b).B, .string (prsH b).key, .int .i64 (prsH b).size, .int .i64 (prsH b).idx, .int .i64 (prsH b).ep, .int .i64 (prsH b).ct, v], .int .i64 (prsE b)]) ∧ OwnLB w' w.heap.size v (prsB b) ∧ Below w.heap.size w w'
theorem prs_noA {w w' : World} {b : List Nat} {n : Int} (h : prsE b = n) (hn : n ≠ 0) (hb : Below w.heap.size w w') : PrsPostA w b (.returned (.tuple #[.agg #[.int .u8 0, .int .u8 0, .int .u8 0, .int .u8 0, .int .u8 0, .int .u8 0, .int .u8 0, .int .u8 0, .int .i64 0, .int .i64 0, .int .i64 0, .string ⟨#[]⟩, .int .i64 0, .int .i64 0, .int .i64 0, .int .i64 0, .slice none 0 0], .int .i64 n])) w' := by
  have h0 : ¬ prsE b = 0 := by rw [h]; exact hn
  refine ⟨.slice none 0 0, ?_, by rw [show prsB b = [] from if_neg h0]; exact OwnLB.nil _ _, hb⟩
  unfold prsH
  rw [if_neg h0, h]
  rfl
theorem prs_yesA {w w' : World} {b : List Nat} {v : Value} (h : prsE b = 0) (hO : OwnLB w' w.heap.size v (blksL b (sizeN (hdOf b).K (hdOf b).M (hdOf b).B (hdOf b).size))) (hb : Below w.heap.size w w') : PrsPostA w b (.returned (.tuple #[.agg #[.int .u8 (hdOf b).s0, .int .u8 (hdOf b).s1, .int .u8 (hdOf b).s2, .int .u8 (hdOf b).s3, .int .u8 (hdOf b).s4, .int .u8 (hdOf b).s5, .int .u8 (hdOf b).s6, .int .u8 (hdOf b).s7, .int .i64 (hdOf b).K, .int .i64 (hdOf b).M, .int .i64 (hdOf b).B, .string (hdOf b).key, .int .i64 (hdOf b).size, .int .i64 (hdOf b).idx, .int .i64 (hdOf b).ep, .int .i64 (hdOf b).ct, v], .int .i64 0])) w' := by
  refine ⟨v, ?_, by rw [show prsB b = _ from if_pos h]; exact hO, hb⟩
  unfold prsH
  rw [if_pos h, h]
/-- What holds behind j calls of Parse's callback. -/
structure PrsIA (w0 : World) (b : List Nat) (pr ps B kl j : Nat) (w : World) : Prop where
  far : Below w0.heap.size w0 w
  ge : B ≤ kl
  sz : B ≤ w.heap.size
  right : w.heap[pr]? = some (.cells #[.bool (decide (badL b j = []))] 4 (0, 0))
  at_ : ∃ v, w.heap[ps]? = some (.cells #[.int .u8 (hdOf b).s0, .int .u8 (hdOf b).s1, .int .u8 (hdOf b).s2, .int .u8 (hdOf b).s3, .int .u8 (hdOf b).s4, .int .u8 (hdOf b).s5, .int .u8 (hdOf b).s6, .int .u8 (hdOf b).s7, .int .i64 (hdOf b).K, .int .i64 (hdOf b).M, .int .i64 (hdOf b).B, .string (hdOf b).key, .int .i64 (hdOf b).size, .int .i64 (hdOf b).idx, .int .i64 (hdOf b).ep, .int .i64 (hdOf b).ct, v] 46 (0, 0)) ∧ OwnLB w B v (blks' b j) ∧ v.ownBlock ≠ some kl
theorem PrsIA.kept {w0 w w' : World} {b : List Nat} {pr ps B kl j : Nat} (h : PrsIA w0 b pr ps B kl j w) (hb : Below w.heap.size w w') : PrsIA w0 b pr ps B kl j w' := by
  obtain ⟨v, hv, hO, hne⟩ := h.at_
  exact ⟨h.far.trans (hb.mono h.far.size), h.ge, Nat.le_trans h.sz hb.size, (hb.block pr (Array.getElem?_eq_some_iff.1 h.right).1).trans h.right, v, (hb.block ps (Array.getElem?_eq_some_iff.1 hv).1).trans hv, hO.kept hb, hne⟩
theorem prs_stepA (w0 : World) (b : List Nat) (pr ps B : Nat) (hpr : pr < B) (hps : ps < B) (hne : pr ≠ ps) (hp0 : w0.heap.size ≤ pr) (hp1 : w0.heap.size ≤ ps) (hbl : b.length ≤ 150000000000000) (kl j : Nat) (A' : Option Addr) (c' : Nat) (w1 : World) (hj : j ≤ 4096) (hkl : kl < w1.heap.size) (hI : PrsIA w0 b pr ps B kl j w1) (hA : RL w1 A' (blkAt b j)) :
    Calls Try.prog 61 (#[.int .i64 (j : Int), .slice A' (blkAt b j).length c', .bool (!badF b j)] ++ #[.pointer (some ⟨pr, 0, none⟩), .pointer (some ⟨ps, 0, none⟩)]) w1 fun e w2 => e = .returned (.tuple #[]) ∧ PrsIA w0 b pr ps B kl (j + 1) w2 ∧ w2.heap[kl]? = w1.heap[kl]? := by
  obtain ⟨v, hv, hO, hne2⟩ := hI.at_
  have hge := hI.ge
  have hlen := blks'_length b j
  have hs := hI.far.size
  have hbk : (blkAt b j).length ≤ b.length := by
    unfold blkAt
    by_cases hq : b.length < offF (hdOf b) j + lenF (hdOf b) j + 4
    · rw [if_pos hq]; exact Nat.zero_le _
    · rw [if_neg hq, sl_length (by omega)]; omega
  refine (prs1_anyA j A' c' (blkAt b j) (!badF b j) (decide (badL b j = [])) pr ps B (hdOf b) v (blks' b j) w1 (by omega) (by omega) hI.right hv hO hpr hps hne hI.sz hA).mono ?_
  rintro e w2 ⟨rfl, v', hr', hv', hO', hat, HT⟩
  rw [right_step] at hr'
  have hge2 : ∀ k, v.ownBlock = some k → w0.heap.size ≤ k := fun k e => by have := (hO.ge k e).1; omega
  refine ⟨rfl, ⟨hI.far.trans (HT.below (by omega) hp0 hp1 hge2), hge, Nat.le_trans hI.sz HT.size, hr', v', hv', hO', ?_⟩, HT.block kl hkl (by omega) (by omega) hne2⟩
  rcases hat with e | ⟨k, e, hk⟩
  · rw [e]; exact hne2
  · rw [e]; intro e'; injection e' with e'; omega
set_option maxRecDepth 100000 in
set_option maxHeartbeats 4000000 in
theorem prs_anyA (HOP : OpnAll) (A : Option Addr) (c : Nat) (b : List Nat) (w : World) (hx : ∀ x ∈ b, x < 256) (hbl : b.length ≤ 150000000000000) (hbc : b.length ≤ c) (hc : c ≤ maxLen) (hA : RL w A b) : Calls Try.prog 31 #[.slice A b.length c] w (PrsPostA w b) := by
  have hbA := Lib.hid ((Below.refl w.heap.size w).alloc (Nat.le_refl _) (.cells #[.int .u8 0, .int .u8 0, .int .u8 0, .int .u8 0, .int .u8 0, .int .u8 0, .int .u8 0, .int .u8 0, .int .i64 0, .int .i64 0, .int .i64 0, .string ⟨#[]⟩, .int .i64 0, .int .i64 0, .int .i64 0, .int .i64 0, .slice none 0 0] 46))
  have HO := Lib.hid (HOP A c b (w.alloc (.cells #[.int .u8 0, .int .u8 0, .int .u8 0, .int .u8 0, .int .u8 0, .int .u8 0, .int .u8 0, .int .u8 0, .int .i64 0, .int .i64 0, .int .i64 0, .string ⟨#[]⟩, .int .i64 0, .int .i64 0, .int .i64 0, .int .i64 0, .slice none 0 0] 46)) hx hbl hbc hc (hA.below hbA.out))
  have hmf : ∀ (fn : Fn) (first cap : Array Value) (w : World), (Instr.makeFunc fn first cap).run Try.prog w = .ok (.func fn first cap) w := fun _ _ _ _ => rfl
  have HX := Lib.hid hx
  have HA := Lib.hid hA
  clear hx hA
  go_enter Try.func31, Try.ntmps31
  go_wp2_with fail
  refine HO.out.mono ?_
  rintro e w1 ⟨rfl, hb1⟩
  have HW := Lib.hid (hbA.out.trans (hb1.mono hbA.out.size))
  have HB1 := Lib.hid hb1
  have hzA : (w.alloc (.cells #[.int .u8 0, .int .u8 0, .int .u8 0, .int .u8 0, .int .u8 0, .int .u8 0, .int .u8 0, .int .u8 0, .int .i64 0, .int .i64 0, .int .i64 0, .string ⟨#[]⟩, .int .i64 0, .int .i64 0, .int .i64 0, .int .i64 0, .slice none 0 0] 46)).heap.size = w.heap.size + 1 := by simp
  have HRA := Lib.hid (HA.out.below hbA.out)
  have HZ0 := Lib.hid (heap_alloc_new w (.cells #[.int .u8 0, .int .u8 0, .int .u8 0, .int .u8 0, .int .u8 0, .int .u8 0, .int .u8 0, .int .u8 0, .int .i64 0, .int .i64 0, .int .i64 0, .string ⟨#[]⟩, .int .i64 0, .int .i64 0, .int .i64 0, .int .i64 0, .slice none 0 0] 46))
  have HBA := Lib.hid hbA.out
  have hz : w1.heap[w.heap.size]? = some (.cells #[.int .u8 0, .int .u8 0, .int .u8 0, .int .u8 0, .int .u8 0, .int .u8 0, .int .u8 0, .int .u8 0, .int .i64 0, .int .i64 0, .int .i64 0, .string ⟨#[]⟩, .int .i64 0, .int .i64 0, .int .i64 0, .int .i64 0, .slice none 0 0] 46 (0, 0)) := by
    rw [hb1.block w.heap.size (by simp)]
    exact heap_alloc_new w _
  have hsz1 := HW.out.size
  have hlt := (Array.getElem?_eq_some_iff.1 hz).1
  have HZ := Lib.hid hz
  clear hb1 HO hz hbA
  by_cases h0 : headE b = 0
  · have HR := Lib.hid (show rdH b = hdOf b from if_pos h0)
    have HS := Lib.hid (show rdS b = sum2 (hdOf b) from if_pos h0)
    rw [HR.out, HS.out, h0]
    have H0 := Lib.hid h0
    have HZA := Lib.hid (show (w1.alloc (.cells #[.int .u8 (hdOf b).s0, .int .u8 (hdOf b).s1, .int .u8 (hdOf b).s2, .int .u8 (hdOf b).s3, .int .u8 (hdOf b).s4, .int .u8 (hdOf b).s5, .int .u8 (hdOf b).s6, .int .u8 (hdOf b).s7, .int .i64 (hdOf b).K, .int .i64 (hdOf b).M, .int .i64 (hdOf b).B, .string (hdOf b).key, .int .i64 (hdOf b).size, .int .i64 (hdOf b).idx, .int .i64 (hdOf b).ep, .int .i64 (hdOf b).ct] 28)).heap[w.heap.size]? = some (.cells #[.int .u8 0, .int .u8 0, .int .u8 0, .int .u8 0, .int .u8 0, .int .u8 0, .int .u8 0, .int .u8 0, .int .i64 0, .int .i64 0, .int .i64 0, .string ⟨#[]⟩, .int .i64 0, .int .i64 0, .int .i64 0, .int .i64 0, .slice none 0 0] 46 (0, 0)) from (((Below.refl w1.heap.size w1).alloc (Nat.le_refl _) _).block _ hlt).trans HZ.out)
    have HCK := Lib.hid (headE_facts h0).2.2.2.2.2
    clear h0
    go_wp2_with (first | (refine wpList_storeNewH rfl (.tmp 4) (.tmp 13) rfl #[.int .u8 (hdOf b).s0, .int .u8 (hdOf b).s1, .int .u8 (hdOf b).s2, .int .u8 (hdOf b).s3, .int .u8 (hdOf b).s4, .int .u8 (hdOf b).s5, .int .u8 (hdOf b).s6, .int .u8 (hdOf b).s7, .int .i64 (hdOf b).K, .int .i64 (hdOf b).M, .int .i64 (hdOf b).B, .string (hdOf b).key, .int .i64 (hdOf b).size, .int .i64 (hdOf b).idx, .int .i64 (hdOf b).ep, .int .i64 (hdOf b).ct] rfl rfl rfl rfl rfl ?_) | (refine wpList_loadH rfl (.tmp 4) rfl w1.heap.size rfl #[.int .u8 (hdOf b).s0, .int .u8 (hdOf b).s1, .int .u8 (hdOf b).s2, .int .u8 (hdOf b).s3, .int .u8 (hdOf b).s4, .int .u8 (hdOf b).s5, .int .u8 (hdOf b).s6, .int .u8 (hdOf b).s7, .int .i64 (hdOf b).K, .int .i64 (hdOf b).M, .int .i64 (hdOf b).B, .string (hdOf b).key, .int .i64 (hdOf b).size, .int .i64 (hdOf b).idx, .int .i64 (hdOf b).ep, .int .i64 (hdOf b).ct] rfl (heap_alloc_new w1 _) ?_))
    refine (flen_ok (hdOf b) _ HCK.out).mono ?_
    rintro e w2 ⟨rfl, hb2⟩
    obtain ⟨L, hL, hLb⟩ := lenE_nat HCK.out
    rw [hL]
    have hzz : w.heap.size < (w1.alloc (.cells #[.int .u8 (hdOf b).s0, .int .u8 (hdOf b).s1, .int .u8 (hdOf b).s2, .int .u8 (hdOf b).s3, .int .u8 (hdOf b).s4, .int .u8 (hdOf b).s5, .int .u8 (hdOf b).s6, .int .u8 (hdOf b).s7, .int .i64 (hdOf b).K, .int .i64 (hdOf b).M, .int .i64 (hdOf b).B, .string (hdOf b).key, .int .i64 (hdOf b).size, .int .i64 (hdOf b).idx, .int .i64 (hdOf b).ep, .int .i64 (hdOf b).ct] 28)).heap.size := by simp; omega
    have HW2 := Lib.hid ((HW.out.alloc hsz1 (.cells #[.int .u8 (hdOf b).s0, .int .u8 (hdOf b).s1, .int .u8 (hdOf b).s2, .int .u8 (hdOf b).s3, .int .u8 (hdOf b).s4, .int .u8 (hdOf b).s5, .int .u8 (hdOf b).s6, .int .u8 (hdOf b).s7, .int .i64 (hdOf b).K, .int .i64 (hdOf b).M, .int .i64 (hdOf b).B, .string (hdOf b).key, .int .i64 (hdOf b).size, .int .i64 (hdOf b).idx, .int .i64 (hdOf b).ep, .int .i64 (hdOf b).ct] 28)).trans (hb2.mono (by simp; omega)))
    have HBW2 := Lib.hid (show Below (w.alloc (.cells #[.int .u8 0, .int .u8 0, .int .u8 0, .int .u8 0, .int .u8 0, .int .u8 0, .int .u8 0, .int .u8 0, .int .i64 0, .int .i64 0, .int .i64 0, .string ⟨#[]⟩, .int .i64 0, .int .i64 0, .int .i64 0, .int .i64 0, .slice none 0 0] 46)).heap.size (w.alloc (.cells #[.int .u8 0, .int .u8 0, .int .u8 0, .int .u8 0, .int .u8 0, .int .u8 0, .int .u8 0, .int .u8 0, .int .i64 0, .int .i64 0, .int .i64 0, .string ⟨#[]⟩, .int .i64 0, .int .i64 0, .int .i64 0, .int .i64 0, .slice none 0 0] 46)) w2 from (HB1.out.alloc (by rw [hzA]; omega) (.cells #[.int .u8 (hdOf b).s0, .int .u8 (hdOf b).s1, .int .u8 (hdOf b).s2, .int .u8 (hdOf b).s3, .int .u8 (hdOf b).s4, .int .u8 (hdOf b).s5, .int .u8 (hdOf b).s6, .int .u8 (hdOf b).s7, .int .i64 (hdOf b).K, .int .i64 (hdOf b).M, .int .i64 (hdOf b).B, .string (hdOf b).key, .int .i64 (hdOf b).size, .int .i64 (hdOf b).idx, .int .i64 (hdOf b).ep, .int .i64 (hdOf b).ct] 28)).trans (hb2.mono (by rw [hzA]; simp; omega)))
    have HZ2 := Lib.hid ((hb2.block _ hzz).trans HZA.out)
    have HHB := Lib.hid ((hb2.block w1.heap.size (by simp)).trans (heap_alloc_new w1 (.cells #[.int .u8 (hdOf b).s0, .int .u8 (hdOf b).s1, .int .u8 (hdOf b).s2, .int .u8 (hdOf b).s3, .int .u8 (hdOf b).s4, .int .u8 (hdOf b).s5, .int .u8 (hdOf b).s6, .int .u8 (hdOf b).s7, .int .i64 (hdOf b).K, .int .i64 (hdOf b).M, .int .i64 (hdOf b).B, .string (hdOf b).key, .int .i64 (hdOf b).size, .int .i64 (hdOf b).idx, .int .i64 (hdOf b).ep, .int .i64 (hdOf b).ct] 28)))
    have hlt2 : w1.heap.size < w2.heap.size := (Array.getElem?_eq_some_iff.1 HHB.out).1
    have HL := Lib.hid (show (lenE (hdOf b)).toNat = L by rw [hL]; rfl)
    clear hL hb2 hzz HZ HZA
    by_cases h70 : b.length < L
    · have t1 : (b.length : Int) < (L : Int) := by omega
      go_wp2_with (refine wpList_storeS rfl (.tmp 2) (.tmp 27) rfl w.heap.size #[.int .u8 0, .int .u8 0, .int .u8 0, .int .u8 0, .int .u8 0, .int .u8 0, .int .u8 0, .int .u8 0, .int .i64 0, .int .i64 0, .int .i64 0, .string ⟨#[]⟩, .int .i64 0, .int .i64 0, .int .i64 0, .int .i64 0, .slice none 0 0] rfl rfl rfl #[.int .u8 0, .int .u8 0, .int .u8 0, .int .u8 0, .int .u8 0, .int .u8 0, .int .u8 0, .int .u8 0, .int .i64 0, .int .i64 0, .int .i64 0, .string ⟨#[]⟩, .int .i64 0, .int .i64 0, .int .i64 0, .int .i64 0, .slice none 0 0] rfl HZ2.out rfl ?_; intro w9 h9 g9 z9)
      have HB9 := Lib.hid (Below.trans_row HW2.out g9 (Nat.le_refl _) (Nat.le_of_lt (Array.getElem?_eq_some_iff.1 HZ2.out).1))
      have HPE := Lib.hid (show prsE b = 70 by unfold prsE; rw [if_neg (not_not_intro H0.out), if_pos (by rw [HL.out]; exact h70)])
      exact ret_cellS Try.results31 rfl rfl rfl h9 (prs_noA HPE.out (by decide) HB9.out)
    · have t1 : ¬ (b.length : Int) < (L : Int) := by omega
      by_cases h72 : L < b.length
      · have t2 : (L : Int) < (b.length : Int) := by omega
        go_wp2_with (refine wpList_storeS rfl (.tmp 2) (.tmp 33) rfl w.heap.size #[.int .u8 0, .int .u8 0, .int .u8 0, .int .u8 0, .int .u8 0, .int .u8 0, .int .u8 0, .int .u8 0, .int .i64 0, .int .i64 0, .int .i64 0, .string ⟨#[]⟩, .int .i64 0, .int .i64 0, .int .i64 0, .int .i64 0, .slice none 0 0] rfl rfl rfl #[.int .u8 0, .int .u8 0, .int .u8 0, .int .u8 0, .int .u8 0, .int .u8 0, .int .u8 0, .int .u8 0, .int .i64 0, .int .i64 0, .int .i64 0, .string ⟨#[]⟩, .int .i64 0, .int .i64 0, .int .i64 0, .int .i64 0, .slice none 0 0] rfl HZ2.out rfl ?_; intro w9 h9 g9 z9)
        have HB9 := Lib.hid (Below.trans_row HW2.out g9 (Nat.le_refl _) (Nat.le_of_lt (Array.getElem?_eq_some_iff.1 HZ2.out).1))
        have HPE := Lib.hid (show prsE b = 72 by unfold prsE; rw [if_neg (not_not_intro H0.out), if_neg (by rw [HL.out]; exact h70), if_pos (by rw [HL.out]; exact h72)])
        exact ret_cellS Try.results31 rfl rfl rfl h9 (prs_noA HPE.out (by decide) HB9.out)
      · have t2 : ¬ (L : Int) < (b.length : Int) := by omega
        have hLe : b.length = L := by omega
        have HLE := Lib.hid (show b.length = (lenE (hdOf b)).toNat by rw [HL.out]; exact hLe)
        clear hLe
        go_wp2_with (first | (refine wpList_loadH rfl (.tmp 4) rfl w1.heap.size rfl #[.int .u8 (hdOf b).s0, .int .u8 (hdOf b).s1, .int .u8 (hdOf b).s2, .int .u8 (hdOf b).s3, .int .u8 (hdOf b).s4, .int .u8 (hdOf b).s5, .int .u8 (hdOf b).s6, .int .u8 (hdOf b).s7, .int .i64 (hdOf b).K, .int .i64 (hdOf b).M, .int .i64 (hdOf b).B, .string (hdOf b).key, .int .i64 (hdOf b).size, .int .i64 (hdOf b).idx, .int .i64 (hdOf b).ep, .int .i64 (hdOf b).ct] rfl HHB.out ?_) | (refine wpList_storeNewS rfl (.tmp 8) (.tmp 35) rfl #[.int .u8 (hdOf b).s0, .int .u8 (hdOf b).s1, .int .u8 (hdOf b).s2, .int .u8 (hdOf b).s3, .int .u8 (hdOf b).s4, .int .u8 (hdOf b).s5, .int .u8 (hdOf b).s6, .int .u8 (hdOf b).s7, .int .i64 (hdOf b).K, .int .i64 (hdOf b).M, .int .i64 (hdOf b).B, .string (hdOf b).key, .int .i64 (hdOf b).size, .int .i64 (hdOf b).idx, .int .i64 (hdOf b).ep, .int .i64 (hdOf b).ct, .slice none 0 0] rfl rfl rfl rfl rfl ?_) | (refine wpList_loadH rfl (.tmp 4) rfl w1.heap.size rfl #[.int .u8 (hdOf b).s0, .int .u8 (hdOf b).s1, .int .u8 (hdOf b).s2, .int .u8 (hdOf b).s3, .int .u8 (hdOf b).s4, .int .u8 (hdOf b).s5, .int .u8 (hdOf b).s6, .int .u8 (hdOf b).s7, .int .i64 (hdOf b).K, .int .i64 (hdOf b).M, .int .i64 (hdOf b).B, .string (hdOf b).key, .int .i64 (hdOf b).size, .int .i64 (hdOf b).idx, .int .i64 (hdOf b).ep, .int .i64 (hdOf b).ct] rfl ?c2 ?_))
        case c2 => exact ((((Below.refl w2.heap.size w2).alloc (Nat.le_refl _) _).alloc (by simp) _).block w1.heap.size hlt2).trans HHB.out
        obtain ⟨wB, hwB⟩ : ∃ wB, wB = (w2.alloc (.cells #[.int .u8 (hdOf b).s0, .int .u8 (hdOf b).s1, .int .u8 (hdOf b).s2, .int .u8 (hdOf b).s3, .int .u8 (hdOf b).s4, .int .u8 (hdOf b).s5, .int .u8 (hdOf b).s6, .int .u8 (hdOf b).s7, .int .i64 (hdOf b).K, .int .i64 (hdOf b).M, .int .i64 (hdOf b).B, .string (hdOf b).key, .int .i64 (hdOf b).size, .int .i64 (hdOf b).idx, .int .i64 (hdOf b).ep, .int .i64 (hdOf b).ct, .slice none 0 0] 46)).alloc (.cells #[.bool true] 4) := ⟨_, rfl⟩
        have hsB : wB.heap.size = w2.heap.size + 2 := by rw [hwB]; simp
        have hpr : wB.heap[w2.heap.size + 1]? = some (.cells #[.bool true] 4 (0, 0)) := by
          rw [hwB]
          have := heap_alloc_new (w2.alloc (.cells #[.int .u8 (hdOf b).s0, .int .u8 (hdOf b).s1, .int .u8 (hdOf b).s2, .int .u8 (hdOf b).s3, .int .u8 (hdOf b).s4, .int .u8 (hdOf b).s5, .int .u8 (hdOf b).s6, .int .u8 (hdOf b).s7, .int .i64 (hdOf b).K, .int .i64 (hdOf b).M, .int .i64 (hdOf b).B, .string (hdOf b).key, .int .i64 (hdOf b).size, .int .i64 (hdOf b).idx, .int .i64 (hdOf b).ep, .int .i64 (hdOf b).ct, .slice none 0 0] 46)) (.cells #[.bool true] 4)
          simpa using this
        have hps : wB.heap[w2.heap.size]? = some (.cells #[.int .u8 (hdOf b).s0, .int .u8 (hdOf b).s1, .int .u8 (hdOf b).s2, .int .u8 (hdOf b).s3, .int .u8 (hdOf b).s4, .int .u8 (hdOf b).s5, .int .u8 (hdOf b).s6, .int .u8 (hdOf b).s7, .int .i64 (hdOf b).K, .int .i64 (hdOf b).M, .int .i64 (hdOf b).B, .string (hdOf b).key, .int .i64 (hdOf b).size, .int .i64 (hdOf b).idx, .int .i64 (hdOf b).ep, .int .i64 (hdOf b).ct, .slice none 0 0] 46 (0, 0)) := by
          rw [hwB, ((Below.refl _ _).alloc (Nat.le_refl _) _).block _ (by simp)]
          exact heap_alloc_new w2 _
        have hs2 := HBW2.out.size
        have hbw : Below (w.alloc (.cells #[.int .u8 0, .int .u8 0, .int .u8 0, .int .u8 0, .int .u8 0, .int .u8 0, .int .u8 0, .int .u8 0, .int .i64 0, .int .i64 0, .int .i64 0, .string ⟨#[]⟩, .int .i64 0, .int .i64 0, .int .i64 0, .int .i64 0, .slice none 0 0] 46)).heap.size (w.alloc (.cells #[.int .u8 0, .int .u8 0, .int .u8 0, .int .u8 0, .int .u8 0, .int .u8 0, .int .u8 0, .int .u8 0, .int .i64 0, .int .i64 0, .int .i64 0, .string ⟨#[]⟩, .int .i64 0, .int .i64 0, .int .i64 0, .int .i64 0, .slice none 0 0] 46)) wB := by rw [hwB]; exact (HBW2.out.alloc hs2 _).alloc (by simp; omega) _
        have HN := Lib.hid (sizeN_le (hdOf b).K (hdOf b).M (hdOf b).B (hdOf b).size)
        rw [← hwB]
        clear hwB
        refine (blocks_any A c b (w.alloc (.cells #[.int .u8 0, .int .u8 0, .int .u8 0, .int .u8 0, .int .u8 0, .int .u8 0, .int .u8 0, .int .u8 0, .int .i64 0, .int .i64 0, .int .i64 0, .string ⟨#[]⟩, .int .i64 0, .int .i64 0, .int .i64 0, .int .i64 0, .slice none 0 0] 46)) wB hbw 61 #[.pointer (some ⟨w2.heap.size + 1, 0, none⟩), .pointer (some ⟨w2.heap.size, 0, none⟩)] (fun kl j w' => PrsIA (w.alloc (.cells #[.int .u8 0, .int .u8 0, .int .u8 0, .int .u8 0, .int .u8 0, .int .u8 0, .int .u8 0, .int .u8 0, .int .i64 0, .int .i64 0, .int .i64 0, .string ⟨#[]⟩, .int .i64 0, .int .i64 0, .int .i64 0, .int .i64 0, .slice none 0 0] 46)) b (w2.heap.size + 1) w2.heap.size (w2.heap.size + 2) kl j w') HX.out hbl hbc hc H0.out
          (fun j x q w => run_own_call Try.func61 (by kernel_rfl) (by kernel_rfl) _ w) HRA.out (fun kl j w' h => h.far) (fun kl j w' w'' h hb => h.kept hb)
          (fun kl hkl => ⟨hbw, by omega, by omega, hpr, _, hps, OwnLB.nil _ _, by intro e; cases e⟩)
          (fun kl j A' c' w1' hj hkl hI hr _ => prs_stepA _ b (w2.heap.size + 1) w2.heap.size (w2.heap.size + 2) (by omega) (by omega) (by omega) (by omega) (by omega) hbl kl j A' c' w1' (by have := HN.out; omega) hkl hI hr)).mono ?_
        rintro e w3 ⟨rfl, kl, hI⟩
        obtain ⟨v, hv, hO, _⟩ := hI.at_
        have HZ3 := Lib.hid ((hI.far.block w.heap.size (by rw [hzA]; omega)).trans HZ0.out)
        have HB3 := Lib.hid (HBA.out.trans (hI.far.mono HBA.out.size))
        have HO3 := Lib.hid (hO.mono (show w.heap.size + 1 ≤ w2.heap.size + 2 by omega))
        have HBs := Lib.hid (show w.heap.size < w.heap.size + 1 by omega)
        obtain ⟨A3, c3, e3, _⟩ := hO.rd
        obtain ⟨n3, hn3⟩ : ∃ n3, n3 = (blks' b (sizeN (hdOf b).K (hdOf b).M (hdOf b).B (hdOf b).size)).length := ⟨_, rfl⟩
        rw [← hn3] at e3
        subst e3
        clear hn3
        have HV3 := Lib.hid hv
        have hright : w3.cell? ⟨w2.heap.size + 1, 0, none⟩ = some (.bool (decide (badL b (sizeN (hdOf b).K (hdOf b).M (hdOf b).B (hdOf b).size) = []))) := by have := hI.right; simp [World.cell?, this]
        clear hv hO hI hbw hpr hps hsB
        by_cases hg : badL b (sizeN (hdOf b).K (hdOf b).M (hdOf b).B (hdOf b).size) = []
        · rw [decide_eq_true hg] at hright
          have HG := Lib.hid hg
          clear hg
          go_wp2_with (first | (refine wpList_loadS rfl (.tmp 8) rfl w2.heap.size rfl #[.int .u8 (hdOf b).s0, .int .u8 (hdOf b).s1, .int .u8 (hdOf b).s2, .int .u8 (hdOf b).s3, .int .u8 (hdOf b).s4, .int .u8 (hdOf b).s5, .int .u8 (hdOf b).s6, .int .u8 (hdOf b).s7, .int .i64 (hdOf b).K, .int .i64 (hdOf b).M, .int .i64 (hdOf b).B, .string (hdOf b).key, .int .i64 (hdOf b).size, .int .i64 (hdOf b).idx, .int .i64 (hdOf b).ep, .int .i64 (hdOf b).ct, .slice A3 n3 c3] rfl HV3.out ?_) | (refine wpList_storeS rfl (.tmp 2) (.tmp 44) rfl w.heap.size #[.int .u8 (hdOf b).s0, .int .u8 (hdOf b).s1, .int .u8 (hdOf b).s2, .int .u8 (hdOf b).s3, .int .u8 (hdOf b).s4, .int .u8 (hdOf b).s5, .int .u8 (hdOf b).s6, .int .u8 (hdOf b).s7, .int .i64 (hdOf b).K, .int .i64 (hdOf b).M, .int .i64 (hdOf b).B, .string (hdOf b).key, .int .i64 (hdOf b).size, .int .i64 (hdOf b).idx, .int .i64 (hdOf b).ep, .int .i64 (hdOf b).ct, .slice A3 n3 c3] rfl rfl rfl #[.int .u8 0, .int .u8 0, .int .u8 0, .int .u8 0, .int .u8 0, .int .u8 0, .int .u8 0, .int .u8 0, .int .i64 0, .int .i64 0, .int .i64 0, .string ⟨#[]⟩, .int .i64 0, .int .i64 0, .int .i64 0, .int .i64 0, .slice none 0 0] rfl HZ3.out rfl ?_; intro w9 h9 g9 z9))
          have HB9 := Lib.hid (Below.trans_row HB3.out g9 (Nat.le_refl _) (Nat.le_of_lt (Array.getElem?_eq_some_iff.1 HZ3.out).1))
          have HPE := Lib.hid (show prsE b = 0 by unfold prsE; rw [if_neg (not_not_intro H0.out), if_neg (by rw [HL.out]; exact h70), if_neg (by rw [HL.out]; exact h72), if_neg (not_not_intro HG.out)])
          have hOw := own_rowA HO3.out HBs.out g9
          rw [blks'_eq (b := b) (n := sizeN (hdOf b).K (hdOf b).M (hdOf b).B (hdOf b).size) (by rw [← lenE_off HCK.out, ← HLE.out]; exact Nat.le_refl _) _ (Nat.le_refl _)] at hOw
          have HOW := Lib.hid hOw
          clear hOw
          exact ret_cellS Try.results31 rfl rfl rfl h9 (prs_yesA HPE.out HOW.out HB9.out)
        · rw [decide_eq_false hg] at hright
          have HG := Lib.hid hg
          clear hg
          go_wp2_with (refine wpList_storeS rfl (.tmp 2) (.tmp 43) rfl w.heap.size #[.int .u8 0, .int .u8 0, .int .u8 0, .int .u8 0, .int .u8 0, .int .u8 0, .int .u8 0, .int .u8 0, .int .i64 0, .int .i64 0, .int .i64 0, .string ⟨#[]⟩, .int .i64 0, .int .i64 0, .int .i64 0, .int .i64 0, .slice none 0 0] rfl rfl rfl #[.int .u8 0, .int .u8 0, .int .u8 0, .int .u8 0, .int .u8 0, .int .u8 0, .int .u8 0, .int .u8 0, .int .i64 0, .int .i64 0, .int .i64 0, .string ⟨#[]⟩, .int .i64 0, .int .i64 0, .int .i64 0, .int .i64 0, .slice none 0 0] rfl HZ3.out rfl ?_; intro w9 h9 g9 z9)
          have HB9 := Lib.hid (Below.trans_row HB3.out g9 (Nat.le_refl _) (Nat.le_of_lt (Array.getElem?_eq_some_iff.1 HZ3.out).1))
          have HPE := Lib.hid (show prsE b = 82 by unfold prsE; rw [if_neg (not_not_intro H0.out), if_neg (by rw [HL.out]; exact h70), if_neg (by rw [HL.out]; exact h72), if_pos HG.out])
          exact ret_cellS Try.results31 rfl rfl rfl h9 (prs_noA HPE.out (by decide) HB9.out)
  · have H0 := Lib.hid h0
    have hne : (headE b != 0) = true := by simpa using h0
    obtain ⟨H, hH⟩ : ∃ H, H = rdH b := ⟨_, rfl⟩
    obtain ⟨er, her⟩ : ∃ er, er = headE b := ⟨_, rfl⟩
    rw [← her] at H0 hne
    rw [← hH, ← her]
    have HER := Lib.hid her
    have HZA := Lib.hid (show (w1.alloc (.cells #[.int .u8 H.s0, .int .u8 H.s1, .int .u8 H.s2, .int .u8 H.s3, .int .u8 H.s4, .int .u8 H.s5, .int .u8 H.s6, .int .u8 H.s7, .int .i64 H.K, .int .i64 H.M, .int .i64 H.B, .string H.key, .int .i64 H.size, .int .i64 H.idx, .int .i64 H.ep, .int .i64 H.ct] 28)).heap[w.heap.size]? = some (.cells #[.int .u8 0, .int .u8 0, .int .u8 0, .int .u8 0, .int .u8 0, .int .u8 0, .int .u8 0, .int .u8 0, .int .i64 0, .int .i64 0, .int .i64 0, .string ⟨#[]⟩, .int .i64 0, .int .i64 0, .int .i64 0, .int .i64 0, .slice none 0 0] 46 (0, 0)) from (((Below.refl w1.heap.size w1).alloc (Nat.le_refl _) _).block _ hlt).trans HZ.out)
    clear h0 hH her
    go_wp2_with (first | (refine wpList_storeNewH rfl (.tmp 4) (.tmp 13) rfl #[.int .u8 H.s0, .int .u8 H.s1, .int .u8 H.s2, .int .u8 H.s3, .int .u8 H.s4, .int .u8 H.s5, .int .u8 H.s6, .int .u8 H.s7, .int .i64 H.K, .int .i64 H.M, .int .i64 H.B, .string H.key, .int .i64 H.size, .int .i64 H.idx, .int .i64 H.ep, .int .i64 H.ct] rfl rfl rfl rfl rfl ?_) | (refine wpList_storeS rfl (.tmp 2) (.tmp 18) rfl w.heap.size #[.int .u8 0, .int .u8 0, .int .u8 0, .int .u8 0, .int .u8 0, .int .u8 0, .int .u8 0, .int .u8 0, .int .i64 0, .int .i64 0, .int .i64 0, .string ⟨#[]⟩, .int .i64 0, .int .i64 0, .int .i64 0, .int .i64 0, .slice none 0 0] rfl rfl rfl #[.int .u8 0, .int .u8 0, .int .u8 0, .int .u8 0, .int .u8 0, .int .u8 0, .int .u8 0, .int .u8 0, .int .i64 0, .int .i64 0, .int .i64 0, .string ⟨#[]⟩, .int .i64 0, .int .i64 0, .int .i64 0, .int .i64 0, .slice none 0 0] rfl HZA.out rfl ?_; intro w9 h9 g9 z9))
    have HB9 := Lib.hid (Below.trans_row (HW.out.alloc hsz1 _) g9 (Nat.le_refl _) (Nat.le_of_lt (Array.getElem?_eq_some_iff.1 HZA.out).1))
    have HPE := Lib.hid (show prsE b = er by unfold prsE; rw [if_pos (by rw [← HER.out]; exact H0.out)]; exact HER.out.symm)
    exact ret_cellS Try.results31 rfl rfl rfl h9 (prs_noA HPE.out H0.out HB9.out)
end Go.Proofs.Ytbioanbokbhmgaa

/- Words for FrameOwn: what is owned, past writes elsewhere; rows with their headers, told as rows. Conditions: as the theorems have them. -/
namespace Go.Proofs.Ytbioanbokbhmgaa
open Go.RowKit

theorem Own.onlyF {w w' : World} {B e sz n : Nat} {v : Value} {f : Nat → List Value} {X : Nat → Prop} (h : Own w B e sz v n f) (ho : Only X w w') (hX : ∀ k, X k → k < B) : Own w' B e sz v n f :=
  ho.own h fun k hk hx => by have := (Own.lt h k hk).1; have := hX k hx; omega
section
variable {w w' : World} {B e : Nat} {U X : Nat → Prop} {R : List Rw} {v : Value} {LL : List (List Nat)}
theorem AR.onlyF (h : AR w B e U R) (ho : Only X w w') (hX : ∀ k, X k → k < B) : AR w' B e U R := ⟨fun r hr => (h.row r hr).onlyF ho hX, h.apart, h.inU⟩
theorem OwnR.onlyF (h : OwnR w B e v R) (ho : Only X w w') (hX : ∀ k, X k → k < B) : OwnR w' B e v R := OwnR.of (h.own.onlyF ho hX)
theorem OwnLL.onlyF (h : OwnLL w B v LL) (ho : Only X w w') (hX : ∀ k, X k → k < B) : OwnLL w' B v LL := by
  obtain ⟨S, C, h1, h2⟩ := h
  exact ⟨S, C, h1.onlyF ho hX, fun i hi => OwnB.of ((h2 i hi).own.onlyF ho hX)⟩
/-- Rows that lie apart, told as rows. -/
theorem OwnLB.rows (h : OwnLB w B v LL) : ∃ R : List Rw, R.length = LL.length ∧ OwnR w B 47 v R ∧ AR w B 5 (fun k => B ≤ k ∧ k < w.heap.size) R ∧ ∀ r ∈ R, ∃ i, i < LL.length ∧ r.n = (LL.getD i []).length := by
  obtain ⟨S, C, hL, _⟩ := h
  have hlen : ((List.range LL.length).map fun i => (⟨S i, (LL.getD i []).length, C i, fun q => .int .u8 ((((LL.getD i []).getD q 0 : Nat)) : Int)⟩ : Rw)).length = LL.length := by simp
  have hget : ∀ i, i < LL.length → ((List.range LL.length).map fun i => (⟨S i, (LL.getD i []).length, C i, fun q => .int .u8 ((((LL.getD i []).getD q 0 : Nat)) : Int)⟩ : Rw)).getD i rw0 = ⟨S i, (LL.getD i []).length, C i, fun q => .int .u8 ((((LL.getD i []).getD q 0 : Nat)) : Int)⟩ := fun i hi => by
    rw [List.getD_eq_getElem?_getD, List.getElem?_map, List.getElem?_range hi]
    rfl
  refine ⟨_, hlen, OwnR.of ?_, ⟨fun r hr => ?_, ?_, fun r hr k hk => ?_⟩, fun r hr => ?_⟩
  · rw [hlen]
    exact hL.top.congr fun i hi => by rw [hget i hi]; rfl
  · obtain ⟨i, hi, rfl⟩ := List.mem_map.1 hr
    exact (hL.row i (List.mem_range.1 hi)).own
  · rw [List.pairwise_iff_getElem]
    intro i j hi hj hij k hk
    rw [List.getElem_map, List.getElem_range] at hk ⊢
    exact hL.apart i j hij (by simpa using hj) k hk
  · obtain ⟨i, hi, rfl⟩ := List.mem_map.1 hr
    exact (hL.row i (List.mem_range.1 hi)).own.lt k hk
  · obtain ⟨i, hi, rfl⟩ := List.mem_map.1 hr
    exact ⟨i, List.mem_range.1 hi, rfl⟩
theorem OwnLL.rll {n c : Nat} {A : Option Addr} (h : OwnLL w B (.slice A n c) LL) : RLL w A LL := by
  obtain ⟨A', c', e, _, hr⟩ := h.rd
  injection e with e _ _
  rw [e]
  exact hr
end
theorem OwnI.rdn {w : World} {B n c : Nat} {A : Option Addr} {L : List Nat} (h : OwnI w B (.slice A n c) L) (hn : n = L.length) : Rd w A n fun i => .int .i64 ((L.getD i 0 : Nat) : Int) := by
  obtain ⟨A', c', e, _, _, hr, _⟩ := Own.rd (f := fun i => .int .i64 ((L.getD i 0 : Nat) : Int)) h
  injection e with e _ _
  rw [e, hn]
  exact hr
theorem mapI (L : List Nat) : (List.range L.length).flatMap (fun t => [Value.int .i64 ((L.getD t 0 : Nat) : Int)]) = L.map fun x : Nat => Value.int .i64 (x : Int) := by
  rw [flat1]
  apply List.ext_getElem?
  intro i
  by_cases hi : i < L.length
  · simp [hi, List.getD]
  · simp [hi]
theorem ints_src {w : World} {c n : Nat} {A : Option Addr} {L : List Nat} (hn : n = L.length) (h : Rd w A n fun i => .int .i64 ((L.getD i 0 : Nat) : Int)) : Src Try.prog 1 30 (.slice A n c) n (L.map fun x : Nat => Value.int .i64 (x : Int)) w := by
  subst hn
  cases A with
  | none =>
    cases L with
    | nil => exact Src.ofNil w Try.underlying30 c
    | cons x l => obtain ⟨b, o, e, _⟩ := h 0 (by simp); cases e
  | some ad =>
    refine Src.ofSlice w Try.underlying30 ad L.length c (L.map fun x : Nat => Value.int .i64 (x : Int)) (by simp) ?_ ?_
    · intro j u hu
      have hlt : j < L.length := by have := (List.getElem?_eq_some_iff.1 hu).1; simpa using this
      obtain ⟨b', o', e1, _, hc⟩ := h j hlt
      injection e1 with e1; subst e1
      have hadd : (⟨b', o', none⟩ : Addr).add j = ⟨b', o' + j, none⟩ := by unfold Addr.add; split <;> simp_all
      rw [hadd, hc]
      rw [List.getElem?_map, List.getElem?_eq_getElem hlt, Option.map_some] at hu
      show some (Value.int .i64 ((L.getD j 0 : Nat) : Int)) = some u
      rw [List.getD_eq_getElem?_getD, List.getElem?_eq_getElem hlt, ← hu]
      rfl
    · intro u hu
      obtain ⟨_, _, rfl⟩ := List.mem_map.1 hu
      rfl
/-- 'append([]int{}, l...)'. -/
theorem wpList_appI (w : World) {ops : Array Oper} {rest : List Oper} {o : Oper} {a : Act} {Q : Exit → Act → World → Prop} (hgd : o.guard = none) (s xo : Operand)
    (ho : o.op = .call { callee := .builtin .append, args := #[s, xo], argTypes := #[30, 30] }) (N : Nat) (hN : w.heap.size = N) (hv : a.eval s = .slice (some ⟨N, 0, none⟩) 0 0) {A : Option Addr} {n c : Nat} {L : List Nat} (hx : a.eval xo = .slice A n c) (hn : n = L.length) (hr : Rd w A n fun i => .int .i64 ((L.getD i 0 : Nat) : Int)) (hlen : n ≤ 1000000000)
    (h : ∀ Av cv w', OwnI w' w.heap.size (.slice Av n cv) L → Below w.heap.size w w' → wpList Try.prog ops Q rest (a.put o.dst (.slice Av n cv)) w') : wpList Try.prog ops Q (o :: rest) a (w.alloc (.cells #[] 3)) := by
  subst hN
  have hb0 : Below w.heap.size w (w.alloc (.cells #[] 3)) := (Below.refl _ _).alloc (Nat.le_refl _) _
  have ho0 : (w.alloc (.cells #[] 3)).ownsRow w.heap.size 3 1 (.slice (some ⟨w.heap.size, 0, none⟩) 0 0) 0 [] := ⟨rfl, .inr ⟨w.heap.size, 0, #[], rfl, Nat.le_refl _, heap_alloc_new w _, Nat.le_refl _, by decide, rfl, rfl⟩⟩
  refine wpList_append_srcX hgd s xo 30 30 ho w.heap.size 3 (.int .i64 0) 1 8 Try.underlying30 apInt (by decide) _ 0 [] hv ho0 _ n (L.map fun x : Nat => Value.int .i64 (x : Int)) hx (ints_src hn (hr.below hb0)) (by unfold maxLen; omega) (.inl (by omega)) hb0.size ?_
  intro v' w' h1 h2
  have hI : OwnI w' w.heap.size v' L := by
    unfold OwnI Own
    rw [mapI, ← hn]
    simpa using h1
  obtain ⟨Av, cv, rfl, _⟩ := Own.rd (f := fun i => .int .i64 ((L.getD i 0 : Nat) : Int)) hI
  rw [← hn] at hI ⊢
  refine h Av cv w' hI ?_
  rcases h2 with ⟨_, hg⟩ | ⟨_, hg⟩
  · exact hb0.grown hg (by simp) fun g hg => by
      have e : some w.heap.size = some g := hg
      injection e with e
      omega
  · exact hb0.grown hg (by simp) fun g hg => by cases hg
/-- Parse, its answer named. -/
theorem prs_named {l : List Nat} {P : Hd} {pe : Int} {np n : Nat} (hP : P = prsH l) (hpe : pe = prsE l) (hnp : np = (prsB l).length) (hx : ∀ x ∈ l, x < 256) (hl : l.length ≤ 140737488351232) (hn : n = l.length) (A : Option Addr) (c : Nat) (w : World) (hc1 : n ≤ c) (hc2 : c ≤ maxLen) (hA : RL w A l) :
    Calls Try.prog 31 #[.slice A n c] w fun e w' => ∃ (Av : Option Addr) (cv : Nat) (R : List Rw), e = .returned (.tuple #[.agg #[.int .u8 P.s0, .int .u8 P.s1, .int .u8 P.s2, .int .u8 P.s3, .int .u8 P.s4, .int .u8 P.s5, .int .u8 P.s6, .int .u8 P.s7, .int .i64 P.K, .int .i64 P.M, .int .i64 P.B, .string P.key, .int .i64 P.size, .int .i64 P.idx, .int .i64 P.ep, .int .i64 P.ct, .slice Av np cv], .int .i64 pe]) ∧ OwnLL w' w.heap.size (.slice Av np cv) (prsB l) ∧ R.length = np ∧ OwnR w' w.heap.size 47 (.slice Av np cv) R ∧ AR w' w.heap.size 5 (fun k => w.heap.size ≤ k ∧ k < w'.heap.size) R ∧ (∀ r ∈ R, r.n ≤ 140737488351232) ∧ Below w.heap.size w w' := by
  subst hn hP hpe
  refine (prs_anyA opn_all A c l w hx (by omega) hc1 hc2 hA).mono ?_
  rintro e w' ⟨v, rfl, hO, hb⟩
  obtain ⟨R, h1, h2, h3, h4⟩ := hO.rows
  obtain ⟨Av, cv, rfl, _, _⟩ := hO.rd
  rw [← hnp] at h1
  refine ⟨Av, cv, R, by rw [← hnp], by rw [hnp]; exact hO.ll, h1, by rw [hnp]; exact h2, h3, fun r hr => ?_, hb⟩
  obtain ⟨i, hi, e⟩ := h4 r hr
  rw [e]
  exact Nat.le_trans (prsB_short _ (getD_mem' hi)) hl
theorem ph_named {l : List Nat} {H : Hd} {er : Int} {n : Nat} (hH : H = rdH l) (her : er = headE l) (hx : ∀ x ∈ l, x < 256) (hl : l.length ≤ 140737488351232) (hn : n = l.length) (A : Option Addr) (c : Nat) (w : World) (hc1 : n ≤ c) (hc2 : c ≤ maxLen) (hA : RL w A l) :
    Calls Try.prog 30 #[.slice A n c] w fun e w' => e = .returned (.tuple #[HdV H, .int .i64 er]) ∧ Below w.heap.size w w' := by
  subst hn hH her
  exact ph_any opn_all A c l w hx (by omega) hc1 hc2 hA
theorem spt_named {l : List Nat} {er : Int} {ns n : Nat} (her : er = headE l) (hns : ns = (sptL l).length) (hx : ∀ x ∈ l, x < 256) (hl : l.length ≤ 140737488351232) (hn : n = l.length) (A : Option Addr) (c : Nat) (w : World) (hc1 : n ≤ c) (hc2 : c ≤ maxLen) (hA : RL w A l) :
    Calls Try.prog 32 #[.slice A n c] w fun e w' => ∃ (Av : Option Addr) (cv : Nat), e = .returned (.tuple #[.slice Av ns cv, .int .i64 er]) ∧ OwnI w' w.heap.size (.slice Av ns cv) (sptL l) ∧ Below w.heap.size w w' := by
  subst hn her
  refine (spt_any opn_all A c l w hx (by omega) hc1 hc2 hA).mono ?_
  rintro e w' ⟨v, rfl, hO, hb⟩
  obtain ⟨Av, cv, rfl, _⟩ := Own.rd (f := fun i => .int .i64 (((sptL l).getD i 0 : Nat) : Int)) hO
  exact ⟨Av, cv, by rw [hns], by rw [hns]; exact hO, hb⟩
/-- The blocks of an interval are as they were. -/
def Kp (a b : Nat) (w w' : World) : Prop := ∀ k, a ≤ k → k < b → w'.heap[k]? = w.heap[k]?
section
variable {a b B e : Nat} {w w' w'' : World} {v : Value} {X : Nat → Prop}
theorem Kp.refl (a b : Nat) (w : World) : Kp a b w w := fun _ _ _ => rfl
theorem Kp.below (h : Kp a b w w') (hb : Below w'.heap.size w' w'') (hs : b ≤ w'.heap.size) : Kp a b w w'' := fun k h1 h2 => (hb.block k (by omega)).trans (h k h1 h2)
theorem Kp.only (h : Kp a b w w') (ho : Only X w' w'') (hs : b ≤ w'.heap.size) (hX : ∀ k, a ≤ k → k < b → ¬ X k) : Kp a b w w'' := fun k h1 h2 => (ho.block k (by omega) (hX k h1 h2)).trans (h k h1 h2)
theorem Kp.own {n sz : Nat} {f : Nat → List Value} (h : Kp a b w w') (ho : Own w B e sz v n f) (hB : a ≤ B) (hs : w.heap.size ≤ b) : Own w' B e sz v n f := ho.blkX fun k hk => h k (by have := (Own.lt ho k hk).1; omega) (by have := (Own.lt ho k hk).2; omega)
theorem Kp.ll {LL : List (List Nat)} (h : Kp a b w w') (ho : OwnLL w B v LL) (hB : a ≤ B) (hs : w.heap.size ≤ b) : OwnLL w' B v LL := by
  obtain ⟨S, C, h1, h2⟩ := ho
  exact ⟨S, C, h.own h1 hB hs, fun i hi => OwnB.of (h.own (h2 i hi).own hB hs)⟩
end
def Kiv (a b : Nat) (w w' : World) : Prop := Kp a b w w' ∧ b ≤ w'.heap.size
theorem Kiv.kept {a b : Nat} {w w' w'' : World} (h : Kiv a b w w') (hb : Below w'.heap.size w' w'') : Kiv a b w w'' := ⟨h.1.below hb h.2, Nat.le_trans h.2 hb.size⟩
theorem Kiv.only {a b : Nat} {w w' w'' : World} {X : Nat → Prop} (h : Kiv a b w w') (ho : Only X w' w'') (hX : ∀ k, a ≤ k → k < b → ¬ X k) : Kiv a b w w'' := ⟨h.1.only ho h.2 hX, Nat.le_trans h.2 ho.size⟩
/-- Bytes that are owned, as a row. -/
theorem OwnB.ar {w : World} {B n c : Nat} {A : Option Addr} {l : List Nat} (h : OwnB w B (.slice A n c) l) (hn : n = l.length) : AR w B 5 (fun k => B ≤ k ∧ k < w.heap.size) [⟨A, n, c, fun q => .int .u8 ((l.getD q 0 : Nat) : Int)⟩] := by
  subst hn
  exact AR.one h.own h.own.lt
/-- Numbers that are owned, as a row. -/
theorem OwnI.ar {w : World} {B n c : Nat} {A : Option Addr} {l : List Nat} (h : OwnI w B (.slice A n c) l) (hn : n = l.length) : AR w B 3 (fun k => B ≤ k ∧ k < w.heap.size) [⟨A, n, c, fun q => .int .i64 ((l.getD q 0 : Nat) : Int)⟩] := by
  subst hn
  exact AR.one h h.lt
/-- A list of rows' headers, as one row of headers. -/
theorem OwnR.ar {w : World} {B eh n c : Nat} {A : Option Addr} {R : List Rw} (h : OwnR w B eh (.slice A n c) R) (hn : n = R.length) : AR w B eh (fun k => B ≤ k ∧ k < w.heap.size) [⟨A, n, c, fun q => (R.getD q rw0).v⟩] := by
  subst hn
  exact AR.one h.own h.lt
/-- What apartBytes, apartRows and apartInts are handed: rows and the list of their headers. -/
theorem apB {AN : Option Addr} {N cN Bt B0 : Nat} {U : Nat → Prop} {R : List Rw} {w : World} (hN : R.length ≤ 1000000) (hL : ∀ r ∈ R, r.n ≤ 140737488351232) (hT : OwnR w Bt 47 (.slice AN N cN) R) (hn : N = R.length) (hR : AR w B0 5 U R) (hB : B0 ≤ w.heap.size) :
    Calls Try.prog 40 #[.slice AN N cN] w fun e w' => e = .returned (.bool true) ∧ ∃ X : Nat → Prop, Only X w w' ∧ (∀ k, X k → U k) ∧ (∀ {B e' n : Nat} {v : Value} {F : Nat → List Value}, Own w B e' 1 v n F → e' ≠ 5 → Own w' B e' 1 v n F) := by
  subst hn
  refine (apartB_any AN R.length cN (fun t => (R.getD t rw0).A) (fun t => (R.getD t rw0).n) (fun t => (R.getD t rw0).c) (fun t => (R.getD t rw0).f) Bt B0 w hN (fun t ht => hL _ (rget ht)) hT.own hR.own hR.apt hB).mono fun e w' ⟨he, ho⟩ => ⟨he, _, ho, fun k hk => hR.rb hk, fun hO hne => Own.past hO hR.own hne ho⟩
theorem apR {AN : Option Addr} {N cN Bt B0 : Nat} {U : Nat → Prop} {R : List Rw} {w : World} (hN : R.length ≤ 200) (hL : ∀ r ∈ R, r.n ≤ 1000000000) (hT : OwnR w Bt 44 (.slice AN N cN) R) (hn : N = R.length) (hR : AR w B0 47 U R) (hB : B0 ≤ w.heap.size) :
    Calls Try.prog 41 #[.slice AN N cN] w fun e w' => e = .returned (.bool true) ∧ ∃ X : Nat → Prop, Only X w w' ∧ (∀ k, X k → U k) ∧ (∀ {B e' n : Nat} {v : Value} {F : Nat → List Value}, Own w B e' 1 v n F → e' ≠ 47 → Own w' B e' 1 v n F) := by
  subst hn
  refine (apartR_any AN R.length cN (fun t => (R.getD t rw0).A) (fun t => (R.getD t rw0).n) (fun t => (R.getD t rw0).c) (fun t => (R.getD t rw0).f) Bt B0 w hN (fun t ht => hL _ (rget ht)) hT.own hR.own hR.apt hB).mono fun e w' ⟨he, ho⟩ => ⟨he, _, ho, fun k hk => hR.rb hk, fun hO hne => Own.past hO hR.own hne ho⟩
theorem apN {AN : Option Addr} {N cN Bt B0 : Nat} {U : Nat → Prop} {R : List Rw} {w : World} (hN : R.length ≤ 1000000) (hL : ∀ r ∈ R, r.n ≤ 1000000000) (hT : OwnR w Bt 30 (.slice AN N cN) R) (hn : N = R.length) (hR : AR w B0 3 U R) (hB : B0 ≤ w.heap.size) :
    Calls Try.prog 42 #[.slice AN N cN] w fun e w' => e = .returned (.bool true) ∧ ∃ X : Nat → Prop, Only X w w' ∧ (∀ k, X k → U k) := by
  subst hn
  refine (apartN_any AN R.length cN (fun t => (R.getD t rw0).A) (fun t => (R.getD t rw0).n) (fun t => (R.getD t rw0).c) (fun t => (R.getD t rw0).f) Bt B0 w hN (fun t ht => hL _ (rget ht)) hT.own hR.own hR.apt hB).mono fun e w' ⟨he, ho⟩ => ⟨he, _, ho, fun k hk => hR.rb hk⟩
theorem OwnR.rdn {w : World} {B eh n c : Nat} {A : Option Addr} {R : List Rw} (h : OwnR w B eh (.slice A n c) R) : Rd w A R.length (fun j => (R.getD j rw0).v) := by
  obtain ⟨A', c', e, _, _, hr, _⟩ := Own.rd (f := fun j => (R.getD j rw0).v) h.own
  injection e with e _ _
  rw [e]
  exact hr
theorem Own.rdn {w : World} {B e n c : Nat} {A : Option Addr} {f : Nat → Value} (h : Own w B e 1 (.slice A n c) n (fun i => [f i])) : Rd w A n f := by
  obtain ⟨A', c', e, _, _, hr, _⟩ := Own.rd (f := f) h
  injection e with e _ _
  rw [e]
  exact hr
theorem AR.app2 {w : World} {B e : Nat} {U U' : Nat → Prop} {R R' : List Rw} (h : AR w B e U R) (h' : AR w B e U' R') (hd : ∀ k, U k → ¬ U' k) : AR w B e (fun k => U k ∨ U' k) (R ++ R') := h.app h' hd (fun _ => .inl) (fun _ => .inr)
theorem AR.pastX {w w' : World} {B e : Nat} {U : Nat → Prop} {R : List Rw} (h : AR w B e U R) (hp : ∀ {B n : Nat} {v : Value} {F : Nat → List Value}, Own w B e 1 v n F → Own w' B e 1 v n F) : AR w' B e U R := ⟨fun r hr => hp (h.row r hr), h.apart, h.inU⟩
theorem in_src {w : World} {A : Option Addr} {n c : Nat} {l : List Nat} (h : RL w A l) (hn : n = l.length) : Src Try.prog 1 47 (.slice A n c) n (l.map bv) (w.alloc (.cells #[] 5)) := by
  subst hn
  exact (h.below ((Below.refl w.heap.size w).alloc (Nat.le_refl _) _)).src c
/-- A list whose first i places are turned. -/
def flq (L : List Nat) (i j : Nat) : Nat := if j < i then L.getD j 0 ^^^ 1 else L.getD j 0
theorem flq_end (b m : List Nat) (j : Nat) : flq (b ++ m) b.length j = (b.map (· ^^^ 1) ++ m).getD j 0 := by
  unfold flq
  by_cases h : j < b.length
  · rw [if_pos h, app_get_l h, app_get_l (by rw [List.length_map]; exact h)]
    simp [List.getD_eq_getElem?_getD, h]
  · rw [if_neg h]
    have h1 := app_get_r (a := b) (b := m) (j := j - b.length)
    have h2 := app_get_r (a := b.map (· ^^^ 1)) (b := m) (j := j - b.length)
    rw [List.length_map] at h2
    rw [show b.length + (j - b.length) = j from by omega] at h1 h2
    rw [h1, h2]
theorem info_Sh : (Try.prog.info? 24).map (·.size) = some 3 := by kernel_rfl
theorem shape_at {w : World} {hb T : Nat} {c0 c1 c2 c3 c4 c5 c6 c7 c8 c9 c10 c11 c12 c13 c14 c15 c16 : Value} (h : w.heap[hb]? = some (.cells #[c0, c1, c2, c3, c4, c5, c6, c7, c8, c9, c10, c11, c12, c13, c14, c15, c16] T (0, 0))) : ∀ j v, (#[c8, c9, c10] : Array Value).toList[j]? = some v → w.cell? ((⟨hb, 8, none⟩ : Addr).add j) = some v
  | 0, v, e => by rw [← e]; simp [World.cell?, Addr.add, h]
  | 1, v, e => by rw [← e]; simp [World.cell?, Addr.add, h]
  | 2, v, e => by rw [← e]; simp [World.cell?, Addr.add, h]
  | j + 3, v, e => by cases e
/-- The three ways of a law over Parse's answer: the bytes are taken; the head is refused; the head stands and Parse refuses. -/
theorem fo_modes {b : List Nat} (hx : ∀ x ∈ b, x < 256) (hbl : b.length ≤ 140737488351232) : ∃ (ee : Int) (q : List Nat), (∀ e l, EncP (prsH b) (prsB b) e l → e = ee ∧ l = q) ∧ q.length ≤ 140737488351232 ∧ ((prsE b = 0 ∧ headE b = 0 ∧ rdH b = prsH b ∧ ee = 0 ∧ q = b) ∨ (prsE b = headE b ∧ ¬ headE b = 0 ∧ rdH b = prsH b) ∨ (¬ prsE b = 0 ∧ headE b = 0 ∧ ¬ rdH b = prsH b)) := by
  by_cases h0 : prsE b = 0
  · obtain ⟨t1, t2, _, _, t5⟩ := prs_take hx h0
    exact ⟨0, b, t5, hbl, .inl ⟨h0, t1, t2, rfl, rfl⟩⟩
  · obtain ⟨t6, t7⟩ := prs_refuse h0
    have hck : ¬ checkE (prsH b) = 0 := by rw [t6]; decide
    refine ⟨checkE (prsH b), [], fun e l hE => ?_, Nat.zero_le _, .inr ?_⟩
    · rcases hE with ⟨_, h1, h2⟩ | ⟨h1, _⟩ | ⟨h1, _⟩
      · exact ⟨h1, h2⟩
      · exact absurd h1 hck
      · exact absurd h1 hck
    · by_cases h1 : headE b = 0
      · refine .inr ⟨h0, h1, fun e => hck ?_⟩
        rw [← e, show rdH b = hdOf b from if_pos h1]
        exact (headE_facts h1).2.2.2.2.2
      · obtain ⟨s1, s2, _⟩ := prs_head h1
        exact .inl ⟨s1, h1, s2.trans t6.symm⟩
end Go.Proofs.Ytbioanbokbhmgaa
