/- What the walks of layer 8's outright laws share. Conditions: as the theorems have them. -/
import Derived.Test.YtbioanbokbhmgaaFit8
import Derived.Test.YtbioanbokbhmgaaWk8
import Derived.Test.YtbioanbokbhmgaaBgn
namespace Go.Proofs.Ytbioanbokbhmgaa
open Go.RowKit

/-- A cell that is there. -/
def Cl (w : World) (p : Addr) (v : Value) : Prop := p.block < w.heap.size ∧ w.cell? p = some v
theorem Cl.below {w w' : World} {p : Addr} {v : Value} (h : Cl w p v) (hb : Below w.heap.size w w') : Cl w' p v := ⟨Nat.lt_of_lt_of_le h.1 hb.size, (hb.cell h.1).trans h.2⟩
theorem strL_eqb {a b : List Nat} (ha : ∀ x ∈ a, x < 256) (hb : ∀ x ∈ b, x < 256) : ((strL a).toList == (strL b).toList) = decide (a = b) := by
  have := strL_ne ha hb
  simpa using congrArg (!·) this
theorem enc_fit {h : Hd} {BL : List (List Nat)} {er : Int} {l : List Nat} (a : EncP h BL er l) (HE : checkE h = 0) (hf : fitsB h BL) : er = 0 ∧ l = formL h BL := by
  rcases a with ⟨h1, _⟩ | ⟨_, h1, _⟩ | ⟨_, _, h1, h2⟩
  · exact absurd HE h1
  · exact absurd hf h1
  · exact ⟨h1, h2⟩
/-- An owned slice of bytes that are there: where it lies. -/
theorem own_at {w : World} {B : Nat} {v : Value} {l : List Nat} (h : OwnB w B v l) (hl : 0 < l.length) : ∃ g c, l.length ≤ c ∧ B ≤ g ∧ g < w.heap.size ∧ c ≤ maxLen ∧ v = .slice (some ⟨g, 0, none⟩) l.length c := by
  obtain ⟨g, c, rfl, h1, h2, h3, _⟩ := Own.form h.own hl
  obtain ⟨A', c', e', _, hm, _⟩ := h.rd
  injection e' with _ _ e3
  exact ⟨g, c, h3, h1, h2, by omega, rfl⟩
theorem own_cell {w : World} {B g c n : Nat} {l : List Nat} (h : OwnB w B (.slice (some ⟨g, 0, none⟩) n c) l) (hn : n = l.length) {i : Nat} (hi : i < l.length) : w.cell? ⟨g, i, none⟩ = some (.int .u8 ((l.getD i 0 : Nat) : Int)) ∧ w.frozen? ⟨g, i, none⟩ = false := by
  subst hn
  refine ⟨Own.cell1 h.own hi, ?_⟩
  obtain ⟨g', c', e, _, _, _, h4⟩ := Own.form h.own (by omega)
  injection e with e
  injection e with e
  injection e with e
  subst e
  exact h4 i

/-- What Parse answers where it refuses. -/
theorem prs_none {b : List Nat} {n : Int} (h : prsE b = n) (hn : n ≠ 0) : prsH b = zeroHd ∧ prsB b = [] := prs_refuse (by rw [h]; exact hn)
theorem rd_two {w : World} (a b : Nat) : Rd (w.alloc (.cells #[.int .i64 (a : Int), .int .i64 (b : Int)] 3)) (some ⟨w.heap.size, 0, none⟩) 2 (fun i => .int .i64 ((([a, b] : List Nat).getD i 0 : Nat) : Int)) :=
  row_rd (World.rowIs_alloc w #[.int .i64 (a : Int), .int .i64 (b : Int)] 3 (fun i => .int .i64 ((([a, b] : List Nat).getD i 0 : Nat) : Int)) (by
    intro i hi
    have : i = 0 ∨ i = 1 := by have : i < 2 := hi; omega
    rcases this with rfl | rfl <;> rfl))
theorem rd_one {w : World} (a : Nat) : Rd (w.alloc (.cells #[.int .i64 (a : Int)] 3)) (some ⟨w.heap.size, 0, none⟩) 1 (fun i => .int .i64 ((([a] : List Nat).getD i 0 : Nat) : Int)) :=
  row_rd (World.rowIs_alloc w #[.int .i64 (a : Int)] 3 (fun i => .int .i64 ((([a] : List Nat).getD i 0 : Nat) : Int)) (by
    intro i hi
    have : i = 0 := by have : i < 1 := hi; omega
    subst this; rfl))
theorem set_getD {l : List Nat} {i j x : Nat} (h : i < l.length) : (l.set i x).getD j 0 = if j = i then x else l.getD j 0 := by
  rw [List.getD_eq_getElem?_getD, List.getElem?_set]
  by_cases e : j = i
  · subst e; simp [h]
  · rw [if_neg (fun e' => e e'.symm), if_neg e, ← List.getD_eq_getElem?_getD]
theorem swapL_zero (b : List Nat) (p q : Nat) : swapL b p q 0 = b := by
  apply list_getD_ext (swapL_length _ _ _ _)
  intro i hi
  rw [swapL_length] at hi
  rw [swapL_get hi, if_neg (by omega), if_neg (by omega)]
theorem swapL_step {b : List Nat} {p q i : Nat} (hpq : p + i < q) (hq : q + i < b.length) : ((swapL b p q i).set (p + i) (b.getD (q + i) 0)).set (q + i) (b.getD (p + i) 0) = swapL b p q (i + 1) := by
  have l1 := swapL_length b p q i
  apply list_getD_ext (by rw [List.length_set, List.length_set, l1, swapL_length])
  intro z hz
  rw [List.length_set, List.length_set, l1] at hz
  rw [set_getD (by rw [List.length_set, l1]; exact hq), set_getD (by rw [l1]; omega), swapL_get hz, swapL_get hz]
  by_cases e1 : z = q + i
  · subst e1
    rw [if_pos rfl, if_neg (by omega), if_pos (by omega)]
    congr 1; omega
  · rw [if_neg e1]
    by_cases e2 : z = p + i
    · subst e2
      rw [if_pos rfl, if_pos (by omega)]
      congr 1; omega
    · rw [if_neg e2]
      by_cases e3 : p ≤ z ∧ z < p + i
      · rw [if_pos e3, if_pos (by omega)]
      · rw [if_neg e3, if_neg (show ¬ (p ≤ z ∧ z < p + (i + 1)) by omega)]
        by_cases e4 : q ≤ z ∧ z < q + i
        · rw [if_pos e4, if_pos (by omega)]
        · rw [if_neg e4, if_neg (by omega)]
theorem putL_zero (b c : List Nat) (p : Nat) : putL b c p 0 = b := by
  apply list_getD_ext (putL_length _ _ _ _)
  intro i hi
  rw [putL_length] at hi
  rw [putL_get hi, if_neg (by omega)]
theorem putL_step {b c : List Nat} {p i : Nat} (hq : p + i < b.length) : (putL b c p i).set (p + i) (c.getD (p + i) 0) = putL b c p (i + 1) := by
  have l1 := putL_length b c p i
  apply list_getD_ext (by rw [List.length_set, l1, putL_length])
  intro z hz
  rw [List.length_set, l1] at hz
  rw [set_getD (by rw [l1]; exact hq), putL_get hz, putL_get hz]
  by_cases e1 : z = p + i
  · subst e1
    rw [if_pos rfl, if_pos (by omega)]
  · rw [if_neg e1]
    by_cases e3 : p ≤ z ∧ z < p + i
    · rw [if_pos e3, if_pos (by omega)]
    · rw [if_neg e3, if_neg (by omega)]
end Go.Proofs.Ytbioanbokbhmgaa

/- copied of the law's text: the walk. Conditions: a shard that memory bears. -/
namespace Go.Proofs.Ytbioanbokbhmgaa
open Go.RowKit

theorem ret_cellS1 {fn : Func} {R : Ending → World → Prop} {ac : Act} {w : World} {s : Tmp} {g : Nat} {cs : Array Value} (hr : fn.results = #[.cell s 46]) (hd : ac.defers = []) (hs : ac.tmps.getD s undef = .pointer (some ⟨g, 0, none⟩)) (hz : cs.size = 17)
    (hg : w.heap[g]? = some (.cells cs 46 (0, 0))) (hR : R (.returned (.agg cs)) w) : bodyPost Try.prog fn R .ret ac w := by
  have hl : (loadVar 46 ⟨g, 0, none⟩).run Try.prog w = .ok (.agg cs) w := run_loadVar_row w g 46 46 cs (0, 0) _ hg Try.underlying46 rfl (by rw [info_S, hz])
  exact bodyPost_ret (results_cell1 hr hs hl) hd hR
set_option maxRecDepth 100000 in
set_option maxHeartbeats 8000000 in
theorem copied_any (h : Hd) (A0 : Option Addr) (c0 : Nat) (BL : List (List Nat)) (w : World) (hn : BL.length ≤ 1000000000) (hln : ∀ l ∈ BL, l.length ≤ 140737488351232) (hA : RLL w A0 BL) :
    Calls Try.prog 38 #[.agg #[.int .u8 h.s0, .int .u8 h.s1, .int .u8 h.s2, .int .u8 h.s3, .int .u8 h.s4, .int .u8 h.s5, .int .u8 h.s6, .int .u8 h.s7, .int .i64 h.K, .int .i64 h.M, .int .i64 h.B, .string h.key, .int .i64 h.size, .int .i64 h.idx, .int .i64 h.ep, .int .i64 h.ct, .slice A0 BL.length c0]] w fun e w' => ∃ v, e = .returned (.agg #[.int .u8 h.s0, .int .u8 h.s1, .int .u8 h.s2, .int .u8 h.s3, .int .u8 h.s4, .int .u8 h.s5, .int .u8 h.s6, .int .u8 h.s7, .int .i64 h.K, .int .i64 h.M, .int .i64 h.B, .string h.key, .int .i64 h.size, .int .i64 h.idx, .int .i64 h.ep, .int .i64 h.ct, v]) ∧ OwnLL w' w.heap.size v BL ∧ Below w.heap.size w w' := by
  have HF := Lib.hid ((((Below.refl w.heap.size w).alloc (Nat.le_refl _) (.cells #[.int .u8 h.s0, .int .u8 h.s1, .int .u8 h.s2, .int .u8 h.s3, .int .u8 h.s4, .int .u8 h.s5, .int .u8 h.s6, .int .u8 h.s7, .int .i64 h.K, .int .i64 h.M, .int .i64 h.B, .string h.key, .int .i64 h.size, .int .i64 h.idx, .int .i64 h.ep, .int .i64 h.ct, .slice A0 BL.length c0] 46)).alloc (by simp) (.cells #[.int .u8 0, .int .u8 0, .int .u8 0, .int .u8 0, .int .u8 0, .int .u8 0, .int .u8 0, .int .u8 0, .int .i64 0, .int .i64 0, .int .i64 0, .string ⟨#[]⟩, .int .i64 0, .int .i64 0, .int .i64 0, .int .i64 0, .slice none 0 0] 46)).alloc (by simp; omega) (.cells #[.int .u8 h.s0, .int .u8 h.s1, .int .u8 h.s2, .int .u8 h.s3, .int .u8 h.s4, .int .u8 h.s5, .int .u8 h.s6, .int .u8 h.s7, .int .i64 h.K, .int .i64 h.M, .int .i64 h.B, .string h.key, .int .i64 h.size, .int .i64 h.idx, .int .i64 h.ep, .int .i64 h.ct, .slice none 0 0] 46))
  have HZS := Lib.hid (show (((w.alloc (.cells #[.int .u8 h.s0, .int .u8 h.s1, .int .u8 h.s2, .int .u8 h.s3, .int .u8 h.s4, .int .u8 h.s5, .int .u8 h.s6, .int .u8 h.s7, .int .i64 h.K, .int .i64 h.M, .int .i64 h.B, .string h.key, .int .i64 h.size, .int .i64 h.idx, .int .i64 h.ep, .int .i64 h.ct, .slice A0 BL.length c0] 46)).alloc (.cells #[.int .u8 0, .int .u8 0, .int .u8 0, .int .u8 0, .int .u8 0, .int .u8 0, .int .u8 0, .int .u8 0, .int .i64 0, .int .i64 0, .int .i64 0, .string ⟨#[]⟩, .int .i64 0, .int .i64 0, .int .i64 0, .int .i64 0, .slice none 0 0] 46)).alloc (.cells #[.int .u8 h.s0, .int .u8 h.s1, .int .u8 h.s2, .int .u8 h.s3, .int .u8 h.s4, .int .u8 h.s5, .int .u8 h.s6, .int .u8 h.s7, .int .i64 h.K, .int .i64 h.M, .int .i64 h.B, .string h.key, .int .i64 h.size, .int .i64 h.idx, .int .i64 h.ep, .int .i64 h.ct, .slice none 0 0] 46)).heap[w.heap.size]? = some (.cells #[.int .u8 h.s0, .int .u8 h.s1, .int .u8 h.s2, .int .u8 h.s3, .int .u8 h.s4, .int .u8 h.s5, .int .u8 h.s6, .int .u8 h.s7, .int .i64 h.K, .int .i64 h.M, .int .i64 h.B, .string h.key, .int .i64 h.size, .int .i64 h.idx, .int .i64 h.ep, .int .i64 h.ct, .slice A0 BL.length c0] 46 (0, 0)) from ((((Below.refl _ _).alloc (Nat.le_refl _) _).alloc (by simp) _).block _ (by simp)).trans (heap_alloc_new w _))
  have HZR := Lib.hid (show (((w.alloc (.cells #[.int .u8 h.s0, .int .u8 h.s1, .int .u8 h.s2, .int .u8 h.s3, .int .u8 h.s4, .int .u8 h.s5, .int .u8 h.s6, .int .u8 h.s7, .int .i64 h.K, .int .i64 h.M, .int .i64 h.B, .string h.key, .int .i64 h.size, .int .i64 h.idx, .int .i64 h.ep, .int .i64 h.ct, .slice A0 BL.length c0] 46)).alloc (.cells #[.int .u8 0, .int .u8 0, .int .u8 0, .int .u8 0, .int .u8 0, .int .u8 0, .int .u8 0, .int .u8 0, .int .i64 0, .int .i64 0, .int .i64 0, .string ⟨#[]⟩, .int .i64 0, .int .i64 0, .int .i64 0, .int .i64 0, .slice none 0 0] 46)).alloc (.cells #[.int .u8 h.s0, .int .u8 h.s1, .int .u8 h.s2, .int .u8 h.s3, .int .u8 h.s4, .int .u8 h.s5, .int .u8 h.s6, .int .u8 h.s7, .int .i64 h.K, .int .i64 h.M, .int .i64 h.B, .string h.key, .int .i64 h.size, .int .i64 h.idx, .int .i64 h.ep, .int .i64 h.ct, .slice none 0 0] 46)).heap[w.heap.size + 1]? = some (.cells #[.int .u8 0, .int .u8 0, .int .u8 0, .int .u8 0, .int .u8 0, .int .u8 0, .int .u8 0, .int .u8 0, .int .i64 0, .int .i64 0, .int .i64 0, .string ⟨#[]⟩, .int .i64 0, .int .i64 0, .int .i64 0, .int .i64 0, .slice none 0 0] 46 (0, 0)) from by
    have h1 := heap_alloc_new (w.alloc (.cells #[.int .u8 h.s0, .int .u8 h.s1, .int .u8 h.s2, .int .u8 h.s3, .int .u8 h.s4, .int .u8 h.s5, .int .u8 h.s6, .int .u8 h.s7, .int .i64 h.K, .int .i64 h.M, .int .i64 h.B, .string h.key, .int .i64 h.size, .int .i64 h.idx, .int .i64 h.ep, .int .i64 h.ct, .slice A0 BL.length c0] 46)) (.cells #[.int .u8 0, .int .u8 0, .int .u8 0, .int .u8 0, .int .u8 0, .int .u8 0, .int .u8 0, .int .u8 0, .int .i64 0, .int .i64 0, .int .i64 0, .string ⟨#[]⟩, .int .i64 0, .int .i64 0, .int .i64 0, .int .i64 0, .slice none 0 0] 46)
    have h2 := ((Below.refl ((w.alloc (.cells #[.int .u8 h.s0, .int .u8 h.s1, .int .u8 h.s2, .int .u8 h.s3, .int .u8 h.s4, .int .u8 h.s5, .int .u8 h.s6, .int .u8 h.s7, .int .i64 h.K, .int .i64 h.M, .int .i64 h.B, .string h.key, .int .i64 h.size, .int .i64 h.idx, .int .i64 h.ep, .int .i64 h.ct, .slice A0 BL.length c0] 46)).alloc (.cells #[.int .u8 0, .int .u8 0, .int .u8 0, .int .u8 0, .int .u8 0, .int .u8 0, .int .u8 0, .int .u8 0, .int .i64 0, .int .i64 0, .int .i64 0, .string ⟨#[]⟩, .int .i64 0, .int .i64 0, .int .i64 0, .int .i64 0, .slice none 0 0] 46)).heap.size _).alloc (Nat.le_refl _) (.cells #[.int .u8 h.s0, .int .u8 h.s1, .int .u8 h.s2, .int .u8 h.s3, .int .u8 h.s4, .int .u8 h.s5, .int .u8 h.s6, .int .u8 h.s7, .int .i64 h.K, .int .i64 h.M, .int .i64 h.B, .string h.key, .int .i64 h.size, .int .i64 h.idx, .int .i64 h.ep, .int .i64 h.ct, .slice none 0 0] 46)).block (w.heap.size + 1) (by simp)
    rw [h2]; simpa using h1)
  have HPS := Lib.hid (show (((w.alloc (.cells #[.int .u8 h.s0, .int .u8 h.s1, .int .u8 h.s2, .int .u8 h.s3, .int .u8 h.s4, .int .u8 h.s5, .int .u8 h.s6, .int .u8 h.s7, .int .i64 h.K, .int .i64 h.M, .int .i64 h.B, .string h.key, .int .i64 h.size, .int .i64 h.idx, .int .i64 h.ep, .int .i64 h.ct, .slice A0 BL.length c0] 46)).alloc (.cells #[.int .u8 0, .int .u8 0, .int .u8 0, .int .u8 0, .int .u8 0, .int .u8 0, .int .u8 0, .int .u8 0, .int .i64 0, .int .i64 0, .int .i64 0, .string ⟨#[]⟩, .int .i64 0, .int .i64 0, .int .i64 0, .int .i64 0, .slice none 0 0] 46)).alloc (.cells #[.int .u8 h.s0, .int .u8 h.s1, .int .u8 h.s2, .int .u8 h.s3, .int .u8 h.s4, .int .u8 h.s5, .int .u8 h.s6, .int .u8 h.s7, .int .i64 h.K, .int .i64 h.M, .int .i64 h.B, .string h.key, .int .i64 h.size, .int .i64 h.idx, .int .i64 h.ep, .int .i64 h.ct, .slice none 0 0] 46)).heap[w.heap.size + 2]? = some (.cells #[.int .u8 h.s0, .int .u8 h.s1, .int .u8 h.s2, .int .u8 h.s3, .int .u8 h.s4, .int .u8 h.s5, .int .u8 h.s6, .int .u8 h.s7, .int .i64 h.K, .int .i64 h.M, .int .i64 h.B, .string h.key, .int .i64 h.size, .int .i64 h.idx, .int .i64 h.ep, .int .i64 h.ct, .slice none 0 0] 46 (0, 0)) from by
    have h1 := heap_alloc_new ((w.alloc (.cells #[.int .u8 h.s0, .int .u8 h.s1, .int .u8 h.s2, .int .u8 h.s3, .int .u8 h.s4, .int .u8 h.s5, .int .u8 h.s6, .int .u8 h.s7, .int .i64 h.K, .int .i64 h.M, .int .i64 h.B, .string h.key, .int .i64 h.size, .int .i64 h.idx, .int .i64 h.ep, .int .i64 h.ct, .slice A0 BL.length c0] 46)).alloc (.cells #[.int .u8 0, .int .u8 0, .int .u8 0, .int .u8 0, .int .u8 0, .int .u8 0, .int .u8 0, .int .u8 0, .int .i64 0, .int .i64 0, .int .i64 0, .string ⟨#[]⟩, .int .i64 0, .int .i64 0, .int .i64 0, .int .i64 0, .slice none 0 0] 46)) (.cells #[.int .u8 h.s0, .int .u8 h.s1, .int .u8 h.s2, .int .u8 h.s3, .int .u8 h.s4, .int .u8 h.s5, .int .u8 h.s6, .int .u8 h.s7, .int .i64 h.K, .int .i64 h.M, .int .i64 h.B, .string h.key, .int .i64 h.size, .int .i64 h.idx, .int .i64 h.ep, .int .i64 h.ct, .slice none 0 0] 46)
    simpa using h1)
  have HAL := Lib.hid hA
  have HLN := Lib.hid hln
  have hsz3 : (((w.alloc (.cells #[.int .u8 h.s0, .int .u8 h.s1, .int .u8 h.s2, .int .u8 h.s3, .int .u8 h.s4, .int .u8 h.s5, .int .u8 h.s6, .int .u8 h.s7, .int .i64 h.K, .int .i64 h.M, .int .i64 h.B, .string h.key, .int .i64 h.size, .int .i64 h.idx, .int .i64 h.ep, .int .i64 h.ct, .slice A0 BL.length c0] 46)).alloc (.cells #[.int .u8 0, .int .u8 0, .int .u8 0, .int .u8 0, .int .u8 0, .int .u8 0, .int .u8 0, .int .u8 0, .int .i64 0, .int .i64 0, .int .i64 0, .string ⟨#[]⟩, .int .i64 0, .int .i64 0, .int .i64 0, .int .i64 0, .slice none 0 0] 46)).alloc (.cells #[.int .u8 h.s0, .int .u8 h.s1, .int .u8 h.s2, .int .u8 h.s3, .int .u8 h.s4, .int .u8 h.s5, .int .u8 h.s6, .int .u8 h.s7, .int .i64 h.K, .int .i64 h.M, .int .i64 h.B, .string h.key, .int .i64 h.size, .int .i64 h.idx, .int .i64 h.ep, .int .i64 h.ct, .slice none 0 0] 46)).heap.size = w.heap.size + 3 := by simp
  have hz1 : (w.alloc (.cells #[.int .u8 h.s0, .int .u8 h.s1, .int .u8 h.s2, .int .u8 h.s3, .int .u8 h.s4, .int .u8 h.s5, .int .u8 h.s6, .int .u8 h.s7, .int .i64 h.K, .int .i64 h.M, .int .i64 h.B, .string h.key, .int .i64 h.size, .int .i64 h.idx, .int .i64 h.ep, .int .i64 h.ct, .slice A0 BL.length c0] 46)).heap[w.heap.size]? = some (.cells #[.int .u8 h.s0, .int .u8 h.s1, .int .u8 h.s2, .int .u8 h.s3, .int .u8 h.s4, .int .u8 h.s5, .int .u8 h.s6, .int .u8 h.s7, .int .i64 h.K, .int .i64 h.M, .int .i64 h.B, .string h.key, .int .i64 h.size, .int .i64 h.idx, .int .i64 h.ep, .int .i64 h.ct, .slice A0 BL.length c0] 46 (0, 0)) := heap_alloc_new w _
  have hz2 := (((Below.refl (w.alloc (.cells #[.int .u8 h.s0, .int .u8 h.s1, .int .u8 h.s2, .int .u8 h.s3, .int .u8 h.s4, .int .u8 h.s5, .int .u8 h.s6, .int .u8 h.s7, .int .i64 h.K, .int .i64 h.M, .int .i64 h.B, .string h.key, .int .i64 h.size, .int .i64 h.idx, .int .i64 h.ep, .int .i64 h.ct, .slice A0 BL.length c0] 46)).heap.size _).alloc (Nat.le_refl _) (.cells #[.int .u8 0, .int .u8 0, .int .u8 0, .int .u8 0, .int .u8 0, .int .u8 0, .int .u8 0, .int .u8 0, .int .i64 0, .int .i64 0, .int .i64 0, .string ⟨#[]⟩, .int .i64 0, .int .i64 0, .int .i64 0, .int .i64 0, .slice none 0 0] 46)).block w.heap.size (by simp)).trans hz1
  clear hA hln
  go_enter Try.func38, Try.ntmps38
  go_wp2_with (first | (refine wpList_loadFirst rfl 28 (.tmp 5) rfl w.heap.size rfl #[.int .u8 h.s0, .int .u8 h.s1, .int .u8 h.s2, .int .u8 h.s3, .int .u8 h.s4, .int .u8 h.s5, .int .u8 h.s6, .int .u8 h.s7, .int .i64 h.K, .int .i64 h.M, .int .i64 h.B, .string h.key, .int .i64 h.size, .int .i64 h.idx, .int .i64 h.ep, .int .i64 h.ct] #[.int .u8 h.s0, .int .u8 h.s1, .int .u8 h.s2, .int .u8 h.s3, .int .u8 h.s4, .int .u8 h.s5, .int .u8 h.s6, .int .u8 h.s7, .int .i64 h.K, .int .i64 h.M, .int .i64 h.B, .string h.key, .int .i64 h.size, .int .i64 h.idx, .int .i64 h.ep, .int .i64 h.ct, .slice A0 BL.length c0] 46 _ rfl hz2 Try.underlying28 rfl info_H ?_) | (refine wpList_storeNewS rfl (.tmp 3) (.tmp 7) rfl #[.int .u8 h.s0, .int .u8 h.s1, .int .u8 h.s2, .int .u8 h.s3, .int .u8 h.s4, .int .u8 h.s5, .int .u8 h.s6, .int .u8 h.s7, .int .i64 h.K, .int .i64 h.M, .int .i64 h.B, .string h.key, .int .i64 h.size, .int .i64 h.idx, .int .i64 h.ep, .int .i64 h.ct, .slice none 0 0] rfl rfl rfl rfl rfl ?_))
  obtain ⟨W, hW⟩ : ∃ W, W = (((w.alloc (.cells #[.int .u8 h.s0, .int .u8 h.s1, .int .u8 h.s2, .int .u8 h.s3, .int .u8 h.s4, .int .u8 h.s5, .int .u8 h.s6, .int .u8 h.s7, .int .i64 h.K, .int .i64 h.M, .int .i64 h.B, .string h.key, .int .i64 h.size, .int .i64 h.idx, .int .i64 h.ep, .int .i64 h.ct, .slice A0 BL.length c0] 46)).alloc (.cells #[.int .u8 0, .int .u8 0, .int .u8 0, .int .u8 0, .int .u8 0, .int .u8 0, .int .u8 0, .int .u8 0, .int .i64 0, .int .i64 0, .int .i64 0, .string ⟨#[]⟩, .int .i64 0, .int .i64 0, .int .i64 0, .int .i64 0, .slice none 0 0] 46)).alloc (.cells #[.int .u8 h.s0, .int .u8 h.s1, .int .u8 h.s2, .int .u8 h.s3, .int .u8 h.s4, .int .u8 h.s5, .int .u8 h.s6, .int .u8 h.s7, .int .i64 h.K, .int .i64 h.M, .int .i64 h.B, .string h.key, .int .i64 h.size, .int .i64 h.idx, .int .i64 h.ep, .int .i64 h.ct, .slice none 0 0] 46)) := ⟨_, rfl⟩
  rw [← hW] at HF HZR HZS HPS hsz3 ⊢
  clear hW hz1 hz2
  obtain ⟨po, hpo⟩ : ∃ po, po = w.heap.size + 2 := ⟨_, rfl⟩
  have hpo2 : w.heap.size + 1 + 1 = po := by omega
  rw [← hpo] at HPS
  try rw [hpo2]
  try rw [← hpo]
  have hpoW : po < W.heap.size := by omega
  have hwp : w.heap.size < po := by omega
  have HPO := Lib.hid hpo
  clear hpo hpo2
  have HG0 := Lib.hid (show W.grownBy W (some po) from ⟨rfl, rfl, rfl, Nat.le_refl _, fun _ _ _ => rfl⟩)
  have HWF := Lib.hid (fun (w' : World) (hg : W.grownBy w' (some po)) => Below.trans_row HF.out hg (by omega) HF.out.size)
  obtain ⟨n, hnn⟩ : ∃ n, n = BL.length := ⟨_, rfl⟩
  have HNN := Lib.hid hnn
  rw [← hnn] at HZS hn ⊢
  clear hnn
  go_loopg [4] n (fun gk i wr => ∃ k : Nat, k ≤ n ∧ gk = n - k ∧ i = .int .i64 k ∧ W.grownBy wr (some po) ∧ ∃ v, wr.heap[po]? = some (.cells #[.int .u8 h.s0, .int .u8 h.s1, .int .u8 h.s2, .int .u8 h.s3, .int .u8 h.s4, .int .u8 h.s5, .int .u8 h.s6, .int .u8 h.s7, .int .i64 h.K, .int .i64 h.M, .int .i64 h.B, .string h.key, .int .i64 h.size, .int .i64 h.idx, .int .i64 h.ep, .int .i64 h.ct, v] 46 (0, 0)) ∧ OwnLL wr W.heap.size v (BL.take k))
  case atStart => exact ⟨0, Nat.zero_le _, rfl, rfl, HG0.out, _, HPS.out, by rw [List.take_zero]; exact OwnLL.nil _ _⟩
  case round =>
    obtain ⟨k, hk, rfl, rfl, hgr, v, hv, hO⟩ := hrel
    have HGR := Lib.hid hgr
    have HV := Lib.hid hv
    have HOV := Lib.hid hO
    have hsr := hgr.size
    have HFr := Lib.hid (HWF.out _ hgr)
    clear hgr hv hO
    have hzs : wr.heap[w.heap.size]? = some (.cells #[.int .u8 h.s0, .int .u8 h.s1, .int .u8 h.s2, .int .u8 h.s3, .int .u8 h.s4, .int .u8 h.s5, .int .u8 h.s6, .int .u8 h.s7, .int .i64 h.K, .int .i64 h.M, .int .i64 h.B, .string h.key, .int .i64 h.size, .int .i64 h.idx, .int .i64 h.ep, .int .i64 h.ct, .slice A0 n c0] 46 (0, 0)) := (HGR.out.block w.heap.size (by omega) (fun e => by injection e with e; omega)).trans HZS.out
    have hbc : wr.cell? ⟨w.heap.size, 16, none⟩ = some (.slice A0 n c0) := by simp only [World.cell?, hzs]; rfl
    clear hzs
    by_cases hlt : k < n
    · have hkn : (k : Int) < (n : Int) := by omega
      have hk0 : (0 : Int) ≤ (k : Int) := by omega
      obtain ⟨SA, CA, ha1, ha2⟩ := HAL.out
      obtain ⟨bB, oB, rfl, hbB, hrow0⟩ := ha1 k (by rw [← HNN.out]; exact hlt)
      have hrl := ha2 k (by rw [← HNN.out]; exact hlt)
      dsimp only at hrow0
      obtain ⟨row, hrowe⟩ : ∃ row, row = BL.getD k [] := ⟨_, rfl⟩
      have HRE := Lib.hid hrowe
      rw [← hrowe] at hrow0 hrl
      have hrow1 : row.length ≤ 140737488351232 := by rw [hrowe]; exact HLN.out _ (getD_mem' (by rw [← HNN.out]; exact hlt))
      have hrc : wr.cell? ⟨bB, oB + k, none⟩ = some (.slice (SA k) row.length (CA k)) := (HFr.out.cell (p := ⟨bB, oB + k, none⟩) hbB).trans hrow0
      have HSRC := Lib.hid ((hrl.below (HFr.out.trans ((Below.refl wr.heap.size wr).mono HFr.out.size))).below (((Below.refl wr.heap.size wr).drew.alloc (Nat.le_refl _) (.cells #[] 5))) |>.src (CA k))
      have hvc : wr.cell? ⟨po, 16, none⟩ = some v := by have := HV.out; simp [World.cell?, this]
      have hbBr : bB < wr.heap.size := Nat.lt_of_lt_of_le hbB HFr.out.size
      have KS := Lib.hid (fun (w' : World) (hb : Below wr.heap.size wr w') => (⟨(hb.cell (p := ⟨po, 16, none⟩) (by show po < _; omega)).trans hvc, (hb.cell (p := ⟨w.heap.size, 16, none⟩) (by show w.heap.size < _; omega)).trans hbc, (hb.cell (p := ⟨bB, oB + k, none⟩) hbBr).trans hrc⟩ : w'.cell? ⟨po, 16, none⟩ = some v ∧ w'.cell? ⟨w.heap.size, 16, none⟩ = some (.slice (some ⟨bB, oB, none⟩) n c0) ∧ w'.cell? ⟨bB, oB + k, none⟩ = some (.slice (SA k) row.length (CA k))))
      have HO0 := Lib.hid (OwnB.fresh wr.drew)
      have HNA := Lib.hid (show (([] : List Nat) ++ row).length = row.length from rfl)
      clear hrow0 hrl ha1 ha2 hrowe
      go_wp2_with fail
      clear hvc hrc
      refine wp_region_mix [(true, true, false), (true, true, true), (false, false, false), (true, true, false), (true, true, true), (true, true, false), (true, true, false), (true, true, true), (false, false, false), (false, false, false), (false, false, false), (false, true, false), (false, false, true)] mixed (by kernel_rfl) (fun w4 => w4.cell? ⟨po, 16, none⟩ = some v ∧ w4.cell? ⟨w.heap.size, 16, none⟩ = some (.slice (some ⟨bB, oB, none⟩) n c0) ∧ w4.cell? ⟨bB, oB + k, none⟩ = some (.slice (SA k) row.length (CA k))) (KS.out _ (Below.refl _ _).drew) ?_
      intro hSw0
      simp only [hdM, tlM, List.cons_append, List.nil_append]
      repeat (first
        | (refine mix_look hSw0.out ?_ (by rfl) (fun w4 hSw => ?_) ?_; rotate_left; (focus (obtain ⟨s1, s2, s3⟩ := hSw; go_simp; try with_reducible rfl)); simp only [Act.put, List.setIfInBounds_toArray, List.set_cons_zero, List.set_cons_succ])
        | (refine mix_pure ?_ (by rfl) (fun w4 => ?_) ?_; rotate_left; (focus (go_simp; try with_reducible rfl)); simp only [Act.put, List.setIfInBounds_toArray, List.set_cons_zero, List.set_cons_succ]))
      refine mix_step (fun K hK => ?_)
      go_simp
      refine hK.out _ _ (fun _ _ => KS.out _ ((Below.refl _ _).drew.alloc (Nat.le_refl _) _)) ?_
      clear hK K
      try simp only [Act.put, List.setIfInBounds_toArray, List.set_cons_zero, List.set_cons_succ]
      refine mix_list (fun K hK => ?_)
      change wpList _ _ _ _ _ (World.alloc wr.drew _)
      refine wpList_appB rfl (.tmp 17) (.tmp 22) 47 rfl wr.heap.size _ [] rfl HO0.out (by simp) _ row.length row rfl HSRC.out (by simp; omega) ?_
      intro v5 w5 hO5 hb5 _
      obtain ⟨A5, c5, e5, _, _, _, _⟩ := hO5.rd
      rw [HNA.out] at e5
      subst e5
      have HB5 := Lib.hid (show Below wr.heap.size wr w5 from (((Below.refl _ _).drew.alloc (Nat.le_refl _) _)).trans hb5)
      have hz5 : wr.heap.size ≤ w5.heap.size := HB5.out.size
      have HO5 := Lib.hid (show OwnB w5 W.heap.size (.slice A5 row.length c5) row from hO5.mono hsr)
      clear hO5 hb5
      refine hK.out _ _ (fun _ _ => KS.out _ HB5.out) ?_
      clear hK K
      try simp only [Act.put, List.setIfInBounds_toArray, List.set_cons_zero, List.set_cons_succ]
      refine mix_step (fun K hK => ?_)
      go_simp
      refine hK.out _ _ (fun _ _ => KS.out _ (HB5.out.alloc hz5 _)) ?_
      clear hK K
      try simp only [Act.put, List.setIfInBounds_toArray, List.set_cons_zero, List.set_cons_succ]
      refine mix_list (fun K hK => ?_)
      change wpList _ _ _ _ _ (World.alloc w5 _)
      refine wpList_pushLLg rfl (.tmp 16) (.tmp 24) rfl W.heap.size v (BL.take k) rfl (HOV.out.kept HB5.out) (by omega) row rfl HO5.out _ rfl rfl (by rw [List.length_take]; omega) ?_
      intro v9 w9 hO9 hb9 hg9 _
      refine hK.out _ _ (fun _ _ => ⟨(hb9.cell (p := ⟨po, 16, none⟩) hpoW).trans (KS.out _ HB5.out).1, (hb9.cell (p := ⟨w.heap.size, 16, none⟩) (by show w.heap.size < _; omega)).trans (KS.out _ HB5.out).2.1, (hb9.cell (p := ⟨bB, oB + k, none⟩) (by show bB < _; omega)).trans (KS.out _ HB5.out).2.2⟩) ?_
      clear hK K
      try simp only [Act.put, List.setIfInBounds_toArray, List.set_cons_zero, List.set_cons_succ]
      repeat (refine mix_pure ?_ (by rfl) (fun w4 => ?_) ?_; rotate_left; (focus (go_simp; try with_reducible rfl)); simp only [Act.put, List.setIfInBounds_toArray, List.set_cons_zero, List.set_cons_succ])
      have hV9 := (hb9.block po hpoW).trans ((HB5.out.block po (by omega)).trans HV.out)
      obtain ⟨A9, c9, e9, _⟩ := hO9.rd
      obtain ⟨n9, hn9⟩ : ∃ n9, n9 = (BL.take k ++ [row]).length := ⟨_, rfl⟩
      rw [← hn9] at e9
      subst e9
      clear hn9
      have hcl9 : w9.cell? ⟨po, 16, none⟩ = some v := by simp [World.cell?, hV9]
      have hfz9 : w9.frozen? ⟨po, 16, none⟩ = false := by simp [World.frozen?, hV9]
      have HVN := Lib.hid (show (w9.setCell ⟨po, 16, none⟩ (.slice A9 n9 c9)).heap[po]? = some (.cells #[.int .u8 h.s0, .int .u8 h.s1, .int .u8 h.s2, .int .u8 h.s3, .int .u8 h.s4, .int .u8 h.s5, .int .u8 h.s6, .int .u8 h.s7, .int .i64 h.K, .int .i64 h.M, .int .i64 h.B, .string h.key, .int .i64 h.size, .int .i64 h.idx, .int .i64 h.ep, .int .i64 h.ct, .slice A9 n9 c9] 46 (0, 0)) by simp [World.setCell, hV9, Array.getElem?_modify])
      have HON := Lib.hid (show OwnLL (w9.setCell ⟨po, 16, none⟩ (.slice A9 n9 c9)) W.heap.size (.slice A9 n9 c9) (BL.take (k + 1)) from by
        rw [take_nextL (by rw [← HNN.out]; exact hlt), ← HRE.out]
        exact hO9.set hpoW _)
      have HGN := Lib.hid (show W.grownBy (w9.setCell ⟨po, 16, none⟩ (.slice A9 n9 c9)) (some po) from ⟨hb9.os.trans (HB5.out.os.trans HGR.out.os), hb9.tape.trans (HB5.out.tape.trans HGR.out.tape), hb9.output.trans (HB5.out.output.trans HGR.out.output), by simp; have := hb9.size; omega, fun i hi hne => by
        rw [Below.heap_setCell _ _ _ _ (by show i ≠ po; exact fun e => hne (by rw [e])), hb9.block i hi, HB5.out.block i (by omega)]; exact HGR.out.block i hi hne⟩)
      clear hV9 hO9 hb9 hg9
      refine mix_step (fun K hK => ?_)
      go_simp
      refine hK.out _ _ (fun h => absurd h (by decide)) ?_
      clear hK K
      try simp only [Act.put, List.setIfInBounds_toArray, List.set_cons_zero, List.set_cons_succ]
      refine mix_nil ?_
      go_wp2
      go_roundg (n - (k + 1))
      case measure => omega
      case rel => exact ⟨k + 1, by omega, rfl, by go_num, HGN.out, _, HVN.out, HON.out⟩
    · have hkn : k = n := by omega
      subst hkn
      obtain ⟨A3, c3, e3, _⟩ := HOV.out.rd
      obtain ⟨n3, hn3⟩ : ∃ n3, n3 = (BL.take k).length := ⟨_, rfl⟩
      rw [← hn3] at e3
      subst e3
      clear hn3
      have hlt0 := (Array.getElem?_eq_some_iff.1 HZR.out).1
      have HZR := Lib.hid ((HGR.out.block (w.heap.size + 1) hlt0 (fun e => by injection e with e; have := HPO.out; omega)).trans HZR.out)
      go_wp2_with (first | (refine wpList_loadS rfl (.tmp 3) rfl po rfl #[.int .u8 h.s0, .int .u8 h.s1, .int .u8 h.s2, .int .u8 h.s3, .int .u8 h.s4, .int .u8 h.s5, .int .u8 h.s6, .int .u8 h.s7, .int .i64 h.K, .int .i64 h.M, .int .i64 h.B, .string h.key, .int .i64 h.size, .int .i64 h.idx, .int .i64 h.ep, .int .i64 h.ct, .slice A3 n3 c3] rfl HV.out ?_) | (refine wpList_storeS rfl (.tmp 2) _ rfl (w.heap.size + 1) #[.int .u8 h.s0, .int .u8 h.s1, .int .u8 h.s2, .int .u8 h.s3, .int .u8 h.s4, .int .u8 h.s5, .int .u8 h.s6, .int .u8 h.s7, .int .i64 h.K, .int .i64 h.M, .int .i64 h.B, .string h.key, .int .i64 h.size, .int .i64 h.idx, .int .i64 h.ep, .int .i64 h.ct, .slice A3 n3 c3] rfl rfl rfl #[.int .u8 0, .int .u8 0, .int .u8 0, .int .u8 0, .int .u8 0, .int .u8 0, .int .u8 0, .int .u8 0, .int .i64 0, .int .i64 0, .int .i64 0, .string ⟨#[]⟩, .int .i64 0, .int .i64 0, .int .i64 0, .int .i64 0, .slice none 0 0] rfl HZR.out rfl ?_; intro w9 h9 g9 z9))
      have HB9 := Lib.hid (Below.trans_row HFr.out g9 (by omega) HFr.out.size)
      have hOw := (own_row HOV.out (show w.heap.size + 1 < W.heap.size by omega) g9).mono (show w.heap.size ≤ w.heap.size + 1 by omega)
      have HOW := Lib.hid (show OwnLL w9 w.heap.size (.slice A3 n3 c3) BL by rw [HNN.out, List.take_length] at hOw; exact hOw)
      clear hOw
      exact ret_cellS1 Try.results38 rfl rfl rfl h9 ⟨_, rfl, HOW.out, HB9.out⟩
end Go.Proofs.Ytbioanbokbhmgaa
