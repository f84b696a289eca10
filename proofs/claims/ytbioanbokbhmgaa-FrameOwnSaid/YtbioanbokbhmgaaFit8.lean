/- fit of the law's text: the walk. Conditions: a shard that memory bears. -/
import Derived.Test.YtbioanbokbhmgaaOwa
import Derived.Test.YtbioanbokbhmgaaCopP
import Derived.Test.YtbioanbokbhmgaaEncR
import Derived.Test.YtbioanbokbhmgaaLaw8A
namespace Go.Proofs.Ytbioanbokbhmgaa
open Go.RowKit

/-- A row cut or filled up with zeros. -/
def padL (l : List Nat) (n : Nat) : List Nat := (List.range n).map fun i => l.getD i 0
theorem padL_length (l : List Nat) (n : Nat) : (padL l n).length = n := by simp [padL]
theorem padL_get {l : List Nat} {n i : Nat} (h : i < n) : (padL l n).getD i 0 = l.getD i 0 := by simp [padL, List.getD_eq_getElem?_getD, h]
theorem padL_lt {l : List Nat} {n : Nat} (hl : ∀ x ∈ l, x < 256) : ∀ x ∈ padL l n, x < 256 := by
  intro x hx
  obtain ⟨i, _, rfl⟩ := List.mem_map.1 hx
  exact getD_256 hl i
def fitK (h : Hd) (BL : List (List Nat)) : Nat → List (List Nat)
  | 0 => []
  | k + 1 => fitK h BL k ++ [padL (BL.getD k []) (lenF h k)]
def fitL (h : Hd) (BL : List (List Nat)) : List (List Nat) := fitK h BL (sizeN h.K h.M h.B h.size)
theorem fitK_length (h : Hd) (BL : List (List Nat)) : ∀ k, (fitK h BL k).length = k
  | 0 => rfl
  | k + 1 => by show (fitK h BL k ++ [_]).length = k + 1; rw [List.length_append, fitK_length h BL k]; rfl
theorem fitK_get (h : Hd) (BL : List (List Nat)) : ∀ k j, j < k → (fitK h BL k).getD j [] = padL (BL.getD j []) (lenF h j)
  | k + 1, j, hj => by
    show (fitK h BL k ++ [padL (BL.getD k []) (lenF h k)]).getD j [] = _
    rcases Nat.lt_or_ge j k with h1 | h1
    · rw [getD_app_l (by rw [fitK_length]; exact h1)]; exact fitK_get h BL k j h1
    · obtain rfl : j = k := by omega
      have := @getD_app_r _ (fitK h BL j) (padL (BL.getD j []) (lenF h j)) []
      rwa [fitK_length] at this
theorem fitL_fits (h : Hd) (BL : List (List Nat)) : fitsB h (fitL h BL) := by
  refine ⟨fitK_length _ _ _, fun j hj => ?_⟩
  have hj : j < sizeN h.K h.M h.B h.size := by unfold fitL at hj; rwa [fitK_length] at hj
  unfold fitL
  rw [fitK_get h BL _ j hj, padL_length]
  rfl
theorem fitK_lt {h : Hd} {BL : List (List Nat)} (hl : ∀ l ∈ BL, ∀ x ∈ l, x < 256) : ∀ k, ∀ l ∈ fitK h BL k, ∀ x ∈ l, x < 256
  | 0, l, hm => by simp [fitK] at hm
  | k + 1, l, hm => by
    rcases List.mem_append.1 (show l ∈ fitK h BL k ++ [padL (BL.getD k []) (lenF h k)] from hm) with hm | hm
    · exact fitK_lt hl k l hm
    · simp at hm; subst hm
      refine padL_lt fun x hx => ?_
      rcases Nat.lt_or_ge k BL.length with h1 | h1
      · exact hl (BL.getD k []) (getD_mem' h1) x (by simpa using hx)
      · rw [List.getElem?_eq_none h1] at hx; cases hx
theorem fitL_lt {h : Hd} {BL : List (List Nat)} (hl : ∀ l ∈ BL, ∀ x ∈ l, x < 256) : ∀ l ∈ fitL h BL, ∀ x ∈ l, x < 256 := fitK_lt hl _
theorem padL_none {BL : List (List Nat)} {k i n : Nat} (h : ¬ k < BL.length) (hi : i < n) : (padL (BL.getD k []) n).getD i 0 = 0 := by
  rw [padL_get hi, List.getD_eq_getElem?_getD (l := BL), List.getElem?_eq_none (by omega)]
  rfl
theorem own_of_pad {w : World} {B rb lk : Nat} {l : List Nat} (hr : w.rowIs rb 5 lk (fun i => .int .u8 (((padL l lk).getD i 0 : Nat) : Int))) (hB : B ≤ rb) (hm : lk ≤ maxLen) : OwnB w B (.slice (some ⟨rb, 0, none⟩) lk lk) (padL l lk) := by
  have h := own_of_row hr hB hm
  refine OwnB.of ?_
  rw [padL_length]
  exact h
theorem pad_cell {row : List Nat} {i lk : Nat} (hi : i < lk) : (if i < Nat.min row.length lk then (fun i => Value.int .u8 ((row.getD i 0 : Nat) : Int)) i else (fun _ => Value.int .u8 0) i) = .int .u8 (((padL row lk).getD i 0 : Nat) : Int) := by
  rw [padL_get hi]
  by_cases h : i < Nat.min row.length lk
  · rw [if_pos h]
  · rw [if_neg h]
    have h2 : row.length ≤ i := by
      have : Nat.min row.length lk = min row.length lk := rfl
      omega
    rw [List.getD_eq_getElem?_getD, List.getElem?_eq_none h2]
    rfl
def FitPost (w : World) (h : Hd) (BL : List (List Nat)) (e : Ending) (w' : World) : Prop := ∃ A n c, e = .returned (.tuple #[.agg #[.int .u8 h.s0, .int .u8 h.s1, .int .u8 h.s2, .int .u8 h.s3, .int .u8 h.s4, .int .u8 h.s5, .int .u8 h.s6, .int .u8 h.s7, .int .i64 h.K, .int .i64 h.M, .int .i64 h.B, .string h.key, .int .i64 h.size, .int .i64 h.idx, .int .i64 h.ep, .int .i64 h.ct, .slice A n c], .bool (decide (checkE h = 0))]) ∧ (checkE h = 0 → OwnLA w' w.heap.size w'.heap.size (.slice A n c) (fitL h BL)) ∧ Below w.heap.size w w'
set_option maxRecDepth 100000 in
set_option maxHeartbeats 8000000 in
theorem fit_any (h : Hd) (A0 : Option Addr) (c0 : Nat) (BL : List (List Nat)) (w : World) (hn : BL.length ≤ 140737488351232) (hln : ∀ l ∈ BL, l.length ≤ 140737488351232) (hA : RLL w A0 BL) :
    Calls Try.prog 36 #[.agg #[.int .u8 h.s0, .int .u8 h.s1, .int .u8 h.s2, .int .u8 h.s3, .int .u8 h.s4, .int .u8 h.s5, .int .u8 h.s6, .int .u8 h.s7, .int .i64 h.K, .int .i64 h.M, .int .i64 h.B, .string h.key, .int .i64 h.size, .int .i64 h.idx, .int .i64 h.ep, .int .i64 h.ct, .slice A0 BL.length c0]] w (FitPost w h BL) := by
  have HF := Lib.hid (((Below.refl w.heap.size w).alloc (Nat.le_refl _) (.cells #[.int .u8 h.s0, .int .u8 h.s1, .int .u8 h.s2, .int .u8 h.s3, .int .u8 h.s4, .int .u8 h.s5, .int .u8 h.s6, .int .u8 h.s7, .int .i64 h.K, .int .i64 h.M, .int .i64 h.B, .string h.key, .int .i64 h.size, .int .i64 h.idx, .int .i64 h.ep, .int .i64 h.ct, .slice A0 BL.length c0] 46)).alloc (by simp) (.cells #[.int .u8 0, .int .u8 0, .int .u8 0, .int .u8 0, .int .u8 0, .int .u8 0, .int .u8 0, .int .u8 0, .int .i64 0, .int .i64 0, .int .i64 0, .string ⟨#[]⟩, .int .i64 0, .int .i64 0, .int .i64 0, .int .i64 0, .slice none 0 0] 46))
  have HZR := Lib.hid (show ((w.alloc (.cells #[.int .u8 h.s0, .int .u8 h.s1, .int .u8 h.s2, .int .u8 h.s3, .int .u8 h.s4, .int .u8 h.s5, .int .u8 h.s6, .int .u8 h.s7, .int .i64 h.K, .int .i64 h.M, .int .i64 h.B, .string h.key, .int .i64 h.size, .int .i64 h.idx, .int .i64 h.ep, .int .i64 h.ct, .slice A0 BL.length c0] 46)).alloc (.cells #[.int .u8 0, .int .u8 0, .int .u8 0, .int .u8 0, .int .u8 0, .int .u8 0, .int .u8 0, .int .u8 0, .int .i64 0, .int .i64 0, .int .i64 0, .string ⟨#[]⟩, .int .i64 0, .int .i64 0, .int .i64 0, .int .i64 0, .slice none 0 0] 46)).heap[w.heap.size + 1]? = some (.cells #[.int .u8 0, .int .u8 0, .int .u8 0, .int .u8 0, .int .u8 0, .int .u8 0, .int .u8 0, .int .u8 0, .int .i64 0, .int .i64 0, .int .i64 0, .string ⟨#[]⟩, .int .i64 0, .int .i64 0, .int .i64 0, .int .i64 0, .slice none 0 0] 46 (0, 0)) by simpa using heap_alloc_new (w.alloc (.cells #[.int .u8 h.s0, .int .u8 h.s1, .int .u8 h.s2, .int .u8 h.s3, .int .u8 h.s4, .int .u8 h.s5, .int .u8 h.s6, .int .u8 h.s7, .int .i64 h.K, .int .i64 h.M, .int .i64 h.B, .string h.key, .int .i64 h.size, .int .i64 h.idx, .int .i64 h.ep, .int .i64 h.ct, .slice A0 BL.length c0] 46)) (.cells #[.int .u8 0, .int .u8 0, .int .u8 0, .int .u8 0, .int .u8 0, .int .u8 0, .int .u8 0, .int .u8 0, .int .i64 0, .int .i64 0, .int .i64 0, .string ⟨#[]⟩, .int .i64 0, .int .i64 0, .int .i64 0, .int .i64 0, .slice none 0 0] 46))
  have HZS := Lib.hid (show ((w.alloc (.cells #[.int .u8 h.s0, .int .u8 h.s1, .int .u8 h.s2, .int .u8 h.s3, .int .u8 h.s4, .int .u8 h.s5, .int .u8 h.s6, .int .u8 h.s7, .int .i64 h.K, .int .i64 h.M, .int .i64 h.B, .string h.key, .int .i64 h.size, .int .i64 h.idx, .int .i64 h.ep, .int .i64 h.ct, .slice A0 BL.length c0] 46)).alloc (.cells #[.int .u8 0, .int .u8 0, .int .u8 0, .int .u8 0, .int .u8 0, .int .u8 0, .int .u8 0, .int .u8 0, .int .i64 0, .int .i64 0, .int .i64 0, .string ⟨#[]⟩, .int .i64 0, .int .i64 0, .int .i64 0, .int .i64 0, .slice none 0 0] 46)).heap[w.heap.size]? = some (.cells #[.int .u8 h.s0, .int .u8 h.s1, .int .u8 h.s2, .int .u8 h.s3, .int .u8 h.s4, .int .u8 h.s5, .int .u8 h.s6, .int .u8 h.s7, .int .i64 h.K, .int .i64 h.M, .int .i64 h.B, .string h.key, .int .i64 h.size, .int .i64 h.idx, .int .i64 h.ep, .int .i64 h.ct, .slice A0 BL.length c0] 46 (0, 0)) from (((Below.refl _ _).alloc (Nat.le_refl _) _).block _ (by simp)).trans (heap_alloc_new w _))
  have HAL := Lib.hid hA
  have HLN := Lib.hid hln
  have hsz2 : ((w.alloc (.cells #[.int .u8 h.s0, .int .u8 h.s1, .int .u8 h.s2, .int .u8 h.s3, .int .u8 h.s4, .int .u8 h.s5, .int .u8 h.s6, .int .u8 h.s7, .int .i64 h.K, .int .i64 h.M, .int .i64 h.B, .string h.key, .int .i64 h.size, .int .i64 h.idx, .int .i64 h.ep, .int .i64 h.ct, .slice A0 BL.length c0] 46)).alloc (.cells #[.int .u8 0, .int .u8 0, .int .u8 0, .int .u8 0, .int .u8 0, .int .u8 0, .int .u8 0, .int .u8 0, .int .i64 0, .int .i64 0, .int .i64 0, .string ⟨#[]⟩, .int .i64 0, .int .i64 0, .int .i64 0, .int .i64 0, .slice none 0 0] 46)).heap.size = w.heap.size + 2 := by simp
  clear hA hln
  go_enter Try.func36, Try.ntmps36
  go_wp2_with (refine wpList_loadFirst rfl 28 (.tmp 10) rfl w.heap.size rfl #[.int .u8 h.s0, .int .u8 h.s1, .int .u8 h.s2, .int .u8 h.s3, .int .u8 h.s4, .int .u8 h.s5, .int .u8 h.s6, .int .u8 h.s7, .int .i64 h.K, .int .i64 h.M, .int .i64 h.B, .string h.key, .int .i64 h.size, .int .i64 h.idx, .int .i64 h.ep, .int .i64 h.ct] #[.int .u8 h.s0, .int .u8 h.s1, .int .u8 h.s2, .int .u8 h.s3, .int .u8 h.s4, .int .u8 h.s5, .int .u8 h.s6, .int .u8 h.s7, .int .i64 h.K, .int .i64 h.M, .int .i64 h.B, .string h.key, .int .i64 h.size, .int .i64 h.idx, .int .i64 h.ep, .int .i64 h.ct, .slice A0 BL.length c0] 46 _ rfl HZS.out Try.underlying28 rfl info_H ?_)
  obtain ⟨wA, hwA⟩ : ∃ wA, wA = ((w.alloc (.cells #[.int .u8 h.s0, .int .u8 h.s1, .int .u8 h.s2, .int .u8 h.s3, .int .u8 h.s4, .int .u8 h.s5, .int .u8 h.s6, .int .u8 h.s7, .int .i64 h.K, .int .i64 h.M, .int .i64 h.B, .string h.key, .int .i64 h.size, .int .i64 h.idx, .int .i64 h.ep, .int .i64 h.ct, .slice A0 BL.length c0] 46)).alloc (.cells #[.int .u8 0, .int .u8 0, .int .u8 0, .int .u8 0, .int .u8 0, .int .u8 0, .int .u8 0, .int .u8 0, .int .i64 0, .int .i64 0, .int .i64 0, .string ⟨#[]⟩, .int .i64 0, .int .i64 0, .int .i64 0, .int .i64 0, .slice none 0 0] 46)) := ⟨_, rfl⟩
  rw [← hwA] at HF HZR HZS hsz2 ⊢
  clear hwA
  refine (rcheck_any h wA).mono ?_
  rintro e w1 ⟨rfl, hb1⟩
  have HZR := Lib.hid ((hb1.block _ (by omega)).trans HZR.out)
  have HZS := Lib.hid ((hb1.block _ (by omega)).trans HZS.out)
  have HF := Lib.hid (HF.out.trans (hb1.mono HF.out.size))
  have hsz1 : w.heap.size + 2 ≤ w1.heap.size := by have := hb1.size; omega
  clear hb1 hsz2
  by_cases h0 : checkE h = 0
  · have H0 := Lib.hid h0
    obtain ⟨hm, k0, k1, hE, i0, i1, e0, e1, t0, t1⟩ := check_facts h0
    have HE0 := Lib.hid hE
    have hN := sizeN_le h.K h.M h.B h.size
    have hlenF : Hid (∀ j, lenF h j ≤ 65536) := Lib.hid fun j => by
      obtain ⟨m1, m2, m3, m4, m5, m6⟩ := hm
      have := blen_le (K := h.K.toNat) (B := h.B.toNat) (s := h.size.toNat) (j := j) (by omega)
      unfold lenF; omega
    rw [h0]
    clear h0 hm hE i0 i1 e0 e1 t0 t1 k0 k1
    obtain ⟨_, _, _, _, _, _, _, _, q8, q9, q10, _, q12, _⟩ := cells_ofS HZS.out
    go_wp2_with fail
    clear q8 q9 q10 q12
    refine (rsizes_all h.K h.M h.B h.size w1).mono ?_
    rintro e w2 ⟨vL, rfl, hOL, hb2⟩
    obtain ⟨n, hn0⟩ : ∃ n, n = sizeN h.K h.M h.B h.size := ⟨_, rfl⟩
    rw [← hn0] at hOL hN
    rw [HE0.out]
    have HNE := Lib.hid hn0
    have HZR := Lib.hid ((hb2.block _ (by omega)).trans HZR.out)
    have HZS := Lib.hid ((hb2.block _ (by omega)).trans HZS.out)
    have HF := Lib.hid (HF.out.trans (hb2.mono HF.out.size))
    have hsz2 : w.heap.size + 2 ≤ w2.heap.size := by have := hb2.size; omega
    obtain ⟨AL, cL, eL, _, _, hRL, hAL⟩ := hOL.rd
    subst eL
    have HRL := Lib.hid hRL
    have HRL2 := Lib.hid hRL
    clear hRL hOL hn0 hb2 hAL
    have hps := heap_alloc_new w2 (.cells #[.int .u8 h.s0, .int .u8 h.s1, .int .u8 h.s2, .int .u8 h.s3, .int .u8 h.s4, .int .u8 h.s5, .int .u8 h.s6, .int .u8 h.s7, .int .i64 h.K, .int .i64 h.M, .int .i64 h.B, .string h.key, .int .i64 h.size, .int .i64 h.idx, .int .i64 h.ep, .int .i64 h.ct, .slice none 0 0] 46)
    have hbA := (Below.refl w2.heap.size w2).alloc (Nat.le_refl _) (.cells #[.int .u8 h.s0, .int .u8 h.s1, .int .u8 h.s2, .int .u8 h.s3, .int .u8 h.s4, .int .u8 h.s5, .int .u8 h.s6, .int .u8 h.s7, .int .i64 h.K, .int .i64 h.M, .int .i64 h.B, .string h.key, .int .i64 h.size, .int .i64 h.idx, .int .i64 h.ep, .int .i64 h.ct, .slice none 0 0] 46)
    go_wp2_with (first | (refine wpList_loadFirst rfl 28 (.tmp 26) rfl w.heap.size rfl #[.int .u8 h.s0, .int .u8 h.s1, .int .u8 h.s2, .int .u8 h.s3, .int .u8 h.s4, .int .u8 h.s5, .int .u8 h.s6, .int .u8 h.s7, .int .i64 h.K, .int .i64 h.M, .int .i64 h.B, .string h.key, .int .i64 h.size, .int .i64 h.idx, .int .i64 h.ep, .int .i64 h.ct] #[.int .u8 h.s0, .int .u8 h.s1, .int .u8 h.s2, .int .u8 h.s3, .int .u8 h.s4, .int .u8 h.s5, .int .u8 h.s6, .int .u8 h.s7, .int .i64 h.K, .int .i64 h.M, .int .i64 h.B, .string h.key, .int .i64 h.size, .int .i64 h.idx, .int .i64 h.ep, .int .i64 h.ct, .slice A0 BL.length c0] 46 _ rfl HZS.out Try.underlying28 rfl info_H ?_) | (refine wpList_storeNewS rfl (.tmp 7) _ rfl #[.int .u8 h.s0, .int .u8 h.s1, .int .u8 h.s2, .int .u8 h.s3, .int .u8 h.s4, .int .u8 h.s5, .int .u8 h.s6, .int .u8 h.s7, .int .i64 h.K, .int .i64 h.M, .int .i64 h.B, .string h.key, .int .i64 h.size, .int .i64 h.idx, .int .i64 h.ep, .int .i64 h.ct, .slice none 0 0] rfl rfl rfl rfl rfl ?_))
    have HZR := Lib.hid ((hbA.block _ (by omega)).trans HZR.out)
    have HZS := Lib.hid ((hbA.block _ (by omega)).trans HZS.out)
    have HF := Lib.hid (HF.out.trans (hbA.mono HF.out.size))
    have HRL := Lib.hid (HRL.out.below hbA)
    have HPS := Lib.hid hps
    have hsz3 : (w2.alloc (.cells #[.int .u8 h.s0, .int .u8 h.s1, .int .u8 h.s2, .int .u8 h.s3, .int .u8 h.s4, .int .u8 h.s5, .int .u8 h.s6, .int .u8 h.s7, .int .i64 h.K, .int .i64 h.M, .int .i64 h.B, .string h.key, .int .i64 h.size, .int .i64 h.idx, .int .i64 h.ep, .int .i64 h.ct, .slice none 0 0] 46)).heap.size = w2.heap.size + 1 := by simp
    obtain ⟨po, hpo⟩ : ∃ po, po = w2.heap.size := ⟨_, rfl⟩
    rw [← hpo] at HPS hsz3 hsz2 ⊢
    generalize w2.alloc (.cells #[.int .u8 h.s0, .int .u8 h.s1, .int .u8 h.s2, .int .u8 h.s3, .int .u8 h.s4, .int .u8 h.s5, .int .u8 h.s6, .int .u8 h.s7, .int .i64 h.K, .int .i64 h.M, .int .i64 h.B, .string h.key, .int .i64 h.size, .int .i64 h.idx, .int .i64 h.ep, .int .i64 h.ct, .slice none 0 0] 46) = W at *
    have HPO := Lib.hid hpo
    have hWa : W.heap.size ≤ po + 1 := by omega
    have hWb : po + 1 ≤ W.heap.size := by omega
    clear hps hbA hpo hsz3
    have HG0 := Lib.hid (show W.grownBy W (some po) from ⟨rfl, rfl, rfl, Nat.le_refl _, fun _ _ _ => rfl⟩)
    have HWF := Lib.hid (fun (w' : World) (hg : W.grownBy w' (some po)) => Below.trans_row HF.out hg (by omega) HF.out.size)
    go_wp2
    go_loopg [8, 9] n (fun gk i _ wr => ∃ k : Nat, k ≤ n ∧ gk = n - k ∧ i = .int .i64 k ∧ W.grownBy wr (some po) ∧ ∃ v, wr.heap[po]? = some (.cells #[.int .u8 h.s0, .int .u8 h.s1, .int .u8 h.s2, .int .u8 h.s3, .int .u8 h.s4, .int .u8 h.s5, .int .u8 h.s6, .int .u8 h.s7, .int .i64 h.K, .int .i64 h.M, .int .i64 h.B, .string h.key, .int .i64 h.size, .int .i64 h.idx, .int .i64 h.ep, .int .i64 h.ct, v] 46 (0, 0)) ∧ OwnLA wr W.heap.size wr.heap.size v (fitK h BL k))
    case atStart => exact ⟨0, Nat.zero_le _, rfl, rfl, HG0.out, _, HPS.out, OwnLA.nil _ _ _⟩
    case round =>
      obtain ⟨k, hk, rfl, rfl, hgr, v, hv, hO⟩ := hrel
      have HGR := Lib.hid hgr
      have HV := Lib.hid hv
      have HOV := Lib.hid hO
      have hsr := hgr.size
      have HFr := Lib.hid (HWF.out _ hgr)
      clear hgr hv hO
      by_cases hlt : k < n
      · obtain ⟨bL, oL, rfl, hbL, hcl0⟩ := HRL.out k hlt
        obtain ⟨bL', oL', eL', hbL', _⟩ := HRL2.out k hlt
        injection eL' with eL'
        injection eL' with e1 e2
        subst e1 e2
        have hbp : bL < po := by rw [HPO.out]; exact hbL'
        have hpoW : po < W.heap.size := by omega
        have hlf := hlenF.out k
        obtain ⟨lk, hlk⟩ : ∃ lk, lk = lenF h k := ⟨_, rfl⟩
        rw [← hlk] at hlf
        have hcl : wr.cell? ⟨bL, oL + k, none⟩ = some (.int .i64 (lk : Int)) := by
          rw [hlk, World.cell?_of_block (a := ⟨bL, oL + k, none⟩) (HGR.out.block bL (by omega) (fun e => by injection e with e; omega))]; exact hcl0
        have HLK := Lib.hid hlk
        have hkn : (k : Int) < (n : Int) := by omega
        have hmk := run_make_row' (P := Try.prog) 47 5 (.int .u8 0) 1 Try.underlying47 byteInf rfl .i64 .i64 lk (by omega) (by omega)
        have hzs : wr.heap[w.heap.size]? = some (.cells #[.int .u8 h.s0, .int .u8 h.s1, .int .u8 h.s2, .int .u8 h.s3, .int .u8 h.s4, .int .u8 h.s5, .int .u8 h.s6, .int .u8 h.s7, .int .i64 h.K, .int .i64 h.M, .int .i64 h.B, .string h.key, .int .i64 h.size, .int .i64 h.idx, .int .i64 h.ep, .int .i64 h.ct, .slice A0 BL.length c0] 46 (0, 0)) := (HGR.out.block w.heap.size (by omega) (fun e => by injection e with e; omega)).trans HZS.out
        have hbc : wr.cell? ⟨w.heap.size, 16, none⟩ = some (.slice A0 BL.length c0) := by simp only [World.cell?, hzs]; rfl
        have HROW := Lib.hid (World.rowIs_made wr (.int .u8 0) lk 5)
        have HBM := Lib.hid ((Below.refl wr.heap.size wr).alloc (Nat.le_refl _) (.cells (madeCells #[.int .u8 0] lk) 5))
        have hszm : (wr.alloc (.cells (madeCells #[.int .u8 0] lk) 5)).heap.size = wr.heap.size + 1 := by simp
        have hup := fun (p : Addr) (hp : p.block < wr.heap.size) (o : Obj) => ((Below.refl wr.heap.size wr).alloc (Nat.le_refl _) o).cell (p := p) hp
        have hbcA : ∀ o, (wr.alloc o).cell? ⟨w.heap.size, 16, none⟩ = some (.slice A0 BL.length c0) := fun o => (hup ⟨w.heap.size, 16, none⟩ (by show w.heap.size < _; omega) o).trans hbc
        have HUP := Lib.hid hup
        clear hcl0 hlk hzs hbL' hbL hup
        obtain ⟨row, hrowe⟩ : ∃ row, row = BL.getD k [] := ⟨_, rfl⟩
        have HRE := Lib.hid hrowe
        by_cases hB : k < BL.length
        · have hkB : (k : Int) < (BL.length : Int) := by omega
          obtain ⟨SA, CA, ha1, ha2⟩ := HAL.out
          obtain ⟨bB, oB, rfl, hbB, hrow0⟩ := ha1 k hB
          have hrl := ha2 k hB
          dsimp only at hrow0
          have hrc : wr.cell? ⟨bB, oB + k, none⟩ = some (.slice (SA k) (BL.getD k []).length (CA k)) := (HFr.out.cell (p := ⟨bB, oB + k, none⟩) hbB).trans hrow0
          have HRLk := Lib.hid (hrl.below (HFr.out.trans (HBM.out.mono HFr.out.size)))
          clear hrow0 hrl ha1 ha2
          have hrcA : ∀ o, (wr.alloc o).cell? ⟨bB, oB + k, none⟩ = some (.slice (SA k) (BL.getD k []).length (CA k)) := fun o => (HUP.out ⟨bB, oB + k, none⟩ (by show bB < _; have := HFr.out.size; omega) o).trans hrc
          rw [← hrowe] at hrcA HRLk
          clear hrowe
          go_wp2_with (refine wpList_copyPart rfl (.tmp 45) (.tmp 50) 47 47 rfl 5 wr.heap.size lk lk row.length (CA k) (SA k) 5 (fun _ => .int .u8 0) (fun i => .int .u8 ((row.getD i 0 : Nat) : Int)) Try.underlying47 (by kernel_rfl) rfl rfl HROW.out HRLk.out (fun _ _ => rfl) ?_)
          intro w4 hr4 hg4 hz4
          have HB4 := Lib.hid (Below.trans_row HBM.out hg4 (Nat.le_refl _) (by omega))
          have HRB := Lib.hid (show w4.rowIs wr.heap.size 5 lk (fun i => .int .u8 (((padL row lk).getD i 0 : Nat) : Int)) from hr4.congr fun i hi => pad_cell hi)
          clear hr4 hg4 hz4 hrc hrcA hbc hbcA hcl hmk
          have HOB := Lib.hid (own_of_pad (B := wr.heap.size) HRB.out (by omega) (by unfold maxLen; omega))
          have HO4 := Lib.hid (HOV.out.kept HB4.out)
          have hv4 := (HB4.out.block po (by omega)).trans HV.out
          have hvc : w4.cell? ⟨po, 16, none⟩ = some v := by simp [World.cell?, hv4]
          have hsz4 : W.heap.size ≤ w4.heap.size := by have := HB4.out.size; omega
          have HPD := Lib.hid (padL_length row lk)
          have hfk : (fitK h BL k).length ≤ 1000000000000 := by rw [fitK_length]; omega
          have HV4 := Lib.hid hv4
          clear hv4
          go_wp2_with (at_builtin; refine wpList_pushLA rfl (.tmp 53) (.tmp 55) rfl W.heap.size wr.heap.size v (fitK h BL k) rfl HO4.out hsz4 hsr (padL row lk) HPD.out.symm HOB.out _ rfl rfl hfk ?_)
          intro v9 w9 hO9 hb9 hg9 _
          have hV9 := (hb9.block po hpoW).trans HV4.out
          obtain ⟨A9, c9, e9, _⟩ := hO9.ll.rd
          obtain ⟨n9, hn9⟩ : ∃ n9, n9 = (fitK h BL k ++ [padL row lk]).length := ⟨_, rfl⟩
          rw [← hn9] at e9
          subst e9
          clear hn9 hvc
          have hcl9 : w9.cell? ⟨po, 16, none⟩ = some v := by simp [World.cell?, hV9]
          have hfz9 : w9.frozen? ⟨po, 16, none⟩ = false := by simp [World.frozen?, hV9]
          have HVN := Lib.hid (show (w9.setCell ⟨po, 16, none⟩ (.slice A9 n9 c9)).heap[po]? = some (.cells #[.int .u8 h.s0, .int .u8 h.s1, .int .u8 h.s2, .int .u8 h.s3, .int .u8 h.s4, .int .u8 h.s5, .int .u8 h.s6, .int .u8 h.s7, .int .i64 h.K, .int .i64 h.M, .int .i64 h.B, .string h.key, .int .i64 h.size, .int .i64 h.idx, .int .i64 h.ep, .int .i64 h.ct, .slice A9 n9 c9] 46 (0, 0)) by simp [World.setCell, hV9, Array.getElem?_modify])
          have HON := Lib.hid (show OwnLA (w9.setCell ⟨po, 16, none⟩ (.slice A9 n9 c9)) W.heap.size w9.heap.size (.slice A9 n9 c9) (fitK h BL (k + 1)) from by
            show OwnLA _ _ _ _ (fitK h BL k ++ [padL (BL.getD k []) (lenF h k)])
            rw [← HLK.out, ← HRE.out]
            exact hO9.set hpoW _)
          have HGN := Lib.hid (show W.grownBy (w9.setCell ⟨po, 16, none⟩ (.slice A9 n9 c9)) (some po) from ⟨hb9.os.trans (HB4.out.os.trans HGR.out.os), hb9.tape.trans (HB4.out.tape.trans HGR.out.tape), hb9.output.trans (HB4.out.output.trans HGR.out.output), by simp; have := hb9.size; omega, fun i hi hne => by
            rw [Below.heap_setCell _ _ _ _ (by show i ≠ po; exact fun e => hne (by rw [e])), hb9.block i hi, HB4.out.block i (by omega)]; exact HGR.out.block i hi hne⟩)
          clear hV9 hO9 hb9 hg9
          go_wp2
          go_roundg (n - (k + 1))
          case measure => omega
          case rel => exact ⟨k + 1, by omega, rfl, by go_num, HGN.out, _, HVN.out, HON.out.fresh⟩
        · have hkB : ¬ (k : Int) < (BL.length : Int) := by omega
          have HRB := Lib.hid (show (wr.alloc (.cells (madeCells #[.int .u8 0] lk) 5)).rowIs wr.heap.size 5 lk (fun i => .int .u8 (((padL row lk).getD i 0 : Nat) : Int)) from HROW.out.congr fun i hi => by rw [hrowe, padL_none hB hi]; rfl)
          clear hrowe
          have HB4 := HBM
          have hvc : wr.cell? ⟨po, 16, none⟩ = some v := by have := HV.out; simp [World.cell?, this]
          have HOB := Lib.hid (own_of_pad (B := wr.heap.size) HRB.out (by omega) (by unfold maxLen; omega))
          have HO4 := Lib.hid (HOV.out.kept HB4.out)
          have hv4 := (HB4.out.block po (by omega)).trans HV.out
          have hvc : (wr.alloc (.cells (madeCells #[.int .u8 0] lk) 5)).cell? ⟨po, 16, none⟩ = some v := by simp [World.cell?, hv4]
          have hsz4 : W.heap.size ≤ (wr.alloc (.cells (madeCells #[.int .u8 0] lk) 5)).heap.size := by have := HB4.out.size; omega
          have HPD := Lib.hid (padL_length row lk)
          have hfk : (fitK h BL k).length ≤ 1000000000000 := by rw [fitK_length]; omega
          have HV4 := Lib.hid hv4
          clear hv4
          go_wp2_with (at_builtin; refine wpList_pushLA rfl (.tmp 53) (.tmp 55) rfl W.heap.size wr.heap.size v (fitK h BL k) rfl HO4.out hsz4 hsr (padL row lk) HPD.out.symm HOB.out (wr.heap.size + 1) hszm rfl hfk ?_)
          intro v9 w9 hO9 hb9 hg9 _
          have hV9 := (hb9.block po hpoW).trans HV4.out
          obtain ⟨A9, c9, e9, _⟩ := hO9.ll.rd
          obtain ⟨n9, hn9⟩ : ∃ n9, n9 = (fitK h BL k ++ [padL row lk]).length := ⟨_, rfl⟩
          rw [← hn9] at e9
          subst e9
          clear hn9
          have hcl9 : w9.cell? ⟨po, 16, none⟩ = some v := by simp [World.cell?, hV9]
          have hfz9 : w9.frozen? ⟨po, 16, none⟩ = false := by simp [World.frozen?, hV9]
          have HVN := Lib.hid (show (w9.setCell ⟨po, 16, none⟩ (.slice A9 n9 c9)).heap[po]? = some (.cells #[.int .u8 h.s0, .int .u8 h.s1, .int .u8 h.s2, .int .u8 h.s3, .int .u8 h.s4, .int .u8 h.s5, .int .u8 h.s6, .int .u8 h.s7, .int .i64 h.K, .int .i64 h.M, .int .i64 h.B, .string h.key, .int .i64 h.size, .int .i64 h.idx, .int .i64 h.ep, .int .i64 h.ct, .slice A9 n9 c9] 46 (0, 0)) by simp [World.setCell, hV9, Array.getElem?_modify])
          have HON := Lib.hid (show OwnLA (w9.setCell ⟨po, 16, none⟩ (.slice A9 n9 c9)) W.heap.size w9.heap.size (.slice A9 n9 c9) (fitK h BL (k + 1)) from by
            show OwnLA _ _ _ _ (fitK h BL k ++ [padL (BL.getD k []) (lenF h k)])
            rw [← HLK.out, ← HRE.out]
            exact hO9.set hpoW _)
          have HGN := Lib.hid (show W.grownBy (w9.setCell ⟨po, 16, none⟩ (.slice A9 n9 c9)) (some po) from ⟨hb9.os.trans (HB4.out.os.trans HGR.out.os), hb9.tape.trans (HB4.out.tape.trans HGR.out.tape), hb9.output.trans (HB4.out.output.trans HGR.out.output), by simp; have := hb9.size; omega, fun i hi hne => by
            rw [Below.heap_setCell _ _ _ _ (by show i ≠ po; exact fun e => hne (by rw [e])), hb9.block i hi, HB4.out.block i (by omega)]; exact HGR.out.block i hi hne⟩)
          clear hV9 hO9 hb9 hg9
          go_wp2
          go_roundg (n - (k + 1))
          case measure => omega
          case rel => exact ⟨k + 1, by omega, rfl, by go_num, HGN.out, _, HVN.out, HON.out.fresh⟩
      · have hkn : k = n := by omega
        subst hkn
        obtain ⟨A3, c3, e3, _⟩ := HOV.out.ll.rd
        obtain ⟨n3, hn3⟩ : ∃ n3, n3 = (fitK h BL k).length := ⟨_, rfl⟩
        rw [← hn3] at e3
        subst e3
        clear hn3
        have hlt0 := (Array.getElem?_eq_some_iff.1 HZR.out).1
        have HZR := Lib.hid ((HGR.out.block (w.heap.size + 1) hlt0 (fun e => by injection e with e; omega)).trans HZR.out)
        go_wp2_with (first | (refine wpList_loadS rfl (.tmp 7) rfl po rfl #[.int .u8 h.s0, .int .u8 h.s1, .int .u8 h.s2, .int .u8 h.s3, .int .u8 h.s4, .int .u8 h.s5, .int .u8 h.s6, .int .u8 h.s7, .int .i64 h.K, .int .i64 h.M, .int .i64 h.B, .string h.key, .int .i64 h.size, .int .i64 h.idx, .int .i64 h.ep, .int .i64 h.ct, .slice A3 n3 c3] rfl HV.out ?_) | (refine wpList_storeS rfl (.tmp 2) _ rfl (w.heap.size + 1) #[.int .u8 h.s0, .int .u8 h.s1, .int .u8 h.s2, .int .u8 h.s3, .int .u8 h.s4, .int .u8 h.s5, .int .u8 h.s6, .int .u8 h.s7, .int .i64 h.K, .int .i64 h.M, .int .i64 h.B, .string h.key, .int .i64 h.size, .int .i64 h.idx, .int .i64 h.ep, .int .i64 h.ct, .slice A3 n3 c3] rfl rfl rfl #[.int .u8 0, .int .u8 0, .int .u8 0, .int .u8 0, .int .u8 0, .int .u8 0, .int .u8 0, .int .u8 0, .int .i64 0, .int .i64 0, .int .i64 0, .string ⟨#[]⟩, .int .i64 0, .int .i64 0, .int .i64 0, .int .i64 0, .slice none 0 0] rfl HZR.out rfl ?_; intro w9 h9 g9 z9))
        have HB9 := Lib.hid (Below.trans_row HFr.out g9 (by omega) HFr.out.size)
        have hOw := (HOV.out.row_ (show w.heap.size + 1 < W.heap.size by omega) g9).mono (show w.heap.size ≤ W.heap.size by omega)
        have HOW := Lib.hid (show OwnLA w9 w.heap.size w9.heap.size (.slice A3 n3 c3) (fitL h BL) by unfold fitL; rw [← HNE.out]; exact hOw.fresh)
        clear hOw
        exact ret_cellS Try.results36 rfl rfl rfl h9 ⟨_, _, _, by rw [decide_eq_true H0.out]; rfl, fun _ => HOW.out, HB9.out⟩
  · have H0 := Lib.hid h0
    have hne : (checkE h != 0) = true := by simpa using h0
    have hd := Lib.hid (decide_eq_false h0)
    clear h0
    go_wp2_with (first | (refine wpList_loadS rfl (.tmp 1) rfl w.heap.size rfl #[.int .u8 h.s0, .int .u8 h.s1, .int .u8 h.s2, .int .u8 h.s3, .int .u8 h.s4, .int .u8 h.s5, .int .u8 h.s6, .int .u8 h.s7, .int .i64 h.K, .int .i64 h.M, .int .i64 h.B, .string h.key, .int .i64 h.size, .int .i64 h.idx, .int .i64 h.ep, .int .i64 h.ct, .slice A0 BL.length c0] rfl HZS.out ?_) | (refine wpList_storeS rfl (.tmp 2) _ rfl (w.heap.size + 1) #[.int .u8 h.s0, .int .u8 h.s1, .int .u8 h.s2, .int .u8 h.s3, .int .u8 h.s4, .int .u8 h.s5, .int .u8 h.s6, .int .u8 h.s7, .int .i64 h.K, .int .i64 h.M, .int .i64 h.B, .string h.key, .int .i64 h.size, .int .i64 h.idx, .int .i64 h.ep, .int .i64 h.ct, .slice A0 BL.length c0] rfl rfl rfl #[.int .u8 0, .int .u8 0, .int .u8 0, .int .u8 0, .int .u8 0, .int .u8 0, .int .u8 0, .int .u8 0, .int .i64 0, .int .i64 0, .int .i64 0, .string ⟨#[]⟩, .int .i64 0, .int .i64 0, .int .i64 0, .int .i64 0, .slice none 0 0] rfl HZR.out rfl ?_; intro w9 h9 g9 z9))
    have HB9 := Lib.hid (Below.trans_row HF.out g9 (by omega) HF.out.size)
    exact ret_cellS Try.results36 rfl rfl rfl h9 ⟨_, _, _, by rw [hd.out]; rfl, fun e => absurd e H0.out, HB9.out⟩
end Go.Proofs.Ytbioanbokbhmgaa
