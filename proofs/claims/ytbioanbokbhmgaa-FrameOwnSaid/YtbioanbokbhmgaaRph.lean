/- ParseHead of the document: the walk. Conditions: bytes. -/
import Derived.Test.YtbioanbokbhmgaaOpnD
import Derived.Test.YtbioanbokbhmgaaRefC
import Derived.Test.YtbioanbokbhmgaaFactG
namespace Go.Proofs.Ytbioanbokbhmgaa
open Go.RowKit

theorem rph_bad {w w' : World} {b : List Nat} {n : Int} (h : headE b = n) (hn : n ≠ 0) (hb : Below w.heap.size w w') : RphPost w b (.returned (.tuple #[HdV zeroHd, .int .i64 n])) w' := by
  have h0 : ¬ headE b = 0 := by rw [h]; exact hn
  refine ⟨?_, hb⟩
  unfold rdH
  rw [if_neg h0, h]
theorem rph_good {w w' : World} {b : List Nat} {h : Hd} (he : headE b = 0) (hd : hdOf b = h) (hb : Below w.heap.size w w') : RphPost w b (.returned (.tuple #[HdV h, .int .i64 0])) w' := by
  refine ⟨?_, hb⟩
  unfold rdH
  rw [if_pos he, he, hd]
theorem sl_rl0 {w : World} {bk bo n : Nat} {b : List Nat} (h : RL w (some ⟨bk, bo, none⟩) b) (hn : n ≤ b.length) : RL w (some ⟨bk, bo, none⟩) (sl b 0 n) := sl_rl (p := 0) h (by omega)
theorem bne_dec (a b : Nat) : ((a : Int) != (b : Int)) = decide (¬ a = b) := by
  rw [Bool.eq_iff_iff, bne_iff_ne, decide_eq_true_iff]
  omega
/-- The head under way: k of the eight bytes are laid. -/
def gcs (b : List Nat) (k : Nat) : Array Value := #[.int .u8 ((if 0 < k then b.getD 4 0 else 0 : Nat) : Int), .int .u8 ((if 1 < k then b.getD 5 0 else 0 : Nat) : Int), .int .u8 ((if 2 < k then b.getD 6 0 else 0 : Nat) : Int), .int .u8 ((if 3 < k then b.getD 7 0 else 0 : Nat) : Int), .int .u8 ((if 4 < k then b.getD 8 0 else 0 : Nat) : Int), .int .u8 ((if 5 < k then b.getD 9 0 else 0 : Nat) : Int), .int .u8 ((if 6 < k then b.getD 10 0 else 0 : Nat) : Int), .int .u8 ((if 7 < k then b.getD 11 0 else 0 : Nat) : Int), .int .i64 0, .int .i64 0, .int .i64 0, .string ⟨#[]⟩, .int .i64 0, .int .i64 0, .int .i64 0, .int .i64 0]
theorem gcs_step (b : List Nat) (k : Nat) (hk : k < 8) : (gcs b k).setIfInBounds k (.int .u8 ((b.getD (4 + k) 0 : Nat) : Int)) = gcs b (k + 1) := by
  have h8 : k = 0 ∨ k = 1 ∨ k = 2 ∨ k = 3 ∨ k = 4 ∨ k = 5 ∨ k = 6 ∨ k = 7 := by omega
  rcases h8 with rfl | rfl | rfl | rfl | rfl | rfl | rfl | rfl <;> rfl
theorem gcs_cell (b : List Nat) (k : Nat) (hk : k < 8) : (gcs b k)[k]? = some (.int .u8 0) := by
  have h8 : k = 0 ∨ k = 1 ∨ k = 2 ∨ k = 3 ∨ k = 4 ∨ k = 5 ∨ k = 6 ∨ k = 7 := by omega
  rcases h8 with rfl | rfl | rfl | rfl | rfl | rfl | rfl | rfl <;> rfl
set_option maxRecDepth 100000 in
set_option maxHeartbeats 8000000 in
theorem rph_any (A : Option Addr) (c : Nat) (b : List Nat) (w : World) (hx : ∀ x ∈ b, x < 256) (hbl : b.length ≤ 140737488351232) (hbc : b.length ≤ c) (_hc : c ≤ maxLen) (hA : RL w A b) :
    Calls Try.prog 26 #[.slice A b.length c] w (RphPost w b) := by
  have HX := Lib.hid hx
  clear hx
  have HF := Lib.hid (((Below.refl w.heap.size w).alloc (Nat.le_refl _) (.cells #[.int .u8 0, .int .u8 0, .int .u8 0, .int .u8 0, .int .u8 0, .int .u8 0, .int .u8 0, .int .u8 0, .int .i64 0, .int .i64 0, .int .i64 0, .string ⟨#[]⟩, .int .i64 0, .int .i64 0, .int .i64 0, .int .i64 0] 28)).alloc (by simp) (.cells #[.int .u8 0, .int .u8 0, .int .u8 0, .int .u8 0, .int .u8 0, .int .u8 0, .int .u8 0, .int .u8 0, .int .i64 0, .int .i64 0, .int .i64 0, .string ⟨#[]⟩, .int .i64 0, .int .i64 0, .int .i64 0, .int .i64 0] 28))
  have HZ4 := Lib.hid (show ((w.alloc (.cells #[.int .u8 0, .int .u8 0, .int .u8 0, .int .u8 0, .int .u8 0, .int .u8 0, .int .u8 0, .int .u8 0, .int .i64 0, .int .i64 0, .int .i64 0, .string ⟨#[]⟩, .int .i64 0, .int .i64 0, .int .i64 0, .int .i64 0] 28)).alloc (.cells #[.int .u8 0, .int .u8 0, .int .u8 0, .int .u8 0, .int .u8 0, .int .u8 0, .int .u8 0, .int .u8 0, .int .i64 0, .int .i64 0, .int .i64 0, .string ⟨#[]⟩, .int .i64 0, .int .i64 0, .int .i64 0, .int .i64 0] 28)).heap[w.heap.size + 1]? = some (.cells #[.int .u8 0, .int .u8 0, .int .u8 0, .int .u8 0, .int .u8 0, .int .u8 0, .int .u8 0, .int .u8 0, .int .i64 0, .int .i64 0, .int .i64 0, .string ⟨#[]⟩, .int .i64 0, .int .i64 0, .int .i64 0, .int .i64 0] 28 (0, 0)) by simpa using heap_alloc_new (w.alloc (.cells #[.int .u8 0, .int .u8 0, .int .u8 0, .int .u8 0, .int .u8 0, .int .u8 0, .int .u8 0, .int .u8 0, .int .i64 0, .int .i64 0, .int .i64 0, .string ⟨#[]⟩, .int .i64 0, .int .i64 0, .int .i64 0, .int .i64 0] 28)) (.cells #[.int .u8 0, .int .u8 0, .int .u8 0, .int .u8 0, .int .u8 0, .int .u8 0, .int .u8 0, .int .u8 0, .int .i64 0, .int .i64 0, .int .i64 0, .string ⟨#[]⟩, .int .i64 0, .int .i64 0, .int .i64 0, .int .i64 0] 28))
  have HZ2 := Lib.hid (show ((w.alloc (.cells #[.int .u8 0, .int .u8 0, .int .u8 0, .int .u8 0, .int .u8 0, .int .u8 0, .int .u8 0, .int .u8 0, .int .i64 0, .int .i64 0, .int .i64 0, .string ⟨#[]⟩, .int .i64 0, .int .i64 0, .int .i64 0, .int .i64 0] 28)).alloc (.cells #[.int .u8 0, .int .u8 0, .int .u8 0, .int .u8 0, .int .u8 0, .int .u8 0, .int .u8 0, .int .u8 0, .int .i64 0, .int .i64 0, .int .i64 0, .string ⟨#[]⟩, .int .i64 0, .int .i64 0, .int .i64 0, .int .i64 0] 28)).heap[w.heap.size]? = some (.cells #[.int .u8 0, .int .u8 0, .int .u8 0, .int .u8 0, .int .u8 0, .int .u8 0, .int .u8 0, .int .u8 0, .int .i64 0, .int .i64 0, .int .i64 0, .string ⟨#[]⟩, .int .i64 0, .int .i64 0, .int .i64 0, .int .i64 0] 28 (0, 0)) from (((Below.refl _ _).alloc (Nat.le_refl _) _).block _ (by simp)).trans (heap_alloc_new w _))
  by_cases h36 : b.length < 36
  · have HE := Lib.hid (show headE b = 70 by unfold headE; rw [if_pos h36])
    have t36 : (b.length : Int) < 36 := by omega
    go_enter Try.func26, Try.ntmps26
    go_wp2_with (first | (refine wpList_loadH rfl (.tmp 4) rfl (w.heap.size + 1) rfl #[.int .u8 0, .int .u8 0, .int .u8 0, .int .u8 0, .int .u8 0, .int .u8 0, .int .u8 0, .int .u8 0, .int .i64 0, .int .i64 0, .int .i64 0, .string ⟨#[]⟩, .int .i64 0, .int .i64 0, .int .i64 0, .int .i64 0] rfl HZ4.out ?_) | (refine wpList_storeH rfl (.tmp 2) _ rfl w.heap.size #[.int .u8 0, .int .u8 0, .int .u8 0, .int .u8 0, .int .u8 0, .int .u8 0, .int .u8 0, .int .u8 0, .int .i64 0, .int .i64 0, .int .i64 0, .string ⟨#[]⟩, .int .i64 0, .int .i64 0, .int .i64 0, .int .i64 0] rfl rfl rfl #[.int .u8 0, .int .u8 0, .int .u8 0, .int .u8 0, .int .u8 0, .int .u8 0, .int .u8 0, .int .u8 0, .int .i64 0, .int .i64 0, .int .i64 0, .string ⟨#[]⟩, .int .i64 0, .int .i64 0, .int .i64 0, .int .i64 0] rfl HZ2.out rfl ?_; intro w9 h9 g9 z9))
    exact ret_cellH Try.results26 rfl rfl rfl h9 (rph_bad HE.out (by decide) (Below.trans_row HF.out g9 (Nat.le_refl _) (Nat.le_of_lt (Array.getElem?_eq_some_iff.1 HZ2.out).1)))
  · obtain ⟨bk, bo, rfl, hbk, hc0⟩ := hA 0 (by omega)
    have HA := Lib.hid hA
    have HC : Hid (∀ i, i < b.length → ∀ w', Below w.heap.size w w' → w'.cell? ⟨bk, bo + i, none⟩ = some (.int .u8 ((b.getD i 0 : Nat) : Int))) := Lib.hid fun i hi w' hb => by
      obtain ⟨b', o', e, hb', hcc⟩ := HA.out i hi
      injection e with e
      injection e with e1 e2
      subst e1 e2
      exact (hb.cell hb').trans hcc
    clear hA hc0
    have E4 := Lib.hid (show b.take 4 = [b.getD 0 0, b.getD 1 0, b.getD 2 0, b.getD 3 0] from take_four (by omega))
    have m0 := HC.out 0 (by omega) _ HF.out
    have m1 := HC.out 1 (by omega) _ HF.out
    have m2 := HC.out 2 (by omega) _ HF.out
    have m3 := HC.out 3 (by omega) _ HF.out
    rw [Nat.add_zero] at m0
    have t36 : ¬ (b.length : Int) < 36 := by omega
    generalize b.getD 0 0 = x0 at *
    generalize b.getD 1 0 = x1 at *
    generalize b.getD 2 0 = x2 at *
    generalize b.getD 3 0 = x3 at *
    by_cases h0m : x0 = 67
    rotate_left
    · have t0 : ((x0 : Int) != 67) = true := by rw [bne_iff_ne]; omega
      have HE := Lib.hid (show headE b = 80 by unfold headE; rw [if_neg h36, E4.out, if_pos (by intro e; simp at e; omega)])
      go_enter Try.func26, Try.ntmps26
      go_wp2_with (first | (refine wpList_loadH rfl (.tmp 4) rfl (w.heap.size + 1) rfl #[.int .u8 0, .int .u8 0, .int .u8 0, .int .u8 0, .int .u8 0, .int .u8 0, .int .u8 0, .int .u8 0, .int .i64 0, .int .i64 0, .int .i64 0, .string ⟨#[]⟩, .int .i64 0, .int .i64 0, .int .i64 0, .int .i64 0] rfl HZ4.out ?_) | (refine wpList_storeH rfl (.tmp 2) _ rfl w.heap.size #[.int .u8 0, .int .u8 0, .int .u8 0, .int .u8 0, .int .u8 0, .int .u8 0, .int .u8 0, .int .u8 0, .int .i64 0, .int .i64 0, .int .i64 0, .string ⟨#[]⟩, .int .i64 0, .int .i64 0, .int .i64 0, .int .i64 0] rfl rfl rfl #[.int .u8 0, .int .u8 0, .int .u8 0, .int .u8 0, .int .u8 0, .int .u8 0, .int .u8 0, .int .u8 0, .int .i64 0, .int .i64 0, .int .i64 0, .string ⟨#[]⟩, .int .i64 0, .int .i64 0, .int .i64 0, .int .i64 0] rfl HZ2.out rfl ?_; intro w9 h9 g9 z9))
      exact ret_cellH Try.results26 rfl rfl rfl h9 (rph_bad HE.out (by decide) (Below.trans_row HF.out g9 (Nat.le_refl _) (Nat.le_of_lt (Array.getElem?_eq_some_iff.1 HZ2.out).1)))
    subst h0m
    by_cases h1m : x1 = 82
    rotate_left
    · have t1 : ((x1 : Int) != 82) = true := by rw [bne_iff_ne]; omega
      have HE := Lib.hid (show headE b = 80 by unfold headE; rw [if_neg h36, E4.out, if_pos (by intro e; simp at e; omega)])
      go_enter Try.func26, Try.ntmps26
      go_wp2_with (first | (refine wpList_loadH rfl (.tmp 4) rfl (w.heap.size + 1) rfl #[.int .u8 0, .int .u8 0, .int .u8 0, .int .u8 0, .int .u8 0, .int .u8 0, .int .u8 0, .int .u8 0, .int .i64 0, .int .i64 0, .int .i64 0, .string ⟨#[]⟩, .int .i64 0, .int .i64 0, .int .i64 0, .int .i64 0] rfl HZ4.out ?_) | (refine wpList_storeH rfl (.tmp 2) _ rfl w.heap.size #[.int .u8 0, .int .u8 0, .int .u8 0, .int .u8 0, .int .u8 0, .int .u8 0, .int .u8 0, .int .u8 0, .int .i64 0, .int .i64 0, .int .i64 0, .string ⟨#[]⟩, .int .i64 0, .int .i64 0, .int .i64 0, .int .i64 0] rfl rfl rfl #[.int .u8 0, .int .u8 0, .int .u8 0, .int .u8 0, .int .u8 0, .int .u8 0, .int .u8 0, .int .u8 0, .int .i64 0, .int .i64 0, .int .i64 0, .string ⟨#[]⟩, .int .i64 0, .int .i64 0, .int .i64 0, .int .i64 0] rfl HZ2.out rfl ?_; intro w9 h9 g9 z9))
      exact ret_cellH Try.results26 rfl rfl rfl h9 (rph_bad HE.out (by decide) (Below.trans_row HF.out g9 (Nat.le_refl _) (Nat.le_of_lt (Array.getElem?_eq_some_iff.1 HZ2.out).1)))
    subst h1m
    by_cases h2m : x2 = 78
    rotate_left
    · have t2 : ((x2 : Int) != 78) = true := by rw [bne_iff_ne]; omega
      have HE := Lib.hid (show headE b = 80 by unfold headE; rw [if_neg h36, E4.out, if_pos (by intro e; simp at e; omega)])
      go_enter Try.func26, Try.ntmps26
      go_wp2_with (first | (refine wpList_loadH rfl (.tmp 4) rfl (w.heap.size + 1) rfl #[.int .u8 0, .int .u8 0, .int .u8 0, .int .u8 0, .int .u8 0, .int .u8 0, .int .u8 0, .int .u8 0, .int .i64 0, .int .i64 0, .int .i64 0, .string ⟨#[]⟩, .int .i64 0, .int .i64 0, .int .i64 0, .int .i64 0] rfl HZ4.out ?_) | (refine wpList_storeH rfl (.tmp 2) _ rfl w.heap.size #[.int .u8 0, .int .u8 0, .int .u8 0, .int .u8 0, .int .u8 0, .int .u8 0, .int .u8 0, .int .u8 0, .int .i64 0, .int .i64 0, .int .i64 0, .string ⟨#[]⟩, .int .i64 0, .int .i64 0, .int .i64 0, .int .i64 0] rfl rfl rfl #[.int .u8 0, .int .u8 0, .int .u8 0, .int .u8 0, .int .u8 0, .int .u8 0, .int .u8 0, .int .u8 0, .int .i64 0, .int .i64 0, .int .i64 0, .string ⟨#[]⟩, .int .i64 0, .int .i64 0, .int .i64 0, .int .i64 0] rfl HZ2.out rfl ?_; intro w9 h9 g9 z9))
      exact ret_cellH Try.results26 rfl rfl rfl h9 (rph_bad HE.out (by decide) (Below.trans_row HF.out g9 (Nat.le_refl _) (Nat.le_of_lt (Array.getElem?_eq_some_iff.1 HZ2.out).1)))
    subst h2m
    by_cases h3m : x3 = 2
    rotate_left
    · have t3 : ((x3 : Int) != 2) = true := by rw [bne_iff_ne]; omega
      have HE := Lib.hid (show headE b = 80 by unfold headE; rw [if_neg h36, E4.out, if_pos (by intro e; simp at e; omega)])
      go_enter Try.func26, Try.ntmps26
      go_wp2_with (first | (refine wpList_loadH rfl (.tmp 4) rfl (w.heap.size + 1) rfl #[.int .u8 0, .int .u8 0, .int .u8 0, .int .u8 0, .int .u8 0, .int .u8 0, .int .u8 0, .int .u8 0, .int .i64 0, .int .i64 0, .int .i64 0, .string ⟨#[]⟩, .int .i64 0, .int .i64 0, .int .i64 0, .int .i64 0] rfl HZ4.out ?_) | (refine wpList_storeH rfl (.tmp 2) _ rfl w.heap.size #[.int .u8 0, .int .u8 0, .int .u8 0, .int .u8 0, .int .u8 0, .int .u8 0, .int .u8 0, .int .u8 0, .int .i64 0, .int .i64 0, .int .i64 0, .string ⟨#[]⟩, .int .i64 0, .int .i64 0, .int .i64 0, .int .i64 0] rfl rfl rfl #[.int .u8 0, .int .u8 0, .int .u8 0, .int .u8 0, .int .u8 0, .int .u8 0, .int .u8 0, .int .u8 0, .int .i64 0, .int .i64 0, .int .i64 0, .string ⟨#[]⟩, .int .i64 0, .int .i64 0, .int .i64 0, .int .i64 0] rfl HZ2.out rfl ?_; intro w9 h9 g9 z9))
      exact ret_cellH Try.results26 rfl rfl rfl h9 (rph_bad HE.out (by decide) (Below.trans_row HF.out g9 (Nat.le_refl _) (Nat.le_of_lt (Array.getElem?_eq_some_iff.1 HZ2.out).1)))
    subst h3m
    have HMK : Hid (b.take 4 = [67, 82, 78, 2]) := E4
    have HRL := Lib.hid (fun (w' : World) (h : Below w.heap.size w w') => HA.out.below h)
    have HNUM := Lib.hid (fun (p n : Nat) (w' : World) (h1 : n ≤ 4) (h2 : p + n ≤ b.length) (h : Below w.heap.size w w') => number_any (some ⟨bk, bo, none⟩) c b p n w' HX.out h1 h2 (by omega) (HA.out.below h))
    obtain ⟨n1, hn1⟩ : ∃ n, n = num b 32 4 := ⟨_, rfl⟩
    obtain ⟨s1, hs1⟩ : ∃ n, n = crc (sl b 0 32) := ⟨_, rfl⟩
    have HN1 := Lib.hid hn1
    have HS1 := Lib.hid hs1
    clear hn1 hs1
    have c32 : (32 : Int) ≤ (c : Int) := by omega
    go_enter Try.func26, Try.ntmps26
    go_wp2_with fail
    clear m0 m1 m2 m3
    obtain ⟨wA, hwA⟩ : ∃ wA, wA = ((w.alloc (.cells #[.int .u8 0, .int .u8 0, .int .u8 0, .int .u8 0, .int .u8 0, .int .u8 0, .int .u8 0, .int .u8 0, .int .i64 0, .int .i64 0, .int .i64 0, .string ⟨#[]⟩, .int .i64 0, .int .i64 0, .int .i64 0, .int .i64 0] 28)).alloc (.cells #[.int .u8 0, .int .u8 0, .int .u8 0, .int .u8 0, .int .u8 0, .int .u8 0, .int .u8 0, .int .u8 0, .int .i64 0, .int .i64 0, .int .i64 0, .string ⟨#[]⟩, .int .i64 0, .int .i64 0, .int .i64 0, .int .i64 0] 28)) := ⟨_, rfl⟩
    rw [← hwA] at HF HZ4 HZ2 ⊢
    have HON := Lib.hid (fun (w' : World) (h : Below wA.heap.size wA w') => HF.out.trans (h.mono HF.out.size))
    have hs4 := (Array.getElem?_eq_some_iff.1 HZ4.out).1
    clear hwA
    refine wp_region_facts [.is (.slice (some ⟨bk, bo, none⟩) b.length c), .is (.int .i64 (n1 : Nat)), .is (.slice (some ⟨bk, bo, none⟩) b.length c), .rl (sl b 0 32), .is (.int .i64 (s1 : Nat)), .is (.bool (decide (¬ n1 = s1)))] mixed (by kernel_rfl) (fun hdr => ⟨?_, ?_, ?_, ?_, ?_, ?_, trivial⟩) (fun wE hbE => ?_)
    · intro a w2 hb hs K hK
      repeat (intro _)
      refine ⟨?_⟩
      have h0 : a.tmps[0]?.getD undef = .slice (some ⟨bk, bo, none⟩) b.length c := hs 0 (by kernel_rfl)
      go_simp
      exact hK.out _ _ (Below.refl _ _) rfl
    · intro a w2 hb hs K hK
      repeat (intro _)
      refine ⟨?_⟩
      have h37 : a.tmps[37]?.getD undef = .slice (some ⟨bk, bo, none⟩) b.length c := by assumption
      go_simp
      refine (HNUM.out 32 4 w2 (by decide) (by omega) (HON.out _ (hdr.out.trans (hb.mono hdr.out.size)))).mono ?_
      rintro e w3 ⟨rfl, rfl⟩
      rw [← HN1.out]
      exact hK.out _ _ (Below.refl _ _) rfl
    · intro a w2 hb hs K hK
      repeat (intro _)
      refine ⟨?_⟩
      have h0 : a.tmps[0]?.getD undef = .slice (some ⟨bk, bo, none⟩) b.length c := hs 0 (by kernel_rfl)
      go_simp
      exact hK.out _ _ (Below.refl _ _) rfl
    · intro a w2 hb hs K hK
      repeat (intro _)
      refine ⟨?_⟩
      have h39 : a.tmps[39]?.getD undef = .slice (some ⟨bk, bo, none⟩) b.length c := by assumption
      go_simp
      exact hK.out _ _ (Below.refl _ _) ⟨_, c, by rw [sl_length (by omega)], sl_rl0 (HRL.out w2 (HON.out _ (hdr.out.trans (hb.mono hdr.out.size)))) (by omega)⟩
    · intro a w2 hb hs K hK
      repeat (intro _)
      refine ⟨?_⟩
      obtain ⟨A40, c40, h40, r40⟩ : IsRL (sl b 0 32) (a.tmps[40]?.getD undef) w2 := by assumption
      go_simp
      refine (rsum_any A40 c40 (sl b 0 32) w2 (fun x hx => HX.out x (sl_mem hx)) (by rw [sl_length (by omega)]; decide) r40).mono ?_
      rintro e w3 ⟨rfl, rfl⟩
      rw [← HS1.out]
      exact hK.out _ _ (Below.refl _ _) rfl
    · intro a w2 hb hs K hK
      repeat (intro _)
      refine ⟨?_⟩
      have h38 : a.tmps[38]?.getD undef = .int .i64 (n1 : Nat) := by assumption
      have h41 : a.tmps[41]?.getD undef = .int .i64 (s1 : Nat) := by assumption
      go_simp
      exact hK.out _ _ (Below.refl _ _) (congrArg Value.bool (by first | rfl | exact bne_dec _ _ | simp))
    intro v0 f0 v1 f1 v2 f2 v3 f3 v4 f4 v5 f5
    refine NoPanic.normal ?_
    simp only [Act.put, List.setIfInBounds_toArray, List.set_cons_zero, List.set_cons_succ]

    obtain rfl : v5 = .bool (decide (¬ n1 = s1)) := f5
    clear f0 f1 f2 f3 f4
    have HZ4 := Lib.hid ((hbE.block _ hs4).trans HZ4.out)
    have HZ2 := Lib.hid ((hbE.block _ (by omega)).trans HZ2.out)
    have HF := Lib.hid (HON.out _ hbE)
    have hs4 : w.heap.size + 1 < wE.heap.size := Nat.lt_of_lt_of_le hs4 hbE.size
    have HTS := Lib.hid (take_sl b 32)
    clear HON hbE
    by_cases h82 : n1 = s1
    rotate_left
    · have t82 : (decide (¬ n1 = s1)) = true := decide_eq_true h82
      have HE := Lib.hid (show headE b = 82 by unfold headE; rw [if_neg h36, if_neg (not_not_intro HMK.out), if_pos (by rw [← HN1.out, HTS.out, ← HS1.out]; exact h82)])
      rw [t82]
      go_wp2_with (first | (refine wpList_loadH rfl (.tmp 4) rfl (w.heap.size + 1) rfl #[.int .u8 0, .int .u8 0, .int .u8 0, .int .u8 0, .int .u8 0, .int .u8 0, .int .u8 0, .int .u8 0, .int .i64 0, .int .i64 0, .int .i64 0, .string ⟨#[]⟩, .int .i64 0, .int .i64 0, .int .i64 0, .int .i64 0] rfl HZ4.out ?_) | (refine wpList_storeH rfl (.tmp 2) _ rfl w.heap.size #[.int .u8 0, .int .u8 0, .int .u8 0, .int .u8 0, .int .u8 0, .int .u8 0, .int .u8 0, .int .u8 0, .int .i64 0, .int .i64 0, .int .i64 0, .string ⟨#[]⟩, .int .i64 0, .int .i64 0, .int .i64 0, .int .i64 0] rfl rfl rfl #[.int .u8 0, .int .u8 0, .int .u8 0, .int .u8 0, .int .u8 0, .int .u8 0, .int .u8 0, .int .u8 0, .int .i64 0, .int .i64 0, .int .i64 0, .string ⟨#[]⟩, .int .i64 0, .int .i64 0, .int .i64 0, .int .i64 0] rfl HZ2.out rfl ?_; intro w9 h9 g9 z9))
      exact ret_cellH Try.results26 rfl rfl rfl h9 (rph_bad HE.out (by decide) (Below.trans_row HF.out g9 (Nat.le_refl _) (Nat.le_of_lt (Array.getElem?_eq_some_iff.1 HZ2.out).1)))
    have t82 : (decide (¬ n1 = s1)) = false := decide_eq_false (not_not_intro h82)
    rw [t82]
    have H82 := Lib.hid h82
    clear t82 h82
    obtain ⟨nN, hnN⟩ : ∃ n, n = b.getD 31 0 := ⟨_, rfl⟩
    have hnl : nN < 256 := by rw [hnN]; exact getD_256 HX.out 31
    have hc31 := HC.out 31 (by omega) _ HF.out
    rw [← hnN] at hc31
    have HNN := Lib.hid hnN
    have hw1 : IntKind.i64.wrap (nN : Int) = (nN : Int) := by rw [IntKind.wrap_i64]; omega
    have hw40 : IntKind.i64.wrap ((40 : Int) + (nN : Int)) = 40 + (nN : Int) := by rw [IntKind.wrap_i64]; omega
    have hw36 : IntKind.i64.wrap ((36 : Int) + (nN : Int)) = 36 + (nN : Int) := by rw [IntKind.wrap_i64]; omega
    have b31 : (31 : Int) < (b.length : Int) := by omega
    clear hnN
    by_cases h70 : b.length < 40 + nN
    · have t70 : (b.length : Int) < 40 + (nN : Int) := by omega
      have HE := Lib.hid (show headE b = 70 by unfold headE; rw [if_neg h36, if_neg (not_not_intro HMK.out), if_neg (not_not_intro (by rw [← HN1.out, HTS.out, ← HS1.out]; exact H82.out)), if_pos (by rw [← HNN.out]; exact h70)])
      go_wp2_with (first | (refine wpList_loadH rfl (.tmp 4) rfl (w.heap.size + 1) rfl #[.int .u8 0, .int .u8 0, .int .u8 0, .int .u8 0, .int .u8 0, .int .u8 0, .int .u8 0, .int .u8 0, .int .i64 0, .int .i64 0, .int .i64 0, .string ⟨#[]⟩, .int .i64 0, .int .i64 0, .int .i64 0, .int .i64 0] rfl HZ4.out ?_) | (refine wpList_storeH rfl (.tmp 2) _ rfl w.heap.size #[.int .u8 0, .int .u8 0, .int .u8 0, .int .u8 0, .int .u8 0, .int .u8 0, .int .u8 0, .int .u8 0, .int .i64 0, .int .i64 0, .int .i64 0, .string ⟨#[]⟩, .int .i64 0, .int .i64 0, .int .i64 0, .int .i64 0] rfl rfl rfl #[.int .u8 0, .int .u8 0, .int .u8 0, .int .u8 0, .int .u8 0, .int .u8 0, .int .u8 0, .int .u8 0, .int .i64 0, .int .i64 0, .int .i64 0, .string ⟨#[]⟩, .int .i64 0, .int .i64 0, .int .i64 0, .int .i64 0] rfl HZ2.out rfl ?_; intro w9 h9 g9 z9))
      exact ret_cellH Try.results26 rfl rfl rfl h9 (rph_bad HE.out (by decide) (Below.trans_row HF.out g9 (Nat.le_refl _) (Nat.le_of_lt (Array.getElem?_eq_some_iff.1 HZ2.out).1)))
    have t70 : ¬ (b.length : Int) < 40 + (nN : Int) := by omega
    obtain ⟨pre, hpre⟩ : ∃ pre, pre = sl b 0 32 ++ sl b 36 nN := ⟨_, rfl⟩
    have HPRE := Lib.hid (show ([sl b 0 32, sl b 36 nN] : List (List Nat)).flatten = pre by rw [hpre]; simp)
    have HPX : Hid (∀ x ∈ pre, x < 256) := Lib.hid fun x hx => by
      rw [hpre] at hx
      rcases List.mem_append.1 hx with h | h
      · exact HX.out x (sl_mem h)
      · exact HX.out x (sl_mem h)
    have hpl : pre.length ≤ 287 := by rw [hpre, List.length_append, sl_length (by omega), sl_length (by omega)]; omega
    obtain ⟨n2, hn2⟩ : ∃ n, n = num b (36 + nN) 4 := ⟨_, rfl⟩
    obtain ⟨s2, hs2⟩ : ∃ n, n = crc pre := ⟨_, rfl⟩
    have HN2 := Lib.hid hn2
    have HS2 := Lib.hid (hs2)
    have HPR := Lib.hid (show pre = b.take 32 ++ keyL b by rw [hpre, HTS.out]; unfold keyL; rw [← HNN.out])
    clear hn2 hs2 hpre
    have k1 : (36 : Int) ≤ 36 + (nN : Int) := by omega
    have k2 : (36 : Int) + (nN : Int) ≤ (c : Int) := by omega
    have k3 : ¬ c = 36 := by omega
    have HON := Lib.hid (fun (w' : World) (h : Below wE.heap.size wE w') => HF.out.trans (h.mono HF.out.size))
    go_wp2_with fail
    clear hc31 hw1 hw40 k1 k2 k3 t70
    obtain ⟨wG, hwG⟩ : ∃ wG, wG = wE := ⟨_, rfl⟩
    rw [← hwG] at HF HZ4 HZ2 hs4 HON ⊢
    clear hwG
    refine wp_region_facts [.is (.slice (some ⟨bk, bo, none⟩) b.length c), .is (.int .i64 (nN : Nat)), .is (.int .i64 ((36 + nN : Nat) : Int)), .is (.int .i64 (n2 : Nat)), .is (.slice (some ⟨bk, bo, none⟩) b.length c), .rl (sl b 0 32), .rl (sl b 36 nN), .rll [sl b 0 32, sl b 36 nN], .rl pre, .is (.int .i64 (s2 : Nat)), .is (.bool (decide (¬ n2 = s2)))] mixed (by kernel_rfl) (fun hdr => ⟨?_, ?_, ?_, ?_, ?_, ?_, ?_, ?_, ?_, ?_, ?_, trivial⟩) (fun wE hbE => ?_)
    · intro a w2 hb hs K hK
      repeat (intro _)
      refine ⟨?_⟩
      have h0 : a.tmps[0]?.getD undef = .slice (some ⟨bk, bo, none⟩) b.length c := hs 0 (by kernel_rfl)
      go_simp
      exact hK.out _ _ (Below.refl _ _) rfl
    · intro a w2 hb hs K hK
      repeat (intro _)
      refine ⟨?_⟩
      have h5 : a.tmps[5]?.getD undef = .int .i64 (nN : Nat) := hs 5 (by kernel_rfl)
      go_simp
      exact hK.out _ _ (Below.refl _ _) rfl
    · intro a w2 hb hs K hK
      repeat (intro _)
      refine ⟨?_⟩
      have h59 : a.tmps[59]?.getD undef = .int .i64 (nN : Nat) := by assumption
      go_simp
      exact hK.out _ _ (Below.refl _ _) (congrArg (Value.int .i64) (by omega))
    · intro a w2 hb hs K hK
      repeat (intro _)
      refine ⟨?_⟩
      have h58 : a.tmps[58]?.getD undef = .slice (some ⟨bk, bo, none⟩) b.length c := by assumption
      have h60 : a.tmps[60]?.getD undef = .int .i64 ((36 + nN : Nat) : Int) := by assumption
      go_simp
      refine (HNUM.out (36 + nN) 4 w2 (by decide) (by omega) (HON.out _ (hdr.out.trans (hb.mono hdr.out.size)))).mono ?_
      rintro e w3 ⟨rfl, rfl⟩
      rw [← HN2.out]
      exact hK.out _ _ (Below.refl _ _) rfl
    · intro a w2 hb hs K hK
      repeat (intro _)
      refine ⟨?_⟩
      have h0 : a.tmps[0]?.getD undef = .slice (some ⟨bk, bo, none⟩) b.length c := hs 0 (by kernel_rfl)
      go_simp
      exact hK.out _ _ (Below.refl _ _) rfl
    · intro a w2 hb hs K hK
      repeat (intro _)
      refine ⟨?_⟩
      have h62 : a.tmps[62]?.getD undef = .slice (some ⟨bk, bo, none⟩) b.length c := by assumption
      go_simp
      exact hK.out _ _ (Below.refl _ _) ⟨_, c, by rw [sl_length (by omega)], sl_rl0 (HRL.out w2 (HON.out _ (hdr.out.trans (hb.mono hdr.out.size)))) (by omega)⟩
    · intro a w2 hb hs K hK
      repeat (intro _)
      refine ⟨?_⟩
      have h6 : a.tmps[6]?.getD undef = .slice (some ⟨bk, bo + 36, none⟩) nN (c - 36) := hs 6 (by kernel_rfl)
      go_simp
      exact hK.out _ _ (Below.refl _ _) ⟨_, c - 36, by rw [sl_length (by omega)], sl_rl (p := 36) (HRL.out w2 (HON.out _ (hdr.out.trans (hb.mono hdr.out.size)))) (by omega)⟩
    · intro a w2 hb hs K hK
      repeat (intro _)
      refine ⟨?_⟩
      obtain ⟨A63, c63, h63, r63⟩ : IsRL (sl b 0 32) (a.tmps[63]?.getD undef) w2 := by assumption
      obtain ⟨A64, c64, h64, r64⟩ : IsRL (sl b 36 nN) (a.tmps[64]?.getD undef) w2 := by assumption
      go_simp
      exact hK.out _ _ ((Below.refl _ _).alloc (Nat.le_refl _) _) (isRLL_new (LL := [sl b 0 32, sl b 36 nN]) ⟨⟨_, _, rfl, r63⟩, ⟨_, _, rfl, r64⟩, trivial⟩ rfl)
    · intro a w2 hb hs K hK
      repeat (intro _)
      refine ⟨?_⟩
      obtain ⟨A65, c65, h65, r65⟩ : IsRLL ([sl b 0 32, sl b 36 nN]) (a.tmps[65]?.getD undef) w2 := by assumption
      go_simp
      refine (join_any A65 c65 ([sl b 0 32, sl b 36 nN]) w2 (by simp) (by rw [HPRE.out]; omega) r65).mono ?_
      rintro e w3 ⟨o, rfl, hO, hb3⟩
      rw [HPRE.out] at hO
      exact hK.out _ _ hb3 hO.isRL
    · intro a w2 hb hs K hK
      repeat (intro _)
      refine ⟨?_⟩
      obtain ⟨A66, c66, h66, r66⟩ : IsRL (pre) (a.tmps[66]?.getD undef) w2 := by assumption
      go_simp
      refine (rsum_any A66 c66 pre w2 HPX.out (by omega) r66).mono ?_
      rintro e w3 ⟨rfl, rfl⟩
      rw [← HS2.out]
      exact hK.out _ _ (Below.refl _ _) rfl
    · intro a w2 hb hs K hK
      repeat (intro _)
      refine ⟨?_⟩
      have h61 : a.tmps[61]?.getD undef = .int .i64 (n2 : Nat) := by assumption
      have h67 : a.tmps[67]?.getD undef = .int .i64 (s2 : Nat) := by assumption
      go_simp
      exact hK.out _ _ (Below.refl _ _) (congrArg Value.bool (by first | rfl | exact bne_dec _ _ | simp))
    intro v0 f0 v1 f1 v2 f2 v3 f3 v4 f4 v5 f5 v6 f6 v7 f7 v8 f8 v9 f9 v10 f10
    refine NoPanic.normal ?_
    simp only [Act.put, List.setIfInBounds_toArray, List.set_cons_zero, List.set_cons_succ]

    obtain rfl : v10 = .bool (decide (¬ n2 = s2)) := f10
    clear f0 f1 f2 f3 f4 f5 f6 f7 f8 f9 hw36 c32
    have HZ4 := Lib.hid ((hbE.block _ hs4).trans HZ4.out)
    have HZ2 := Lib.hid ((hbE.block _ (by omega)).trans HZ2.out)
    have HF := Lib.hid (HON.out _ hbE)
    have hs4 : w.heap.size + 1 < wE.heap.size := Nat.lt_of_lt_of_le hs4 hbE.size
    clear HON hbE
    by_cases h82 : n2 = s2
    rotate_left
    · have t82 : (decide (¬ n2 = s2)) = true := decide_eq_true h82
      have HE := Lib.hid (show headE b = 82 by unfold headE; rw [if_neg h36, if_neg (not_not_intro HMK.out), if_neg (not_not_intro (by rw [← HN1.out, HTS.out, ← HS1.out]; exact H82.out)), if_neg (by rw [← HNN.out]; exact h70), if_pos (by rw [← HNN.out, ← HN2.out, ← HPR.out, ← HS2.out]; exact h82)])
      rw [t82]
      go_wp2_with (first | (refine wpList_loadH rfl (.tmp 4) rfl (w.heap.size + 1) rfl #[.int .u8 0, .int .u8 0, .int .u8 0, .int .u8 0, .int .u8 0, .int .u8 0, .int .u8 0, .int .u8 0, .int .i64 0, .int .i64 0, .int .i64 0, .string ⟨#[]⟩, .int .i64 0, .int .i64 0, .int .i64 0, .int .i64 0] rfl HZ4.out ?_) | (refine wpList_storeH rfl (.tmp 2) _ rfl w.heap.size #[.int .u8 0, .int .u8 0, .int .u8 0, .int .u8 0, .int .u8 0, .int .u8 0, .int .u8 0, .int .u8 0, .int .i64 0, .int .i64 0, .int .i64 0, .string ⟨#[]⟩, .int .i64 0, .int .i64 0, .int .i64 0, .int .i64 0] rfl rfl rfl #[.int .u8 0, .int .u8 0, .int .u8 0, .int .u8 0, .int .u8 0, .int .u8 0, .int .u8 0, .int .u8 0, .int .i64 0, .int .i64 0, .int .i64 0, .string ⟨#[]⟩, .int .i64 0, .int .i64 0, .int .i64 0, .int .i64 0] rfl HZ2.out rfl ?_; intro w9 h9 g9 z9))
      exact ret_cellH Try.results26 rfl rfl rfl h9 (rph_bad HE.out (by decide) (Below.trans_row HF.out g9 (Nat.le_refl _) (Nat.le_of_lt (Array.getElem?_eq_some_iff.1 HZ2.out).1)))
    have t82 : (decide (¬ n2 = s2)) = false := decide_eq_false (not_not_intro h82)
    rw [t82]
    have H82b := Lib.hid h82
    clear t82 h82
    obtain ⟨w0, hw0⟩ : ∃ w0, w0 = wE := ⟨_, rfl⟩
    rw [← hw0] at HF HZ4 HZ2 hs4 ⊢
    clear hw0
    have HG0 := Lib.hid (show (w0.alloc (.cells #[.int .u8 0, .int .u8 0, .int .u8 0, .int .u8 0, .int .u8 0, .int .u8 0, .int .u8 0, .int .u8 0, .int .i64 0, .int .i64 0, .int .i64 0, .string ⟨#[]⟩, .int .i64 0, .int .i64 0, .int .i64 0, .int .i64 0] 28)).heap[w0.heap.size]? = some (.cells (gcs b 0) 28 (0, 0)) from heap_alloc_new w0 _)
    have HB0 := Lib.hid (show Below w0.heap.size w0 (w0.alloc (.cells #[.int .u8 0, .int .u8 0, .int .u8 0, .int .u8 0, .int .u8 0, .int .u8 0, .int .u8 0, .int .u8 0, .int .i64 0, .int .i64 0, .int .i64 0, .string ⟨#[]⟩, .int .i64 0, .int .i64 0, .int .i64 0, .int .i64 0] 28)) from (Below.refl _ _).alloc (Nat.le_refl _) _)
    have HFF := Lib.hid (fun (w' : World) (h : Below w0.heap.size w0 w') => HF.out.trans (h.mono HF.out.size))
    go_wp2_with fail
    go_loopg [8] 8 (fun gk i wr => ∃ k : Nat, k ≤ 8 ∧ gk = 8 - k ∧ i = .int .i64 k ∧ Below w0.heap.size w0 wr ∧ wr.heap[w0.heap.size]? = some (.cells (gcs b k) 28 (0, 0)))
    case atStart => exact ⟨0, by omega, rfl, rfl, HB0.out, HG0.out⟩
    case round =>
      obtain ⟨k, hk, rfl, rfl, hbr, hgr⟩ := hrel
      have HBR := Lib.hid hbr
      have HGR := Lib.hid hgr
      clear hbr hgr
      by_cases hlt : k < 8
      · have hk8 : (k : Int) < 8 := by omega
        have hkb : 4 + (k : Int) < (b.length : Int) := by omega
        have hcl := HC.out (4 + k) (by omega) _ (HFF.out _ HBR.out)
        have hgc : wr.cell? ⟨w0.heap.size, k, none⟩ = some (.int .u8 0) := by have := HGR.out; rw [World.cell?, this]; exact gcs_cell b k hlt
        have hgf : wr.frozen? ⟨w0.heap.size, k, none⟩ = false := by have := HGR.out; simp [World.frozen?, this]
        have HN := Lib.hid (show (wr.setCell ⟨w0.heap.size, k, none⟩ (.int .u8 ((b.getD (4 + k) 0 : Nat) : Int))).heap[w0.heap.size]? = some (.cells (gcs b (k + 1)) 28 (0, 0)) by rw [← gcs_step b k hlt]; simp [World.setCell, HGR.out, Array.getElem?_modify])
        have HNB := Lib.hid (show Below w0.heap.size w0 (wr.setCell ⟨w0.heap.size, k, none⟩ (.int .u8 ((b.getD (4 + k) 0 : Nat) : Int))) from HBR.out.setCell (Nat.le_refl _) _)
        generalize b.getD (4 + k) 0 = y at *
        go_wp2
        go_roundg (8 - (k + 1))
        case measure => omega
        case rel => exact ⟨k + 1, by omega, rfl, by go_num, HNB.out, HN.out⟩
      · have hk8 : k = 8 := by omega
        subst hk8
        clear hlt HB0 HG0
        have HY := Lib.hid (show wr.heap[w0.heap.size]? = some (.cells #[.int .u8 ((b.getD 4 0 : Nat) : Int), .int .u8 ((b.getD 5 0 : Nat) : Int), .int .u8 ((b.getD 6 0 : Nat) : Int), .int .u8 ((b.getD 7 0 : Nat) : Int), .int .u8 ((b.getD 8 0 : Nat) : Int), .int .u8 ((b.getD 9 0 : Nat) : Int), .int .u8 ((b.getD 10 0 : Nat) : Int), .int .u8 ((b.getD 11 0 : Nat) : Int), .int .i64 0, .int .i64 0, .int .i64 0, .string ⟨#[]⟩, .int .i64 0, .int .i64 0, .int .i64 0, .int .i64 0] 28 (0, 0)) from HGR.out)
        clear HGR
        have hb12 : (12 : Int) < (b.length : Int) := by omega
        have hb13 : (13 : Int) < (b.length : Int) := by omega
        have hb22 : (22 : Int) < (b.length : Int) := by omega
        have hx12 := getD_256 HX.out 12
        have hx13 := getD_256 HX.out 13
        have hx22 := getD_256 HX.out 22
        have KS := Lib.hid (fun (w' : World) (h : Below w.heap.size w w') => (⟨HC.out 12 (by omega) w' h, HC.out 13 (by omega) w' h⟩ : w'.cell? ⟨bk, bo + 12, none⟩ = some (.int .u8 ((b.getD 12 0 : Nat) : Int)) ∧ w'.cell? ⟨bk, bo + 13, none⟩ = some (.int .u8 ((b.getD 13 0 : Nat) : Int))))
        have K22 := Lib.hid (HC.out 22 (by omega))
        have HKX := Lib.hid (show (hdOf b).K = ((b.getD 12 0 : Nat) : Int) from rfl)
        have HMX := Lib.hid (show (hdOf b).M = ((b.getD 13 0 : Nat) : Int) from rfl)
        have HIX := Lib.hid (show (hdOf b).idx = ((b.getD 22 0 : Nat) : Int) from rfl)
        clear t36 HC
        generalize b.getD 12 0 = nK at *
        generalize b.getD 13 0 = nM at *
        generalize b.getD 22 0 = nI at *
        have hwK : IntKind.i64.wrap (nK : Int) = (nK : Int) := by rw [IntKind.wrap_i64]; omega
        have hwM : IntKind.i64.wrap (nM : Int) = (nM : Int) := by rw [IntKind.wrap_i64]; omega
        obtain ⟨w1, hw1⟩ : ∃ w1, w1 = wr := ⟨_, rfl⟩
        rw [← hw1] at HBR HY ⊢
        clear hw1
        have hlt1 := (Array.getElem?_eq_some_iff.1 HY.out).1
        go_wp2_with fail
        refine wp_region_mix [(true, true, false), (true, true, false), (true, true, true), (true, true, false), (true, true, false), (true, true, false), (true, true, true), (true, true, false), (true, true, false), (false, false, false), (false, true, false), (false, true, false), (false, false, true)] mixed (by kernel_rfl) (fun w4 => w4.cell? ⟨bk, bo + 12, none⟩ = some (.int .u8 (nK : Int)) ∧ w4.cell? ⟨bk, bo + 13, none⟩ = some (.int .u8 (nM : Int))) (KS.out _ (HFF.out _ (HBR.out.trans (Below.refl _ _).drew))) ?_
        intro hSw0
        simp only [hdM, tlM, List.cons_append, List.nil_append]
        repeat (first
          | (refine mix_look hSw0.out ?_ (by rfl) (fun w4 hSw => ?_) ?_; rotate_left; (focus (obtain ⟨s1, s2⟩ := hSw; go_simp; try with_reducible rfl)); simp only [Act.put, List.setIfInBounds_toArray, List.set_cons_zero, List.set_cons_succ])
          | (refine mix_pure ?_ (by rfl) (fun w4 => ?_) ?_; rotate_left; (focus (go_simp; try with_reducible rfl)); simp only [Act.put, List.setIfInBounds_toArray, List.set_cons_zero, List.set_cons_succ]))
        refine mix_step (fun K hK => ?_)
        go_simp
        refine (HNUM.out 14 4 _ (by decide) (by omega) (HFF.out _ (HBR.out.trans (Below.refl _ _).drew))).mono ?_
        rintro e w5 ⟨rfl, rfl⟩
        dsimp only
        refine hK.out _ _ (fun _ h => h) ?_
        clear hK K
        try simp only [Act.put, List.setIfInBounds_toArray, List.set_cons_zero, List.set_cons_succ]
        repeat (refine mix_pure ?_ (by rfl) (fun w4 => ?_) ?_; rotate_left; (focus (go_simp; try with_reducible rfl)); simp only [Act.put, List.setIfInBounds_toArray, List.set_cons_zero, List.set_cons_succ])
        obtain ⟨nB, hnB⟩ : ∃ n, n = num b 14 4 := ⟨_, rfl⟩
        rw [← hnB]
        have HNB := Lib.hid hnB
        clear hnB
        refine mix_list (fun K hK => ?_)
        refine wpList_storePart rfl 24 _ _ rfl w0.heap.size 8 #[.int .i64 (nK : Int), .int .i64 (nM : Int), .int .i64 (nB : Int)] rfl rfl (by kernel_rfl) 28 #[.int .u8 ((b.getD 4 0 : Nat) : Int), .int .u8 ((b.getD 5 0 : Nat) : Int), .int .u8 ((b.getD 6 0 : Nat) : Int), .int .u8 ((b.getD 7 0 : Nat) : Int), .int .u8 ((b.getD 8 0 : Nat) : Int), .int .u8 ((b.getD 9 0 : Nat) : Int), .int .u8 ((b.getD 10 0 : Nat) : Int), .int .u8 ((b.getD 11 0 : Nat) : Int), .int .i64 0, .int .i64 0, .int .i64 0, .string ⟨#[]⟩, .int .i64 0, .int .i64 0, .int .i64 0, .int .i64 0] (show 11 ≤ 16 by decide) (show w1.drew.heap[w0.heap.size]? = _ from HY.out) rfl ?_
        intro w5 h5 g5 z5
        refine hK.out _ _ (fun h => absurd h (by decide)) ?_
        clear hK K
        try simp only [Act.put]
        refine mix_nil ?_
        have HB5 := Lib.hid (Below.trans_row (HBR.out.trans (Below.refl _ _).drew) g5 (Nat.le_refl _) (Nat.le_of_lt hlt1))
        have HY5 := Lib.hid (show w5.heap[w0.heap.size]? = some (.cells #[.int .u8 ((b.getD 4 0 : Nat) : Int), .int .u8 ((b.getD 5 0 : Nat) : Int), .int .u8 ((b.getD 6 0 : Nat) : Int), .int .u8 ((b.getD 7 0 : Nat) : Int), .int .u8 ((b.getD 8 0 : Nat) : Int), .int .u8 ((b.getD 9 0 : Nat) : Int), .int .u8 ((b.getD 10 0 : Nat) : Int), .int .u8 ((b.getD 11 0 : Nat) : Int), .int .i64 (nK : Int), .int .i64 (nM : Int), .int .i64 (nB : Int), .string ⟨#[]⟩, .int .i64 0, .int .i64 0, .int .i64 0, .int .i64 0] 28 (0, 0)) from h5)
        clear h5 g5 z5 hb12 hb13 hwK hwM KS HY HBR
        have hcvf : Rd w5 (some ⟨bk, bo + 36, none⟩) nN (fun i => .int .u8 ((b.getD (36 + i) 0 : Nat) : Int)) := fun i hi => by
          obtain ⟨b', o', e, hb', hcc⟩ := (HRL.out w5 (HFF.out _ HB5.out)) (36 + i) (by omega)
          injection e with e
          injection e with e1 e2
          subst e1 e2
          exact ⟨bk, bo + 36, rfl, hb', by rw [show bo + 36 + i = bo + (36 + i) by omega]; exact hcc⟩
        have hcv := conv_str w5 47 9 5 (some ⟨bk, bo + 36, none⟩) nN (c - 36) (fun i => b.getD (36 + i) 0) Try.underlying47 Try.underlying5 Try.underlying9 (fun i _ => getD_256 HX.out _) hcvf
        clear hcvf
        obtain ⟨ky, hky⟩ : ∃ ky, ky = strN nN fun i => b.getD (36 + i) 0 := ⟨_, rfl⟩
        rw [← hky] at hcv
        have HKY : Hid (ky = (hdOf b).key) := Lib.hid (by rw [hky, HNN.out]; rfl)
        clear hky
        have hcl : w5.cell? ⟨w0.heap.size, 11, none⟩ = some (.string ⟨#[]⟩) := by have := HY5.out; simp [World.cell?, this]
        have hfz : w5.frozen? ⟨w0.heap.size, 11, none⟩ = false := by have := HY5.out; simp [World.frozen?, this]
        have HN6 := Lib.hid (HNUM.out 18 4 (w5.setCell ⟨w0.heap.size, 11, none⟩ (.string ky)) (by decide) (by omega) (HFF.out _ (HB5.out.setCell (Nat.le_refl _) _)))
        go_wp2_with fail
        refine HN6.out.mono ?_
        rintro e w6 ⟨rfl, rfl⟩
        obtain ⟨nS, hnS⟩ : ∃ n, n = num b 18 4 := ⟨_, rfl⟩
        rw [← hnS]
        have HNS := Lib.hid hnS
        clear hnS HN6 hcv hcl hfz
        have HY6 := Lib.hid (show (w5.setCell ⟨w0.heap.size, 11, none⟩ (.string ky)).heap[w0.heap.size]? = some (.cells #[.int .u8 ((b.getD 4 0 : Nat) : Int), .int .u8 ((b.getD 5 0 : Nat) : Int), .int .u8 ((b.getD 6 0 : Nat) : Int), .int .u8 ((b.getD 7 0 : Nat) : Int), .int .u8 ((b.getD 8 0 : Nat) : Int), .int .u8 ((b.getD 9 0 : Nat) : Int), .int .u8 ((b.getD 10 0 : Nat) : Int), .int .u8 ((b.getD 11 0 : Nat) : Int), .int .i64 (nK : Int), .int .i64 (nM : Int), .int .i64 (nB : Int), .string ky, .int .i64 0, .int .i64 0, .int .i64 0, .int .i64 0] 28 (0, 0)) by simp [World.setCell, HY5.out, Array.getElem?_modify])
        have HB6 := Lib.hid (show Below w0.heap.size w0 (w5.setCell ⟨w0.heap.size, 11, none⟩ (.string ky)) from HB5.out.setCell (Nat.le_refl _) _)
        generalize w5.setCell ⟨w0.heap.size, 11, none⟩ (.string ky) = w6 at *
        have hcl : w6.cell? ⟨w0.heap.size, 12, none⟩ = some (.int .i64 0) := by have := HY6.out; simp [World.cell?, this]
        have hfz : w6.frozen? ⟨w0.heap.size, 12, none⟩ = false := by have := HY6.out; simp [World.frozen?, this]
        have hcl3 : w6.cell? ⟨w0.heap.size, 13, none⟩ = some (.int .i64 0) := by have := HY6.out; simp [World.cell?, this]
        have hfz3 : w6.frozen? ⟨w0.heap.size, 13, none⟩ = false := by have := HY6.out; simp [World.frozen?, this]
        have hwI : IntKind.i64.wrap (nI : Int) = (nI : Int) := by rw [IntKind.wrap_i64]; omega
        have h22 := K22.out (w6.setCell ⟨w0.heap.size, 12, none⟩ (.int .i64 (nS : Int))) (HFF.out _ (HB6.out.setCell (Nat.le_refl _) _))
        go_wp2_with fail
        have HY7 := Lib.hid (show ((w6.setCell ⟨w0.heap.size, 12, none⟩ (.int .i64 (nS : Int))).setCell ⟨w0.heap.size, 13, none⟩ (.int .i64 (nI : Int))).heap[w0.heap.size]? = some (.cells #[.int .u8 ((b.getD 4 0 : Nat) : Int), .int .u8 ((b.getD 5 0 : Nat) : Int), .int .u8 ((b.getD 6 0 : Nat) : Int), .int .u8 ((b.getD 7 0 : Nat) : Int), .int .u8 ((b.getD 8 0 : Nat) : Int), .int .u8 ((b.getD 9 0 : Nat) : Int), .int .u8 ((b.getD 10 0 : Nat) : Int), .int .u8 ((b.getD 11 0 : Nat) : Int), .int .i64 (nK : Int), .int .i64 (nM : Int), .int .i64 (nB : Int), .string ky, .int .i64 (nS : Int), .int .i64 (nI : Int), .int .i64 0, .int .i64 0] 28 (0, 0)) by simp [World.setCell, HY6.out, Array.getElem?_modify])
        have HB7 := Lib.hid (show Below w0.heap.size w0 ((w6.setCell ⟨w0.heap.size, 12, none⟩ (.int .i64 (nS : Int))).setCell ⟨w0.heap.size, 13, none⟩ (.int .i64 (nI : Int))) from (HB6.out.setCell (Nat.le_refl _) _).setCell (Nat.le_refl _) _)
        generalize ((w6.setCell ⟨w0.heap.size, 12, none⟩ (.int .i64 (nS : Int))).setCell ⟨w0.heap.size, 13, none⟩ (.int .i64 (nI : Int))) = w7 at *
        clear hcl hfz hcl3 hfz3 h22 hb22 hwI
        refine (HNUM.out 23 4 w7 (by decide) (by omega) (HFF.out _ HB7.out)).mono ?_
        rintro e w8 ⟨rfl, rfl⟩
        obtain ⟨nE, hnE⟩ : ∃ n, n = num b 23 4 := ⟨_, rfl⟩
        rw [← hnE]
        have HNE := Lib.hid hnE
        clear hnE
        go_wp2_with fail
        refine (HNUM.out 27 4 w7 (by decide) (by omega) (HFF.out _ HB7.out)).mono ?_
        rintro e w8 ⟨rfl, rfl⟩
        obtain ⟨nC, hnC⟩ : ∃ n, n = num b 27 4 := ⟨_, rfl⟩
        rw [← hnC]
        have HNC := Lib.hid hnC
        clear hnC
        go_wp2_with (first | (refine wpList_storePart rfl 26 _ _ rfl w0.heap.size 14 #[.int .i64 (nE : Int), .int .i64 (nC : Int)] rfl rfl (by kernel_rfl) 28 #[.int .u8 ((b.getD 4 0 : Nat) : Int), .int .u8 ((b.getD 5 0 : Nat) : Int), .int .u8 ((b.getD 6 0 : Nat) : Int), .int .u8 ((b.getD 7 0 : Nat) : Int), .int .u8 ((b.getD 8 0 : Nat) : Int), .int .u8 ((b.getD 9 0 : Nat) : Int), .int .u8 ((b.getD 10 0 : Nat) : Int), .int .u8 ((b.getD 11 0 : Nat) : Int), .int .i64 (nK : Int), .int .i64 (nM : Int), .int .i64 (nB : Int), .string ky, .int .i64 (nS : Int), .int .i64 (nI : Int), .int .i64 0, .int .i64 0] (show 16 ≤ 16 by decide) HY7.out rfl ?_; intro w8 h8 g8 z8) | (refine wpList_loadH rfl (.tmp 7) rfl w0.heap.size rfl #[.int .u8 ((b.getD 4 0 : Nat) : Int), .int .u8 ((b.getD 5 0 : Nat) : Int), .int .u8 ((b.getD 6 0 : Nat) : Int), .int .u8 ((b.getD 7 0 : Nat) : Int), .int .u8 ((b.getD 8 0 : Nat) : Int), .int .u8 ((b.getD 9 0 : Nat) : Int), .int .u8 ((b.getD 10 0 : Nat) : Int), .int .u8 ((b.getD 11 0 : Nat) : Int), .int .i64 (nK : Int), .int .i64 (nM : Int), .int .i64 (nB : Int), .string ky, .int .i64 (nS : Int), .int .i64 (nI : Int), .int .i64 (nE : Int), .int .i64 (nC : Int)] rfl h8 ?_))
        have HB8 := Lib.hid (Below.trans_row HB7.out g8 (Nat.le_refl _) (Nat.le_of_lt (Array.getElem?_eq_some_iff.1 HY7.out).1))
        have HY8 := Lib.hid (show w8.heap[w0.heap.size]? = some (.cells #[.int .u8 ((b.getD 4 0 : Nat) : Int), .int .u8 ((b.getD 5 0 : Nat) : Int), .int .u8 ((b.getD 6 0 : Nat) : Int), .int .u8 ((b.getD 7 0 : Nat) : Int), .int .u8 ((b.getD 8 0 : Nat) : Int), .int .u8 ((b.getD 9 0 : Nat) : Int), .int .u8 ((b.getD 10 0 : Nat) : Int), .int .u8 ((b.getD 11 0 : Nat) : Int), .int .i64 (nK : Int), .int .i64 (nM : Int), .int .i64 (nB : Int), .string ky, .int .i64 (nS : Int), .int .i64 (nI : Int), .int .i64 (nE : Int), .int .i64 (nC : Int)] 28 (0, 0)) from h8)
        clear h8 g8 z8 HY7
        have HHD : Hid (hdOf b = ⟨((b.getD 4 0 : Nat) : Int), ((b.getD 5 0 : Nat) : Int), ((b.getD 6 0 : Nat) : Int), ((b.getD 7 0 : Nat) : Int), ((b.getD 8 0 : Nat) : Int), ((b.getD 9 0 : Nat) : Int), ((b.getD 10 0 : Nat) : Int), ((b.getD 11 0 : Nat) : Int), (nK : Int), (nM : Int), (nB : Int), ky, (nS : Int), (nI : Int), (nE : Int), (nC : Int)⟩) := Lib.hid (by
          have e1 : (hdOf b).key = ky := HKY.out.symm
          show (⟨(hdOf b).s0, (hdOf b).s1, (hdOf b).s2, (hdOf b).s3, (hdOf b).s4, (hdOf b).s5, (hdOf b).s6, (hdOf b).s7, (hdOf b).K, (hdOf b).M, (hdOf b).B, (hdOf b).key, (hdOf b).size, (hdOf b).idx, (hdOf b).ep, (hdOf b).ct⟩ : Hd) = _
          rw [HKX.out, HMX.out, HIX.out, e1, HNB.out, HNS.out, HNE.out, HNC.out]
          rfl)
        have HF8 := Lib.hid (HFF.out _ HB8.out)
        have hR := rcheck_any ⟨((b.getD 4 0 : Nat) : Int), ((b.getD 5 0 : Nat) : Int), ((b.getD 6 0 : Nat) : Int), ((b.getD 7 0 : Nat) : Int), ((b.getD 8 0 : Nat) : Int), ((b.getD 9 0 : Nat) : Int), ((b.getD 10 0 : Nat) : Int), ((b.getD 11 0 : Nat) : Int), (nK : Int), (nM : Int), (nB : Int), ky, (nS : Int), (nI : Int), (nE : Int), (nC : Int)⟩ w8
        obtain ⟨ck, hck⟩ : ∃ ck, ck = checkE ⟨((b.getD 4 0 : Nat) : Int), ((b.getD 5 0 : Nat) : Int), ((b.getD 6 0 : Nat) : Int), ((b.getD 7 0 : Nat) : Int), ((b.getD 8 0 : Nat) : Int), ((b.getD 9 0 : Nat) : Int), ((b.getD 10 0 : Nat) : Int), ((b.getD 11 0 : Nat) : Int), (nK : Int), (nM : Int), (nB : Int), ky, (nS : Int), (nI : Int), (nE : Int), (nC : Int)⟩ := ⟨_, rfl⟩
        rw [← hck] at hR
        have HCK : Hid (ck = checkE (hdOf b)) := Lib.hid (by rw [HHD.out]; exact hck)
        have HR := Lib.hid hR
        clear hck hR
        refine HR.out.mono ?_
        rintro e w9 ⟨rfl, hb9⟩
        have hs8 : w0.heap.size < w8.heap.size := (Array.getElem?_eq_some_iff.1 HY8.out).1
        have HY9 := Lib.hid ((hb9.block _ hs8).trans HY8.out)
        have HZ4 := Lib.hid ((hb9.block _ (by omega)).trans ((HB8.out.block _ hs4).trans HZ4.out))
        have HZ2 := Lib.hid ((hb9.block _ (by omega)).trans ((HB8.out.block _ (by omega)).trans HZ2.out))
        have HF := Lib.hid (HF8.out.trans (hb9.mono HF8.out.size))
        clear hb9 HR HY8
        by_cases h81 : ck = 0
        · subst h81
          go_wp2_with (first | (refine wpList_loadH rfl (.tmp 7) rfl w0.heap.size rfl #[.int .u8 ((b.getD 4 0 : Nat) : Int), .int .u8 ((b.getD 5 0 : Nat) : Int), .int .u8 ((b.getD 6 0 : Nat) : Int), .int .u8 ((b.getD 7 0 : Nat) : Int), .int .u8 ((b.getD 8 0 : Nat) : Int), .int .u8 ((b.getD 9 0 : Nat) : Int), .int .u8 ((b.getD 10 0 : Nat) : Int), .int .u8 ((b.getD 11 0 : Nat) : Int), .int .i64 (nK : Int), .int .i64 (nM : Int), .int .i64 (nB : Int), .string ky, .int .i64 (nS : Int), .int .i64 (nI : Int), .int .i64 (nE : Int), .int .i64 (nC : Int)] rfl HY9.out ?_) | (refine wpList_storeH rfl (.tmp 2) _ rfl w.heap.size #[.int .u8 ((b.getD 4 0 : Nat) : Int), .int .u8 ((b.getD 5 0 : Nat) : Int), .int .u8 ((b.getD 6 0 : Nat) : Int), .int .u8 ((b.getD 7 0 : Nat) : Int), .int .u8 ((b.getD 8 0 : Nat) : Int), .int .u8 ((b.getD 9 0 : Nat) : Int), .int .u8 ((b.getD 10 0 : Nat) : Int), .int .u8 ((b.getD 11 0 : Nat) : Int), .int .i64 (nK : Int), .int .i64 (nM : Int), .int .i64 (nB : Int), .string ky, .int .i64 (nS : Int), .int .i64 (nI : Int), .int .i64 (nE : Int), .int .i64 (nC : Int)] rfl rfl rfl #[.int .u8 0, .int .u8 0, .int .u8 0, .int .u8 0, .int .u8 0, .int .u8 0, .int .u8 0, .int .u8 0, .int .i64 0, .int .i64 0, .int .i64 0, .string ⟨#[]⟩, .int .i64 0, .int .i64 0, .int .i64 0, .int .i64 0] rfl HZ2.out rfl ?_; intro w9 h9 g9 z9))
          have HE := Lib.hid (show headE b = 0 by unfold headE; rw [if_neg h36, if_neg (not_not_intro HMK.out), if_neg (not_not_intro (by rw [← HN1.out, HTS.out, ← HS1.out]; exact H82.out)), if_neg (by rw [← HNN.out]; exact h70), if_neg (not_not_intro (by rw [← HNN.out, ← HN2.out, ← HPR.out, ← HS2.out]; exact H82b.out)), if_neg (not_not_intro HCK.out.symm)])
          exact ret_cellH Try.results26 rfl rfl rfl h9 (rph_good HE.out HHD.out (Below.trans_row HF.out g9 (Nat.le_refl _) (Nat.le_of_lt (Array.getElem?_eq_some_iff.1 HZ2.out).1)))
        · have HE := Lib.hid (show headE b = 81 by unfold headE; rw [if_neg h36, if_neg (not_not_intro HMK.out), if_neg (not_not_intro (by rw [← HN1.out, HTS.out, ← HS1.out]; exact H82.out)), if_neg (by rw [← HNN.out]; exact h70), if_neg (not_not_intro (by rw [← HNN.out, ← HN2.out, ← HPR.out, ← HS2.out]; exact H82b.out)), if_pos (by rw [← HCK.out]; exact h81)])
          have t81 : (ck != 0) = true := by rw [bne_iff_ne]; exact h81
          go_wp2_with (first | (refine wpList_loadH rfl (.tmp 4) rfl (w.heap.size + 1) rfl #[.int .u8 0, .int .u8 0, .int .u8 0, .int .u8 0, .int .u8 0, .int .u8 0, .int .u8 0, .int .u8 0, .int .i64 0, .int .i64 0, .int .i64 0, .string ⟨#[]⟩, .int .i64 0, .int .i64 0, .int .i64 0, .int .i64 0] rfl HZ4.out ?_) | (refine wpList_storeH rfl (.tmp 2) _ rfl w.heap.size #[.int .u8 0, .int .u8 0, .int .u8 0, .int .u8 0, .int .u8 0, .int .u8 0, .int .u8 0, .int .u8 0, .int .i64 0, .int .i64 0, .int .i64 0, .string ⟨#[]⟩, .int .i64 0, .int .i64 0, .int .i64 0, .int .i64 0] rfl rfl rfl #[.int .u8 0, .int .u8 0, .int .u8 0, .int .u8 0, .int .u8 0, .int .u8 0, .int .u8 0, .int .u8 0, .int .i64 0, .int .i64 0, .int .i64 0, .string ⟨#[]⟩, .int .i64 0, .int .i64 0, .int .i64 0, .int .i64 0] rfl HZ2.out rfl ?_; intro w9 h9 g9 z9))
          exact ret_cellH Try.results26 rfl rfl rfl h9 (rph_bad HE.out (by decide) (Below.trans_row HF.out g9 (Nat.le_refl _) (Nat.le_of_lt (Array.getElem?_eq_some_iff.1 HZ2.out).1)))
end Go.Proofs.Ytbioanbokbhmgaa
