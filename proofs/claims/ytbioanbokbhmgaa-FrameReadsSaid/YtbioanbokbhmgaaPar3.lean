/- Spoilt of the program: the walk. Conditions: bytes. -/
import Derived.Test.YtbioanbokbhmgaaPar2
namespace Go.Proofs.Ytbioanbokbhmgaa
open Go.RowKit

def sptL (b : List Nat) : List Nat := if headE b = 0 then badL b (sizeN (hdOf b).K (hdOf b).M (hdOf b).B (hdOf b).size) else []
def SptPost (w : World) (b : List Nat) (e : Ending) (w' : World) : Prop := ∃ v, e = .returned (.tuple #[v, .int .i64 (headE b)]) ∧ OwnI w' w.heap.size v (sptL b) ∧ Below w.heap.size w w'
/-- What holds behind j calls of Spoilt's callback. -/
structure SptI (w0 : World) (b : List Nat) (po B kl j : Nat) (w : World) : Prop where
  far : Below w0.heap.size w0 w
  ge : B ≤ kl
  sz : B ≤ w.heap.size
  at_ : ∃ v, w.heap[po]? = some (.cells #[v] 30 (0, 0)) ∧ OwnI w B v (badL b j) ∧ v.ownBlock ≠ some kl
theorem SptI.kept {w0 w w' : World} {b : List Nat} {po B kl j : Nat} (h : SptI w0 b po B kl j w) (hb : Below w.heap.size w w') : SptI w0 b po B kl j w' := by
  obtain ⟨v, hv, hO, hne⟩ := h.at_
  exact ⟨h.far.trans (hb.mono h.far.size), h.ge, Nat.le_trans h.sz hb.size, v, (hb.block po (Array.getElem?_eq_some_iff.1 hv).1).trans hv, hO.kept hb, hne⟩
theorem badL_step (b : List Nat) (j : Nat) : (if (!badF b j) = true then badL b j else badL b j ++ [j]) = badL b (j + 1) := by
  show _ = if badF b j = true then badL b j ++ [j] else badL b j
  cases badF b j <;> rfl
theorem spt_step (w0 : World) (b : List Nat) (po B : Nat) (hpo : po < B) (hp0 : w0.heap.size ≤ po) (kl j : Nat) (A' : Option Addr) (c' n : Nat) (w1 : World) (hj : j ≤ 4096) (hkl : kl < w1.heap.size) (hI : SptI w0 b po B kl j w1) :
    Calls Try.prog 63 (#[.int .i64 (j : Int), .slice A' n c', .bool (!badF b j)] ++ #[.pointer (some ⟨po, 0, none⟩)]) w1 fun e w2 => e = .returned (.tuple #[]) ∧ SptI w0 b po B kl (j + 1) w2 ∧ w2.heap[kl]? = w1.heap[kl]? := by
  obtain ⟨v, hv, hO, hne⟩ := hI.at_
  have hge := hI.ge
  have hlen := badL_length b j
  have hs := hI.far.size
  refine (spt1_any j (.slice A' n c') (!badF b j) po B v (badL b j) w1 (by omega) hv hO hpo hI.sz).mono ?_
  rintro e w2 ⟨rfl, v', hv', hO', hat, HT⟩
  rw [badL_step] at hO'
  have hge2 : ∀ k, v.ownBlock = some k → w0.heap.size ≤ k := fun k e => by have := (Own.lt hO k e).1; omega
  refine ⟨rfl, ⟨hI.far.trans (HT.below (by omega) hp0 hp0 hge2), hge, Nat.le_trans hI.sz HT.size, v', hv', hO', ?_⟩, HT.block kl hkl (by omega) (by omega) hne⟩
  rcases hat with e | ⟨k, e, hk⟩
  · rw [e]; exact hne
  · rw [e]; intro e'; injection e' with e'; omega
set_option maxRecDepth 100000 in
set_option maxHeartbeats 2000000 in
theorem spt_any (HOP : OpnAll) (A : Option Addr) (c : Nat) (b : List Nat) (w : World) (hx : ∀ x ∈ b, x < 256) (hbl : b.length ≤ 140737488351232) (hbc : b.length ≤ c) (hc : c ≤ maxLen) (hA : RL w A b) : Calls Try.prog 32 #[.slice A b.length c] w (SptPost w b) := by
  have HO := Lib.hid (HOP A c b w hx hbl hbc hc hA)
  have hmf : ∀ (fn : Fn) (first cap : Array Value) (w : World), (Instr.makeFunc fn first cap).run Try.prog w = .ok (.func fn first cap) w := fun _ _ _ _ => rfl
  have HX := Lib.hid hx
  have HA := Lib.hid hA
  clear hx hA
  go_enter Try.func32, Try.ntmps32
  go_wp2_with fail
  refine HO.out.mono ?_
  rintro e w1 ⟨rfl, hb1⟩
  have HW := Lib.hid hb1
  have hsz1 := hb1.size
  clear hb1 HO
  by_cases h0 : headE b = 0
  · have HR := Lib.hid (show rdH b = hdOf b from if_pos h0)
    have HS := Lib.hid (show rdS b = sum2 (hdOf b) from if_pos h0)
    rw [HR.out, HS.out, h0]
    have HL := Lib.hid (show sptL b = badL b (sizeN (hdOf b).K (hdOf b).M (hdOf b).B (hdOf b).size) from if_pos h0)
    have H0 := Lib.hid h0
    have HN := Lib.hid (sizeN_le (hdOf b).K (hdOf b).M (hdOf b).B (hdOf b).size)
    go_wp2_with (first | (refine wpList_storeNewH rfl (.tmp 4) (.tmp 11) rfl #[.int .u8 (hdOf b).s0, .int .u8 (hdOf b).s1, .int .u8 (hdOf b).s2, .int .u8 (hdOf b).s3, .int .u8 (hdOf b).s4, .int .u8 (hdOf b).s5, .int .u8 (hdOf b).s6, .int .u8 (hdOf b).s7, .int .i64 (hdOf b).K, .int .i64 (hdOf b).M, .int .i64 (hdOf b).B, .string (hdOf b).key, .int .i64 (hdOf b).size, .int .i64 (hdOf b).idx, .int .i64 (hdOf b).ep, .int .i64 (hdOf b).ct] rfl rfl rfl rfl rfl ?_) | (refine wpList_loadH rfl (.tmp 4) rfl w1.heap.size rfl #[.int .u8 (hdOf b).s0, .int .u8 (hdOf b).s1, .int .u8 (hdOf b).s2, .int .u8 (hdOf b).s3, .int .u8 (hdOf b).s4, .int .u8 (hdOf b).s5, .int .u8 (hdOf b).s6, .int .u8 (hdOf b).s7, .int .i64 (hdOf b).K, .int .i64 (hdOf b).M, .int .i64 (hdOf b).B, .string (hdOf b).key, .int .i64 (hdOf b).size, .int .i64 (hdOf b).idx, .int .i64 (hdOf b).ep, .int .i64 (hdOf b).ct] rfl ?c1 ?_))
    case c1 => exact ((((Below.refl _ _).alloc (Nat.le_refl _) _).block w1.heap.size (by simp)).trans (heap_alloc_new w1 _))
    obtain ⟨wB, hwB⟩ : ∃ wB, wB = (w1.alloc (.cells #[.int .u8 (hdOf b).s0, .int .u8 (hdOf b).s1, .int .u8 (hdOf b).s2, .int .u8 (hdOf b).s3, .int .u8 (hdOf b).s4, .int .u8 (hdOf b).s5, .int .u8 (hdOf b).s6, .int .u8 (hdOf b).s7, .int .i64 (hdOf b).K, .int .i64 (hdOf b).M, .int .i64 (hdOf b).B, .string (hdOf b).key, .int .i64 (hdOf b).size, .int .i64 (hdOf b).idx, .int .i64 (hdOf b).ep, .int .i64 (hdOf b).ct] 28)).alloc (.cells #[.slice none 0 0] 30) := ⟨_, rfl⟩
    have hsB : wB.heap.size = w1.heap.size + 2 := by rw [hwB]; simp
    have hpo : wB.heap[w1.heap.size + 1]? = some (.cells #[.slice none 0 0] 30 (0, 0)) := by
      rw [hwB]
      have := heap_alloc_new (w1.alloc (.cells #[.int .u8 (hdOf b).s0, .int .u8 (hdOf b).s1, .int .u8 (hdOf b).s2, .int .u8 (hdOf b).s3, .int .u8 (hdOf b).s4, .int .u8 (hdOf b).s5, .int .u8 (hdOf b).s6, .int .u8 (hdOf b).s7, .int .i64 (hdOf b).K, .int .i64 (hdOf b).M, .int .i64 (hdOf b).B, .string (hdOf b).key, .int .i64 (hdOf b).size, .int .i64 (hdOf b).idx, .int .i64 (hdOf b).ep, .int .i64 (hdOf b).ct] 28)) (.cells #[.slice none 0 0] 30)
      simpa using this
    have hbw : Below w.heap.size w wB := by rw [hwB]; exact (HW.out.alloc hsz1 _).alloc (by simp; omega) _
    rw [← hwB]
    clear hwB
    refine (blocks_any A c b w wB hbw 63 #[.pointer (some ⟨w1.heap.size + 1, 0, none⟩)] (fun kl j w' => SptI w b (w1.heap.size + 1) (w1.heap.size + 2) kl j w') HX.out hbl hbc hc H0.out
      (fun j x q w => run_own_call Try.func63 (by kernel_rfl) (by kernel_rfl) _ w) HA.out (fun kl j w' h => h.far) (fun kl j w' w'' h hb => h.kept hb)
      (fun kl hkl => ⟨hbw, by omega, by omega, _, hpo, OwnI.nil _ _, by intro e; cases e⟩)
      (fun kl j A' c' w1' hj hkl hI _ _ => spt_step w b (w1.heap.size + 1) (w1.heap.size + 2) (by omega) (by omega) kl j A' c' _ w1' (by have := HN.out; omega) hkl hI)).mono ?_
    rintro e w3 ⟨rfl, kl, hI⟩
    obtain ⟨v, hv, hO, _⟩ := hI.at_
    have HB3 := Lib.hid hI.far
    have HO3 := Lib.hid (Own.mono hO (show w.heap.size ≤ w1.heap.size + 2 by omega))
    have hcl : w3.cell? ⟨w1.heap.size + 1, 0, none⟩ = some v := by simp [World.cell?, hv]
    obtain ⟨A3, c3, e3, _⟩ := Own.rd hO
    clear hv hO hI hbw hpo hsB
    subst e3
    go_wp2
    go_ret2
    exact ⟨.slice A3 (badL b (sizeN (hdOf b).K (hdOf b).M (hdOf b).B (hdOf b).size)).length c3, by rw [H0.out]; rfl, by rw [HL.out]; exact HO3.out, HB3.out⟩
  · have H0 := Lib.hid h0
    have hne : (headE b != 0) = true := by simpa using h0
    obtain ⟨H, hH⟩ : ∃ H, H = rdH b := ⟨_, rfl⟩
    rw [← hH]
    clear hH
    have HF := Lib.hid (show sptL b = [] from if_neg h0)
    clear h0
    go_wp2_with (refine wpList_storeNewH rfl (.tmp 4) (.tmp 11) rfl #[.int .u8 H.s0, .int .u8 H.s1, .int .u8 H.s2, .int .u8 H.s3, .int .u8 H.s4, .int .u8 H.s5, .int .u8 H.s6, .int .u8 H.s7, .int .i64 H.K, .int .i64 H.M, .int .i64 H.B, .string H.key, .int .i64 H.size, .int .i64 H.idx, .int .i64 H.ep, .int .i64 H.ct] rfl rfl rfl rfl rfl ?_)
    go_ret2
    exact ⟨_, rfl, by rw [HF.out]; exact OwnI.nil _ _, HW.out.alloc hsz1 _⟩
end Go.Proofs.Ytbioanbokbhmgaa
