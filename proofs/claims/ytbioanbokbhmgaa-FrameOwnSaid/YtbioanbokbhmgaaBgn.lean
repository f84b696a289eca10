/- begins of the law's text: where the frames begin. Conditions: blocks of the lengths that the head wants. -/
import Derived.Test.YtbioanbokbhmgaaPar4
import Derived.Test.YtbioanbokbhmgaaBr3
namespace Go.Proofs.Ytbioanbokbhmgaa
open Go.RowKit

/-- Where the frames begin, and the end of the last. -/
def offL (h : Hd) : Nat → List Nat
  | 0 => [offF h 0]
  | k + 1 => offL h k ++ [offF h (k + 1)]
theorem offL_length (h : Hd) : ∀ k, (offL h k).length = k + 1
  | 0 => rfl
  | k + 1 => by simp [offL, offL_length h k]
theorem offL_get {h : Hd} : ∀ {k i : Nat}, i ≤ k → (offL h k).getD i 0 = offF h i
  | 0, i, hi => by
    have : i = 0 := by omega
    subst this; rfl
  | k + 1, i, hi => by
    show List.getD (offL h k ++ [offF h (k + 1)]) i 0 = _
    rcases Nat.lt_or_ge k i with h1 | h1
    · have : i = (offL h k).length := by rw [offL_length]; omega
      rw [this, getD_app_r, offL_length]
    · rw [getD_app_l (by rw [offL_length]; omega)]; exact offL_get h1
theorem offF_le2 {h : Hd} {k : Nat} (HE : checkE h = 0) : offF h k ≤ 300 + k * 65540 := by
  obtain ⟨⟨m1, m2, m3, m4, m5, m6⟩, k0, k1, _⟩ := check_facts HE
  induction k with
  | zero => rw [off_zero]; omega
  | succ k ih =>
    rw [offF_next]
    have := blen_le (K := h.K.toNat) (B := h.B.toNat) (s := h.size.toNat) (j := k) (by omega)
    unfold lenF
    omega
theorem own_litI {w : World} {B : Nat} (x : Nat) (hB : B ≤ w.heap.size) : OwnI (w.alloc (.cells #[.int .i64 (x : Int)] 3)) B (.slice (some ⟨w.heap.size, 0, none⟩) 1 1) [x] := by
  have h := World.rowIs_alloc w #[.int .i64 (x : Int)] 3 (fun i => .int .i64 ((([x] : List Nat).getD i 0 : Nat) : Int)) (by
    intro i hi
    have : i = 0 := by have : i < 1 := hi; omega
    subst this; rfl)
  exact own_of_row h hB (by unfold maxLen; omega)
set_option maxRecDepth 100000 in
set_option maxHeartbeats 2000000 in
theorem begins_any (h : Hd) (A : Option Addr) (c : Nat) (FL : List (List Nat)) (w : World) (HE : checkE h = 0) (hf : fitsB h FL) (hA : RLL w A FL) :
    Calls Try.prog 37 #[.agg #[.int .u8 h.s0, .int .u8 h.s1, .int .u8 h.s2, .int .u8 h.s3, .int .u8 h.s4, .int .u8 h.s5, .int .u8 h.s6, .int .u8 h.s7, .int .i64 h.K, .int .i64 h.M, .int .i64 h.B, .string h.key, .int .i64 h.size, .int .i64 h.idx, .int .i64 h.ep, .int .i64 h.ct, .slice A FL.length c]] w fun e w' => ∃ v, e = .returned v ∧ OwnI w' w.heap.size v (offL h FL.length) ∧ Below w.heap.size w w' := by
  have HA := Lib.hid hA
  have HF := Lib.hid (Below.refl w.heap.size w)
  have HFF := Lib.hid hf
  have hof := fun k => offF_le2 (k := k) HE
  have HOF := Lib.hid hof
  have hn := (fits_len HE hf).1
  have hks : (40 : Int) + (h.key.size : Int) = ((offF h 0 : Nat) : Int) := by rw [off_zero]; omega
  have hks2 : h.key.size ≤ 255 := (check_facts HE).2.2.1
  have hks3 : offF h 0 ≤ 300 := by rw [off_zero]; omega
  obtain ⟨c0, c1, c2, c3, c4, c5, c6, c7, c8, c9, c10, c11, c12, c13, c14, c15, c16⟩ := cells_ofS (heap_alloc_new w (.cells #[.int .u8 h.s0, .int .u8 h.s1, .int .u8 h.s2, .int .u8 h.s3, .int .u8 h.s4, .int .u8 h.s5, .int .u8 h.s6, .int .u8 h.s7, .int .i64 h.K, .int .i64 h.M, .int .i64 h.B, .string h.key, .int .i64 h.size, .int .i64 h.idx, .int .i64 h.ep, .int .i64 h.ct, .slice A FL.length c] 46))
  clear hA hf hof c0 c1 c2 c3 c4 c5 c6 c7 c8 c9 c10 c12 c13 c14 c15 c16
  go_enter Try.func37, Try.ntmps37
  go_wp2
  clear c11
  have hsz1 : (w.alloc (.cells #[.int .u8 h.s0, .int .u8 h.s1, .int .u8 h.s2, .int .u8 h.s3, .int .u8 h.s4, .int .u8 h.s5, .int .u8 h.s6, .int .u8 h.s7, .int .i64 h.K, .int .i64 h.M, .int .i64 h.B, .string h.key, .int .i64 h.size, .int .i64 h.idx, .int .i64 h.ep, .int .i64 h.ct, .slice A FL.length c] 46)).heap.size = w.heap.size + 1 := by simp
  have hbn := (Below.refl w.heap.size w).alloc (Nat.le_refl _) (.cells #[.int .u8 h.s0, .int .u8 h.s1, .int .u8 h.s2, .int .u8 h.s3, .int .u8 h.s4, .int .u8 h.s5, .int .u8 h.s6, .int .u8 h.s7, .int .i64 h.K, .int .i64 h.M, .int .i64 h.B, .string h.key, .int .i64 h.size, .int .i64 h.idx, .int .i64 h.ep, .int .i64 h.ct, .slice A FL.length c] 46)
  replace HF := Lib.hid (HF.out.trans (hbn.mono HF.out.size))
  replace HA := Lib.hid (RLL.below HA.out hbn)
  have HZ1 := Lib.hid (heap_alloc_new w (.cells #[.int .u8 h.s0, .int .u8 h.s1, .int .u8 h.s2, .int .u8 h.s3, .int .u8 h.s4, .int .u8 h.s5, .int .u8 h.s6, .int .u8 h.s7, .int .i64 h.K, .int .i64 h.M, .int .i64 h.B, .string h.key, .int .i64 h.size, .int .i64 h.idx, .int .i64 h.ep, .int .i64 h.ct, .slice A FL.length c] 46))
  obtain ⟨bHZ1, hbk⟩ : ∃ bHZ1, bHZ1 = w.heap.size := ⟨_, rfl⟩
  rw [← hbk] at HZ1 hsz1 ⊢
  clear hbk
  clear hbn
  generalize w.alloc (.cells #[.int .u8 h.s0, .int .u8 h.s1, .int .u8 h.s2, .int .u8 h.s3, .int .u8 h.s4, .int .u8 h.s5, .int .u8 h.s6, .int .u8 h.s7, .int .i64 h.K, .int .i64 h.M, .int .i64 h.B, .string h.key, .int .i64 h.size, .int .i64 h.idx, .int .i64 h.ep, .int .i64 h.ct, .slice A FL.length c] 46) = w1 at *
  rw [← hsz1]
  clear hsz1
  have HBW := Lib.hid HF.out
  have HO := Lib.hid (own_litI (w := w1) (B := w1.heap.size) (offF h 0) (Nat.le_refl _))
  have HB0 := Lib.hid ((Below.refl w1.heap.size w1).alloc (Nat.le_refl _) (.cells #[.int .i64 ((offF h 0 : Nat) : Int)] 3))
  obtain ⟨n, hnn⟩ : ∃ n, n = FL.length := ⟨_, rfl⟩
  rw [← hnn] at hn ⊢
  have HN := Lib.hid hnn
  clear hnn
  go_loopg [3, 4, 5] n (fun gk t3 vo i wr => ∃ k : Nat, k ≤ n ∧ gk = n - k ∧ i = .int .i64 k ∧ t3 = .int .i64 ((offF h k : Nat) : Int) ∧ OwnI wr w1.heap.size vo (offL h k) ∧ Below w1.heap.size w1 wr)
  case atStart => exact ⟨0, Nat.zero_le _, rfl, rfl, by go_num, HO.out, HB0.out⟩
  case round =>
    obtain ⟨k, hk, rfl, rfl, rfl, hov, hbr⟩ := hrel
    have HOV := Lib.hid hov
    have HBR := Lib.hid hbr
    clear hov hbr
    have HZ := Lib.hid ((HBR.out.block bHZ1 (Array.getElem?_eq_some_iff.1 HZ1.out).1).trans HZ1.out)
    obtain ⟨_, _, _, _, _, _, _, _, _, _, _, _, _, _, _, _, c16⟩ := cells_ofS HZ.out
    rw [← HN.out] at c16
    obtain ⟨o, ho⟩ : ∃ o, o = offF h k := ⟨_, rfl⟩
    have hol : o ≤ 300 + k * 65540 := by rw [ho]; exact HOF.out k
    rw [← ho]
    have HO2 := Lib.hid ho
    clear ho
    by_cases hlt : k < n
    · have hkn : (k : Int) < (n : Int) := by omega
      obtain ⟨S, C, h1, _⟩ := HA.out
      obtain ⟨b, bo, rfl, hb, hcl0⟩ := h1 k (by rw [← HN.out]; exact hlt)
      have hcl : wr.cell? ⟨b, bo + k, none⟩ = some (.slice (S k) (lenF h k) (C k)) := by
        have := (HBR.out.cell (p := ⟨b, bo + k, none⟩) hb).trans hcl0
        dsimp only at this
        rw [HFF.out.2 k (by rw [← HN.out]; exact hlt)] at this
        exact this
      clear hcl0 h1
      have hlf : lenF h k ≤ 65536 := by
        have := (fits_len HE HFF.out).2 _ (getD_mem' (d := []) (show k < FL.length by rw [← HN.out]; exact hlt))
        rw [HFF.out.2 k (by rw [← HN.out]; exact hlt)] at this
        exact this
      obtain ⟨lk, hlk⟩ : ∃ lk, lk = lenF h k := ⟨_, rfl⟩
      rw [← hlk] at hcl hlf
      have HNX := Lib.hid (show o + lk + 4 = offF h (k + 1) by rw [offF_next, ← HO2.out, ← hlk])
      clear hlk
      have hw1 : IntKind.i64.wrap ((o : Int) + (lk : Int)) = (o : Int) + (lk : Int) := by rw [IntKind.wrap_i64]; omega
      have hw2 : IntKind.i64.wrap ((o : Int) + (lk : Int) + 4) = (o : Int) + (lk : Int) + 4 := by rw [IntKind.wrap_i64]; omega
      have HP := Lib.hid (show Own wr w1.heap.size 3 1 u4 (k + 1) (fun i => [.int .i64 (((offL h (k + 1)).getD i 0 : Nat) : Int)]) from by
        have h0 := HOV.out
        unfold OwnI at h0
        rw [offL_length] at h0
        exact Own.congr h0 fun i hi => by rw [offL_get (by omega), offL_get (by omega)])
      have HU := Lib.hid (show (#[Value.int .i64 ((o : Int) + (lk : Int) + 4)] : Array Value).toList = [.int .i64 (((offL h (k + 1)).getD (k + 1) 0 : Nat) : Int)] by rw [offL_get (Nat.le_refl _), ← HNX.out]; simp)
      have hsr := HBR.out.size
      go_wp2_with (at_builtin; refine wpList_push wr rfl (.tmp 29) (.tmp 31) 30 rfl w1.heap.size 3 1 8 (.int .i64 0) #[.int .i64 ((o : Int) + (lk : Int) + 4)] Try.underlying30 intInfo rfl (by decide) u4 (k + 1) _ rfl HP.out hsr _ rfl rfl HU.out rfl rfl (by omega) (by omega) ?_)
      intro v' w' hown hb' hg hat
      have HON := Lib.hid (show OwnI w' w1.heap.size v' (offL h (k + 1)) by unfold OwnI; rw [offL_length]; exact hown)
      have HBN := Lib.hid (HBR.out.trans hb')
      clear hown hb' hg hat HP HU hw1 hw2
      go_wp2
      go_roundg (n - (k + 1))
      case measure => omega
      case rel => exact ⟨k + 1, by omega, rfl, by go_num, by rw [← HNX.out]; congr 1, HON.out, HBN.out⟩
    · have hkn : k = n := by omega
      subst hkn
      have HR := Lib.hid (Own.mono HOV.out (show w.heap.size ≤ w1.heap.size from HBW.out.size))
      have HRB := Lib.hid (HBW.out.trans (HBR.out.mono HBW.out.size))
      go_wp2
      go_ret
      exact ⟨_, rfl, by rw [← HN.out]; exact HR.out, HRB.out⟩
end Go.Proofs.Ytbioanbokbhmgaa
