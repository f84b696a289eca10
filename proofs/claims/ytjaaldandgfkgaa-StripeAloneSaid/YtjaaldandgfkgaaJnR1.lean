/- Missing, alike, fits of the document: the walks. Conditions: shards that memory bears. -/
import Derived.Test.YtjaaldandgfkgaaLk2
import Derived.Test.YtjaaldandgfkgaaSplP
namespace Go.Proofs.Ytjaaldandgfkgaa
open Go.RowKit

set_option maxHeartbeats 1000000 in
theorem missing_any (Z : Hd) (A : Option Addr) (m d : Nat) (w : World) :
    Calls Try.prog 58 #[.agg #[.int .u8 Z.s0, .int .u8 Z.s1, .int .u8 Z.s2, .int .u8 Z.s3, .int .u8 Z.s4, .int .u8 Z.s5, .int .u8 Z.s6, .int .u8 Z.s7, .int .i64 Z.K, .int .i64 Z.M, .int .i64 Z.B, .string Z.key, .int .i64 Z.size, .int .i64 Z.idx, .int .i64 Z.ep, .int .i64 Z.ct, .slice A m d]] w fun e w' => e = .returned (.bool (gone Z)) ∧ Below w.heap.size w w' := by
  by_cases h1 : Z.K = 0
  · by_cases h2 : Z.M = 0
    · by_cases h3 : Z.B = 0
      · have hg : gone Z = true := gone_iff.2 ⟨h1, h2, h3⟩
        have t1 : (Z.K == 0) = true := by rw [h1]; rfl
        have t2 : (Z.M == 0) = true := by rw [h2]; rfl
        have t3 : (Z.B == 0) = true := by rw [h3]; rfl
        rw [hg]
        clear h1 h2 h3 hg
        go_enter Try.func58, Try.ntmps58
        go_wp2
        go_ret
        exact ⟨rfl, (Below.refl _ _).alloc (Nat.le_refl _) _⟩
      · have hg : gone Z = false := by rw [Bool.eq_false_iff]; exact fun h => h3 (gone_iff.1 h).2.2
        have t1 : (Z.K == 0) = true := by rw [h1]; rfl
        have t2 : (Z.M == 0) = true := by rw [h2]; rfl
        have t3 : (Z.B == 0) = false := by rw [beq_eq_false_iff_ne]; exact h3
        rw [hg]
        clear h1 h2 h3 hg
        go_enter Try.func58, Try.ntmps58
        go_wp2
        go_ret
        exact ⟨rfl, (Below.refl _ _).alloc (Nat.le_refl _) _⟩
    · have hg : gone Z = false := by rw [Bool.eq_false_iff]; exact fun h => h2 (gone_iff.1 h).2.1
      have t1 : (Z.K == 0) = true := by rw [h1]; rfl
      have t2 : (Z.M == 0) = false := by rw [beq_eq_false_iff_ne]; exact h2
      rw [hg]
      clear h1 h2 hg
      go_enter Try.func58, Try.ntmps58
      go_wp2
      go_ret
      exact ⟨rfl, (Below.refl _ _).alloc (Nat.le_refl _) _⟩
  · have hg : gone Z = false := by rw [Bool.eq_false_iff]; exact fun h => h1 (gone_iff.1 h).1
    have t1 : (Z.K == 0) = false := by rw [beq_eq_false_iff_ne]; exact h1
    rw [hg]
    clear h1 hg
    go_enter Try.func58, Try.ntmps58
    go_wp2
    go_ret
    exact ⟨rfl, (Below.refl _ _).alloc (Nat.le_refl _) _⟩
set_option maxHeartbeats 1000000 in
theorem rfits_any (A As : Option Addr) (nb c cs K B s : Nat) (BL : List (List Nat)) (w : World) (hnb : nb = nblk (K * B) s) (hn : nb ≤ 4096) (hl : BL.length ≤ 1000000000000000) (hA : RLL w A BL) (hS : Rd w As nb (fun j => .int .i64 (blen K B s j : Nat))) (hL : ∀ l ∈ BL, l.length ≤ 1000000000000000) (hlb : ∀ j, j < nb → blen K B s j ≤ 65536) :
    Calls Try.prog 60 #[.slice A BL.length c, .slice As nb cs] w fun e w' => Below w.heap.size w w' ∧ ((fitS K B s BL ∧ e = .returned (.bool true)) ∨ (¬ fitS K B s BL ∧ e = .returned (.bool false))) := by
  obtain ⟨S, C, h1, _⟩ := hA
  have HA := Lib.hid h1; have HS := Lib.hid hS; have HN := Lib.hid hnb; have HL := Lib.hid hL; have HLB := Lib.hid hlb
  clear h1 hS hnb hL hlb
  obtain ⟨m, hm⟩ : ∃ m, m = BL.length := ⟨_, rfl⟩
  rw [← hm] at HA hl ⊢
  have HM := Lib.hid hm; clear hm
  by_cases hmn : m = nb
  · subst hmn
    go_enter Try.func60, Try.ntmps60
    go_wp2
    go_loopg [5] m (fun gk i wr => ∃ k : Nat, k ≤ m ∧ gk = m - k ∧ i = .int .i64 k ∧ (∀ t, t < k → (BL.getD t []).length = blen K B s t) ∧ Below w.heap.size w wr)
    case atStart => exact ⟨0, Nat.zero_le _, rfl, rfl, fun t ht => absurd ht (by omega), Below.refl _ _⟩
    case round =>
      obtain ⟨k, hk, rfl, rfl, hg, hb⟩ := hrel
      have HG := Lib.hid hg
      have HB := Lib.hid hb
      clear hg hb
      by_cases hlt : k < m
      · obtain ⟨b1, o1, rfl, hb1, hc1⟩ := HA.out k hlt
        obtain ⟨b2, o2, rfl, hb2, hc2⟩ := HS.out k hlt
        obtain ⟨x, hx⟩ : ∃ x, x = (BL.getD k []).length := ⟨_, rfl⟩
        obtain ⟨y, hy⟩ : ∃ y, y = blen K B s k := ⟨_, rfl⟩
        replace hc1 : wr.cell? ⟨b1, o1 + k, none⟩ = some (.slice (S k) x (C k)) := by rw [hx]; exact (HB.out.cell hb1).trans hc1
        replace hc2 : wr.cell? ⟨b2, o2 + k, none⟩ = some (.int .i64 (y : Nat)) := by rw [hy]; exact (HB.out.cell hb2).trans hc2
        have hxl : x ≤ 1000000000000000 := by rw [hx]; exact HL.out _ (getD_memL (by rw [← HM.out]; exact hlt))
        have hyl : y ≤ 65536 := by rw [hy]; exact HLB.out k hlt
        have HX := Lib.hid hx; have HY := Lib.hid hy
        clear hx hy
        by_cases hxy : x = y
        · have HXY := Lib.hid hxy
          have t1 : ((x : Int) != (y : Int)) = false := by rw [bne_eq_false_iff_eq]; omega
          clear hxy
          go_wp2_with fail
          refine wp_region_mix [(true, true, false), (true, true, false), (true, true, false), (true, true, true), (true, true, false), (true, true, false), (true, true, false), (true, true, false), (true, true, true), (true, true, false)] mixed (by kernel_rfl) (fun w4 => w4.cell? ⟨b1, o1 + k, none⟩ = some (.slice (S k) x (C k)) ∧ w4.cell? ⟨b2, o2 + k, none⟩ = some (.int .i64 (y : Nat))) (⟨hc1, hc2⟩) ?_
          intro hSw0
          simp only [hdM, tlM, List.cons_append, List.nil_append]
          repeat (first
            | (refine mix_look hSw0.out ?_ (by rfl) (fun w4 hSw => ?_) ?_; rotate_left; (focus (obtain ⟨s1, s2⟩ := hSw; go_simp; try with_reducible rfl)); simp only [Act.put, List.setIfInBounds_toArray, List.set_cons_zero, List.set_cons_succ])
            | (refine mix_pure ?_ (by rfl) (fun w4 => ?_) ?_; rotate_left; (focus (go_simp; try with_reducible rfl)); simp only [Act.put, List.setIfInBounds_toArray, List.set_cons_zero, List.set_cons_succ]))
          refine mix_nil ?_
          go_wp2
          go_roundg (m - (k + 1))
          case measure => omega
          case rel => exact ⟨k + 1, by omega, rfl, by go_num, fun t ht => by
            by_cases e : t = k
            · rw [e, ← HX.out, ← HY.out]; exact HXY.out
            · exact HG.out t (by omega), HB.out.drew⟩
        · have HXY := Lib.hid hxy
          have t1 : ((x : Int) != (y : Int)) = true := by rw [bne_iff_ne]; omega
          clear hxy
          go_wp2_with fail
          refine wp_region_mix [(true, true, false), (true, true, false), (true, true, false), (true, true, true), (true, true, false), (true, true, false), (true, true, false), (true, true, false), (true, true, true), (true, true, false)] mixed (by kernel_rfl) (fun w4 => w4.cell? ⟨b1, o1 + k, none⟩ = some (.slice (S k) x (C k)) ∧ w4.cell? ⟨b2, o2 + k, none⟩ = some (.int .i64 (y : Nat))) (⟨hc1, hc2⟩) ?_
          intro hSw0
          simp only [hdM, tlM, List.cons_append, List.nil_append]
          repeat (first
            | (refine mix_look hSw0.out ?_ (by rfl) (fun w4 hSw => ?_) ?_; rotate_left; (focus (obtain ⟨s1, s2⟩ := hSw; go_simp; try with_reducible rfl)); simp only [Act.put, List.setIfInBounds_toArray, List.set_cons_zero, List.set_cons_succ])
            | (refine mix_pure ?_ (by rfl) (fun w4 => ?_) ?_; rotate_left; (focus (go_simp; try with_reducible rfl)); simp only [Act.put, List.setIfInBounds_toArray, List.set_cons_zero, List.set_cons_succ]))
          refine mix_nil ?_
          go_wp2
          go_ret
          exact ⟨HB.out.drew, .inr ⟨fun h => HXY.out (by rw [HX.out, HY.out]; exact h.2 k (by rw [← HM.out]; exact hlt)), rfl⟩⟩
      · obtain rfl : m = k := by omega
        go_wp2
        go_ret
        exact ⟨HB.out, .inl ⟨⟨by rw [← HM.out]; exact HN.out, fun j hj => HG.out j (by rw [HM.out]; exact hj)⟩, rfl⟩⟩
  · have t1 : ((m : Int) != (nb : Int)) = true := by rw [bne_iff_ne]; omega
    have HMN := Lib.hid hmn
    clear hmn
    go_enter Try.func60, Try.ntmps60
    go_wp2
    go_ret
    exact ⟨Below.refl _ _, .inr ⟨fun h => HMN.out (by rw [HM.out, HN.out]; exact h.1), rfl⟩⟩
theorem bytes_toList {s t : ByteArray} (h : s.toList = t.toList) : s = t := by
  have e : ∀ s : ByteArray, s.toList = s.data.toList := fun s => ByteArray.toList_eq s
  rw [e, e] at h
  cases s; cases t
  congr
  exact Array.toList_inj.1 h
/-- Are two heads the same in all but the index? -/
def Alk (a b : Hd) : Prop := a = { b with idx := a.idx }
/-- A byte of the store's name. -/
def sbt (h : Hd) (i : Nat) : Int := [h.s0, h.s1, h.s2, h.s3, h.s4, h.s5, h.s6, h.s7].getD i 0
set_option maxHeartbeats 4000000 in
theorem alike_any (a b : Hd) (w : World) :
    Calls Try.prog 59 #[.agg #[.int .u8 a.s0, .int .u8 a.s1, .int .u8 a.s2, .int .u8 a.s3, .int .u8 a.s4, .int .u8 a.s5, .int .u8 a.s6, .int .u8 a.s7, .int .i64 a.K, .int .i64 a.M, .int .i64 a.B, .string a.key, .int .i64 a.size, .int .i64 a.idx, .int .i64 a.ep, .int .i64 a.ct], .agg #[.int .u8 b.s0, .int .u8 b.s1, .int .u8 b.s2, .int .u8 b.s3, .int .u8 b.s4, .int .u8 b.s5, .int .u8 b.s6, .int .u8 b.s7, .int .i64 b.K, .int .i64 b.M, .int .i64 b.B, .string b.key, .int .i64 b.size, .int .i64 b.idx, .int .i64 b.ep, .int .i64 b.ct]] w fun e w' => ∃ r : Bool, e = .returned (.bool r) ∧ (r = true ↔ Alk a b) ∧ Below w.heap.size w w' := by
  go_enter Try.func59, Try.ntmps59
  go_wp2
  obtain ⟨w0, hw0⟩ : ∃ w0, w0 = (w.alloc (.cells #[.int .u8 a.s0, .int .u8 a.s1, .int .u8 a.s2, .int .u8 a.s3, .int .u8 a.s4, .int .u8 a.s5, .int .u8 a.s6, .int .u8 a.s7, .int .i64 a.K, .int .i64 a.M, .int .i64 a.B, .string a.key, .int .i64 a.size, .int .i64 a.idx, .int .i64 a.ep, .int .i64 a.ct] 42)).alloc (.cells #[.int .u8 b.s0, .int .u8 b.s1, .int .u8 b.s2, .int .u8 b.s3, .int .u8 b.s4, .int .u8 b.s5, .int .u8 b.s6, .int .u8 b.s7, .int .i64 b.K, .int .i64 b.M, .int .i64 b.B, .string b.key, .int .i64 b.size, .int .i64 b.idx, .int .i64 b.ep, .int .i64 b.ct] 42) := ⟨_, rfl⟩
  rw [← hw0]
  obtain ⟨ga, hga⟩ : ∃ ga, ga = w.heap.size := ⟨_, rfl⟩
  have HBA : Hid (w0.heap[ga]? = some (.cells #[.int .u8 a.s0, .int .u8 a.s1, .int .u8 a.s2, .int .u8 a.s3, .int .u8 a.s4, .int .u8 a.s5, .int .u8 a.s6, .int .u8 a.s7, .int .i64 a.K, .int .i64 a.M, .int .i64 a.B, .string a.key, .int .i64 a.size, .int .i64 a.idx, .int .i64 a.ep, .int .i64 a.ct] 42 (0, 0))) := Lib.hid (by rw [hw0, hga]; exact (((Below.refl _ _).alloc (Nat.le_refl _) _ : Below (w.alloc (.cells #[.int .u8 a.s0, .int .u8 a.s1, .int .u8 a.s2, .int .u8 a.s3, .int .u8 a.s4, .int .u8 a.s5, .int .u8 a.s6, .int .u8 a.s7, .int .i64 a.K, .int .i64 a.M, .int .i64 a.B, .string a.key, .int .i64 a.size, .int .i64 a.idx, .int .i64 a.ep, .int .i64 a.ct] 42)).heap.size (w.alloc (.cells #[.int .u8 a.s0, .int .u8 a.s1, .int .u8 a.s2, .int .u8 a.s3, .int .u8 a.s4, .int .u8 a.s5, .int .u8 a.s6, .int .u8 a.s7, .int .i64 a.K, .int .i64 a.M, .int .i64 a.B, .string a.key, .int .i64 a.size, .int .i64 a.idx, .int .i64 a.ep, .int .i64 a.ct] 42)) _).block _ (by simp)).trans (heap_alloc_new w _))
  have HBB : Hid (w0.heap[ga + 1]? = some (.cells #[.int .u8 b.s0, .int .u8 b.s1, .int .u8 b.s2, .int .u8 b.s3, .int .u8 b.s4, .int .u8 b.s5, .int .u8 b.s6, .int .u8 b.s7, .int .i64 b.K, .int .i64 b.M, .int .i64 b.B, .string b.key, .int .i64 b.size, .int .i64 b.idx, .int .i64 b.ep, .int .i64 b.ct] 42 (0, 0))) := Lib.hid (by
    have h1 := heap_alloc_new (w.alloc (.cells #[.int .u8 a.s0, .int .u8 a.s1, .int .u8 a.s2, .int .u8 a.s3, .int .u8 a.s4, .int .u8 a.s5, .int .u8 a.s6, .int .u8 a.s7, .int .i64 a.K, .int .i64 a.M, .int .i64 a.B, .string a.key, .int .i64 a.size, .int .i64 a.idx, .int .i64 a.ep, .int .i64 a.ct] 42)) (.cells #[.int .u8 b.s0, .int .u8 b.s1, .int .u8 b.s2, .int .u8 b.s3, .int .u8 b.s4, .int .u8 b.s5, .int .u8 b.s6, .int .u8 b.s7, .int .i64 b.K, .int .i64 b.M, .int .i64 b.B, .string b.key, .int .i64 b.size, .int .i64 b.idx, .int .i64 b.ep, .int .i64 b.ct] 42)
    have h2 : (w.alloc (.cells #[.int .u8 a.s0, .int .u8 a.s1, .int .u8 a.s2, .int .u8 a.s3, .int .u8 a.s4, .int .u8 a.s5, .int .u8 a.s6, .int .u8 a.s7, .int .i64 a.K, .int .i64 a.M, .int .i64 a.B, .string a.key, .int .i64 a.size, .int .i64 a.idx, .int .i64 a.ep, .int .i64 a.ct] 42)).heap.size = ga + 1 := by rw [hga]; simp
    rw [h2, ← hw0] at h1; exact h1)
  have HB0 : Hid (Below w.heap.size w w0) := Lib.hid (by rw [hw0]; exact ((Below.refl w.heap.size w).alloc (Nat.le_refl _) _).alloc (by simp) _)
  have HS0 : Hid (w0.heap.size = ga + 2) := Lib.hid (by rw [hw0, hga]; simp)
  try rw [← hga]
  clear hw0 hga
  go_loopg [5] 8 (fun gk i wr => ∃ k : Nat, k ≤ 8 ∧ gk = 8 - k ∧ i = .int .i64 k ∧ (∀ t, t < k → sbt a t = sbt b t) ∧ Below w0.heap.size w0 wr)
  case atStart => exact ⟨0, by omega, rfl, rfl, fun t ht => absurd ht (by omega), Below.refl _ _⟩
  case round =>
    obtain ⟨k, hk, rfl, rfl, hg, hb⟩ := hrel
    by_cases hlt : k < 8
    · have HG := Lib.hid hg; have HB := Lib.hid hb
      have HBW : Hid (Below w.heap.size w wr) := Lib.hid (HB0.out.trans (hb.mono HB0.out.size))
      have KS : Hid (∀ w', Below wr.heap.size wr w' → w'.cell? ⟨ga, k, none⟩ = some (.int .u8 (sbt a k)) ∧ w'.cell? ⟨ga + 1, k, none⟩ = some (.int .u8 (sbt b k))) := Lib.hid fun w' hb' => by
        have h1 := HS0.out
        have h2 := hb.size
        rw [hb'.cell (by show ga < _; omega), hb.cell (by show ga < _; omega), hb'.cell (by show ga + 1 < _; omega), hb.cell (by show ga + 1 < _; omega)]
        refine ⟨blk_cell HBA.out ?_, blk_cell HBB.out ?_⟩ <;>
          (rcases (show k = 0 ∨ k = 1 ∨ k = 2 ∨ k = 3 ∨ k = 4 ∨ k = 5 ∨ k = 6 ∨ k = 7 by omega) with rfl | rfl | rfl | rfl | rfl | rfl | rfl | rfl <;> rfl)
      obtain ⟨x, hx⟩ : ∃ x, x = sbt a k := ⟨_, rfl⟩
      obtain ⟨y, hy⟩ : ∃ y, y = sbt b k := ⟨_, rfl⟩
      rw [← hx, ← hy] at KS
      have HX := Lib.hid hx; have HY := Lib.hid hy
      have hk8 : (k : Int) < 8 := by omega
      clear hg hb hx hy
      by_cases hxy : x = y
      · have HXY := Lib.hid hxy
        have t1 : (x != y) = false := by rw [hxy]; exact bne_self_eq_false _
        clear hxy
        go_wp2
        refine wp_region_mix [(true, true, false), (true, true, false), (true, true, false), (true, true, true), (true, true, false), (true, true, false), (true, true, false), (true, true, true), (true, true, false)] mixed (by kernel_rfl) (fun w4 => w4.cell? ⟨ga, k, none⟩ = some (.int .u8 x) ∧ w4.cell? ⟨ga + 1, k, none⟩ = some (.int .u8 y)) (KS.out _ (Below.refl _ _).drew) ?_
        intro hSw0
        simp only [hdM, tlM, List.cons_append, List.nil_append]
        repeat (first
          | (refine mix_look hSw0.out ?_ (by rfl) (fun w4 hSw => ?_) ?_; rotate_left; (focus (obtain ⟨s1, s2⟩ := hSw; go_simp; try with_reducible rfl)); simp only [Act.put, List.setIfInBounds_toArray, List.set_cons_zero, List.set_cons_succ])
          | (refine mix_pure ?_ (by rfl) (fun w4 => ?_) ?_; rotate_left; (focus (go_simp; try with_reducible rfl)); simp only [Act.put, List.setIfInBounds_toArray, List.set_cons_zero, List.set_cons_succ]))
        refine mix_nil ?_
        go_wp2
        go_roundg (8 - (k + 1))
        case measure => omega
        case rel => exact ⟨k + 1, by omega, rfl, by go_num, fun t ht => by
          by_cases e : t = k
          · rw [e, ← HX.out, ← HY.out]; exact HXY.out
          · exact HG.out t (by omega), HB.out.drew⟩
      · have HXY := Lib.hid hxy
        have t1 : (x != y) = true := by rw [bne_iff_ne]; exact hxy
        clear hxy
        go_wp2
        refine wp_region_mix [(true, true, false), (true, true, false), (true, true, false), (true, true, true), (true, true, false), (true, true, false), (true, true, false), (true, true, true), (true, true, false)] mixed (by kernel_rfl) (fun w4 => w4.cell? ⟨ga, k, none⟩ = some (.int .u8 x) ∧ w4.cell? ⟨ga + 1, k, none⟩ = some (.int .u8 y)) (KS.out _ (Below.refl _ _).drew) ?_
        intro hSw0
        simp only [hdM, tlM, List.cons_append, List.nil_append]
        repeat (first
          | (refine mix_look hSw0.out ?_ (by rfl) (fun w4 hSw => ?_) ?_; rotate_left; (focus (obtain ⟨s1, s2⟩ := hSw; go_simp; try with_reducible rfl)); simp only [Act.put, List.setIfInBounds_toArray, List.set_cons_zero, List.set_cons_succ])
          | (refine mix_pure ?_ (by rfl) (fun w4 => ?_) ?_; rotate_left; (focus (go_simp; try with_reducible rfl)); simp only [Act.put, List.setIfInBounds_toArray, List.set_cons_zero, List.set_cons_succ]))
        refine mix_nil ?_
        go_wp2
        go_ret
        exact ⟨false, rfl, ⟨fun h => (by cases h), fun h => absurd (show x = y by rw [HX.out, HY.out]; unfold Alk at h; rw [h]; rfl) HXY.out⟩, HBW.out.drew⟩
    · obtain rfl : 8 = k := by omega
      clear hk hlt
      have HBW : Hid (Below w.heap.size w wr) := Lib.hid (HB0.out.trans (hb.mono HB0.out.size))
      have HG := Lib.hid hg
      have eA : wr.heap[ga]? = _ := (hb.block ga (by have := HS0.out; omega)).trans HBA.out
      have eB : wr.heap[ga + 1]? = _ := (hb.block (ga + 1) (by have := HS0.out; omega)).trans HBB.out
      have a8 : wr.cell? ⟨ga, 8, none⟩ = some (.int .i64 a.K) := blk_cell eA rfl
      have b8 : wr.cell? ⟨ga + 1, 8, none⟩ = some (.int .i64 b.K) := blk_cell eB rfl
      have a9 : wr.cell? ⟨ga, 9, none⟩ = some (.int .i64 a.M) := blk_cell eA rfl
      have b9 : wr.cell? ⟨ga + 1, 9, none⟩ = some (.int .i64 b.M) := blk_cell eB rfl
      have a10 : wr.cell? ⟨ga, 10, none⟩ = some (.int .i64 a.B) := blk_cell eA rfl
      have b10 : wr.cell? ⟨ga + 1, 10, none⟩ = some (.int .i64 b.B) := blk_cell eB rfl
      have a11 : wr.cell? ⟨ga, 11, none⟩ = some (.string a.key) := blk_cell eA rfl
      have b11 : wr.cell? ⟨ga + 1, 11, none⟩ = some (.string b.key) := blk_cell eB rfl
      have a12 : wr.cell? ⟨ga, 12, none⟩ = some (.int .i64 a.size) := blk_cell eA rfl
      have b12 : wr.cell? ⟨ga + 1, 12, none⟩ = some (.int .i64 b.size) := blk_cell eB rfl
      have a14 : wr.cell? ⟨ga, 14, none⟩ = some (.int .i64 a.ep) := blk_cell eA rfl
      have b14 : wr.cell? ⟨ga + 1, 14, none⟩ = some (.int .i64 b.ep) := blk_cell eB rfl
      have a15 : wr.cell? ⟨ga, 15, none⟩ = some (.int .i64 a.ct) := blk_cell eA rfl
      have b15 : wr.cell? ⟨ga + 1, 15, none⟩ = some (.int .i64 b.ct) := blk_cell eB rfl
      clear eA eB hg hb
      by_cases h0 : a.K = b.K
      rotate_left
      · have HN := Lib.hid h0
        have t0 : (a.K == b.K) = false := by rw [beq_eq_false_iff_ne]; exact h0
        clear h0
        go_wp2
        go_ret
        exact ⟨false, rfl, ⟨fun h => (by cases h), fun h => (HN.out (by unfold Alk at h; rw [h])).elim⟩, HBW.out⟩
      have H0 := Lib.hid h0
      have t0 : (a.K == b.K) = true := by rw [h0]; simp
      clear h0
      by_cases h1 : a.M = b.M
      rotate_left
      · have HN := Lib.hid h1
        have t1 : (a.M == b.M) = false := by rw [beq_eq_false_iff_ne]; exact h1
        clear h1
        go_wp2
        go_ret
        exact ⟨false, rfl, ⟨fun h => (by cases h), fun h => (HN.out (by unfold Alk at h; rw [h])).elim⟩, HBW.out⟩
      have H1 := Lib.hid h1
      have t1 : (a.M == b.M) = true := by rw [h1]; simp
      clear h1
      by_cases h2 : a.B = b.B
      rotate_left
      · have HN := Lib.hid h2
        have t2 : (a.B == b.B) = false := by rw [beq_eq_false_iff_ne]; exact h2
        clear h2
        go_wp2
        go_ret
        exact ⟨false, rfl, ⟨fun h => (by cases h), fun h => (HN.out (by unfold Alk at h; rw [h])).elim⟩, HBW.out⟩
      have H2 := Lib.hid h2
      have t2 : (a.B == b.B) = true := by rw [h2]; simp
      clear h2
      by_cases h3 : a.key = b.key
      rotate_left
      · have HN := Lib.hid h3
        have t3 : ¬ a.key.toList = b.key.toList := fun e => h3 (bytes_toList e)
        clear h3
        go_wp2
        go_ret
        exact ⟨false, rfl, ⟨fun h => (by cases h), fun h => (HN.out (by unfold Alk at h; rw [h])).elim⟩, HBW.out⟩
      have H3 := Lib.hid h3
      have t3 : a.key.toList = b.key.toList := by rw [h3]
      clear h3
      by_cases h4 : a.size = b.size
      rotate_left
      · have HN := Lib.hid h4
        have t4 : (a.size == b.size) = false := by rw [beq_eq_false_iff_ne]; exact h4
        clear h4
        go_wp2
        go_ret
        exact ⟨false, rfl, ⟨fun h => (by cases h), fun h => (HN.out (by unfold Alk at h; rw [h])).elim⟩, HBW.out⟩
      have H4 := Lib.hid h4
      have t4 : (a.size == b.size) = true := by rw [h4]; simp
      clear h4
      by_cases h5 : a.ep = b.ep
      rotate_left
      · have HN := Lib.hid h5
        have t5 : (a.ep == b.ep) = false := by rw [beq_eq_false_iff_ne]; exact h5
        clear h5
        go_wp2
        go_ret
        exact ⟨false, rfl, ⟨fun h => (by cases h), fun h => (HN.out (by unfold Alk at h; rw [h])).elim⟩, HBW.out⟩
      have H5 := Lib.hid h5
      have t5 : (a.ep == b.ep) = true := by rw [h5]; simp
      clear h5
      by_cases h6 : a.ct = b.ct
      rotate_left
      · have HN := Lib.hid h6
        have t6 : (a.ct == b.ct) = false := by rw [beq_eq_false_iff_ne]; exact h6
        clear h6
        go_wp2
        go_ret
        exact ⟨false, rfl, ⟨fun h => (by cases h), fun h => (HN.out (by unfold Alk at h; rw [h])).elim⟩, HBW.out⟩
      have H6 := Lib.hid h6
      have t6 : (a.ct == b.ct) = true := by rw [h6]; simp
      clear h6
      go_wp2
      go_ret
      refine ⟨true, rfl, ⟨fun _ => ?_, fun _ => rfl⟩, HBW.out⟩
      have g0 := HG.out 0 (by decide); have g1 := HG.out 1 (by decide); have g2 := HG.out 2 (by decide); have g3 := HG.out 3 (by decide); have g4 := HG.out 4 (by decide); have g5 := HG.out 5 (by decide); have g6 := HG.out 6 (by decide); have g7 := HG.out 7 (by decide)
      have H0 := H0.out; have H1 := H1.out; have H2 := H2.out; have H3 := H3.out; have H4 := H4.out; have H5 := H5.out; have H6 := H6.out
      unfold Alk
      obtain ⟨a0, a1, a2, a3, a4, a5, a6, a7, aK, aM, aB, ak, asz, ai, ae, ac⟩ := a
      obtain ⟨b0, b1, b2, b3, b4, b5, b6, b7, bK, bM, bB, bk, bsz, bi, be, bc⟩ := b
      simp only [sbt, List.getD_cons_zero, List.getD_cons_succ] at g0 g1 g2 g3 g4 g5 g6 g7
      simp only at H0 H1 H2 H3 H4 H5 H6
      subst g0 g1 g2 g3 g4 g5 g6 g7 H0 H1 H2 H3 H4 H5 H6
      rfl
end Go.Proofs.Ytjaaldandgfkgaa
