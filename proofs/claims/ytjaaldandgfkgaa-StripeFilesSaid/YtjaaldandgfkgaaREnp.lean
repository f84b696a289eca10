/- Times and Over of the document's layer 1: the walks. Conditions: bytes. -/
import Derived.Test.YtjaaldandgfkgaaGf
import Derived.Test.YtjaaldandgfkgaaElm
import Derived.Test.YtjaaldandgfkgaaReb
import Derived.Test.YtjaaldandgfkgaaLnt0
import Derived.Test.YtjaaldandgfkgaaFactG
namespace Go.Proofs.Ytjaaldandgfkgaa
open Go.RowKit

theorem pR_lt {a b : Nat} (h : a < 256) : ∀ k, k ≤ 8 → pR a b k < 2 ^ 16
 | 0, _ => by unfold pR; decide
 | k + 1, hk => by
  unfold pR
  have h2 : 2 ^ k ≤ 2 ^ 7 := Nat.pow_le_pow_right (by decide) (by omega)
  have h3 : a * 2 ^ k ≤ 255 * 2 ^ 7 := Nat.mul_le_mul (by omega) h2
  split
  · exact Nat.xor_lt_two_pow (pR_lt h k (by omega)) (by omega)
  · exact pR_lt h k (by omega)
theorem and_bit64 (b k : Nat) (h : b < 2 ^ 62) : bits .and .i64 ((b : Int) / 2 ^ k) 1 = ((b / 2 ^ k % 2 : Nat) : Int) := by
 have e : ((b : Int) / 2 ^ k) = ((b / 2 ^ k : Nat) : Int) := by norm_cast
 have hl : b / 2 ^ k < 2 ^ 62 := Nat.lt_of_le_of_lt (Nat.div_le_self _ _) h
 rw [e, show (1 : Int) = ((1 : Nat) : Int) from rfl, (bits_nat .i64 62 (by decide) i64_small _ 1 hl (by decide)).1, nat_mask1]
theorem bit64_true {b k : Nat} (h : b < 2 ^ 62) (ht : (bits .and .i64 ((b : Int) / 2 ^ k) 1 == 1) = true) : b / 2 ^ k % 2 = 1 := by
 rw [and_bit64 b k h] at ht
 generalize b / 2 ^ k = z at *
 have := eq_of_beq ht
 omega
theorem bit64_false {b k : Nat} (h : b < 2 ^ 62) (ht : (bits .and .i64 ((b : Int) / 2 ^ k) 1 == 1) = false) : ¬ b / 2 ^ k % 2 = 1 := by
 rw [and_bit64 b k h] at ht
 generalize b / 2 ^ k = z at *
 intro e
 rw [e] at ht
 exact absurd ht (by decide)

theorem sh_nat (x k : Nat) (h : x * 2 ^ k < 2 ^ 62) : wrap64 ((x : Int) * 2 ^ k) = ((x * 2 ^ k : Nat) : Int) := by
 have e : ((x : Int) * 2 ^ k) = ((x * 2 ^ k : Nat) : Int) := by norm_cast
 rw [e]
 generalize x * 2 ^ k = z at *
 unfold wrap64
 omega
theorem rR_lt {d m p : Nat} (hp : p < 2 ^ 16) (hm : m * 2 ^ (15 - d) < 2 ^ 16) : ∀ t, t ≤ 16 - d → rR d m p t < 2 ^ 16
 | 0, _ => hp
 | t + 1, ht => by
  unfold rR rstep
  have h2 : 2 ^ (15 - t - d) ≤ 2 ^ (15 - d) := Nat.pow_le_pow_right (by decide) (by omega)
  have h3 : m * 2 ^ (15 - t - d) ≤ m * 2 ^ (15 - d) := Nat.mul_le_mul (Nat.le_refl _) h2
  split
  · exact Nat.xor_lt_two_pow (rR_lt hp hm t (by omega)) (by omega)
  · exact rR_lt hp hm t (by omega)


theorem pR_lt15 {a b : Nat} (h : a < 256) : ∀ k, k ≤ 8 → pR a b k < 2 ^ 15
 | 0, _ => by unfold pR; decide
 | k + 1, hk => by
  unfold pR
  have h2 : 2 ^ k ≤ 2 ^ 7 := Nat.pow_le_pow_right (by decide) (by omega)
  have h3 : a * 2 ^ k ≤ 255 * 2 ^ 7 := Nat.mul_le_mul (by omega) h2
  split
  · exact Nat.xor_lt_two_pow (pR_lt15 h k (by omega)) (by omega)
  · exact pR_lt15 h k (by omega)
set_option maxHeartbeats 800000 in
theorem rtimes_any (x y : Fin 256) (w : World) :
 Calls Try.prog 81 #[.int .i64 (x.val : Nat), .int .i64 (y.val : Nat)] w fun e w' => e = .returned (.int .i64 ((gE.m x y).val : Nat)) ∧ w = w' := by
 have ha := x.isLt
 have hb := y.isLt
 have HM : Hid ((gE.m x y).val = rR 8 285 (pR x.val y.val 8) 8) := rfl
 generalize (gE.m x y).val = M at *
 generalize x.val = a at *
 generalize y.val = b at *
 go_enter Try.func81, Try.ntmps81
 go_wp2
 go_loopg [5, 6] 8 (fun g p i wr => wr = w ∧ ∃ k : Nat, k ≤ 8 ∧ g = 8 - k ∧ i = .int .i64 k ∧ p = .int .i64 (pR a b k))
 case atStart => exact ⟨rfl, 0, by omega, rfl, rfl, rfl⟩
 case round =>
  obtain ⟨rfl, k, hk, rfl, rfl, rfl⟩ := hrel
  have hp0 := pR_lt (b := b) ha k hk
  have HP15 := Lib.hid (pR_lt15 (b := b) ha k hk)
  have hpe : pR a b (k + 1) = if b / 2 ^ k % 2 = 1 then pR a b k ^^^ (a * 2 ^ k) else pR a b k := rfl
  have HPE := Lib.hid hpe; clear hpe
  generalize hpg : pR a b k = p0 at *
  have HG1 := Lib.hid hpg; clear hpg
  by_cases hlt : k < 8
  · by_cases hbt : (bits .and .i64 ((b : Int) / 2 ^ k) 1 == 1) = true
    · have HB := Lib.hid (bit64_true (by omega) hbt)
      have hsh := Lib.hid (sh_nat a k (by have h2 : 2 ^ k ≤ 2 ^ 7 := Nat.pow_le_pow_right (by decide) (by omega); have h3 : a * 2 ^ k ≤ 255 * 2 ^ 7 := Nat.mul_le_mul (by omega) h2; omega))
      have hxor := Lib.hid (i64_xor_nat p0 (a * 2 ^ k) (by omega) (by have h2 : 2 ^ k ≤ 2 ^ 7 := Nat.pow_le_pow_right (by decide) (by omega); have h3 : a * 2 ^ k ≤ 255 * 2 ^ 7 := Nat.mul_le_mul (by omega) h2; omega))
      go_wp2
      go_roundg (8 - (k + 1))
      case measure => omega
      case rel => exact ⟨rfl, k + 1, by omega, rfl, by go_num, by rw [HPE.out, if_pos HB.out, ← hxor.out, hsh.out]⟩
    · have hbf : (bits .and .i64 ((b : Int) / 2 ^ k) 1 == 1) = false := by simpa using hbt
      have HB := Lib.hid (bit64_false (by omega) hbf)
      clear hbt
      go_wp2
      go_roundg (8 - (k + 1))
      case measure => omega
      case rel => exact ⟨rfl, k + 1, by omega, rfl, by go_num, by rw [HPE.out, if_neg HB.out]⟩
  · have : k = 8 := by omega
    subst this
    have HE : Hid (M = rR 8 285 p0 8) := by rw [← HG1.out]; exact HM.out
    have H1 : Hid (rR 8 285 p0 1 = p0) := by
     show rstep _ 15 p0 = p0
     unfold rstep
     rw [if_neg]
     have := HP15.out
     rw [Nat.div_eq_of_lt this]
     decide
    clear hlt HPE HM
    go_wp2
    go_loopg [5, 7] 7 (fun g p i w' => w' = wr ∧ ∃ t : Nat, t ≤ 7 ∧ g = 7 - t ∧ i = .int .i64 ((14 : Int) - t) ∧ p = .int .i64 (rR 8 285 p0 (t + 1)))
    case atStart => exact ⟨rfl, 0, by omega, rfl, rfl, by rw [H1.out]⟩
    case round =>
     obtain ⟨rfl, t, ht, rfl, rfl, rfl⟩ := hrel
     have hp1 := rR_lt (d := 8) (m := 285) hp0 (by decide) (t + 1) (by omega)
     have hre : rR 8 285 p0 (t + 1 + 1) = if rR 8 285 p0 (t + 1) / 2 ^ (15 - (t + 1)) % 2 = 1 then rR 8 285 p0 (t + 1) ^^^ (285 * 2 ^ (15 - (t + 1) - 8)) else rR 8 285 p0 (t + 1) := rfl
     rw [show 15 - (t + 1) = 14 - t by omega] at hre
     have HRE := Lib.hid hre; clear hre
     generalize hpg : rR 8 285 p0 (t + 1) = p1 at *
     have HG2 := Lib.hid hpg; clear hpg
     by_cases hlt : t < 7
     · have hpow : 285 * 2 ^ (14 - t - 8) < 2 ^ 16 := by
        have h2 : 2 ^ (14 - t - 8) ≤ 2 ^ 7 := Nat.pow_le_pow_right (by decide) (by omega)
        omega
       have HPW := Lib.hid hpow; clear hpow
       have e14 : (14 : Int) - (t : Int) = ((14 - t : Nat) : Int) := by omega
       rw [e14]
       by_cases hbt : (bits .and .i64 ((p1 : Int) / 2 ^ (14 - t)) 1 == 1) = true
       · have HB := Lib.hid (bit64_true (by omega) hbt)
         have hsh := Lib.hid (sh_nat 285 (14 - t - 8) (Nat.lt_of_lt_of_le HPW.out (by decide)))
         have hxor := Lib.hid (i64_xor_nat p1 (285 * 2 ^ (14 - t - 8)) (by omega) (Nat.lt_of_lt_of_le HPW.out (by decide)))
         go_wp2
         go_roundg (7 - (t + 1))
         case measure => omega
         case rel => exact ⟨rfl, t + 1, by omega, rfl, by go_num, by rw [HRE.out, if_pos HB.out, ← hxor.out, ← hsh.out]; rfl⟩
       · have hbf : (bits .and .i64 ((p1 : Int) / 2 ^ (14 - t)) 1 == 1) = false := by simpa using hbt
         have HB := Lib.hid (bit64_false (by omega) hbf)
         clear hbt
         go_wp2
         go_roundg (7 - (t + 1))
         case measure => omega
         case rel => exact ⟨rfl, t + 1, by omega, rfl, by go_num, by rw [HRE.out, if_neg HB.out]⟩
     · have : t = 7 := by omega
       subst this
       go_wp2
       go_ret
       exact ⟨by rw [HE.out, ← HG2.out]; rfl, rfl⟩
set_option maxRecDepth 20000 in
set_option maxHeartbeats 1000000 in
theorem rover_any (x y : Fin 256) (w : World) :
 Calls Try.prog 102 #[.int .i64 (x.val : Nat), .int .i64 (y.val : Nat)] w fun e w' => ∃ er : Int, e = .returned (.tuple #[.int .i64 ((gE.m x (gE.v y)).val : Nat), .int .i64 er]) ∧ w = w' := by
 by_cases h0 : y = gE.z
 · subst h0
   have HZ : Hid ((gE.m x (gE.v gE.z)).val = 0) := by rw [gE.v_z, gE.m_z]; rfl
   have t1 : (((gE.z.val : Nat) : Int) == 0) = true := rfl
   rw [HZ.out]
   generalize gE.z.val = Z at *
   go_enter Try.func102, Try.ntmps102
   go_wp2
   go_ret2
   exact ⟨10, rfl, rfl⟩
 · have t1 : ((y.val : Int) == 0) = false := by
    rw [beq_eq_false_iff_ne]; intro e; exact h0 (Fin.ext (by show y.val = 0; omega))
   have HU : Hid (∀ c : Fin 256, gE.m c y = x ↔ c = gE.m x (gE.v y)) := fun c => by
    constructor
    · intro e; rw [← e, gE.m_assoc, gE.m_v y h0, gE.m_u]
    · intro e; rw [e, gE.m_assoc, gE.m_comm (gE.v y), gE.m_v y h0, gE.m_u]
   have CT := Lib.hid (fun (c : Fin 256) w => rtimes_any c y w)
   generalize hq : gE.m x (gE.v y) = q at *
   have hql := q.isLt
   clear h0 hq
   go_enter Try.func102, Try.ntmps102
   go_wp2
   go_loopg [6] (q.val) (fun g i wr => wr = w ∧ ∃ k : Nat, k ≤ q.val ∧ g = q.val - k ∧ i = .int .i64 k)
   case atStart => exact ⟨rfl, 0, by omega, rfl, rfl⟩
   case round =>
    obtain ⟨rfl, k, hk, rfl, rfl⟩ := hrel
    have CK := Lib.hid (CT.out ⟨k, by omega⟩ wr)
    by_cases hlt : k = q.val
    · have e : gE.m ⟨k, by omega⟩ y = x := (HU.out _).2 (Fin.ext hlt)
      rw [e] at CK
      have HK := Lib.hid hlt
      have CK2 : Hid (Calls Try.prog 81 #[.int .i64 (k : Nat), .int .i64 (y.val : Nat)] wr fun e w' => e = .returned (.int .i64 (x.val : Nat)) ∧ wr = w') := CK.out
      clear e hlt CK CT
      go_wp2_with fail
      refine CK2.out.mono ?_
      rintro e w1 ⟨rfl, rfl⟩
      go_wp2
      go_ret2
      exact ⟨0, by rw [HK.out]; rfl, rfl⟩
    · have e : gE.m ⟨k, by omega⟩ y ≠ x := fun e => hlt (congrArg Fin.val ((HU.out _).1 e))
      have CK2 : Hid (Calls Try.prog 81 #[.int .i64 (k : Nat), .int .i64 (y.val : Nat)] wr fun e w' => e = .returned (.int .i64 ((gE.m ⟨k, by omega⟩ y).val : Nat)) ∧ wr = w') := CK.out
      have hne : (((gE.m ⟨k, by omega⟩ y).val : Int) == (x.val : Int)) = false := by
       rw [beq_eq_false_iff_ne]; intro e2; exact e (Fin.ext (by omega))
      generalize (gE.m ⟨k, by omega⟩ y).val = z at *
      clear e CK
      go_wp2_with fail
      refine CK2.out.mono ?_
      rintro e w1 ⟨rfl, rfl⟩
      go_wp2
      go_roundg (q.val - (k + 1))
      case measure => omega
      case rel => exact ⟨rfl, k + 1, by omega, rfl, by go_num⟩
end Go.Proofs.Ytjaaldandgfkgaa

/- First, Shares, Weights of the document's layer 4: the walks. Conditions: points that are bytes. -/
namespace Go.Proofs.Ytjaaldandgfkgaa
open Go.RowKit

theorem intInfo : (Try.prog.info? 3).map (fun i => (i.zero, i.size, i.bytes)) = some (some (.int .i64 0), 1, 8) := by kernel_rfl
theorem intsInfo : (Try.prog.info? 25).map (fun i => (i.zero, i.size, i.bytes)) = some (some (.slice none 0 0), 1, 24) := by kernel_rfl
set_option maxHeartbeats 400000 in
theorem first_any (k : Nat) (w : World) (hk : k ≤ 1000000) :
 Calls Try.prog 50 #[.int .i64 k] w fun e w' => ∃ A c, e = .returned (.slice A k c) ∧ Rd w' A k (fun i => .int .i64 (i : Nat)) ∧ Below w.heap.size w w' := by
 go_enter Try.func50, Try.ntmps50
 go_wp2
 go_loopg [3, 4] k (fun gk v i wr => ∃ j : Nat, j ≤ k ∧ gk = k - j ∧ i = .int .i64 j ∧ Own wr w.heap.size 3 1 v j (fun i => [.int .i64 (i : Nat)]) ∧ Below w.heap.size w wr)
 case atStart => exact ⟨0, Nat.zero_le _, rfl, rfl, Own.nil _ _ _ _ _, Below.refl _ _⟩
 case round =>
  obtain ⟨j, hj, rfl, rfl, hO, hb⟩ := hrel
  have hsz := hb.size
  by_cases hlt : j < k
  · go_wp2_with (at_builtin; refine wpList_push _ rfl (.tmp 10) (.tmp 12) 25 rfl w.heap.size 3 1 8 (.int .i64 0) #[.int .i64 (j : Nat)] Try.underlying25 intInfo rfl (by decide) _ j _ rfl hO hsz _ rfl rfl rfl rfl rfl (by omega) (by omega) ?_)
    intro v' w1 hO1 hb1 _ _
    have hbb := hb.trans hb1
    clear hO hb hb1
    go_wp2
    go_roundg (k - (j + 1))
    case measure => omega
    case rel => exact ⟨j + 1, by omega, rfl, by go_num, hO1, hbb⟩
  · have hjk : j = k := by omega
    subst j
    obtain ⟨A, c, hv, _, _, hR, _⟩ := hO.rd
    subst hv
    have HR := Lib.hid hR; have HB := Lib.hid hb
    clear hO hR hb
    go_wp2
    go_ret
    exact ⟨A, c, rfl, HR.out, HB.out⟩

theorem xor_el (x y : Fin 256) : bits .xor .i64 (x.val : Nat) (y.val : Nat) = (((gE.a x y).val : Nat) : Int) := by
 have h1 := x.isLt; have h2 := y.isLt
 rw [i64_xor_nat _ _ (by omega) (by omega)]; rfl
set_option maxRecDepth 40000 in
set_option maxHeartbeats 2000000 in
theorem shares_any (A : Option Addr) (k c : Nat) (q : Nat → Fin 256) (x : Fin 256) (w : World) (hk : k ≤ 1000000) (hA : Rd w A k (fun i => .int .i64 ((q i).val : Nat))) :
 Calls Try.prog 80 #[.slice A k c, .int .i64 (x.val : Nat)] w fun e w' => ∃ (b : Nat) (o : Nat → Fin 256), e = .returned (.slice (some ⟨b, 0, none⟩) k k) ∧ w.heap.size ≤ b ∧ w'.rowIs b 3 k (fun j => .int .i64 ((o j).val : Nat)) ∧ gE.ShP q k x o ∧ Below w.heap.size w w' := by
 have hmk := run_make_row' (P := Try.prog) 25 3 (.int .i64 0) 8 Try.underlying25 intInfo rfl .i64 .i64 k (by omega) (by omega)
 have hz0 := Lib.hid (World.rowIs_made w (.int .i64 0) k 3)
 have hb0 := Lib.hid ((Below.refl w.heap.size w).alloc (Nat.le_refl _) (.cells (madeCells #[.int .i64 0] k) 3))
 have HA := Lib.hid hA; clear hA
 go_enter Try.func80, Try.ntmps80
 go_wp2
 clear hmk
 go_loopg [6] k (fun gk i wr => ∃ j : Nat, j ≤ k ∧ gk = k - j ∧ i = .int .i64 j ∧ (∀ t, t < j → q t ≠ x) ∧ wr.rowIs w.heap.size 3 k (fun _ => .int .i64 0) ∧ Below w.heap.size w wr)
 case atStart => exact ⟨0, Nat.zero_le _, rfl, rfl, fun t ht => absurd ht (by omega), hz0.out, hb0.out⟩
 case round =>
  clear hz0 hb0
  obtain ⟨j, hj, rfl, rfl, hne, hQ, hb⟩ := hrel
  have HNE := Lib.hid hne; have HQ := Lib.hid hQ; have HB := Lib.hid hb
  clear hne hQ hb
  by_cases hlt : j < k
  · obtain ⟨b1, o1, rfl, hb1, hx1⟩ := HA.out j hlt
    have hy1 : wr.cell? ⟨b1, o1 + j, none⟩ = some (.int .i64 ((q j).val : Nat)) := (HB.out.cell hb1).trans hx1
    clear hx1
    by_cases hqx : q j = x
    · have t1 : (((q j).val : Int) == (x.val : Int)) = true := by rw [hqx]; simp
      have hcl := HQ.out.cell hlt
      have hfz := HQ.out.frozen j
      have HX := Lib.hid hqx; clear hqx
      go_wp2
      go_ret
      refine ⟨w.heap.size, fun i => if i = j then gE.u else gE.z, rfl, Nat.le_refl _, (HQ.out.set j (.int .i64 1)).congr fun i _ => ?_, .inl ⟨j, hlt, HX.out, fun i hi => HNE.out i hi, fun i _ => rfl⟩, HB.out.setCell (Nat.le_refl _) _⟩
      by_cases e : i = j
      · simp only [e, if_true]; rfl
      · simp only [e, if_false]; rfl
    · have t1 : (((q j).val : Int) == (x.val : Int)) = false := by
       rw [beq_eq_false_iff_ne]; intro e; exact hqx (Fin.ext (by omega))
      have HX := Lib.hid hqx; clear hqx
      go_wp2
      go_roundg (k - (j + 1))
      case measure => omega
      case rel => exact ⟨j + 1, by omega, rfl, by go_num, fun t ht => by
       by_cases e : t = j
       · subst e; exact HX.out
       · exact HNE.out t (by omega), HQ.out, HB.out⟩
  · have hjk : j = k := by omega
    subst j
    have HQ1 : Hid (wr.rowIs w.heap.size 3 k (fun i => .int .i64 ((if i < 0 then gE.wD q k x i else gE.z).val : Nat))) := HQ.out.congr fun i _ => by rw [if_neg (by omega)]; rfl
    have hbw := HB.out.size
    clear HQ
    go_wp2
    go_loopg [7] k (fun gk i wr => ∃ j : Nat, j ≤ k ∧ gk = k - j ∧ i = .int .i64 j ∧ wr.rowIs w.heap.size 3 k (fun i => .int .i64 ((if i < j then gE.wD q k x i else gE.z).val : Nat)) ∧ Below w.heap.size w wr)
    case atStart => exact ⟨0, Nat.zero_le _, rfl, rfl, HQ1.out, HB.out⟩
    case round =>
     clear HQ1 HB
     obtain ⟨j, hj, rfl, rfl, hQ, hb⟩ := hrel
     have HQ := Lib.hid hQ; have HB := Lib.hid hb
     clear hQ hb
     by_cases hlt : j < k
     · go_wp2
       obtain ⟨wo, hwo⟩ : ∃ wo : World, wo = wr := ⟨_, rfl⟩
       go_loopg [8, 9, 10] k (fun gk u d i w2 => ∃ i0 : Nat, i0 ≤ k ∧ gk = k - i0 ∧ i = .int .i64 i0 ∧ u = .int .i64 ((gE.skp gE.u j i0 (fun i => gE.a x (q i))).val : Nat) ∧ d = .int .i64 ((gE.skp gE.u j i0 (fun i => gE.a (q j) (q i))).val : Nat) ∧ Dr wo w2)
       case atStart => exact ⟨0, Nat.zero_le _, rfl, rfl, rfl, rfl, by rw [hwo]; exact Dr.refl _⟩
       case round =>
        obtain ⟨i, hi, rfl, rfl, rfl, rfl, hd⟩ := hrel
        have HD := Lib.hid hd; clear hd
        have hbw : Below w.heap.size w wr := (HB.out.trans (by rw [← hwo]; exact HD.out.below _) : Below w.heap.size w _)
        by_cases hli : i < k
        · by_cases hij : i = j
          · subst hij
            have HU : Hid (∀ f : Nat → Fin 256, gE.skp gE.u i (i + 1) f = gE.skp gE.u i i f) := fun f => by show (if i = i then _ else _) = _; rw [if_pos rfl]
            go_wp2
            go_roundg (k - (i + 1))
            case measure => omega
            case rel => exact ⟨i + 1, by omega, rfl, by go_num, by rw [HU.out], by rw [HU.out], HD.out⟩
          · have hij' : ((i : Int) != (j : Int)) = true := by rw [bne_iff_ne]; omega
            have HU : Hid (∀ f : Nat → Fin 256, gE.skp gE.u j (i + 1) f = gE.m (gE.skp gE.u j i f) (f i)) := fun f => by show (if i = j then _ else _) = _; rw [if_neg hij]
            obtain ⟨b1, o1, rfl, hb1, hx1⟩ := HA.out j hlt
            obtain ⟨b2, o2, e2, hb2, hx2⟩ := HA.out i hli
            injection e2 with e2
            injection e2 with e2 e3 _
            subst e2 e3
            have hy1 : wr.cell? ⟨b1, o1 + j, none⟩ = some (.int .i64 ((q j).val : Nat)) := (hbw.cell hb1).trans hx1
            have hy2 : wr.cell? ⟨b1, o1 + i, none⟩ = some (.int .i64 ((q i).val : Nat)) := (hbw.cell hb1).trans hx2
            have hX1 := xor_el x (q i)
            have hX2 := xor_el (q j) (q i)
            have CT := Lib.hid (fun (a b : Fin 256) w => rtimes_any a b w)
            have KS : Hid (wr.cell? ⟨b1, o1 + j, none⟩ = some (.int .i64 ((q j).val : Nat)) ∧ wr.cell? ⟨b1, o1 + i, none⟩ = some (.int .i64 ((q i).val : Nat))) := ⟨hy1, hy2⟩
            clear hx1 hx2 hij hbw
            go_wp2_with fail
            refine (CT.out _ (gE.a x (q i)) _).mono ?_
            rintro e w5 ⟨rfl, rfl⟩
            go_wp2_with fail
            clear hy1 hy2
            refine wp_region_mix [(true, true, false), (true, true, false), (true, true, false), (true, true, false), (true, true, true), (true, true, false), (true, true, false), (true, true, false), (true, true, true), (true, true, false), (false, false, false), (false, false, true)] mixed (by kernel_rfl) (fun w4 => w4.cell? ⟨b1, o1 + j, none⟩ = some (.int .i64 ((q j).val : Nat)) ∧ w4.cell? ⟨b1, o1 + i, none⟩ = some (.int .i64 ((q i).val : Nat))) (KS.out) ?_
            intro hSw0
            simp only [hdM, tlM, List.cons_append, List.nil_append]
            repeat (first
             | (refine mix_look hSw0.out ?_ (by rfl) (fun w4 hSw => ?_) ?_; rotate_left; (focus (obtain ⟨s1, s2⟩ := hSw; go_simp; try with_reducible rfl)); simp only [Act.put, List.setIfInBounds_toArray, List.set_cons_zero, List.set_cons_succ])
             | (refine mix_pure ?_ (by rfl) (fun w4 => ?_) ?_; rotate_left; (focus (go_simp; try with_reducible rfl)); simp only [Act.put, List.setIfInBounds_toArray, List.set_cons_zero, List.set_cons_succ]))
            refine mix_step (fun K hK => ?_)
            go_simp
            refine (CT.out _ (gE.a (q j) (q i)) _).mono ?_
            rintro e w5 ⟨rfl, rfl⟩
            dsimp only
            refine hK.out _ _ (fun _ h => h) ?_
            clear hK K
            try simp only [Act.put, List.setIfInBounds_toArray, List.set_cons_zero, List.set_cons_succ]
            refine mix_step (fun K hK => ?_)
            go_simp
            refine hK.out _ _ (fun h => absurd h (by decide)) ?_
            clear hK K
            try simp only [Act.put, List.setIfInBounds_toArray, List.set_cons_zero, List.set_cons_succ]
            refine mix_nil ?_
            go_wp2
            go_roundg (k - (i + 1))
            case measure => omega
            case rel => exact ⟨i + 1, by omega, rfl, by go_num, by rw [HU.out], by rw [HU.out], HD.out.drew⟩
        · have hik : i = k := by omega
          subst i
          have HD2 : Hid (Below w.heap.size w wr) := hbw
          have hQ2 : wr.rowIs w.heap.size 3 k (fun i => .int .i64 ((if i < j then gE.wD q k x i else gE.z).val : Nat)) := by
           have h := HQ.out
           rw [← hwo] at h
           obtain ⟨m, hm⟩ := HD.out
           rw [hm]; exact h
          have hcl := hQ2.cell hlt
          have hfz := hQ2.frozen j
          have e0 : (if j < j then gE.wD q k x j else gE.z) = gE.z := if_neg (by omega)
          rw [e0] at hcl
          have HW : Hid (gE.m (gE.skp gE.u j k (fun i => gE.a x (q i))) (gE.v (gE.skp gE.u j k (fun i => gE.a (q j) (q i)))) = gE.wD q k x j) := rfl
          have HQ3 := Lib.hid ((hQ2.set j (.int .i64 ((gE.wD q k x j).val : Nat))).congr (g := fun i => .int .i64 ((if i < j + 1 then gE.wD q k x i else gE.z).val : Nat)) fun i _ => by
           by_cases e : i = j
           · subst e; rw [if_pos rfl, if_pos (by omega)]
           · rw [if_neg e]
             by_cases e2 : i < j
             · rw [if_pos e2, if_pos (by omega)]
             · rw [if_neg e2, if_neg (by omega)])
          have HB3 := Lib.hid (hbw.setCell (p := ⟨w.heap.size, j, none⟩) (Nat.le_refl _) (.int .i64 ((gE.wD q k x j).val : Nat)))
          clear hQ2 hbw e0
          go_wp2_with fail
          refine (rover_any _ _ _).mono ?_
          rintro e w5 ⟨er, rfl, rfl⟩
          rw [HW.out]
          go_wp2
          go_roundg (k - (j + 1))
          case measure => omega
          case rel => exact ⟨j + 1, by omega, rfl, by go_num, HQ3.out, HB3.out⟩
     · have hjk : j = k := by omega
       subst j
       go_wp2
       go_ret
       refine ⟨w.heap.size, gE.wD q k x, rfl, Nat.le_refl _, HQ.out.congr fun i hi => by rw [if_pos hi], .inr ⟨HNE.out, fun i _ => rfl⟩, HB.out⟩
set_option maxHeartbeats 1000000 in
theorem weights_own (A : Option Addr) (n k c : Nat) (q : Nat → Fin 256) (w : World) (hn : n ≤ 256) (hk : k ≤ 1000000) (hA : Rd w A k (fun i => .int .i64 ((q i).val : Nat))) :
 Calls Try.prog 49 #[.int .i64 n, .slice A k c] w fun e w' => ∃ (v : Value) (S : Nat → Option Addr) (C : Nat → Nat) (O : Nat → Nat → Fin 256), e = .returned v ∧ OwnM w' w.heap.size 25 3 v n S C (fun _ => k) (fun i j => .int .i64 ((O i j).val : Nat)) ∧ (∀ i, i < n → gE.ShP q k (el i) (O i)) ∧ Below w.heap.size w w' := by
 have HA := Lib.hid hA; clear hA
 go_enter Try.func49, Try.ntmps49
 go_wp2
 go_loopg [5, 6] n (fun gk v i wr => ∃ (j : Nat) (S : Nat → Option Addr) (C : Nat → Nat) (O : Nat → Nat → Fin 256), j ≤ n ∧ gk = n - j ∧ i = .int .i64 j ∧ OwnM wr w.heap.size 25 3 v j S C (fun _ => k) (fun i j => .int .i64 ((O i j).val : Nat)) ∧ (∀ i, i < j → gE.ShP q k (el i) (O i)) ∧ Below w.heap.size w wr)
 case atStart => exact ⟨0, fun _ => none, fun _ => 0, fun _ _ => gE.z, Nat.zero_le _, rfl, rfl, OwnM.nil _ _ _ _ _ _ _ _, fun i hi => absurd hi (by omega), Below.refl _ _⟩
 case round =>
  obtain ⟨j, S, C, O, hj, rfl, rfl, hO, hS, hb⟩ := hrel
  have hsz := hb.size
  by_cases hlt : j < n
  · have HS := Lib.hid hS
    have hel : ((el j).val : Nat) = j := el_val (by omega)
    have CS := Lib.hid (shares_any A k c q (el j) wr hk (HA.out.below hb))
    rw [hel] at CS
    clear hS hel
    go_wp2_with fail
    refine CS.out.mono ?_
    rintro e w1 ⟨b, o, rfl, hb0, hrow, hsh, hb1⟩
    have hO1 := (hO.kept hb1).next (some ⟨b, 0, none⟩) k
    have hO2 : Own w1 w.heap.size 25 1 _ j (fun i => [.slice (upd S j (some ⟨b, 0, none⟩) i) k (upd C j k i)]) := hO1.1
    have hO3 : OwnM w1 w.heap.size 25 3 _ j (upd S j (some ⟨b, 0, none⟩)) (upd C j k) (fun _ => k) (fun i t => .int .i64 ((upd O j o i t).val : Nat)) := ⟨hO1.1, fun i hi => (hO1.2 i hi).congr fun t _ => by show [Value.int .i64 ((O i t).val : Int)] = [Value.int .i64 ((upd O j o i t).val : Int)]; rw [upd_ne O j o (by omega)]⟩
    have hr : Own w1 w.heap.size 3 1 (.slice (upd S j (some ⟨b, 0, none⟩) j) k (upd C j k j)) k (fun t => [.int .i64 ((upd O j o j t).val : Nat)]) := by
     rw [upd_at, upd_at, upd_at]; exact own_of_row hrow (by omega) (by unfold maxLen; omega)
    have hu : Hid ((#[Value.slice (some ⟨b, 0, none⟩) k k] : Array Value).toList = [.slice (upd S j (some ⟨b, 0, none⟩) j) k (upd C j k j)]) := by rw [upd_at, upd_at]; rfl
    have HSn : Hid (∀ i, i < j + 1 → gE.ShP q k (el i) (upd O j o i)) := fun i hi => by
     by_cases e : i = j
     · subst e; rw [upd_at]; exact hsh
     · rw [upd_ne _ _ _ e]; exact HS.out i (by omega)
    have hbb := hb.trans (hb1.mono hsz)
    have hsz1 := hbb.size
    clear hO hO1 hrow hsh hb hb1 HS CS
    go_wp2_with (at_builtin; refine wpList_push _ rfl (.tmp 12) (.tmp 16) 71 rfl w.heap.size 25 1 24 (.slice none 0 0) #[.slice (some ⟨b, 0, none⟩) k k] Try.underlying71 intsInfo rfl (by decide) _ j _ rfl hO2 hsz1 _ rfl rfl hu.out rfl rfl (by omega) (by omega) ?_)
    intro v' w2 hown2 hbel2 hg2 _
    have hO4 := hO3.push (by decide) hr hown2 hg2
    have hbF := hbb.trans hbel2
    clear hO2 hO3 hr hown2 hg2 hbel2 hbb
    go_wp2
    go_roundg (n - (j + 1))
    case measure => omega
    case rel => exact ⟨j + 1, _, _, _, by omega, rfl, by go_num, hO4, HSn.out, hbF⟩
  · have hjn : j = n := by omega
    subst j
    have HR := Lib.hid hO; have HB := Lib.hid hb
    clear hO hb
    go_wp2
    go_ret
    exact ⟨_, S, C, O, rfl, HR.out, hS, HB.out⟩
theorem weights_any (A : Option Addr) (n k c : Nat) (q : Nat → Fin 256) (w : World) (hn : n ≤ 256) (hk : k ≤ 1000000) (hA : Rd w A k (fun i => .int .i64 ((q i).val : Nat))) :
 Calls Try.prog 49 #[.int .i64 n, .slice A k c] w fun e w' => ∃ (A' : Option Addr) (c' : Nat) (O : Nat → Nat → Fin 256), e = .returned (.slice A' n c') ∧ RdM w' A' n (fun _ => k) (fun i j => .int .i64 ((O i j).val : Nat)) ∧ (∀ i, i < n → gE.ShP q k (el i) (O i)) ∧ Below w.heap.size w w' :=
 (weights_own A n k c q w hn hk hA).mono fun e w' ⟨v, S, C, O, he, hO, hs, hb⟩ => by
  obtain ⟨A', c', hv, _, hR⟩ := hO.rdm
  exact ⟨A', c', O, by rw [he, hv], hR, hs, hb⟩
end Go.Proofs.Ytjaaldandgfkgaa

/- products, By, spread, one, Encode of the document's layer 4: the walks. Conditions: lengths that memory bears. -/
namespace Go.Proofs.Ytjaaldandgfkgaa
open Go.RowKit

set_option maxRecDepth 20000 in
set_option maxHeartbeats 1000000 in
theorem products_any (x : Fin 256) (w : World) :
 Calls Try.prog 82 #[.int .i64 (x.val : Nat)] w fun e w' => ∃ b, e = .returned (.slice (some ⟨b, 0, none⟩) 256 256) ∧ w.heap.size ≤ b ∧ w'.rowIs b 3 256 (fun j => .int .i64 ((gE.m x (el j)).val : Nat)) ∧ Below w.heap.size w w' := by
 have hmk := run_make_row' (P := Try.prog) 25 3 (.int .i64 0) 8 Try.underlying25 intInfo rfl .i64 .i64 256 (by omega) (by omega)
 rw [show ((256 : Nat) : Int) = 256 from rfl] at hmk
 have hz0 := Lib.hid (World.rowIs_made w (.int .i64 0) 256 3)
 have hb0 := Lib.hid ((Below.refl w.heap.size w).alloc (Nat.le_refl _) (.cells (madeCells #[.int .i64 0] 256) 3))
 have CT := Lib.hid (fun (a b : Fin 256) w => rtimes_any a b w)
 go_enter Try.func82, Try.ntmps82
 go_wp2
 clear hmk
 go_loopg [4] 256 (fun gk i wr => ∃ j : Nat, j ≤ 256 ∧ gk = 256 - j ∧ i = .int .i64 j ∧ wr.rowIs w.heap.size 3 256 (fun i => .int .i64 (if i < j then (gE.m x (el i)).val else 0 : Nat)) ∧ Below w.heap.size w wr)
 case atStart => exact ⟨0, Nat.zero_le _, rfl, rfl, hz0.out.congr fun i _ => by rw [if_neg (by omega)]; rfl, hb0.out⟩
 case round =>
  clear hz0 hb0
  obtain ⟨j, hj, rfl, rfl, hQ, hb⟩ := hrel
  by_cases hlt : j < 256
  · have CJ := Lib.hid (CT.out x (el j) wr)
    have hel : ((el j).val : Nat) = j := el_val hlt
    rw [hel] at CJ
    have hcl := hQ.cell hlt
    have hfz := hQ.frozen j
    rw [if_neg (by omega)] at hcl
    have HQ2 := Lib.hid ((hQ.set j (.int .i64 ((gE.m x (el j)).val : Nat))).congr (g := fun i => .int .i64 (if i < j + 1 then (gE.m x (el i)).val else 0 : Nat)) fun i _ => by
     by_cases e : i = j
     · subst e; rw [if_pos rfl, if_pos (by omega)]
     · rw [if_neg e]
       by_cases e2 : i < j
       · rw [if_pos e2, if_pos (by omega)]
       · rw [if_neg e2, if_neg (by omega)])
    have HB2 := Lib.hid (hb.setCell (p := ⟨w.heap.size, j, none⟩) (Nat.le_refl _) (.int .i64 ((gE.m x (el j)).val : Nat)))
    clear hQ hb hel
    go_wp2_with fail
    refine CJ.out.mono ?_
    rintro e w5 ⟨rfl, rfl⟩
    go_wp2
    go_roundg (256 - (j + 1))
    case measure => omega
    case rel => exact ⟨j + 1, by omega, rfl, by go_num, HQ2.out, HB2.out⟩
  · have hj256 : j = 256 := by omega
    subst hj256
    have HQ := Lib.hid (hQ.congr (g := fun j => .int .i64 ((gE.m x (el j)).val : Nat)) fun i hi => by rw [if_pos hi])
    have HB := Lib.hid hb
    clear hQ hb
    go_wp2
    go_ret
    exact ⟨w.heap.size, rfl, Nat.le_refl _, HQ.out, HB.out⟩

/-- A row of the word while it is being made: of the first c places j + 1 terms are in, of the others j. -/
def byc (O D : Nat → Nat → Fin 256) (i j c c' : Nat) : Fin 256 := gE.s (if c' < c then j + 1 else j) (fun t => gE.m (O i t) (D t c'))
theorem byc_next {O D : Nat → Nat → Fin 256} {i j c c' : Nat} : (if c' = c then gE.a (byc O D i j c c) (gE.m (O i j) (D j c)) else byc O D i j c c') = byc O D i j (c + 1) c' := by
 unfold byc
 by_cases e : c' = c
 · subst e; rw [if_pos rfl, if_neg (by omega), if_pos (by omega)]; rfl
 · rw [if_neg e]
   by_cases e2 : c' < c
   · rw [if_pos e2, if_pos (by omega)]
   · rw [if_neg e2, if_neg (by omega)]
theorem byc_zero {O D : Nat → Nat → Fin 256} {i j c' : Nat} : byc O D i j 0 c' = gE.s j (fun t => gE.m (O i t) (D t c')) := by unfold byc; rw [if_neg (by omega)]
theorem byc_done {O D : Nat → Nat → Fin 256} {i j c c' : Nat} (h : c' < c) : byc O D i j c c' = byc O D i (j + 1) 0 c' := by unfold byc; rw [if_pos h, if_neg (by omega)]
theorem byc_skip {O D : Nat → Nat → Fin 256} {i j c' : Nat} (h : O i j = gE.z) : byc O D i (j + 1) 0 c' = byc O D i j 0 c' := by rw [byc_zero, byc_zero, gE.s_succ, h, gE.z_m, gE.a_z]
theorem xor_el8 (x y : Fin 256) : bits .xor .u8 (x.val : Nat) (y.val : Nat) = (((gE.a x y).val : Nat) : Int) := u8_xor_nat x.val y.val x.isLt y.isLt
theorem u8_el (x : Fin 256) : IntKind.u8.wrap ((x.val : Nat) : Int) = ((x.val : Nat) : Int) := by rw [IntKind.wrap_u8]; have := x.isLt; omega

set_option maxRecDepth 40000 in
set_option maxHeartbeats 4000000 in
theorem by_own (A Bm : Option Addr) (n k c1 c2 len : Nat) (O D : Nat → Nat → Fin 256) (w : World) (hn : n ≤ 256) (hk : k ≤ 256) (hk0 : 0 < k) (hlen : len ≤ 140737488351232)
 (hA : RdM w A n (fun _ => k) (fun i j => .int .i64 ((O i j).val : Nat))) (hB : RdM w Bm k (fun _ => len) (fun j c => .int .u8 ((D j c).val : Nat))) :
 Calls Try.prog 51 #[.slice A n c1, .slice Bm k c2] w fun e w' => ∃ (v : Value) (S : Nat → Option Addr) (C : Nat → Nat), e = .returned v ∧ OwnM w' w.heap.size 43 5 v n S C (fun _ => len) (fun i c => .int .u8 ((gE.s k (fun t => gE.m (O i t) (D t c))).val : Nat)) ∧ Below w.heap.size w w' := by
 obtain ⟨SA, CA, hA1, hA2⟩ := hA
 obtain ⟨SB, CB, hB1, hB2⟩ := hB
 have HA1 := Lib.hid hA1; have HA2 := Lib.hid hA2; have HB1 := Lib.hid hB1; have HB2 := Lib.hid hB2
 clear hA1 hA2 hB1 hB2
 have CT := Lib.hid (fun (a b : Fin 256) w => rtimes_any a b w)
 obtain ⟨b0, o0, rfl, hb0, hx0⟩ := HB1.out 0 hk0
 rw [Nat.add_zero] at hx0
 have HX0 := Lib.hid hx0; clear hx0
 have hmk := run_make_row' (P := Try.prog) 43 5 (.int .u8 0) 1 Try.underlying43 byteInfo rfl .i64 .i64 len (by omega) (by omega)
 have HMK := Lib.hid hmk; clear hmk
 go_enter Try.func51, Try.ntmps51
 go_wp2
 go_loopg [5, 6] n (fun gk v i wr => ∃ (i0 : Nat) (S : Nat → Option Addr) (C : Nat → Nat), i0 ≤ n ∧ gk = n - i0 ∧ i = .int .i64 i0 ∧ OwnM wr w.heap.size 43 5 v i0 S C (fun _ => len) (fun i c => .int .u8 ((gE.s k (fun t => gE.m (O i t) (D t c))).val : Nat)) ∧ Below w.heap.size w wr)
 case atStart => exact ⟨0, fun _ => none, fun _ => 0, Nat.zero_le _, rfl, rfl, OwnM.nil _ _ _ _ _ _ _ _, Below.refl _ _⟩
 case round =>
  obtain ⟨i, S, C, hi, rfl, rfl, hO, hb⟩ := hrel
  have hsz := hb.size
  by_cases hlt : i < n
  · have HO := Lib.hid hO; have HB := Lib.hid hb
    clear hO hb
    obtain ⟨b1, o1, rfl, hb1, hx1⟩ := HA1.out i hlt
    have HX1 := Lib.hid hx1; clear hx1
    have hx0 : wr.cell? ⟨b0, o0, none⟩ = some (.slice (SB 0) len (CB 0)) := (HB.out.cell hb0).trans HX0.out
    have hmk := HMK.out
    have HZ := Lib.hid ((World.rowIs_made wr (.int .u8 0) len 5).congr (g := fun c => .int .u8 ((byc O D i 0 0 c).val : Nat)) fun c _ => by rw [byc_zero]; rfl)
    have HBZ := Lib.hid ((Below.refl wr.heap.size wr).alloc (Nat.le_refl _) (.cells (madeCells #[.int .u8 0] len) 5))
    go_wp2
    clear hx0 hmk
    obtain ⟨wo, rfl⟩ : ∃ wo : World, wo = wr := ⟨_, rfl⟩
    go_loopg [8] k (fun gk v w2 => ∃ j : Nat, j ≤ k ∧ gk = k - j ∧ v = .int .i64 j ∧ w2.rowIs wo.heap.size 5 len (fun c => .int .u8 ((byc O D i j 0 c).val : Nat)) ∧ Below wo.heap.size wo w2)
    case atStart => exact ⟨0, Nat.zero_le _, rfl, rfl, HZ.out, HBZ.out⟩
    case round =>
     clear HZ HBZ
     obtain ⟨j, hj, rfl, rfl, hQ, hbj⟩ := hrel
     have hbw : Below w.heap.size w wr := HB.out.trans (hbj.mono hsz)
     by_cases hlj : j < k
     · obtain ⟨b2, o2, e2, hb2, hx2⟩ := HB1.out j hlj
       injection e2 with e2
       injection e2 with e2 e3 _
       subst e2 e3
       obtain ⟨bw, ow, hSA, hbwl, hxw⟩ := HA2.out i hlt j hlj
       have hy1 : wr.cell? ⟨b1, o1 + i, none⟩ = some (.slice (some ⟨bw, ow, none⟩) k (CA i)) := by rw [← hSA]; exact (hbw.cell hb1).trans HX1.out
       have hy2 : wr.cell? ⟨bw, ow + j, none⟩ = some (.int .i64 ((O i j).val : Nat)) := (hbw.cell hbwl).trans hxw
       have HQ := Lib.hid hQ; have HBJ := Lib.hid hbj; have HBW := Lib.hid hbw
       clear hQ hbj hbw hxw hSA
       by_cases hoz : O i j = gE.z
       · have t1 : (((O i j).val : Int) == 0) = true := by rw [hoz]; rfl
         have HOZ := Lib.hid hoz; clear hoz
         go_wp2
         go_roundg (k - (j + 1))
         case measure => omega
         case rel => exact ⟨j + 1, by omega, rfl, by go_num, HQ.out.congr fun c _ => by rw [byc_skip HOZ.out], HBJ.out⟩
       · have t1 : (((O i j).val : Int) == 0) = false := by
          rw [beq_eq_false_iff_ne]; intro e; exact hoz (Fin.ext (by show (O i j).val = 0; omega))
         have hxr : wr.cell? ⟨b0, o0 + j, none⟩ = some (.slice (SB j) len (CB j)) := (HBW.out.cell hb2).trans hx2
         clear hoz hx2
         by_cases hsm : len < 64
         · go_wp2
           clear hy1 hy2 t1
           go_loopg [10] len (fun gk v w2 => ∃ c : Nat, c ≤ len ∧ gk = len - c ∧ v = .int .i64 c ∧ w2.rowIs wo.heap.size 5 len (fun c' => .int .u8 ((byc O D i j c c').val : Nat)) ∧ Below wo.heap.size wo w2)
           case atStart => exact ⟨0, Nat.zero_le _, rfl, rfl, HQ.out, HBJ.out⟩
           case round =>
            clear HQ HBJ HBW hxr
            obtain ⟨c, hc, rfl, rfl, hQ, hbj⟩ := hrel
            have hbw : Below w.heap.size w wr := HB.out.trans (hbj.mono hsz)
            by_cases hlc : c < len
            · obtain ⟨b3, o3, hSB, hb3, hx3⟩ := HB2.out j hlj c hlc
              have hcl := hQ.cell hlc
              have hfz := hQ.frozen c
              have q1 : wr.cell? ⟨b0, o0 + j, none⟩ = some (.slice (some ⟨b3, o3, none⟩) len (CB j)) := by
               obtain ⟨_, _, e2, hb2, hx2⟩ := HB1.out j hlj
               injection e2 with e2
               injection e2 with e2 e3 _
               subst e2 e3
               rw [← hSB]; exact (hbw.cell hb2).trans hx2
              have q2 : wr.cell? ⟨b3, o3 + c, none⟩ = some (.int .u8 ((D j c).val : Nat)) := (hbw.cell hb3).trans hx3
              have hX := xor_el8 (byc O D i j c c) (gE.m (O i j) (D j c))
              have hU := u8_el (gE.m (O i j) (D j c))
              have HQ2 := Lib.hid ((hQ.set c (.int .u8 ((gE.a (byc O D i j c c) (gE.m (O i j) (D j c))).val : Nat))).congr (g := fun c' => .int .u8 ((byc O D i j (c + 1) c').val : Nat)) fun c' _ => by rw [← byc_next]; split <;> rfl)
              have HB2' := Lib.hid (hbj.setCell (p := ⟨wo.heap.size, c, none⟩) (Nat.le_refl _) (.int .u8 ((gE.a (byc O D i j c c) (gE.m (O i j) (D j c))).val : Nat)))
              generalize (gE.a (byc O D i j c c) (gE.m (O i j) (D j c))).val = Y at *
              generalize (byc O D i j c c).val = X at *
              generalize hrb : wo.heap.size = rb at *
              have HRB := Lib.hid hrb; clear hrb
              have KS : Hid (wr.cell? ⟨rb, c, none⟩ = some (.int .u8 (X : Nat)) ∧ wr.cell? ⟨b0, o0 + j, none⟩ = some (.slice (some ⟨b3, o3, none⟩) len (CB j)) ∧ wr.cell? ⟨b3, o3 + c, none⟩ = some (.int .u8 ((D j c).val : Nat))) := ⟨hcl, q1, q2⟩
              clear hQ hbj hbw hx3 hSB
              go_wp2_with fail
              clear q1 q2
              refine wp_region_mix [(true, true, false), (true, true, false), (true, true, false), (true, true, false), (true, true, false), (true, true, true), (true, true, false), (true, true, false), (true, true, false), (true, true, false), (true, true, true), (true, true, false), (true, true, false), (true, true, true), (true, true, false), (false, false, false), (false, true, false), (false, true, false), (false, true, false), (false, false, true)] mixed (by kernel_rfl) (fun w4 => w4.cell? ⟨rb, c, none⟩ = some (.int .u8 (X : Nat)) ∧ w4.cell? ⟨b0, o0 + j, none⟩ = some (.slice (some ⟨b3, o3, none⟩) len (CB j)) ∧ w4.cell? ⟨b3, o3 + c, none⟩ = some (.int .u8 ((D j c).val : Nat))) (KS.out) ?_
              intro hSw0
              simp only [hdM, tlM, List.cons_append, List.nil_append]
              repeat (first
               | (refine mix_look hSw0.out ?_ (by rfl) (fun w4 hSw => ?_) ?_; rotate_left; (focus (obtain ⟨s1, s2, s3⟩ := hSw; go_simp; try with_reducible rfl)); simp only [Act.put, List.setIfInBounds_toArray, List.set_cons_zero, List.set_cons_succ])
               | (refine mix_pure ?_ (by rfl) (fun w4 => ?_) ?_; rotate_left; (focus (go_simp; try with_reducible rfl)); simp only [Act.put, List.setIfInBounds_toArray, List.set_cons_zero, List.set_cons_succ]))
              refine mix_step (fun K hK => ?_)
              go_simp
              rw [i64_small ((D j c).val : Int) (by omega) (by have := (D j c).isLt; omega)]
              refine (CT.out (O i j) (D j c) _).mono ?_
              rintro e w5 ⟨rfl, rfl⟩
              dsimp only
              refine hK.out _ _ (fun _ h => h) ?_
              clear hK K
              try simp only [Act.put, List.setIfInBounds_toArray, List.set_cons_zero, List.set_cons_succ]
              repeat (refine mix_pure ?_ (by rfl) (fun w4 => ?_) ?_; rotate_left; (focus (go_simp; try with_reducible rfl)); simp only [Act.put, List.setIfInBounds_toArray, List.set_cons_zero, List.set_cons_succ])
              refine mix_step (fun K hK => ?_)
              go_simp
              refine hK.out _ _ (fun h => absurd h (by decide)) ?_
              clear hK K
              try simp only [Act.put, List.setIfInBounds_toArray, List.set_cons_zero, List.set_cons_succ]
              refine mix_nil ?_
              go_wp2
              go_roundg (len - (c + 1))
              case measure => omega
              case rel => exact ⟨c + 1, by omega, rfl, by go_num, HQ2.out.drew, HB2'.out.drew⟩
            · have hcl : c = len := by omega
              subst c
              have HQ2 := Lib.hid (hQ.congr (g := fun c' => .int .u8 ((byc O D i (j + 1) 0 c').val : Nat)) fun c' hc' => by rw [byc_done hc'])
              have HB2' := Lib.hid hbj
              clear hQ hbj hbw
              go_wp2
              go_roundg (k - (j + 1))
              case measure => omega
              case rel => exact ⟨j + 1, by omega, rfl, by go_num, HQ2.out, HB2'.out⟩
         · have hge : 64 ≤ len := by omega
           go_wp2_with fail
           refine (products_any (O i j) _).mono ?_
           rintro e w5 ⟨tb, rfl, htb, hT, hb5⟩
           have hQ5 := below_row HQ.out hb5 HQ.out.lt
           have hBJ5 := HBJ.out.trans (hb5.mono HBJ.out.size)
           have hne : tb ≠ wo.heap.size := by have := HQ.out.lt; omega
           have HT := Lib.hid hT; have HQ5 := Lib.hid hQ5; have HBJ5 := Lib.hid hBJ5
           clear hy1 hy2 t1 hxr hT hQ5 hBJ5 hb5 HQ HBJ HBW
           go_wp2
           go_loopg [12] len (fun gk v w2 => ∃ c : Nat, c ≤ len ∧ gk = len - c ∧ v = .int .i64 c ∧ w2.rowIs wo.heap.size 5 len (fun c' => .int .u8 ((byc O D i j c c').val : Nat)) ∧ w2.rowIs tb 3 256 (fun t => .int .i64 ((gE.m (O i j) (el t)).val : Nat)) ∧ Below wo.heap.size wo w2)
           case atStart => exact ⟨0, Nat.zero_le _, rfl, rfl, HQ5.out, HT.out, HBJ5.out⟩
           case round =>
            clear HQ5 HBJ5 HT
            obtain ⟨c, hc, rfl, rfl, hQ, hT, hbj⟩ := hrel
            have hbw : Below w.heap.size w wr := HB.out.trans (hbj.mono hsz)
            by_cases hlc : c < len
            · obtain ⟨b3, o3, hSB, hb3, hx3⟩ := HB2.out j hlj c hlc
              have hcl := hQ.cell hlc
              have hfz := hQ.frozen c
              have q1 : wr.cell? ⟨b0, o0 + j, none⟩ = some (.slice (some ⟨b3, o3, none⟩) len (CB j)) := by
               obtain ⟨_, _, e2, hb2, hx2⟩ := HB1.out j hlj
               injection e2 with e2
               injection e2 with e2 e3 _
               subst e2 e3
               rw [← hSB]; exact (hbw.cell hb2).trans hx2
              have q2 : wr.cell? ⟨b3, o3 + c, none⟩ = some (.int .u8 ((D j c).val : Nat)) := (hbw.cell hb3).trans hx3
              have hDl := (D j c).isLt
              have q3 : wr.cell? ⟨tb, (D j c).val, none⟩ = some (.int .i64 ((gE.m (O i j) (D j c)).val : Nat)) := by
               have h := hT.cell hDl
               rw [show el (D j c).val = D j c from Fin.ext (el_val hDl)] at h
               exact h
              have hX := xor_el8 (byc O D i j c c) (gE.m (O i j) (D j c))
              have hU := u8_el (gE.m (O i j) (D j c))
              have HQ2 := Lib.hid ((hQ.set c (.int .u8 ((gE.a (byc O D i j c c) (gE.m (O i j) (D j c))).val : Nat))).congr (g := fun c' => .int .u8 ((byc O D i j (c + 1) c').val : Nat)) fun c' _ => by rw [← byc_next]; split <;> rfl)
              have HT2 := Lib.hid (hT.setOther (a := ⟨wo.heap.size, c, none⟩) hne (.int .u8 ((gE.a (byc O D i j c c) (gE.m (O i j) (D j c))).val : Nat)))
              have HB2' := Lib.hid (hbj.setCell (p := ⟨wo.heap.size, c, none⟩) (Nat.le_refl _) (.int .u8 ((gE.a (byc O D i j c c) (gE.m (O i j) (D j c))).val : Nat)))
              have hMl := (gE.m (O i j) (D j c)).isLt
              generalize (gE.a (byc O D i j c c) (gE.m (O i j) (D j c))).val = Y at *
              generalize (byc O D i j c c).val = X at *
              generalize hrb : wo.heap.size = rb at *
              have HRB := Lib.hid hrb; clear hrb
              have KS : Hid (wr.cell? ⟨rb, c, none⟩ = some (.int .u8 (X : Nat)) ∧ wr.cell? ⟨b0, o0 + j, none⟩ = some (.slice (some ⟨b3, o3, none⟩) len (CB j)) ∧ wr.cell? ⟨b3, o3 + c, none⟩ = some (.int .u8 ((D j c).val : Nat)) ∧ wr.cell? ⟨tb, (D j c).val, none⟩ = some (.int .i64 ((gE.m (O i j) (D j c)).val : Nat))) := ⟨hcl, q1, q2, q3⟩
              have hD0 : (0 : Int) ≤ ((D j c).val : Int) := by omega
              have hD1 : ((D j c).val : Int) < 256 := by omega
              clear hQ hT hbj hbw hx3 hSB
              go_wp2_with fail
              clear q1 q2 q3
              refine wp_region_mix [(true, true, false), (true, true, false), (true, true, false), (true, true, false), (true, true, false), (true, true, true), (true, true, false), (true, true, false), (true, true, false), (true, true, false), (true, true, true), (true, true, false), (true, true, false), (true, true, true), (true, true, false), (true, true, true), (true, true, false), (true, true, false), (true, true, false), (false, false, true)] mixed (by kernel_rfl) (fun w4 => w4.cell? ⟨rb, c, none⟩ = some (.int .u8 (X : Nat)) ∧ w4.cell? ⟨b0, o0 + j, none⟩ = some (.slice (some ⟨b3, o3, none⟩) len (CB j)) ∧ w4.cell? ⟨b3, o3 + c, none⟩ = some (.int .u8 ((D j c).val : Nat)) ∧ w4.cell? ⟨tb, (D j c).val, none⟩ = some (.int .i64 ((gE.m (O i j) (D j c)).val : Nat))) (KS.out) ?_
              intro hSw0
              simp only [hdM, tlM, List.cons_append, List.nil_append]
              repeat (first
               | (refine mix_look hSw0.out ?_ (by rfl) (fun w4 hSw => ?_) ?_; rotate_left; (focus (obtain ⟨s1, s2, s3, s4⟩ := hSw; go_simp; try with_reducible rfl)); simp only [Act.put, List.setIfInBounds_toArray, List.set_cons_zero, List.set_cons_succ])
               | (refine mix_pure ?_ (by rfl) (fun w4 => ?_) ?_; rotate_left; (focus (go_simp; try with_reducible rfl)); simp only [Act.put, List.setIfInBounds_toArray, List.set_cons_zero, List.set_cons_succ]))
              refine mix_step (fun K hK => ?_)
              go_simp
              refine hK.out _ _ (fun h => absurd h (by decide)) ?_
              clear hK K
              try simp only [Act.put, List.setIfInBounds_toArray, List.set_cons_zero, List.set_cons_succ]
              refine mix_nil ?_
              go_wp2
              go_roundg (len - (c + 1))
              case measure => omega
              case rel => exact ⟨c + 1, by omega, rfl, by go_num, HQ2.out.drew, HT2.out.drew, HB2'.out.drew⟩
            · have hcl : c = len := by omega
              subst c
              have HQ2 := Lib.hid (hQ.congr (g := fun c' => .int .u8 ((byc O D i (j + 1) 0 c').val : Nat)) fun c' hc' => by rw [byc_done hc'])
              have HB2' := Lib.hid hbj
              clear hQ hbj hbw hT
              go_wp2
              go_roundg (k - (j + 1))
              case measure => omega
              case rel => exact ⟨j + 1, by omega, rfl, by go_num, HQ2.out, HB2'.out⟩
     · have hjk : j = k := by omega
       subst j
       have hQk := hQ.congr (g := fun c => .int .u8 ((gE.s k (fun t => gE.m (O i t) (D t c))).val : Nat)) fun c _ => by rw [byc_zero]
       have hO1 := (HO.out.kept hbj).next (some ⟨wo.heap.size, 0, none⟩) len
       have hr : Own wr w.heap.size 5 1 (.slice (upd S i (some ⟨wo.heap.size, 0, none⟩) i) len (upd C i len i)) len (fun c => [.int .u8 ((gE.s k (fun t => gE.m (O i t) (D t c))).val : Nat)]) := by
        rw [upd_at, upd_at]; exact own_of_row hQk hsz (by unfold maxLen; omega)
       have hu : Hid ((#[Value.slice (some ⟨wo.heap.size, 0, none⟩) len len] : Array Value).toList = [.slice (upd S i (some ⟨wo.heap.size, 0, none⟩) i) len (upd C i len i)]) := by rw [upd_at, upd_at]; rfl
       have hsz1 := hbw.size
       have HBW := Lib.hid hbw; have HR := Lib.hid hr
       clear hQ hQk hbj hbw hr HO
       go_wp2_with (at_builtin; refine wpList_push _ rfl (.tmp 94) (.tmp 96) 67 rfl w.heap.size 43 1 24 (.slice none 0 0) #[.slice (some ⟨wo.heap.size, 0, none⟩) len len] Try.underlying67 bytesInfo rfl (by decide) _ i _ rfl hO1.1 hsz1 _ rfl rfl hu.out rfl rfl (by omega) (by omega) ?_)
       intro v' w2 hown2 hbel2 hg2 _
       have hO2 := hO1.push (by decide) HR.out hown2 hg2
       have hbF := HBW.out.trans hbel2
       clear hO1 HR hown2 hg2 hbel2 HBW
       go_wp2
       go_roundg (n - (i + 1))
       case measure => omega
       case rel => exact ⟨i + 1, _, _, by omega, rfl, by go_num, hO2, hbF⟩
  · have hin : i = n := by omega
    subst i
    have HR := Lib.hid hO; have HB := Lib.hid hb
    clear hO hb
    go_wp2
    go_ret
    exact ⟨_, S, C, rfl, HR.out, HB.out⟩
theorem by_any (A Bm : Option Addr) (n k c1 c2 len : Nat) (O D : Nat → Nat → Fin 256) (w : World) (hn : n ≤ 256) (hk : k ≤ 256) (hk0 : 0 < k) (hlen : len ≤ 140737488351232)
 (hA : RdM w A n (fun _ => k) (fun i j => .int .i64 ((O i j).val : Nat))) (hB : RdM w Bm k (fun _ => len) (fun j c => .int .u8 ((D j c).val : Nat))) :
 Calls Try.prog 51 #[.slice A n c1, .slice Bm k c2] w fun e w' => ∃ (A' : Option Addr) (c' : Nat), e = .returned (.slice A' n c') ∧ RdM w' A' n (fun _ => len) (fun i c => .int .u8 ((gE.s k (fun t => gE.m (O i t) (D t c))).val : Nat)) ∧ Below w.heap.size w w' :=
 (by_own A Bm n k c1 c2 len O D w hn hk hk0 hlen hA hB).mono fun e w' ⟨v, S, C, he, hO, hb⟩ => by
  obtain ⟨A', c', hv, _, hR⟩ := hO.rdm
  exact ⟨A', c', by rw [he, hv], hR, hb⟩
end Go.Proofs.Ytjaaldandgfkgaa

/- Plain words of layer 4: codes that may be; what Encode says. Conditions: none. -/
namespace Go.Proofs.Ytjaaldandgfkgaa
open Go.RowKit

/-- Which numbers make a code. -/
def may (K M : Int) : Prop := 1 ≤ M ∧ M ≤ K ∧ K ≤ 254 ∧ M ≤ 255 - K
/-- Are all lengths x? -/
def evB (n : Nat) (L : Nat → Nat) (x : Nat) : Bool := (List.range n).all fun i => L i == x
theorem evB_iff {n x : Nat} {L : Nat → Nat} : evB n L x = true ↔ ∀ i, i < n → L i = x := by
 unfold evB
 rw [List.all_eq_true]
 exact ⟨fun h i hi => by simpa using h i (List.mem_range.2 hi), fun h i hi => by simpa using h i (List.mem_range.1 hi)⟩
theorem ret_bool {a b : Bool} (h : a = b) : Ending.returned (.bool a) = .returned (.bool b) := by rw [h]
theorem ShP_first {k n i : Nat} {o : Nat → Fin 256} (hk : k ≤ n) (hn : n ≤ 256) (hi : i < n) (h : gE.ShP el k (el i) o) : ∀ j, j < k → o j = gE.cM el k i j :=
 Fd.shP_cM (fun a b hab hb => el_ne hab (by omega)) h
/-- What Encode says: error, rows. -/
def EncP (k nr : Nat) (L : Nat → Nat) (er : Int) : Prop :=
 (nr ≠ k ∧ er = 40) ∨ (nr = k ∧ ¬ (∀ i, i < k → L i = L 0) ∧ er = 41) ∨ (nr = k ∧ (∀ i, i < k → L i = L 0) ∧ er = 0)
theorem EncP.uniq {k nr : Nat} {L : Nat → Nat} {er er' : Int} (h : EncP k nr L er) (h' : EncP k nr L er') : er = er' := by
 rcases h with ⟨a, b⟩ | ⟨a, b, c⟩ | ⟨a, b, c⟩ <;> rcases h' with ⟨a', b'⟩ | ⟨a', b', c'⟩ | ⟨a', b', c'⟩
 · rw [b, b']
 · exact absurd a' a
 · exact absurd a' a
 · exact absurd a a'
 · rw [c, c']
 · exact absurd b' b
 · exact absurd a a'
 · exact absurd b b'
 · rw [c, c']
/-- A byte of the word. -/
def wrd (k : Nat) (g : Nat → Nat → Nat) (i c : Nat) : Nat := (gE.s k (fun t => gE.m (gE.cM el k i t) (el (g t c)))).val
theorem wrd_lt {k : Nat} {g : Nat → Nat → Nat} {i c : Nat} : wrd k g i c < 256 := (gE.s k _).isLt
end Go.Proofs.Ytjaaldandgfkgaa
