/- unlike, low of the law's page: the walks; the powers of unlike points are free. Conditions: lengths that memory bears. -/
import Derived.Test.YtpocjpodeahanaaLawGrp
import Derived.Test.YtpocjpodeahanaaVan
import Derived.Test.YtpocjpodeahanaaPow1
namespace Go.Proofs.Ytpocjpodeahanaa
open Go.RowKit

/-- No more unlike numbers below b than b. -/
theorem inj_le : ∀ (b a : Nat) (g : Nat → Nat), (∀ i, i < a → g i < b) → (∀ i j, i < a → j < a → g i = g j → i = j) → a ≤ b
  | 0, a, g, h, _ => by
    rcases Nat.eq_zero_or_pos a with h0 | h0
    · omega
    · have := h 0 h0; omega
  | b + 1, a, g, h, hi => by
    by_cases hex : ∃ i, i < a ∧ g i = b
    · obtain ⟨i0, h0, hb⟩ := hex
      have := inj_le b (a - 1) (fun i => if i = i0 then g (a - 1) else g i) (fun i hia => by
        have h1 : g i < b + 1 := h i (by omega)
        have h2 : g (a - 1) < b + 1 := h (a - 1) (by omega)
        by_cases e : i = i0
        · simp only [e, if_true]
          have : g (a - 1) ≠ b := fun e2 => by have := hi (a - 1) i0 (by omega) h0 (by rw [e2, hb]); omega
          omega
        · simp only [e, if_false]
          have : g i ≠ b := fun e2 => e (hi i i0 (by omega) h0 (by rw [e2, hb]))
          omega) (fun i j hia hja e => by
        by_cases e1 : i = i0 <;> by_cases e2 : j = i0
        · omega
        · simp only [e1, e2, if_true, if_false] at e
          have := hi (a - 1) j (by omega) (by omega) e; omega
        · simp only [e1, e2, if_true, if_false] at e
          have := hi i (a - 1) (by omega) (by omega) e; omega
        · simp only [e1, e2, if_false] at e
          exact hi i j (by omega) (by omega) e)
      omega
    · have := inj_le b a g (fun i hia => by
        have h1 := h i hia
        have : g i ≠ b := fun e => hex ⟨i, hia, e⟩
        omega) hi
      omega
/-- k unlike ones out of the first n of f. -/
structure Unl (f : Nat → Nat) (n k : Nat) (g : Nat → Nat) : Prop where
  le : k ≤ n
  inj : ∀ a b, a < k → b < k → g a = g b → a = b
  out : ∀ j, j < k → ∃ i, i < n ∧ g j = f i
theorem Unl.more {f : Nat → Nat} {n k : Nat} {g : Nat → Nat} (h : Unl f n k g) : Unl f (n + 1) k g :=
  ⟨by have := h.le; omega, h.inj, fun j hj => by obtain ⟨i, hi, e⟩ := h.out j hj; exact ⟨i, by omega, e⟩⟩
def anyB (g : Nat → Nat) (x : Nat) : Nat → Bool
  | 0 => false
  | p + 1 => anyB g x p || (g p == x)
theorem anyB_false {g : Nat → Nat} {x : Nat} : ∀ {p}, anyB g x p = false → ∀ a, a < p → g a ≠ x
  | 0, _, a, ha => absurd ha (by omega)
  | p + 1, h, a, ha => by
    have h' : (anyB g x p || (g p == x)) = false := h
    rw [Bool.or_eq_false_iff] at h'
    by_cases e : a = p
    · rw [e]; simpa using h'.2
    · exact anyB_false h'.1 a (by omega)
theorem Unl.push {f : Nat → Nat} {n k : Nat} {g : Nat → Nat} (h : Unl f n k g) (ha : anyB g (f n) k = false) : Unl f (n + 1) (k + 1) (upd g k (f n)) :=
  ⟨by have := h.le; omega, fun a b ha' hb' e => by
    by_cases e1 : a = k <;> by_cases e2 : b = k
    · omega
    · rw [e1, upd_at, upd_ne _ _ _ e2] at e; exact absurd e.symm (anyB_false ha b (by omega))
    · rw [e2, upd_at, upd_ne _ _ _ e1] at e; exact absurd e (anyB_false ha a (by omega))
    · rw [upd_ne _ _ _ e1, upd_ne _ _ _ e2] at e; exact h.inj a b (by omega) (by omega) e,
   fun j hj => by
    by_cases e1 : j = k
    · exact ⟨n, by omega, by rw [e1, upd_at]⟩
    · obtain ⟨i, hi, e⟩ := h.out j (by omega); exact ⟨i, by omega, by rw [upd_ne _ _ _ e1, e]⟩⟩
def UnlOut (w : World) (n : Nat) (f : Nat → Nat) (e : Ending) (w' : World) : Prop :=
  ∃ v k g, e = .returned v ∧ Own w' w.heap.size 3 1 v k (fun i => [.int .i64 (g i : Nat)]) ∧ Unl f n k g ∧ Below w.heap.size w w'
set_option maxRecDepth 20000 in
set_option maxHeartbeats 2000000 in
theorem unlike_any (A : Option Addr) (n c : Nat) (f : Nat → Nat) (w : World) (hn : n * 8 ≤ 140737488351232) (hA : Rd w A n fun i => .int .i64 (f i : Nat)) :
    Calls Try.prog 77 #[.slice A n c] w (UnlOut w n f) := by
  have HA := Lib.hid hA; clear hA
  go_enter Try.func77, Try.ntmps77
  go_wp2
  go_loopg [3, 4, 5, 6] n (fun gk v i _ _ wr => ∃ (q k : Nat) (g : Nat → Nat), q ≤ n ∧ gk = n - q ∧ i = .int .i64 q ∧ Own wr w.heap.size 3 1 v k (fun i => [.int .i64 (g i : Nat)]) ∧ Unl f q k g ∧ Below w.heap.size w wr)
  case atStart => exact ⟨0, 0, fun _ => 0, Nat.zero_le _, rfl, rfl, Own.nil _ _ _ _ _, ⟨Nat.le_refl _, fun a b h => absurd h (by omega), fun j h => absurd h (by omega)⟩, Below.refl _ _⟩
  case round =>
    obtain ⟨q, k, g, hq, rfl, rfl, hown, hU, hbel⟩ := hrel
    obtain ⟨A1, c1, rfl, hkc, _, hR1, _⟩ := hown.rd
    have hkq := hU.le
    have HU := Lib.hid hU; have HO := Lib.hid hown; have HB := Lib.hid hbel; have HR := Lib.hid hR1
    clear hU hown hbel hR1
    by_cases hlt : q < n
    · obtain ⟨b, o, rfl, hb, hc⟩ := HA.out q hlt
      replace hc : w.cell? ⟨b, o + q, none⟩ = some (.int .i64 (f q : Nat)) := hc
      have hcw : wr.cell? ⟨b, o + q, none⟩ = some (.int .i64 (f q : Nat)) := (HB.out.cell hb).trans hc
      have HC := Lib.hid hcw
      have HPU : anyB g (f q) k = false → Hid (Unl f (q + 1) (k + 1) (upd g k (f q))) := fun h => HU.out.push h
      have HPM : Hid (Unl f (q + 1) k g) := HU.out.more
      clear hc hcw
      generalize f q = fq at *
      obtain ⟨wo, hwo⟩ : ∃ wo : World, wo = wr := ⟨_, rfl⟩
      subst hwo
      go_wp2
      go_loopg [5, 6] k (fun gk t j w5 => ∃ p : Nat, p ≤ k ∧ gk = k - p ∧ j = .int .i64 p ∧ t = .bool (anyB g fq p) ∧ Dr wo w5)
      case atStart => exact ⟨0, Nat.zero_le _, rfl, rfl, rfl, Dr.refl _⟩
      case round =>
        obtain ⟨p, hp, rfl, rfl, rfl, hw⟩ := hrel
        have hs : anyB g fq (p + 1) = (anyB g fq p || (g p == fq)) := rfl
        have HS := Lib.hid hs; clear hs
        by_cases hlp : p < k
        · obtain ⟨b1, o1, rfl, _, k1⟩ := hw.rd HR.out p hlp
          replace k1 : wr.cell? ⟨b1, o1 + p, none⟩ = some (.int .i64 (g p : Nat)) := k1
          have k2 : wr.cell? ⟨b, o + q, none⟩ = some (.int .i64 (fq : Nat)) := (hw.cell _).trans HC.out
          have hz : (((g p : Nat) : Int) == ((fq : Nat) : Int)) = (g p == fq) := by
            by_cases e : g p = fq
            · rw [e]; simp
            · rw [beq_eq_false_iff_ne.2 e, beq_eq_false_iff_ne.2 (by omega)]
          cases hab : anyB g fq p
          · have HAB := Lib.hid hab; have HZ := Lib.hid hz; clear hab hz
            generalize g p = gp at *
            go_wp2
            go_quiet (fail)
            go_wp2
            go_roundg (k - (p + 1))
            case measure => omega
            case rel => exact ⟨p + 1, by omega, rfl, by go_num, by rw [HS.out, HAB.out, Bool.false_or]; exact congrArg Value.bool HZ.out, hw.drewN _⟩
          · have HAB := Lib.hid hab; clear hab hz
            go_wp2
            go_quiet (fail)
            go_wp2
            go_roundg (k - (p + 1))
            case measure => omega
            case rel => exact ⟨p + 1, by omega, rfl, by go_num, by rw [HS.out, HAB.out]; rfl, hw.drewN _⟩
        · have hpk : p = k := by omega
          subst hpk
          have k2 : wr.cell? ⟨b, o + q, none⟩ = some (.int .i64 (fq : Nat)) := (hw.cell _).trans HC.out
          have hO := HO.out.kept (hw.below _)
          have hB := hw.below' HB.out
          have hsz := hB.size
          cases hab : anyB g fq p
          · have HPP := HPU hab
            have hO2 : Own wr w.heap.size 3 1 (.slice A1 p c1) p (fun i => [.int .i64 (upd g p fq i : Nat)]) := hO.congr fun i hi => by rw [upd_ne _ _ _ (by omega)]
            have hu : Hid ((#[Value.int .i64 (fq : Nat)] : Array Value).toList = [.int .i64 (upd g p fq p : Nat)]) := by rw [upd_at]; rfl
            clear hO hw hab HPU
            go_wp2_with (at_builtin; refine wpList_push _ rfl (.tmp 33) (.tmp 38) 23 rfl w.heap.size 3 1 8 (.int .i64 0) #[.int .i64 (fq : Nat)] Try.underlying23 intInfo rfl (by decide) _ p _ rfl hO2 hsz _ rfl rfl hu.out rfl rfl (by omega) (by omega) ?_)
            intro v' w9 hown4 hb4 _ _
            have hbF := hB.trans hb4
            clear hO2 hb4 hB
            go_wp2
            go_roundg (n - (q + 1))
            case measure => omega
            case rel => exact ⟨q + 1, p + 1, _, by omega, rfl, by go_num, hown4, HPP.out, hbF⟩
          · clear hab HPU
            go_wp2
            go_roundg (n - (q + 1))
            case measure => omega
            case rel => exact ⟨q + 1, p, g, by omega, rfl, by go_num, hO, HPM.out, hB⟩
    · have : q = n := by omega
      subst this
      go_wp2
      go_ret
      exact ⟨_, k, g, rfl, HO.out, HU.out, HB.out⟩
theorem low_eq1 (s n : Int) (hs : 1 ≤ s) (hs' : s ≤ 256) : (n.tmod s + s) % s = (lowN s n : Nat) := by
  unfold lowN
  have h1 := Int.emod_nonneg n (show s ≠ 0 by omega)
  have h2 : (n.tmod s + s) % s = n % s := by
    rw [Int.add_emod_right]
    have : n.tmod s = n - s * n.tdiv s := by have := Int.mul_tdiv_add_tmod n s; omega
    rw [this, Int.sub_mul_emod_self_left]
  rw [h2]; omega
set_option maxHeartbeats 400000 in
theorem low1_any (s n : Int) (w : World) (hs : 1 ≤ s) (hs' : s ≤ 256) :
    Calls Try.prog 16 #[.int .i64 s, .int .i64 n] w fun e w' => e = .returned (.int .i64 (lowN s n)) ∧ w = w' := by
  have HE := Lib.hid (low_eq1 s n hs hs')
  have hm1 : -s < n.tmod s := Int.neg_lt_of_neg_lt (by have := Int.tmod_lt_of_pos (-n) (show 0 < s by omega); rw [Int.neg_tmod] at this; omega)
  have hm2 : n.tmod s < s := Int.tmod_lt_of_pos n (by omega)
  go_enter Try.func16, Try.ntmps16
  go_wp2
  go_ret
  exact ⟨ret_int HE.out, rfl⟩
theorem low1_lt {s : Nat} (hs : 1 ≤ s) (n : Int) : lowN (s : Nat) n < s := by
  unfold lowN
  have := Int.emod_nonneg n (show (s : Int) ≠ 0 by omega)
  have := Int.emod_lt_of_pos n (show 0 < (s : Int) by omega)
  omega
theorem pw_pow {x : Nat} (hx : x < 256) : ∀ j, pw 256 1 x j = (gE.pow (el x) j).val
  | 0 => rfl
  | j + 1 => by
    show mulR 256 (pw 256 1 x j) x = (gE.m (gE.pow (el x) j) (el x)).val
    rw [okE.mul, pw_pow hx j, el_val hx]
/-- The powers of k unlike points are free. -/
theorem van_free {k : Nat} {x : Nat → Nat} (hx : ∀ i, i < k → x i < 256) (hi : ∀ i j, i < k → j < k → x i = x j → i = j) : gE.Free k k (fun i j => gE.pow (el (x i)) j) := fun c hc i hik =>
  Fd.Kills.zero (F := gE) (k := k) (d := c) (x := fun i => el (x i)) hc (fun a b ha hb e => hi a b ha hb (el_inj (hx a ha) (hx b hb) e)) i hik
end Go.Proofs.Ytpocjpodeahanaa
