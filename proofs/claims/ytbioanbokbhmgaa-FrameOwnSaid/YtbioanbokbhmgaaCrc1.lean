/- step, halves, over, More, Sum of the program; Sum of the document: the walks. Conditions: bytes, 32-bit numbers. -/
import Derived.Test.YtbioanbokbhmgaaCrcP
import Derived.Test.YtbioanbokbhmgaaByt
import Derived.Test.YtbioanbokbhmgaaSz
import Derived.Laws.BitsAllLaws
namespace Go.Proofs.Ytbioanbokbhmgaa
open Go.RowKit

theorem u32_lo {n : Int} (h0 : 0 ≤ n) (h : n < 4294967296) : IntKind.u32.wrap n = n := by rw [IntKind.wrap_u32]; omega
theorem ret_u32 {a b : Int} (h : a = b) : Ending.returned (.int .u32 a) = .returned (.int .u32 b) := by rw [h]
theorem step_any (r : Nat) (w : World) (h : r < 4294967296) :
    Calls Try.prog 86 #[.int .u32 (r : Int)] w fun e w' => e = .returned (.int .u32 (cst r : Nat)) ∧ w = w' := by
  have hA : bits .and .u32 (r : Int) 1 = ((r % 2 : Nat) : Int) := by
    rw [show (1 : Int) = ((1 : Nat) : Int) from rfl, u32_and_nat r 1 h (by decide), Nat.and_one_is_mod]
  have hX : bits .xor .u32 ((r : Int) / 2) 2197175160 = ((r / 2 ^^^ cM : Nat) : Int) := by
    rw [show ((r : Int) / 2) = ((r / 2 : Nat) : Int) by omega, show (2197175160 : Int) = ((cM : Nat) : Int) from rfl, u32_xor_nat _ _ (by omega) (by decide)]
  by_cases h1 : r % 2 = 1
  · rw [h1] at hA
    replace hA : bits .and .u32 (r : Int) 1 = 1 := hA
    have HR := Lib.hid (cst_one h1)
    clear h1
    go_enter Try.func86, Try.ntmps86
    go_wp2
    go_ret
    exact ⟨ret_u32 (by rw [HR.out]), rfl⟩
  · have h0 : r % 2 = 0 := by omega
    rw [h0] at hA
    replace hA : bits .and .u32 (r : Int) 1 = 0 := hA
    have HR := Lib.hid (cst_nil h1)
    clear h0 h1 hX
    go_enter Try.func86, Try.ntmps86
    go_wp2
    go_ret
    exact ⟨ret_u32 (by rw [HR.out]; omega), rfl⟩
/-- The table, so far. -/
def tabC (k : Nat) : Array Value := ((List.range 16).map fun i => Value.int .u32 ((if i < k then cs4 i else 0 : Nat) : Int)).toArray
theorem tabC_set {k : Nat} (_h : k < 16) : (tabC k).setIfInBounds k (.int .u32 ((cs4 k : Nat) : Int)) = tabC (k + 1) := by
  unfold tabC
  apply Array.ext_getElem?
  intro i
  rw [Array.getElem?_setIfInBounds]
  by_cases e : k = i
  · subst e
    simp [_h]
  · rw [if_neg e]
    by_cases hi : i < 16
    · simp [hi]
      by_cases h1 : i < k
      · rw [if_pos h1, if_pos (by omega)]
      · rw [if_neg h1, if_neg (by omega)]
    · simp [hi]
theorem tabC_end : tabC 16 = #[.int .u32 0, .int .u32 274646895, .int .u32 549293790, .int .u32 820201905, .int .u32 1098587580, .int .u32 1361435347, .int .u32 1640403810, .int .u32 1905808397, .int .u32 2197175160, .int .u32 2460548119, .int .u32 2722870694, .int .u32 2987750089, .int .u32 3280807620, .int .u32 3553878443, .int .u32 3811616794, .int .u32 4084100981] := by kernel_rfl
theorem tabC_start : tabC 0 = #[.int .u32 0, .int .u32 0, .int .u32 0, .int .u32 0, .int .u32 0, .int .u32 0, .int .u32 0, .int .u32 0, .int .u32 0, .int .u32 0, .int .u32 0, .int .u32 0, .int .u32 0, .int .u32 0, .int .u32 0, .int .u32 0] := by kernel_rfl
theorem tabC_size (k : Nat) : (tabC k).size = 16 := by simp [tabC]
set_option maxHeartbeats 1000000 in
theorem halves_any (w : World) : Calls Try.prog 77 #[] w fun e w' => e = .returned (.agg #[.int .u32 0, .int .u32 274646895, .int .u32 549293790, .int .u32 820201905, .int .u32 1098587580, .int .u32 1361435347, .int .u32 1640403810, .int .u32 1905808397, .int .u32 2197175160, .int .u32 2460548119, .int .u32 2722870694, .int .u32 2987750089, .int .u32 3280807620, .int .u32 3553878443, .int .u32 3811616794, .int .u32 4084100981]) ∧ Below w.heap.size w w' := by
  have HZ := Lib.hid tabC_start
  have CS := Lib.hid (fun (r : Nat) (h : r < 4294967296) w => step_any r w h)
  go_enter Try.func77, Try.ntmps77
  go_wp2
  rw [← HZ.out]
  go_loopg [2, 3] 16 (fun gk _ v wr => ∃ k : Nat, k ≤ 16 ∧ gk = 16 - k ∧ v = .int .i64 k ∧ wr = ((w.alloc (.cells (tabC 0) 122)).alloc (.cells (tabC k) 122)))
  case atStart => exact ⟨0, Nat.zero_le _, rfl, rfl, rfl⟩
  case round =>
    obtain ⟨k, hk, rfl, rfl, rfl⟩ := hrel
    by_cases hlt : k < 16
    · have hcv : IntKind.u32.wrap (k : Int) = (k : Int) := u32_lo (by omega) (by omega)
      have HT := Lib.hid (tabC_set hlt)
      have l1 := cst_lt (r := k) (by omega)
      have l2 := cst_lt l1
      have l3 := cst_lt l2
      have hfz := tabC_size k
      go_wp2_with fail
      refine (CS.out k (by omega) _).mono ?_
      rintro e w1 ⟨rfl, rfl⟩
      go_wp2_with fail
      refine (CS.out _ l1 _).mono ?_
      rintro e w1 ⟨rfl, rfl⟩
      go_wp2_with fail
      refine (CS.out _ l2 _).mono ?_
      rintro e w1 ⟨rfl, rfl⟩
      go_wp2_with fail
      refine (CS.out _ l3 _).mono ?_
      rintro e w1 ⟨rfl, rfl⟩
      have hc4 : cst (cst (cst (cst k))) = cs4 k := rfl
      rw [hc4]
      clear hc4 l1 l2 l3
      go_wp2
      go_roundg (16 - (k + 1))
      case measure => omega
      case rel => exact ⟨k + 1, by omega, rfl, by go_num, by rw [← HT.out]⟩
    · have hk16 : k = 16 := by omega
      subst hk16
      have HE := Lib.hid tabC_end
      rw [HE.out, HZ.out]
      go_wp2
      exact bodyPost_ret (v := .agg #[.int .u32 0, .int .u32 274646895, .int .u32 549293790, .int .u32 820201905, .int .u32 1098587580, .int .u32 1361435347, .int .u32 1640403810, .int .u32 1905808397, .int .u32 2197175160, .int .u32 2460548119, .int .u32 2722870694, .int .u32 2987750089, .int .u32 3280807620, .int .u32 3553878443, .int .u32 3811616794, .int .u32 4084100981]) (by simp [results, Try.results77, go_sem]) rfl ⟨rfl, ((Below.refl _ _).alloc (Nat.le_refl _) _).alloc (by simp) _⟩
theorem tab_row (w : World) : (w.alloc (.cells #[.int .u32 0, .int .u32 274646895, .int .u32 549293790, .int .u32 820201905, .int .u32 1098587580, .int .u32 1361435347, .int .u32 1640403810, .int .u32 1905808397, .int .u32 2197175160, .int .u32 2460548119, .int .u32 2722870694, .int .u32 2987750089, .int .u32 3280807620, .int .u32 3553878443, .int .u32 3811616794, .int .u32 4084100981] 122)).rowIs w.heap.size 122 16 (fun i => .int .u32 ((cs4 i : Nat) : Int)) := by
  have h := World.rowIs_alloc w (tabC 16) 122 (fun i => .int .u32 ((cs4 i : Nat) : Int)) (by
    intro i hi
    have hi : i < 16 := by rw [tabC_size] at hi; exact hi
    unfold tabC
    simp [hi])
  rw [tabC_size, tabC_end] at h
  exact h
set_option maxHeartbeats 1000000 in
theorem over_any (r : Nat) (A : Option Addr) (c : Nat) (l : List Nat) (w : World) (hr : r < 4294967296) (hl : ∀ x ∈ l, x < 256) (hn : l.length ≤ 140737488355328) (hA : RL w A l) :
    Calls Try.prog 68 #[.int .u32 (r : Int), .slice A l.length c] w fun e w' => e = .returned (.int .u32 (crg r l : Nat)) ∧ Below w.heap.size w w' := by
  have HL := Lib.hid hl; have HA := Lib.hid hA
  clear hl hA
  go_enter Try.func68, Try.ntmps68
  go_wp2_with fail
  refine (halves_any w).mono ?_
  rintro e w1 ⟨rfl, hb1⟩
  have HB1 := Lib.hid hb1; clear hb1
  go_wp2
  have HROW := Lib.hid (tab_row w1)
  have HB2 := Lib.hid (HB1.out.alloc HB1.out.size (.cells #[.int .u32 0, .int .u32 274646895, .int .u32 549293790, .int .u32 820201905, .int .u32 1098587580, .int .u32 1361435347, .int .u32 1640403810, .int .u32 1905808397, .int .u32 2197175160, .int .u32 2460548119, .int .u32 2722870694, .int .u32 2987750089, .int .u32 3280807620, .int .u32 3553878443, .int .u32 3811616794, .int .u32 4084100981] 122))
  generalize w1.alloc (.cells #[.int .u32 0, .int .u32 274646895, .int .u32 549293790, .int .u32 820201905, .int .u32 1098587580, .int .u32 1361435347, .int .u32 1640403810, .int .u32 1905808397, .int .u32 2197175160, .int .u32 2460548119, .int .u32 2722870694, .int .u32 2987750089, .int .u32 3280807620, .int .u32 3553878443, .int .u32 3811616794, .int .u32 4084100981] 122) = w2 at *
  generalize w1.heap.size = tb at *
  go_loopg [0, 7, 11] l.length (fun gk reg _ v wr => wr = w2 ∧ ∃ k : Nat, k ≤ l.length ∧ gk = l.length - k ∧ v = .int .i64 k ∧ reg = .int .u32 ((crg r (l.take k) : Nat) : Int))
  case atStart => exact ⟨rfl, 0, Nat.zero_le _, rfl, rfl, rfl⟩
  case round =>
    obtain ⟨rfl, k, hk, rfl, rfl, rfl⟩ := hrel
    by_cases hlt : k < l.length
    · obtain ⟨b, o, rfl, hb, hc⟩ := (HA.out.below HB2.out) k hlt
      obtain ⟨x, hx⟩ : ∃ x, x = l.getD k 0 := ⟨_, rfl⟩
      have hx8 : x < 256 := by rw [hx]; exact getD_lt HL.out hlt
      replace hc : wr.cell? ⟨b, o + k, none⟩ = some (.int .u8 (x : Nat)) := by rw [hx]; exact hc
      have hr0 : crg r (l.take k) < 4294967296 := crg_lt hr fun y hy => HL.out y (List.mem_of_mem_take hy)
      have HN : Hid (crg r (l.take (k + 1)) = ((crg r (l.take k) ^^^ x) / 16 ^^^ cs4 ((crg r (l.take k) ^^^ x) % 16)) / 16 ^^^ cs4 (((crg r (l.take k) ^^^ x) / 16 ^^^ cs4 ((crg r (l.take k) ^^^ x) % 16)) % 16)) := by
        rw [take_next hlt, crg_app, ← hx]; exact (cby_eq _ _).symm
      clear hx
      generalize crg r (l.take k) = r0 at *
      have hcv : IntKind.u32.wrap (x : Int) = (x : Int) := u32_lo (by omega) (by omega)
      have hq : bits .xor .u32 (r0 : Int) (x : Int) = ((r0 ^^^ x : Nat) : Int) := u32_xor_nat _ _ hr0 (by omega)
      have hql : r0 ^^^ x < 4294967296 := Nat.xor_lt_two_pow (n := 32) hr0 (by omega)
      generalize r0 ^^^ x = q at *
      have ha1 : bits .and .u32 (q : Int) 15 = ((q % 16 : Nat) : Int) := by
        rw [show (15 : Int) = ((15 : Nat) : Int) from rfl, u32_and_nat q 15 hql (by decide), show (15 : Nat) = 2 ^ 4 - 1 from rfl, Nat.and_two_pow_sub_one_eq_mod]
      have hm1 : q % 16 < 16 := Nat.mod_lt _ (by decide)
      have hc1 := HROW.out.cell hm1
      have hx1 : bits .xor .u32 ((q : Int) / 16) ((cs4 (q % 16) : Nat) : Int) = ((q / 16 ^^^ cs4 (q % 16) : Nat) : Int) := by
        rw [show ((q : Int) / 16) = ((q / 16 : Nat) : Int) by omega]; exact u32_xor_nat _ _ (by omega) (cs4_lt (by omega))
      have hpl : q / 16 ^^^ cs4 (q % 16) < 4294967296 := Nat.xor_lt_two_pow (n := 32) (by omega) (cs4_lt (by omega))
      generalize q / 16 ^^^ cs4 (q % 16) = p at *
      generalize q % 16 = m1 at *
      have ha2 : bits .and .u32 (p : Int) 15 = ((p % 16 : Nat) : Int) := by
        rw [show (15 : Int) = ((15 : Nat) : Int) from rfl, u32_and_nat p 15 hpl (by decide), show (15 : Nat) = 2 ^ 4 - 1 from rfl, Nat.and_two_pow_sub_one_eq_mod]
      have hm2 : p % 16 < 16 := Nat.mod_lt _ (by decide)
      have hc2 := HROW.out.cell hm2
      have hx2 : bits .xor .u32 ((p : Int) / 16) ((cs4 (p % 16) : Nat) : Int) = ((p / 16 ^^^ cs4 (p % 16) : Nat) : Int) := by
        rw [show ((p : Int) / 16) = ((p / 16 : Nat) : Int) by omega]; exact u32_xor_nat _ _ (by omega) (cs4_lt (by omega))
      generalize p / 16 ^^^ cs4 (p % 16) = y at *
      generalize p % 16 = m2 at *
      go_wp2
      go_roundg (l.length - (k + 1))
      case measure => omega
      case rel => exact ⟨rfl, k + 1, by omega, rfl, by go_num, by rw [HN.out]⟩
    · have hkn : k = l.length := by omega
      subst hkn
      have HE : Hid (l.take l.length = l) := List.take_length
      go_wp2
      go_ret
      exact ⟨ret_u32 (by rw [HE.out]), HB2.out⟩
theorem not_u32 {a : Nat} (h : a < 4294967296) : bits .xor .u32 4294967295 (a : Int) = ((a ^^^ c32 : Nat) : Int) := by
  rw [Nat.xor_comm]; exact u32_xor_nat c32 a (by decide) h
theorem not_u32' {a : Nat} (h : a < 4294967296) : bits .xor .u32 IntKind.u32.max (a : Int) = ((a ^^^ c32 : Nat) : Int) := not_u32 h
theorem more_any (s : Nat) (A : Option Addr) (c : Nat) (l : List Nat) (w : World) (hs : s < 4294967296) (hl : ∀ x ∈ l, x < 256) (hn : l.length ≤ 140737488355328) (hA : RL w A l) :
    Calls Try.prog 51 #[.int .u32 (s : Int), .slice A l.length c] w fun e w' => e = .returned (.int .u32 (crm s l : Nat)) ∧ Below w.heap.size w w' := by
  have CO := Lib.hid (over_any (s ^^^ c32) A c l w (c32_lt hs) hl hn hA)
  have h1 := not_u32 hs
  have h1' := not_u32' hs
  have h2 := not_u32 (crg_lt (c32_lt hs) hl)
  have h2' := not_u32' (crg_lt (c32_lt hs) hl)
  have HM := Lib.hid (crm_def s l)
  generalize crg (s ^^^ c32) l = g at *
  generalize s ^^^ c32 = s' at *
  clear hA hl
  go_enter Try.func51, Try.ntmps51
  go_wp2_with fail
  refine CO.out.mono ?_
  rintro e w1 ⟨rfl, hb⟩
  have HB := Lib.hid hb; clear hb
  go_wp2
  go_ret
  exact ⟨ret_u32 (by rw [HM.out]), HB.out⟩
theorem sum_any (A : Option Addr) (c : Nat) (l : List Nat) (w : World) (hl : ∀ x ∈ l, x < 256) (hn : l.length ≤ 140737488355328) (hA : RL w A l) :
    Calls Try.prog 50 #[.slice A l.length c] w fun e w' => e = .returned (.int .u32 (crc l : Nat)) ∧ Below w.heap.size w w' := by
  have CO := Lib.hid (more_any 0 A c l w (by decide) hl hn hA)
  clear hA hl
  go_enter Try.func50, Try.ntmps50
  go_wp2_with fail
  refine CO.out.mono ?_
  rintro e w1 ⟨rfl, hb⟩
  have HB := Lib.hid hb; clear hb
  go_wp2
  go_ret
  exact ⟨rfl, HB.out⟩
set_option maxRecDepth 20000 in
set_option maxHeartbeats 1000000 in
theorem rsum_any (A : Option Addr) (c : Nat) (l : List Nat) (w : World) (hl : ∀ x ∈ l, x < 256) (hn : l.length ≤ 140737488355328) (hA : RL w A l) :
    Calls Try.prog 55 #[.slice A l.length c] w fun e w' => e = .returned (.int .i64 (crc l : Nat)) ∧ w = w' := by
  have HL := Lib.hid hl; have HA := Lib.hid hA
  clear hl hA
  go_enter Try.func55, Try.ntmps55
  go_wp2
  go_loopg [3, 4, 5, 6] l.length (fun gk reg v _ _ wr => wr = w ∧ ∃ k : Nat, k ≤ l.length ∧ gk = l.length - k ∧ v = .int .i64 k ∧ reg = .int .u32 ((crg c32 (l.take k) : Nat) : Int))
  case atStart => exact ⟨rfl, 0, Nat.zero_le _, rfl, rfl, rfl⟩
  case round =>
    obtain ⟨rfl, k, hk, rfl, rfl, rfl⟩ := hrel
    have hr0 : crg c32 (l.take k) < 4294967296 := crg_lt (by decide) fun y hy => HL.out y (List.mem_of_mem_take hy)
    by_cases hlt : k < l.length
    · obtain ⟨b, o, rfl, hb, hc⟩ := HA.out k hlt
      obtain ⟨x, hx⟩ : ∃ x, x = l.getD k 0 := ⟨_, rfl⟩
      have hx8 : x < 256 := by rw [hx]; exact getD_lt HL.out hlt
      replace hc : wr.cell? ⟨b, o + k, none⟩ = some (.int .u8 (x : Nat)) := by rw [hx]; exact hc
      have HN : Hid (crg c32 (l.take (k + 1)) = csN 8 (crg c32 (l.take k) ^^^ x)) := by
        rw [take_next hlt, crg_app, ← hx]; rfl
      clear hx
      generalize crg c32 (l.take k) = r0 at *
      have hcv : IntKind.u32.wrap (x : Int) = (x : Int) := u32_lo (by omega) (by omega)
      have hq : bits .xor .u32 (r0 : Int) (x : Int) = ((r0 ^^^ x : Nat) : Int) := u32_xor_nat _ _ hr0 (by omega)
      have hql : r0 ^^^ x < 4294967296 := Nat.xor_lt_two_pow (n := 32) hr0 (by omega)
      generalize r0 ^^^ x = q at *
      go_wp2
      clear hcv hq hc
      go_loopg [3, 5, 6] 8 (fun gk reg v _ w' => w' = wr ∧ ∃ j : Nat, j ≤ 8 ∧ gk = 8 - j ∧ v = .int .i64 j ∧ reg = .int .u32 ((csN j q : Nat) : Int))
      case atStart => exact ⟨rfl, 0, Nat.zero_le _, rfl, rfl, rfl⟩
      case round =>
        obtain ⟨rfl, j, hj, rfl, rfl, rfl⟩ := hrel
        by_cases hj8 : j < 8
        · have hs := Lib.hid (csN_snoc j q)
          have hp : csN j q < 4294967296 := csN_small hql
          generalize csN j q = p at *
          have hand : bits .and .u32 (p : Int) 1 = ((p % 2 : Nat) : Int) := by
            rw [show (1 : Int) = ((1 : Nat) : Int) from rfl, u32_and_nat p 1 hp (by decide), Nat.and_one_is_mod]
          have hxr : bits .xor .u32 ((p : Int) / 2) 2197175160 = ((p / 2 ^^^ cM : Nat) : Int) := by
            rw [show ((p : Int) / 2) = ((p / 2 : Nat) : Int) by omega, show (2197175160 : Int) = ((cM : Nat) : Int) from rfl, u32_xor_nat _ _ (by omega) (by decide)]
          by_cases h1 : p % 2 = 1
          · rw [h1] at hand
            replace hand : bits .and .u32 (p : Int) 1 = 1 := hand
            have HR := Lib.hid (cst_one h1)
            clear h1
            go_wp2
            go_roundg (8 - (j + 1))
            case measure => omega
            case rel => exact ⟨rfl, j + 1, by omega, rfl, by go_num, by rw [hs.out, HR.out]⟩
          · have h0 : p % 2 = 0 := by omega
            rw [h0] at hand
            replace hand : bits .and .u32 (p : Int) 1 = 0 := hand
            have HR := Lib.hid (cst_nil h1)
            clear h0 h1 hxr
            go_wp2
            go_roundg (8 - (j + 1))
            case measure => omega
            case rel => exact ⟨rfl, j + 1, by omega, rfl, by go_num, by rw [hs.out, HR.out]; congr 1⟩
        · have hj8 : j = 8 := by omega
          subst hj8
          have hp : csN 8 q < 4294967296 := csN_small hql
          generalize csN 8 q = p at *
          go_wp2
          go_roundg (l.length - (k + 1))
          case measure => omega
          case rel => exact ⟨rfl, k + 1, by omega, rfl, by go_num, by rw [HN.out]⟩
    · have hkn : k = l.length := by omega
      subst hkn
      have HE := Lib.hid (show crc l = crg c32 (l.take l.length) ^^^ c32 by rw [List.take_length]; unfold crc; rw [crm_def, Nat.zero_xor])
      generalize crg c32 (l.take l.length) = r0 at *
      have hx : bits .xor .u32 (r0 : Int) 4294967295 = ((r0 ^^^ c32 : Nat) : Int) := u32_xor_nat _ c32 hr0 (by decide)
      have hxl : r0 ^^^ c32 < 4294967296 := c32_lt hr0
      generalize r0 ^^^ c32 = q at *
      go_wp2
      go_ret
      exact ⟨ret_int (by rw [HE.out]), rfl⟩
end Go.Proofs.Ytbioanbokbhmgaa
