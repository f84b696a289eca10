/- step, halves, over, More, Sum of the program; Sum of the document: the walks. Conditions: bytes, 32-bit numbers. -/
import Derived.Test.YtjaaldandgfkgaaFrmP
import Derived.Test.YtjaaldandgfkgaaOwl
import Derived.Test.YtjaaldandgfkgaaFCkp
import Derived.Laws.BitsAllLaws
import Derived.Lib.Tables
namespace Go.Proofs.Ytjaaldandgfkgaa
open Go.RowKit

theorem u32_lo {n : Int} (h0 : 0 ≤ n) (h : n < 4294967296) : IntKind.u32.wrap n = n := by rw [IntKind.wrap_u32]; omega
theorem ret_u32 {a b : Int} (h : a = b) : Ending.returned (.int .u32 a) = .returned (.int .u32 b) := by rw [h]
theorem step_any (r : Nat) (w : World) (h : r < 4294967296) :
    Calls Try.prog 123 #[.int .u32 (r : Int)] w fun e w' => e = .returned (.int .u32 (cst r : Nat)) ∧ w = w' := by
  have hA : bits .and .u32 (r : Int) 1 = ((r % 2 : Nat) : Int) := by
    rw [show (1 : Int) = ((1 : Nat) : Int) from rfl, u32_and_nat r 1 h (by decide), Nat.and_one_is_mod]
  have hX : bits .xor .u32 ((r : Int) / 2) 2197175160 = ((r / 2 ^^^ cM : Nat) : Int) := by
    rw [show ((r : Int) / 2) = ((r / 2 : Nat) : Int) by omega, show (2197175160 : Int) = ((cM : Nat) : Int) from rfl, u32_xor_nat _ _ (by omega) (by decide)]
  by_cases h1 : r % 2 = 1
  · rw [h1] at hA
    replace hA : bits .and .u32 (r : Int) 1 = 1 := hA
    have HR := Lib.hid (cst_one h1)
    clear h1
    go_enter Try.func123, Try.ntmps123
    go_wp2
    go_ret
    exact ⟨ret_u32 (by rw [HR.out]), rfl⟩
  · have h0 : r % 2 = 0 := by omega
    rw [h0] at hA
    replace hA : bits .and .u32 (r : Int) 1 = 0 := hA
    have HR := Lib.hid (cst_nil h1)
    clear h0 h1 hX
    go_enter Try.func123, Try.ntmps123
    go_wp2
    go_ret
    exact ⟨ret_u32 (by rw [HR.out]; omega), rfl⟩
/-- The table, so far. -/
def tabC (k : Nat) : Array Value := ((List.range 16).map fun i => Value.int .u32 ((if i < k then cs4 i else 0 : Nat) : Int)).toArray
theorem tabC_set {k : Nat} (_h : k < 16) : (tabC k).setIfInBounds k (.int .u32 ((cs4 k : Nat) : Int)) = tabC (k + 1) := by
  unfold tabC
  apply Array.ext_getElem?
  intro i
  rw [Array.getElem?_setIfInBounds]
  by_cases e : k = i
  · subst e
    simp [_h]
  · rw [if_neg e]
    by_cases hi : i < 16
    · simp [hi]
      by_cases h1 : i < k
      · rw [if_pos h1, if_pos (by omega)]
      · rw [if_neg h1, if_neg (by omega)]
    · simp [hi]
theorem tabC_end : tabC 16 = #[.int .u32 0, .int .u32 274646895, .int .u32 549293790, .int .u32 820201905, .int .u32 1098587580, .int .u32 1361435347, .int .u32 1640403810, .int .u32 1905808397, .int .u32 2197175160, .int .u32 2460548119, .int .u32 2722870694, .int .u32 2987750089, .int .u32 3280807620, .int .u32 3553878443, .int .u32 3811616794, .int .u32 4084100981] := by kernel_rfl
theorem tabC_start : tabC 0 = #[.int .u32 0, .int .u32 0, .int .u32 0, .int .u32 0, .int .u32 0, .int .u32 0, .int .u32 0, .int .u32 0, .int .u32 0, .int .u32 0, .int .u32 0, .int .u32 0, .int .u32 0, .int .u32 0, .int .u32 0, .int .u32 0] := by kernel_rfl
theorem tabC_size (k : Nat) : (tabC k).size = 16 := by simp [tabC]
set_option maxHeartbeats 1000000 in
theorem halves_any (w : World) : Calls Try.prog 112 #[] w fun e w' => e = .returned (.agg #[.int .u32 0, .int .u32 274646895, .int .u32 549293790, .int .u32 820201905, .int .u32 1098587580, .int .u32 1361435347, .int .u32 1640403810, .int .u32 1905808397, .int .u32 2197175160, .int .u32 2460548119, .int .u32 2722870694, .int .u32 2987750089, .int .u32 3280807620, .int .u32 3553878443, .int .u32 3811616794, .int .u32 4084100981]) ∧ Below w.heap.size w w' := by
  have HZ := Lib.hid tabC_start
  have CS := Lib.hid (fun (r : Nat) (h : r < 4294967296) w => step_any r w h)
  go_enter Try.func112, Try.ntmps112
  go_wp2
  rw [← HZ.out]
  go_loopg [2, 3] 16 (fun gk _ v wr => ∃ k : Nat, k ≤ 16 ∧ gk = 16 - k ∧ v = .int .i64 k ∧ wr = ((w.alloc (.cells (tabC 0) 165)).alloc (.cells (tabC k) 165)))
  case atStart => exact ⟨0, Nat.zero_le _, rfl, rfl, rfl⟩
  case round =>
    obtain ⟨k, hk, rfl, rfl, rfl⟩ := hrel
    by_cases hlt : k < 16
    · have hcv : IntKind.u32.wrap (k : Int) = (k : Int) := u32_lo (by omega) (by omega)
      have HT := Lib.hid (tabC_set hlt)
      have l1 := cst_lt (r := k) (by omega)
      have l2 := cst_lt l1
      have l3 := cst_lt l2
      have hfz := tabC_size k
      go_wp2_with fail
      refine (CS.out k (by omega) _).mono ?_
      rintro e w1 ⟨rfl, rfl⟩
      go_wp2_with fail
      refine (CS.out _ l1 _).mono ?_
      rintro e w1 ⟨rfl, rfl⟩
      go_wp2_with fail
      refine (CS.out _ l2 _).mono ?_
      rintro e w1 ⟨rfl, rfl⟩
      go_wp2_with fail
      refine (CS.out _ l3 _).mono ?_
      rintro e w1 ⟨rfl, rfl⟩
      have hc4 : cst (cst (cst (cst k))) = cs4 k := rfl
      rw [hc4]
      clear hc4 l1 l2 l3
      go_wp2
      go_roundg (16 - (k + 1))
      case measure => omega
      case rel => exact ⟨k + 1, by omega, rfl, by go_num, by rw [← HT.out]⟩
    · have hk16 : k = 16 := by omega
      subst hk16
      have HE := Lib.hid tabC_end
      rw [HE.out, HZ.out]
      go_wp2
      exact bodyPost_ret (v := .agg #[.int .u32 0, .int .u32 274646895, .int .u32 549293790, .int .u32 820201905, .int .u32 1098587580, .int .u32 1361435347, .int .u32 1640403810, .int .u32 1905808397, .int .u32 2197175160, .int .u32 2460548119, .int .u32 2722870694, .int .u32 2987750089, .int .u32 3280807620, .int .u32 3553878443, .int .u32 3811616794, .int .u32 4084100981]) (by simp [results, Try.results112, go_sem]) rfl ⟨rfl, ((Below.refl _ _).alloc (Nat.le_refl _) _).alloc (by simp) _⟩
theorem tab_row (w : World) : (w.alloc (.cells #[.int .u32 0, .int .u32 274646895, .int .u32 549293790, .int .u32 820201905, .int .u32 1098587580, .int .u32 1361435347, .int .u32 1640403810, .int .u32 1905808397, .int .u32 2197175160, .int .u32 2460548119, .int .u32 2722870694, .int .u32 2987750089, .int .u32 3280807620, .int .u32 3553878443, .int .u32 3811616794, .int .u32 4084100981] 165)).rowIs w.heap.size 165 16 (fun i => .int .u32 ((cs4 i : Nat) : Int)) := by
  have h := World.rowIs_alloc w (tabC 16) 165 (fun i => .int .u32 ((cs4 i : Nat) : Int)) (by
    intro i hi
    have hi : i < 16 := by rw [tabC_size] at hi; exact hi
    unfold tabC
    simp [hi])
  rw [tabC_size, tabC_end] at h
  exact h
set_option maxHeartbeats 1000000 in
theorem over_f8 (r : Nat) (A : Option Addr) (c : Nat) (l : List Nat) (w : World) (hr : r < 4294967296) (hl : ∀ x ∈ l, x < 256) (hn : l.length ≤ 140737488355328) (hA : RL w A l) :
    Calls Try.prog 94 #[.int .u32 (r : Int), .slice A l.length c] w fun e w' => e = .returned (.int .u32 (crg r l : Nat)) ∧ Below w.heap.size w w' := by
  have HL := Lib.hid hl; have HA := Lib.hid hA
  clear hl hA
  go_enter Try.func94, Try.ntmps94
  go_wp2_with fail
  refine (halves_any w).mono ?_
  rintro e w1 ⟨rfl, hb1⟩
  have HB1 := Lib.hid hb1; clear hb1
  go_wp2
  have HROW := Lib.hid (tab_row w1)
  have HB2 := Lib.hid (HB1.out.alloc HB1.out.size (.cells #[.int .u32 0, .int .u32 274646895, .int .u32 549293790, .int .u32 820201905, .int .u32 1098587580, .int .u32 1361435347, .int .u32 1640403810, .int .u32 1905808397, .int .u32 2197175160, .int .u32 2460548119, .int .u32 2722870694, .int .u32 2987750089, .int .u32 3280807620, .int .u32 3553878443, .int .u32 3811616794, .int .u32 4084100981] 165))
  generalize w1.alloc (.cells #[.int .u32 0, .int .u32 274646895, .int .u32 549293790, .int .u32 820201905, .int .u32 1098587580, .int .u32 1361435347, .int .u32 1640403810, .int .u32 1905808397, .int .u32 2197175160, .int .u32 2460548119, .int .u32 2722870694, .int .u32 2987750089, .int .u32 3280807620, .int .u32 3553878443, .int .u32 3811616794, .int .u32 4084100981] 165) = w2 at *
  generalize w1.heap.size = tb at *
  go_loopg [0, 7, 11] l.length (fun gk reg _ v wr => wr = w2 ∧ ∃ k : Nat, k ≤ l.length ∧ gk = l.length - k ∧ v = .int .i64 k ∧ reg = .int .u32 ((crg r (l.take k) : Nat) : Int))
  case atStart => exact ⟨rfl, 0, Nat.zero_le _, rfl, rfl, rfl⟩
  case round =>
    obtain ⟨rfl, k, hk, rfl, rfl, rfl⟩ := hrel
    by_cases hlt : k < l.length
    · obtain ⟨b, o, rfl, hb, hc⟩ := (HA.out.below HB2.out) k hlt
      obtain ⟨x, hx⟩ : ∃ x, x = l.getD k 0 := ⟨_, rfl⟩
      have hx8 : x < 256 := by rw [hx]; exact getD_lt HL.out hlt
      replace hc : wr.cell? ⟨b, o + k, none⟩ = some (.int .u8 (x : Nat)) := by rw [hx]; exact hc
      have hr0 : crg r (l.take k) < 4294967296 := crg_lt hr fun y hy => HL.out y (List.mem_of_mem_take hy)
      have HN : Hid (crg r (l.take (k + 1)) = ((crg r (l.take k) ^^^ x) / 16 ^^^ cs4 ((crg r (l.take k) ^^^ x) % 16)) / 16 ^^^ cs4 (((crg r (l.take k) ^^^ x) / 16 ^^^ cs4 ((crg r (l.take k) ^^^ x) % 16)) % 16)) := by
        rw [take_next hlt, crg_app, ← hx]; exact (cby_eq _ _).symm
      clear hx
      generalize crg r (l.take k) = r0 at *
      have hcv : IntKind.u32.wrap (x : Int) = (x : Int) := u32_lo (by omega) (by omega)
      have hq : bits .xor .u32 (r0 : Int) (x : Int) = ((r0 ^^^ x : Nat) : Int) := u32_xor_nat _ _ hr0 (by omega)
      have hql : r0 ^^^ x < 4294967296 := Nat.xor_lt_two_pow (n := 32) hr0 (by omega)
      generalize r0 ^^^ x = q at *
      have ha1 : bits .and .u32 (q : Int) 15 = ((q % 16 : Nat) : Int) := by
        rw [show (15 : Int) = ((15 : Nat) : Int) from rfl, u32_and_nat q 15 hql (by decide), show (15 : Nat) = 2 ^ 4 - 1 from rfl, Nat.and_two_pow_sub_one_eq_mod]
      have hm1 : q % 16 < 16 := Nat.mod_lt _ (by decide)
      have hc1 := HROW.out.cell hm1
      have hx1 : bits .xor .u32 ((q : Int) / 16) ((cs4 (q % 16) : Nat) : Int) = ((q / 16 ^^^ cs4 (q % 16) : Nat) : Int) := by
        rw [show ((q : Int) / 16) = ((q / 16 : Nat) : Int) by omega]; exact u32_xor_nat _ _ (by omega) (cs4_lt (by omega))
      have hpl : q / 16 ^^^ cs4 (q % 16) < 4294967296 := Nat.xor_lt_two_pow (n := 32) (by omega) (cs4_lt (by omega))
      generalize q / 16 ^^^ cs4 (q % 16) = p at *
      generalize q % 16 = m1 at *
      have ha2 : bits .and .u32 (p : Int) 15 = ((p % 16 : Nat) : Int) := by
        rw [show (15 : Int) = ((15 : Nat) : Int) from rfl, u32_and_nat p 15 hpl (by decide), show (15 : Nat) = 2 ^ 4 - 1 from rfl, Nat.and_two_pow_sub_one_eq_mod]
      have hm2 : p % 16 < 16 := Nat.mod_lt _ (by decide)
      have hc2 := HROW.out.cell hm2
      have hx2 : bits .xor .u32 ((p : Int) / 16) ((cs4 (p % 16) : Nat) : Int) = ((p / 16 ^^^ cs4 (p % 16) : Nat) : Int) := by
        rw [show ((p : Int) / 16) = ((p / 16 : Nat) : Int) by omega]; exact u32_xor_nat _ _ (by omega) (cs4_lt (by omega))
      generalize p / 16 ^^^ cs4 (p % 16) = y at *
      generalize p % 16 = m2 at *
      go_wp2
      go_roundg (l.length - (k + 1))
      case measure => omega
      case rel => exact ⟨rfl, k + 1, by omega, rfl, by go_num, by rw [HN.out]⟩
    · have hkn : k = l.length := by omega
      subst hkn
      have HE : Hid (l.take l.length = l) := List.take_length
      go_wp2
      go_ret
      exact ⟨ret_u32 (by rw [HE.out]), HB2.out⟩
theorem not_u32 {a : Nat} (h : a < 4294967296) : bits .xor .u32 4294967295 (a : Int) = ((a ^^^ c32 : Nat) : Int) := by
  rw [Nat.xor_comm]; exact u32_xor_nat c32 a (by decide) h
theorem not_u32' {a : Nat} (h : a < 4294967296) : bits .xor .u32 IntKind.u32.max (a : Int) = ((a ^^^ c32 : Nat) : Int) := not_u32 h
theorem more_any (s : Nat) (A : Option Addr) (c : Nat) (l : List Nat) (w : World) (hs : s < 4294967296) (hl : ∀ x ∈ l, x < 256) (hn : l.length ≤ 140737488355328) (hA : RL w A l) :
    Calls Try.prog 71 #[.int .u32 (s : Int), .slice A l.length c] w fun e w' => e = .returned (.int .u32 (crm s l : Nat)) ∧ Below w.heap.size w w' := by
  have CO := Lib.hid (over_f8 (s ^^^ c32) A c l w (c32_lt hs) hl hn hA)
  have h1 := not_u32 hs
  have h1' := not_u32' hs
  have h2 := not_u32 (crg_lt (c32_lt hs) hl)
  have h2' := not_u32' (crg_lt (c32_lt hs) hl)
  have HM := Lib.hid (crm_def s l)
  generalize crg (s ^^^ c32) l = g at *
  generalize s ^^^ c32 = s' at *
  clear hA hl
  go_enter Try.func71, Try.ntmps71
  go_wp2_with fail
  refine CO.out.mono ?_
  rintro e w1 ⟨rfl, hb⟩
  have HB := Lib.hid hb; clear hb
  go_wp2
  go_ret
  exact ⟨ret_u32 (by rw [HM.out]), HB.out⟩
theorem sum_any (A : Option Addr) (c : Nat) (l : List Nat) (w : World) (hl : ∀ x ∈ l, x < 256) (hn : l.length ≤ 140737488355328) (hA : RL w A l) :
    Calls Try.prog 70 #[.slice A l.length c] w fun e w' => e = .returned (.int .u32 (crc l : Nat)) ∧ Below w.heap.size w w' := by
  have CO := Lib.hid (more_any 0 A c l w (by decide) hl hn hA)
  clear hA hl
  go_enter Try.func70, Try.ntmps70
  go_wp2_with fail
  refine CO.out.mono ?_
  rintro e w1 ⟨rfl, hb⟩
  have HB := Lib.hid hb; clear hb
  go_wp2
  go_ret
  exact ⟨rfl, HB.out⟩
end Go.Proofs.Ytjaaldandgfkgaa

/- bytes.Clone, codec.Put of 32 bits: the walks. Conditions: lengths that memory bears. -/
namespace Go.Proofs.Ytjaaldandgfkgaa
open Go.RowKit

theorem OwnB.fresh (w : World) : OwnB (w.alloc (.cells #[] 5)) w.heap.size (.slice (some ⟨w.heap.size, 0, none⟩) 0 0) [] :=
  OwnB.of (l := []) (own_of_row (World.rowIs_alloc w #[] 5 (fun i => .int .u8 (([] : List Nat).getD i 0 : Nat)) (by intro i hi; simp at hi)) (Nat.le_refl _) (by decide))
theorem clone_f8 (A : Option Addr) (c : Nat) (l : List Nat) (w : World) (hn : l.length ≤ 150000000000000) (hA : RL w A l) :
    Calls Try.prog 56 #[.slice A l.length c] w fun e w' => ∃ v, e = .returned v ∧ OwnB w' w.heap.size v l ∧ Below w.heap.size w w' := by
  rcases A with _ | ad
  · have hn0 : l = [] := by
      cases l with
      | nil => rfl
      | cons x l => obtain ⟨_, _, e, _⟩ := hA 0 (by simp); cases e
    subst hn0
    clear hA
    have hnil : ∀ w, (binOp .eql 43 (.slice none 0 c) (.slice none 0 0)).run Try.prog w = .ok (.bool true) w := fun w => Go.Lib.run_eql_slice_nil (P := Try.prog) w 43 5 none 0 c 0 0 Try.underlying43
    show Calls Try.prog 56 #[.slice none 0 c] w _
    go_enter Try.func56, Try.ntmps56
    go_wp2
    go_ret
    exact ⟨_, rfl, OwnB.nil _ _, Below.refl _ _⟩
  · have hnil : ∀ w, (binOp .eql 43 (.slice (some ad) l.length c) (.slice none 0 0)).run Try.prog w = .ok (.bool false) w := fun w => Go.Lib.run_eql_slice_nil (P := Try.prog) w 43 5 (some ad) l.length c 0 0 Try.underlying43
    have HS := Lib.hid ((hA.below ((Below.refl w.heap.size w).alloc (Nat.le_refl _) (.cells #[] 5))).src c)
    have HO := Lib.hid (OwnB.fresh w)
    clear hA
    go_enter Try.func56, Try.ntmps56
    go_wp2_with (at_builtin; refine wpList_appW rfl (.tmp 5) (.tmp 6) 43 rfl w.heap.size _ [] rfl HO.out (by simp) _ l.length l rfl HS.out (by simp; omega) ?_)
    intro v' w' hO hb _
    have HB := Lib.hid (((Below.refl w.heap.size w).alloc (Nat.le_refl _) (.cells #[] 5)).trans hb)
    clear hb
    go_wp2
    go_ret
    exact ⟨_, rfl, hO, HB.out⟩
theorem len255 : (Lib.len8tab[255]'(by decide +kernel)).toNat = 8 := by decide +kernel
theorem tab255 (y : Int) (h : y.toNat < Lib.len8tab.size) (e : y.toNat = 255) : (Lib.len8tab[y.toNat]'h).toNat = 8 := by
  simp only [e]
  exact len255
set_option maxRecDepth 100000 in
theorem len64_32 (x : Int) (w : World) (hx : x = 4294967295) : Calls Try.prog 113 #[.int .u64 x] w fun e w' => e = .returned (.int .i64 32) ∧ w = w' := by
  have HX := Lib.hid hx
  have h1 : ¬ 4294967296 ≤ x := by omega
  have h2 : 65536 ≤ x := by omega
  have h3 : 256 ≤ x / 65536 := by omega
  have h4 : 0 ≤ x / 65536 / 256 := by omega
  have h5 : x / 65536 / 256 < 256 := by omega
  clear hx
  go_enter Try.func113, Try.ntmps113
  go_wp2
  go_ret
  have e := HX.out
  exact ⟨ret_int ((congrArg (fun n : Nat => wrap64 (24 + wrap64 (n : Int))) (tab255 (x / 65536 / 256) _ (by omega))).trans (by kernel_rfl)), rfl⟩
set_option maxRecDepth 100000 in
theorem len64_8 (x : Int) (w : World) (hx : x = 255) : Calls Try.prog 113 #[.int .u64 x] w fun e w' => e = .returned (.int .i64 8) ∧ w = w' := by
  have HX := Lib.hid hx
  have h1 : ¬ 4294967296 ≤ x := by omega
  have h2 : ¬ 65536 ≤ x := by omega
  have h3 : ¬ 256 ≤ x := by omega
  have h4 : 0 ≤ x := by omega
  have h5 : x < 256 := by omega
  clear hx
  go_enter Try.func113, Try.ntmps113
  go_wp2
  go_ret
  have e := HX.out
  exact ⟨ret_int ((congrArg (fun n : Nat => wrap64 (wrap64 (n : Int))) (tab255 x _ (by omega))).trans (by kernel_rfl)), rfl⟩
set_option maxRecDepth 100000 in
theorem width32 (w : World) : Calls Try.prog 95 #[] w fun e w' => e = .returned (.int .i64 4) ∧ w = w' := by
  have h1 : bits .xor .u32 4294967295 0 = 4294967295 := by kernel_rfl
  have h2 : bits .xor .u32 IntKind.u32.max 0 = 4294967295 := by kernel_rfl
  go_enter Try.func95, Try.ntmps95
  go_wp2_with fail
  refine (len64_32 _ _ (by kernel_rfl)).mono ?_
  rintro e w1 ⟨rfl, rfl⟩
  clear h1 h2
  go_wp2
  go_ret
  exact ⟨rfl, rfl⟩
set_option maxRecDepth 100000 in
theorem width8 (w : World) : Calls Try.prog 119 #[] w fun e w' => e = .returned (.int .i64 1) ∧ w = w' := by
  have h1 : bits .xor .u8 255 0 = 255 := by kernel_rfl
  have h2 : bits .xor .u8 IntKind.u8.max 0 = 255 := by kernel_rfl
  go_enter Try.func119, Try.ntmps119
  go_wp2_with fail
  refine (len64_8 _ _ (by kernel_rfl)).mono ?_
  rintro e w1 ⟨rfl, rfl⟩
  clear h1 h2
  go_wp2
  go_ret
  exact ⟨rfl, rfl⟩
theorem byte_cell {x : Int} {y : Nat} (h : (y : Int) = x) : (#[Value.int .u8 x] : Array Value).toList = [y].map bv := by rw [← h]; rfl
set_option maxRecDepth 100000 in
set_option maxHeartbeats 1000000 in
theorem put32_any (A : Option Addr) (c : Nat) (l : List Nat) (v : Nat) (w : World) (hv : v < 4294967296) (hn : l.length ≤ 140737488351000) (hA : RL w A l) :
    Calls Try.prog 73 #[.slice A l.length c, .int .u32 (v : Int)] w fun e w' => ∃ o, e = .returned o ∧ OwnB w' w.heap.size o (l ++ le 4 v) ∧ Below w.heap.size w w' := by
  have HC := Lib.hid (clone_f8 A c l w (by omega) hA)
  clear hA
  go_enter Try.func73, Try.ntmps73
  go_wp2_with fail
  refine HC.out.mono ?_
  rintro e w1 ⟨o, rfl, hO, hb⟩
  go_wp2_with fail
  refine (width32 _).mono ?_
  rintro e w2 ⟨rfl, rfl⟩
  have hcv : IntKind.u64.wrap (v : Int) = (v : Int) := by rw [IntKind.wrap_u64]; omega
  go_wp2
  go_loopg [5, 6, 10] 4 (fun gk o _ i wr => ∃ k : Nat, k ≤ 4 ∧ gk = 4 - k ∧ i = .int .i64 k ∧ OwnB wr w.heap.size o (l ++ le k v) ∧ Below w.heap.size w wr)
  case atStart => exact ⟨0, by omega, rfl, rfl, by simpa [le] using hO, hb⟩
  case round =>
    clear hO hb
    obtain ⟨k, hk, rfl, rfl, hO, hb⟩ := hrel
    have hsz := hb.size
    by_cases hlt : k < 4
    · have hlen : (l ++ le k v).length + 1 ≤ 140737488355328 := by simp [le_length]; omega
      have HN := Lib.hid (le_snoc k v)
      have h4 : k = 0 ∨ k = 1 ∨ k = 2 ∨ k = 3 := by omega
      rcases h4 with rfl | rfl | rfl | rfl
      · have hC := Lib.hid (byte_cell (x := (v : Int) % 256) (y := v / 256 ^ 0 % 256) (by simp))
        go_wp2_with (at_builtin; refine wpList_pushB rfl (.tmp 13) (.tmp 20) rfl w.heap.size _ _ rfl hO hsz _ 1 _ rfl rfl hC.out rfl hlen ?_)
        intro v' w' hO2 hb2 _
        have HB := Lib.hid (hb.trans hb2)
        have HO := Lib.hid (show OwnB w' w.heap.size v' (l ++ le (0 + 1) v) by rw [HN.out]; simpa using hO2)
        clear hO hb hO2 hb2 HN hlen hC
        go_wp2
        go_roundg 3
        case measure => omega
        case rel => exact ⟨1, by omega, rfl, by go_num, HO.out, HB.out⟩
      · have hC := Lib.hid (byte_cell (x := (v : Int) / 256 % 256) (y := v / 256 ^ 1 % 256) (by rfl))
        go_wp2_with (at_builtin; refine wpList_pushB rfl (.tmp 13) (.tmp 20) rfl w.heap.size _ _ rfl hO hsz _ 1 _ rfl rfl hC.out rfl hlen ?_)
        intro v' w' hO2 hb2 _
        have HB := Lib.hid (hb.trans hb2)
        have HO := Lib.hid (show OwnB w' w.heap.size v' (l ++ le (1 + 1) v) by rw [HN.out]; simpa using hO2)
        clear hO hb hO2 hb2 HN hlen hC
        go_wp2
        go_roundg 2
        case measure => omega
        case rel => exact ⟨2, by omega, rfl, by go_num, HO.out, HB.out⟩
      · have hC := Lib.hid (byte_cell (x := (v : Int) / 65536 % 256) (y := v / 256 ^ 2 % 256) (by rfl))
        go_wp2_with (at_builtin; refine wpList_pushB rfl (.tmp 13) (.tmp 20) rfl w.heap.size _ _ rfl hO hsz _ 1 _ rfl rfl hC.out rfl hlen ?_)
        intro v' w' hO2 hb2 _
        have HB := Lib.hid (hb.trans hb2)
        have HO := Lib.hid (show OwnB w' w.heap.size v' (l ++ le (2 + 1) v) by rw [HN.out]; simpa using hO2)
        clear hO hb hO2 hb2 HN hlen hC
        go_wp2
        go_roundg 1
        case measure => omega
        case rel => exact ⟨3, by omega, rfl, by go_num, HO.out, HB.out⟩
      · have hC := Lib.hid (byte_cell (x := (v : Int) / 16777216) (y := v / 256 ^ 3 % 256) (by omega))
        go_wp2_with (at_builtin; refine wpList_pushB rfl (.tmp 13) (.tmp 20) rfl w.heap.size _ _ rfl hO hsz _ 1 _ rfl rfl hC.out rfl hlen ?_)
        intro v' w' hO2 hb2 _
        have HB := Lib.hid (hb.trans hb2)
        have HO := Lib.hid (show OwnB w' w.heap.size v' (l ++ le (3 + 1) v) by rw [HN.out]; simpa using hO2)
        clear hO hb hO2 hb2 HN hlen hC
        go_wp2
        go_roundg 0
        case measure => omega
        case rel => exact ⟨4, by omega, rfl, by go_num, HO.out, HB.out⟩
    · have hk4 : k = 4 := by omega
      subst hk4
      have HO := Lib.hid hO; have HB := Lib.hid hb
      clear hO hb
      go_wp2
      go_ret
      exact ⟨_, rfl, HO.out, HB.out⟩
end Go.Proofs.Ytjaaldandgfkgaa

/- Low, number, join of the document: the walks. Conditions: lengths that memory bears. -/
namespace Go.Proofs.Ytjaaldandgfkgaa
open Go.RowKit

theorem i64_and_255 (a : Nat) (ha : a < 9223372036854775808) : bits .and .i64 (a : Int) 255 = ((a % 256 : Nat) : Int) := by
  have h1 := ofInt_u64 a (by omega)
  have h2 := ofInt_u64 255 (by omega)
  have h2' : (BitVec.ofInt 64 255).toNat = 255 := h2
  show IntKind.i64.wrap ((BitVec.ofInt 64 (a : Int) &&& BitVec.ofInt 64 255).toNat : Int) = _
  rw [BitVec.toNat_and, h1, h2', show (255 : Nat) = 2 ^ 8 - 1 from rfl, Nat.and_two_pow_sub_one_eq_mod, IntKind.wrap_i64]
  omega
/-- The number of the bytes from i on. -/
theorem num_step (b : List Nat) (p n i : Nat) (hi : i < n) (hb : p + n ≤ b.length) : leV (sl b (p + i) (n - i)) = leV (sl b (p + (i + 1)) (n - (i + 1))) * 256 + b.getD (p + i) 0 := by
  have h := sl_split (b := b) (p + i) 1 (n - (i + 1))
  rw [show 1 + (n - (i + 1)) = n - i by omega] at h
  have h1 : sl b (p + i) 1 = [b.getD (p + i) 0] := by
    have := sl_next (b := b) (p := p + i) (n := 0) (by omega)
    simpa [sl] using this
  rw [h, h1]
  show b.getD (p + i) 0 + 256 * leV (sl b (p + i + 1) (n - (i + 1))) = _
  rw [show p + i + 1 = p + (i + 1) by omega]
  omega
/-- The first bytes of the first rows. -/
theorem flat_next {LL : List (List Nat)} {k : Nat} (hk : k < LL.length) : (LL.take (k + 1)).flatten = (LL.take k).flatten ++ LL.getD k [] := by
  have h : LL.getD k [] = LL[k] := by simp [List.getD, hk]
  have e : [LL[k]].flatten = LL[k] := by simp
  rw [h, ← List.take_append_getElem hk, List.flatten_append, e]
theorem flat_le (LL : List (List Nat)) (k : Nat) : (LL.take k).flatten.length ≤ LL.flatten.length := by
  conv => rhs; rw [← List.take_append_drop k LL]
  rw [List.flatten_append, List.length_append]
  omega
theorem flat_row {LL : List (List Nat)} {k j : Nat} (hk : k < LL.length) (hj : j ≤ (LL.getD k []).length) : (LL.take k).flatten.length + j ≤ LL.flatten.length := by
  have h1 := flat_le LL (k + 1)
  rw [flat_next hk, List.length_append] at h1
  omega
end Go.Proofs.Ytjaaldandgfkgaa

/- Fixed, HeadSum, HeadBytes, Frame of the document: the walks. Conditions: a head that may be; bytes. -/
namespace Go.Proofs.Ytjaaldandgfkgaa
open Go.RowKit

def stL (h : Hd) : List Nat := [h.s0.toNat, h.s1.toNat, h.s2.toNat, h.s3.toNat, h.s4.toNat, h.s5.toNat, h.s6.toNat, h.s7.toNat]
theorem fix_flat {h : Hd} : ([[67, 82, 78, 2], stL h, le 1 h.K.toNat, le 1 h.M.toNat, le 4 h.B.toNat, le 4 h.size.toNat, le 1 h.idx.toNat, le 4 h.ep.toNat, le 4 h.ct.toNat, le 1 h.key.size] : List (List Nat)).flatten = fixL h := by
  unfold fixL stL
  simp only [List.flatten_cons, List.flatten_nil, List.append_nil, List.append_assoc]
theorem st_rl {w : World} {b : Nat} {h : Hd} (H : HdAt w b h) (hB : HdB h) (hlt : b < w.heap.size) : RL w (some ⟨b, 0, none⟩) (stL h) := by
  obtain ⟨c0, c1, c2, c3, c4, c5, c6, c7, _⟩ := H
  obtain ⟨b0, b1, b2, b3, b4, b5, b6, b7⟩ := hB
  intro i hi
  refine ⟨b, 0, rfl, hlt, ?_⟩
  have hi : i < 8 := hi
  rw [Nat.zero_add]
  match i, hi with
  | 0, _ => rw [c0]; show _ = some (Value.int .u8 (h.s0.toNat : Int)); rw [Int.toNat_of_nonneg b0.1]
  | 1, _ => rw [c1]; show _ = some (Value.int .u8 (h.s1.toNat : Int)); rw [Int.toNat_of_nonneg b1.1]
  | 2, _ => rw [c2]; show _ = some (Value.int .u8 (h.s2.toNat : Int)); rw [Int.toNat_of_nonneg b2.1]
  | 3, _ => rw [c3]; show _ = some (Value.int .u8 (h.s3.toNat : Int)); rw [Int.toNat_of_nonneg b3.1]
  | 4, _ => rw [c4]; show _ = some (Value.int .u8 (h.s4.toNat : Int)); rw [Int.toNat_of_nonneg b4.1]
  | 5, _ => rw [c5]; show _ = some (Value.int .u8 (h.s5.toNat : Int)); rw [Int.toNat_of_nonneg b5.1]
  | 6, _ => rw [c6]; show _ = some (Value.int .u8 (h.s6.toNat : Int)); rw [Int.toNat_of_nonneg b6.1]
  | 7, _ => rw [c7]; show _ = some (Value.int .u8 (h.s7.toNat : Int)); rw [Int.toNat_of_nonneg b7.1]
end Go.Proofs.Ytjaaldandgfkgaa

/- HeadSum, HeadBytes, Frame of the document: the walks. Conditions: a head that may be; bytes. -/
namespace Go.Proofs.Ytjaaldandgfkgaa
open Go.RowKit

def preL (h : Hd) : List Nat := fixL h ++ bl h.key
theorem preL_length (h : Hd) : (preL h).length = 32 + h.key.size := by simp [preL, fixL_length, bl_length]
theorem preL_lt {h : Hd} (hB : HdB h) : ∀ x ∈ preL h, x < 256 := fun x hx => (List.mem_append.1 hx).elim (fixL_lt hB x) (bl_lt _ x)
theorem pre_flat {h : Hd} : ([fixL h, bl h.key] : List (List Nat)).flatten = preL h := by simp [preL]
theorem pre_crc {h : Hd} : crc (preL h) = sum2 h := rfl
theorem fix_crc {h : Hd} : crc (fixL h) = sum1 h := rfl
def blkL (s j : Nat) (l : List Nat) : List Nat := le 4 s ++ le 4 j ++ l
theorem blkL_length (s j : Nat) (l : List Nat) : (blkL s j l).length = 8 + l.length := by simp [blkL, le_length]; omega
theorem blkL_lt {s j : Nat} {l : List Nat} (hl : ∀ x ∈ l, x < 256) : ∀ x ∈ blkL s j l, x < 256 := fun x hx => by
  rcases List.mem_append.1 hx with hx | hx
  · rcases List.mem_append.1 hx with hx | hx <;> exact le_lt hx
  · exact hl x hx
theorem blk_crc (s j : Nat) (l : List Nat) : crc (blkL s j l) = sumB s j l := rfl
theorem sumB_lt {s j : Nat} {l : List Nat} (hl : ∀ x ∈ l, x < 256) : sumB s j l < 4294967296 := crc_lt (blkL_lt hl)
theorem head_flat {h : Hd} : ([fixL h, le 4 (sum1 h), bl h.key, le 4 (sum2 h)] : List (List Nat)).flatten = headL h := by
  unfold headL
  simp only [List.flatten_cons, List.flatten_nil, List.append_nil, List.append_assoc]
theorem sums_lt {h : Hd} (hB : HdB h) : sum1 h < 4294967296 ∧ sum2 h < 4294967296 := ⟨crc_lt (fixL_lt hB), crc_lt fun x hx => (List.mem_append.1 hx).elim (fixL_lt hB x) (bl_lt _ x)⟩
end Go.Proofs.Ytjaaldandgfkgaa
