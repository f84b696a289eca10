/- Low, number, join of the document: the walks. Conditions: lengths that memory bears. -/
import Derived.Test.YtbioanbokbhmgaaCod
import Derived.Test.YtbioanbokbhmgaaByu
namespace Go.Proofs.Ytbioanbokbhmgaa
open Go.RowKit

theorem i64_and_255 (a : Nat) (ha : a < 9223372036854775808) : bits .and .i64 (a : Int) 255 = ((a % 256 : Nat) : Int) := by
  have h1 := ofInt_u64 a (by omega)
  have h2 := ofInt_u64 255 (by omega)
  have h2' : (BitVec.ofInt 64 255).toNat = 255 := h2
  show IntKind.i64.wrap ((BitVec.ofInt 64 (a : Int) &&& BitVec.ofInt 64 255).toNat : Int) = _
  rw [BitVec.toNat_and, h1, h2', show (255 : Nat) = 2 ^ 8 - 1 from rfl, Nat.and_two_pow_sub_one_eq_mod, IntKind.wrap_i64]
  omega
set_option maxRecDepth 100000 in
set_option maxHeartbeats 1000000 in
theorem low_any (v n : Nat) (w : World) (hv : v < 9223372036854775808) (hn : n ≤ 4) :
    Calls Try.prog 58 #[.int .i64 (v : Int), .int .i64 (n : Int)] w fun e w' => ∃ o, e = .returned o ∧ OwnB w' w.heap.size o (le n v) ∧ Below w.heap.size w w' := by
  go_enter Try.func58, Try.ntmps58
  go_wp2
  go_loopg [5, 6] n (fun gk o i wr => ∃ k : Nat, k ≤ n ∧ gk = n - k ∧ i = .int .i64 k ∧ OwnB wr w.heap.size o (le k v) ∧ Below w.heap.size w wr)
  case atStart => exact ⟨0, by omega, rfl, rfl, OwnB.nil _ _, Below.refl _ _⟩
  case round =>
    obtain ⟨k, hk, rfl, rfl, hO, hb⟩ := hrel
    have hsz := hb.size
    by_cases hlt : k < n
    · have hlen : (le k v).length + 1 ≤ 140737488355328 := by simp [le_length]; omega
      have HN := Lib.hid (le_snoc k v)
      have h4 : k = 0 ∨ k = 1 ∨ k = 2 ∨ k = 3 := by omega
      rcases h4 with rfl | rfl | rfl | rfl
      · have hand : bits .and .i64 ((v : Int)) 255 = ((v / 256 ^ 0 % 256 : Nat) : Int) := by
          rw [show ((v : Int) : Int) = ((v / 256 ^ 0 : Nat) : Int) by simp]
          exact i64_and_255 _ (Nat.lt_of_le_of_lt (Nat.div_le_self _ _) (by omega))
        have hC := Lib.hid (byte_cell (x := ((v / 256 ^ 0 % 256 : Nat) : Int)) (y := v / 256 ^ 0 % 256) rfl)
        have hyb : v / 256 ^ 0 % 256 < 256 := Nat.mod_lt _ (by decide)
        generalize v / 256 ^ 0 % 256 = y at *
        go_wp2_with (at_builtin; refine wpList_pushB rfl (.tmp 12) (.tmp 20) rfl w.heap.size _ _ rfl hO hsz _ 1 _ rfl rfl hC.out rfl hlen ?_)
        intro v' w' hO2 hb2 _
        have HB := Lib.hid (hb.trans hb2)
        have HO := Lib.hid (show OwnB w' w.heap.size v' (le (0 + 1) v) by rw [HN.out]; exact hO2)
        clear hO hb hO2 hb2 HN hlen hC
        go_wp2
        go_roundg (n - (0 + 1))
        case measure => omega
        case rel => exact ⟨1, by omega, rfl, by go_num, HO.out, HB.out⟩
      · have hand : bits .and .i64 ((v : Int) / 256) 255 = ((v / 256 ^ 1 % 256 : Nat) : Int) := by
          rw [show ((v : Int) / 256 : Int) = ((v / 256 ^ 1 : Nat) : Int) by simp]
          exact i64_and_255 _ (Nat.lt_of_le_of_lt (Nat.div_le_self _ _) (by omega))
        have hC := Lib.hid (byte_cell (x := ((v / 256 ^ 1 % 256 : Nat) : Int)) (y := v / 256 ^ 1 % 256) rfl)
        have hyb : v / 256 ^ 1 % 256 < 256 := Nat.mod_lt _ (by decide)
        generalize v / 256 ^ 1 % 256 = y at *
        go_wp2_with (at_builtin; refine wpList_pushB rfl (.tmp 12) (.tmp 20) rfl w.heap.size _ _ rfl hO hsz _ 1 _ rfl rfl hC.out rfl hlen ?_)
        intro v' w' hO2 hb2 _
        have HB := Lib.hid (hb.trans hb2)
        have HO := Lib.hid (show OwnB w' w.heap.size v' (le (1 + 1) v) by rw [HN.out]; exact hO2)
        clear hO hb hO2 hb2 HN hlen hC
        go_wp2
        go_roundg (n - (1 + 1))
        case measure => omega
        case rel => exact ⟨2, by omega, rfl, by go_num, HO.out, HB.out⟩
      · have hand : bits .and .i64 ((v : Int) / 65536) 255 = ((v / 256 ^ 2 % 256 : Nat) : Int) := by
          rw [show ((v : Int) / 65536 : Int) = ((v / 256 ^ 2 : Nat) : Int) by simp]
          exact i64_and_255 _ (Nat.lt_of_le_of_lt (Nat.div_le_self _ _) (by omega))
        have hC := Lib.hid (byte_cell (x := ((v / 256 ^ 2 % 256 : Nat) : Int)) (y := v / 256 ^ 2 % 256) rfl)
        have hyb : v / 256 ^ 2 % 256 < 256 := Nat.mod_lt _ (by decide)
        generalize v / 256 ^ 2 % 256 = y at *
        go_wp2_with (at_builtin; refine wpList_pushB rfl (.tmp 12) (.tmp 20) rfl w.heap.size _ _ rfl hO hsz _ 1 _ rfl rfl hC.out rfl hlen ?_)
        intro v' w' hO2 hb2 _
        have HB := Lib.hid (hb.trans hb2)
        have HO := Lib.hid (show OwnB w' w.heap.size v' (le (2 + 1) v) by rw [HN.out]; exact hO2)
        clear hO hb hO2 hb2 HN hlen hC
        go_wp2
        go_roundg (n - (2 + 1))
        case measure => omega
        case rel => exact ⟨3, by omega, rfl, by go_num, HO.out, HB.out⟩
      · have hand : bits .and .i64 ((v : Int) / 16777216) 255 = ((v / 256 ^ 3 % 256 : Nat) : Int) := by
          rw [show ((v : Int) / 16777216 : Int) = ((v / 256 ^ 3 : Nat) : Int) by simp]
          exact i64_and_255 _ (Nat.lt_of_le_of_lt (Nat.div_le_self _ _) (by omega))
        have hC := Lib.hid (byte_cell (x := ((v / 256 ^ 3 % 256 : Nat) : Int)) (y := v / 256 ^ 3 % 256) rfl)
        have hyb : v / 256 ^ 3 % 256 < 256 := Nat.mod_lt _ (by decide)
        generalize v / 256 ^ 3 % 256 = y at *
        go_wp2_with (at_builtin; refine wpList_pushB rfl (.tmp 12) (.tmp 20) rfl w.heap.size _ _ rfl hO hsz _ 1 _ rfl rfl hC.out rfl hlen ?_)
        intro v' w' hO2 hb2 _
        have HB := Lib.hid (hb.trans hb2)
        have HO := Lib.hid (show OwnB w' w.heap.size v' (le (3 + 1) v) by rw [HN.out]; exact hO2)
        clear hO hb hO2 hb2 HN hlen hC
        go_wp2
        go_roundg (n - (3 + 1))
        case measure => omega
        case rel => exact ⟨4, by omega, rfl, by go_num, HO.out, HB.out⟩
    · have hkn : k = n := by omega
      subst hkn
      have HO := Lib.hid hO; have HB := Lib.hid hb
      clear hO hb
      go_wp2
      go_ret
      exact ⟨_, rfl, HO.out, HB.out⟩
/-- The number of the bytes from i on. -/
theorem num_step (b : List Nat) (p n i : Nat) (hi : i < n) (hb : p + n ≤ b.length) : leV (sl b (p + i) (n - i)) = leV (sl b (p + (i + 1)) (n - (i + 1))) * 256 + b.getD (p + i) 0 := by
  have h := sl_split (b := b) (p + i) 1 (n - (i + 1))
  rw [show 1 + (n - (i + 1)) = n - i by omega] at h
  have h1 : sl b (p + i) 1 = [b.getD (p + i) 0] := by
    have := sl_next (b := b) (p := p + i) (n := 0) (by omega)
    simpa [sl] using this
  rw [h, h1]
  show b.getD (p + i) 0 + 256 * leV (sl b (p + i + 1) (n - (i + 1))) = _
  rw [show p + i + 1 = p + (i + 1) by omega]
  omega
set_option maxRecDepth 20000 in
set_option maxHeartbeats 1000000 in
theorem number_any (A : Option Addr) (c : Nat) (b : List Nat) (p n : Nat) (w : World) (hl : ∀ x ∈ b, x < 256) (hn : n ≤ 4) (hp : p + n ≤ b.length) (hbl : b.length ≤ 140737488355328) (hA : RL w A b) :
    Calls Try.prog 54 #[.slice A b.length c, .int .i64 (p : Int), .int .i64 (n : Int)] w fun e w' => e = .returned (.int .i64 (num b p n : Nat)) ∧ w = w' := by
  have HL := Lib.hid hl; have HA := Lib.hid hA
  clear hl hA
  go_enter Try.func54, Try.ntmps54
  go_wp2
  go_loopg [7, 8] n (fun gk v i wr => wr = w ∧ ∃ k : Nat, k ≤ n ∧ gk = k ∧ i = .int .i64 ((k : Int) - 1) ∧ v = .int .i64 ((leV (sl b (p + k) (n - k)) : Nat) : Int))
  case atStart => exact ⟨rfl, n, Nat.le_refl _, rfl, rfl, by simp [sl, leV]⟩
  case round =>
    obtain ⟨rfl, k, hk, hgk, rfl, rfl⟩ := hrel
    have HGK := Lib.hid hgk
    clear hgk
    have hvl : leV (sl b (p + k) (n - k)) < 256 ^ (n - k) := by
      have h := leV_lt (sl b (p + k) (n - k)) fun x hx => HL.out x (sl_mem hx)
      rwa [sl_length (by omega)] at h
    have hv4 : leV (sl b (p + k) (n - k)) < 4294967296 := Nat.lt_of_lt_of_le hvl (Nat.pow_le_pow_right (n := 256) (by decide) (show n - k ≤ 4 by omega))
    rcases Nat.eq_zero_or_pos k with h0 | h0
    · subst h0
      have HE := Lib.hid (show num b p n = leV (sl b (p + 0) (n - 0)) from rfl)
      clear hvl
      generalize leV (sl b (p + 0) (n - 0)) = y at *
      go_wp2
      go_ret
      exact ⟨ret_int (by rw [HE.out]), rfl⟩
    · obtain ⟨q, rfl⟩ : ∃ q, k = q + 1 := ⟨k - 1, by omega⟩
      have HS := Lib.hid (num_step b p n q (by omega) (by omega))
      obtain ⟨bb, o, rfl, hbb, hc⟩ := HA.out (p + q) (by omega)
      obtain ⟨x, hx⟩ : ∃ x, x = b.getD (p + q) 0 := ⟨_, rfl⟩
      have hx8 : x < 256 := by rw [hx]; exact getD_lt HL.out (by omega)
      replace hc : wr.cell? ⟨bb, o + (p + q), none⟩ = some (.int .u8 (x : Nat)) := by rw [hx]; exact hc
      rw [← hx] at HS
      clear hx hvl
      generalize leV (sl b (p + (q + 1)) (n - (q + 1))) = y at *
      have hq1 : ((q + 1 : Nat) : Int) - 1 = (q : Int) := by omega
      rw [hq1]
      have hsum : ((p : Int) + (q : Int)).toNat = p + q := by omega
      go_wp2
      go_roundg q
      case measure => have := HGK.out; omega
      case rel => exact ⟨rfl, q, by omega, rfl, by go_num, by rw [HS.out]; go_num⟩
/-- The first bytes of the first rows. -/
theorem flat_next {LL : List (List Nat)} {k : Nat} (hk : k < LL.length) : (LL.take (k + 1)).flatten = (LL.take k).flatten ++ LL.getD k [] := by
  have h : LL.getD k [] = LL[k] := by simp [List.getD, hk]
  have e : [LL[k]].flatten = LL[k] := by simp
  rw [h, ← List.take_append_getElem hk, List.flatten_append, e]
theorem flat_le (LL : List (List Nat)) (k : Nat) : (LL.take k).flatten.length ≤ LL.flatten.length := by
  conv => rhs; rw [← List.take_append_drop k LL]
  rw [List.flatten_append, List.length_append]
  omega
theorem flat_row {LL : List (List Nat)} {k j : Nat} (hk : k < LL.length) (hj : j ≤ (LL.getD k []).length) : (LL.take k).flatten.length + j ≤ LL.flatten.length := by
  have h1 := flat_le LL (k + 1)
  rw [flat_next hk, List.length_append] at h1
  omega
set_option maxRecDepth 20000 in
set_option maxHeartbeats 1000000 in
theorem join_any (A : Option Addr) (c : Nat) (LL : List (List Nat)) (w : World) (hn : LL.length ≤ 140737488355328) (hl : LL.flatten.length ≤ 140737488355000) (hA : RLL w A LL) :
    Calls Try.prog 56 #[.slice A LL.length c] w fun e w' => ∃ o, e = .returned o ∧ OwnB w' w.heap.size o LL.flatten ∧ Below w.heap.size w w' := by
  obtain ⟨S, C, hA1, hA2⟩ := hA
  have HA1 := Lib.hid hA1; have HA2 := Lib.hid hA2
  clear hA1 hA2
  go_enter Try.func56, Try.ntmps56
  go_wp2
  go_loopg [3, 4, 5] LL.length (fun gk o i _ wr => ∃ k : Nat, k ≤ LL.length ∧ gk = LL.length - k ∧ i = .int .i64 k ∧ OwnB wr w.heap.size o (LL.take k).flatten ∧ Below w.heap.size w wr)
  case atStart => exact ⟨0, Nat.zero_le _, rfl, rfl, OwnB.nil _ _, Below.refl _ _⟩
  case round =>
    obtain ⟨k, hk, rfl, rfl, hO, hb⟩ := hrel
    by_cases hlt : k < LL.length
    · obtain ⟨bb, o, rfl, hbb, hc⟩ := HA1.out k hlt
      have HR := Lib.hid (HA2.out k hlt)
      have HF := Lib.hid (flat_next hlt)
      have HFR := Lib.hid (fun j (hj : j ≤ (LL.getD k []).length) => flat_row hlt hj)
      have HC := Lib.hid hc
      have hbb' := Nat.lt_of_lt_of_le hbb hb.size
      have HB := Lib.hid hb
      clear hc hb
      obtain ⟨row, hrow⟩ : ∃ row, row = LL.getD k [] := ⟨_, rfl⟩
      rw [← hrow] at HF HR HFR
      replace HC : Hid (w.cell? ⟨bb, o + k, none⟩ = some (.slice (S k) row.length (C k))) := by rw [hrow]; exact HC
      clear hrow
      generalize (LL.take k).flatten = fl at *
      have hrl : row.length ≤ 140737488355328 := by have := HFR.out row.length (Nat.le_refl _); omega
      go_wp2
      go_loopg [3, 5] row.length (fun gk v i wr' => ∃ j : Nat, j ≤ row.length ∧ gk = row.length - j ∧ i = .int .i64 j ∧ OwnB wr' w.heap.size v (fl ++ row.take j) ∧ Below w.heap.size w wr')
      case atStart => exact ⟨0, Nat.zero_le _, rfl, rfl, by simpa using hO, HB.out⟩
      case round =>
        clear hO HB
        obtain ⟨j, hj, rfl, rfl, hO, hb⟩ := hrel
        have hsz := hb.size
        have hc : wr.cell? ⟨bb, o + k, none⟩ = some (.slice (S k) row.length (C k)) := (hb.cell hbb).trans HC.out
        by_cases hj2 : j < row.length
        · obtain ⟨b2, o2, hS, hb2, hc2⟩ := HR.out j hj2
          obtain ⟨x, hx⟩ : ∃ x, x = row.getD j 0 := ⟨_, rfl⟩
          replace hc2 : wr.cell? ⟨b2, o2 + j, none⟩ = some (.int .u8 (x : Nat)) := by rw [hx]; exact (hb.cell hb2).trans hc2
          have HT := Lib.hid (take_next hj2)
          rw [← hx] at HT
          clear hx
          have hlen : (fl ++ row.take j).length + 1 ≤ 140737488355328 := by
            have := HFR.out row.length (Nat.le_refl _)
            simp only [List.length_append, List.length_take]; omega
          have hC := Lib.hid (byte_cell (x := ((x : Nat) : Int)) (y := x) rfl)
          rw [hS] at hc
          go_wp2_with (at_builtin; refine wpList_pushB rfl (.tmp 21) (.tmp 29) rfl w.heap.size _ _ rfl hO hsz _ 1 _ rfl rfl hC.out rfl hlen ?_)
          intro v' w' hO2 hb2' _
          have HB := Lib.hid (hb.trans hb2')
          have HO := Lib.hid (show OwnB w' w.heap.size v' (fl ++ row.take (j + 1)) by rw [HT.out]; exact hO2)
          clear hO hb hO2 hb2' HT hlen hC hc hc2
          go_wp2
          go_roundg (row.length - (j + 1))
          case measure => omega
          case rel => exact ⟨j + 1, by omega, rfl, by go_num, HO.out, HB.out⟩
        · have hjn : j = row.length := by omega
          subst hjn
          have HO := Lib.hid (show OwnB wr w.heap.size _ (LL.take (k + 1)).flatten by rw [HF.out]; rw [List.take_length] at hO; exact hO)
          have HB := Lib.hid hb
          clear hO hb
          go_wp2
          go_roundg (LL.length - (k + 1))
          case measure => omega
          case rel => exact ⟨k + 1, by omega, rfl, by go_num, HO.out, HB.out⟩
    · have hkn : k = LL.length := by omega
      subst hkn
      have HO := Lib.hid (show OwnB wr w.heap.size _ LL.flatten by rw [List.take_length] at hO; exact hO)
      have HB := Lib.hid hb
      clear hO hb
      go_wp2
      go_ret
      exact ⟨_, rfl, HO.out, HB.out⟩
end Go.Proofs.Ytbioanbokbhmgaa
