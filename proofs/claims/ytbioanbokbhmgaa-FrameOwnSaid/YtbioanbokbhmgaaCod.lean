/- bytes.Clone, codec.Put of 32 bits: the walks. Conditions: lengths that memory bears. -/
import Derived.Test.YtbioanbokbhmgaaCrc1
import Derived.Test.YtbioanbokbhmgaaFrmP
import Derived.Lib.Tables
namespace Go.Proofs.Ytbioanbokbhmgaa
open Go.RowKit

theorem OwnB.fresh (w : World) : OwnB (w.alloc (.cells #[] 5)) w.heap.size (.slice (some ⟨w.heap.size, 0, none⟩) 0 0) [] :=
  OwnB.of (l := []) (own_of_row (World.rowIs_alloc w #[] 5 (fun i => .int .u8 (([] : List Nat).getD i 0 : Nat)) (by intro i hi; simp at hi)) (Nat.le_refl _) (by decide))
theorem clone_any (A : Option Addr) (c : Nat) (l : List Nat) (w : World) (hn : l.length ≤ 150000000000000) (hA : RL w A l) :
    Calls Try.prog 62 #[.slice A l.length c] w fun e w' => ∃ v, e = .returned v ∧ OwnB w' w.heap.size v l ∧ Below w.heap.size w w' := by
  rcases A with _ | ad
  · have hn0 : l = [] := by
      cases l with
      | nil => rfl
      | cons x l => obtain ⟨_, _, e, _⟩ := hA 0 (by simp); cases e
    subst hn0
    clear hA
    have hnil : ∀ w, (binOp .eql 47 (.slice none 0 c) (.slice none 0 0)).run Try.prog w = .ok (.bool true) w := fun w => Go.Lib.run_eql_slice_nil (P := Try.prog) w 47 5 none 0 c 0 0 Try.underlying47
    show Calls Try.prog 62 #[.slice none 0 c] w _
    go_enter Try.func62, Try.ntmps62
    go_wp2
    go_ret
    exact ⟨_, rfl, OwnB.nil _ _, Below.refl _ _⟩
  · have hnil : ∀ w, (binOp .eql 47 (.slice (some ad) l.length c) (.slice none 0 0)).run Try.prog w = .ok (.bool false) w := fun w => Go.Lib.run_eql_slice_nil (P := Try.prog) w 47 5 (some ad) l.length c 0 0 Try.underlying47
    have HS := Lib.hid ((hA.below ((Below.refl w.heap.size w).alloc (Nat.le_refl _) (.cells #[] 5))).src c)
    have HO := Lib.hid (OwnB.fresh w)
    clear hA
    go_enter Try.func62, Try.ntmps62
    go_wp2_with (at_builtin; refine wpList_appW rfl (.tmp 5) (.tmp 6) 47 rfl w.heap.size _ [] rfl HO.out (by simp) _ l.length l rfl HS.out (by simp; omega) ?_)
    intro v' w' hO hb _
    have HB := Lib.hid (((Below.refl w.heap.size w).alloc (Nat.le_refl _) (.cells #[] 5)).trans hb)
    clear hb
    go_wp2
    go_ret
    exact ⟨_, rfl, hO, HB.out⟩
theorem len255 : (Lib.len8tab[255]'(by decide +kernel)).toNat = 8 := by decide +kernel
theorem tab255 (y : Int) (h : y.toNat < Lib.len8tab.size) (e : y.toNat = 255) : (Lib.len8tab[y.toNat]'h).toNat = 8 := by
  simp only [e]
  exact len255
set_option maxRecDepth 100000 in
theorem len64_32 (x : Int) (w : World) (hx : x = 4294967295) : Calls Try.prog 78 #[.int .u64 x] w fun e w' => e = .returned (.int .i64 32) ∧ w = w' := by
  have HX := Lib.hid hx
  have h1 : ¬ 4294967296 ≤ x := by omega
  have h2 : 65536 ≤ x := by omega
  have h3 : 256 ≤ x / 65536 := by omega
  have h4 : 0 ≤ x / 65536 / 256 := by omega
  have h5 : x / 65536 / 256 < 256 := by omega
  clear hx
  go_enter Try.func78, Try.ntmps78
  go_wp2
  go_ret
  have e := HX.out
  exact ⟨ret_int ((congrArg (fun n : Nat => wrap64 (24 + wrap64 (n : Int))) (tab255 (x / 65536 / 256) _ (by omega))).trans (by kernel_rfl)), rfl⟩
set_option maxRecDepth 100000 in
theorem len64_8 (x : Int) (w : World) (hx : x = 255) : Calls Try.prog 78 #[.int .u64 x] w fun e w' => e = .returned (.int .i64 8) ∧ w = w' := by
  have HX := Lib.hid hx
  have h1 : ¬ 4294967296 ≤ x := by omega
  have h2 : ¬ 65536 ≤ x := by omega
  have h3 : ¬ 256 ≤ x := by omega
  have h4 : 0 ≤ x := by omega
  have h5 : x < 256 := by omega
  clear hx
  go_enter Try.func78, Try.ntmps78
  go_wp2
  go_ret
  have e := HX.out
  exact ⟨ret_int ((congrArg (fun n : Nat => wrap64 (wrap64 (n : Int))) (tab255 x _ (by omega))).trans (by kernel_rfl)), rfl⟩
set_option maxRecDepth 100000 in
theorem width32 (w : World) : Calls Try.prog 69 #[] w fun e w' => e = .returned (.int .i64 4) ∧ w = w' := by
  have h1 : bits .xor .u32 4294967295 0 = 4294967295 := by kernel_rfl
  have h2 : bits .xor .u32 IntKind.u32.max 0 = 4294967295 := by kernel_rfl
  go_enter Try.func69, Try.ntmps69
  go_wp2_with fail
  refine (len64_32 _ _ (by kernel_rfl)).mono ?_
  rintro e w1 ⟨rfl, rfl⟩
  clear h1 h2
  go_wp2
  go_ret
  exact ⟨rfl, rfl⟩
set_option maxRecDepth 100000 in
theorem width8 (w : World) : Calls Try.prog 84 #[] w fun e w' => e = .returned (.int .i64 1) ∧ w = w' := by
  have h1 : bits .xor .u8 255 0 = 255 := by kernel_rfl
  have h2 : bits .xor .u8 IntKind.u8.max 0 = 255 := by kernel_rfl
  go_enter Try.func84, Try.ntmps84
  go_wp2_with fail
  refine (len64_8 _ _ (by kernel_rfl)).mono ?_
  rintro e w1 ⟨rfl, rfl⟩
  clear h1 h2
  go_wp2
  go_ret
  exact ⟨rfl, rfl⟩
theorem byte_cell {x : Int} {y : Nat} (h : (y : Int) = x) : (#[Value.int .u8 x] : Array Value).toList = [y].map bv := by rw [← h]; rfl
set_option maxRecDepth 100000 in
set_option maxHeartbeats 1000000 in
theorem put32_any (A : Option Addr) (c : Nat) (l : List Nat) (v : Nat) (w : World) (hv : v < 4294967296) (hn : l.length ≤ 140737488351000) (hA : RL w A l) :
    Calls Try.prog 52 #[.slice A l.length c, .int .u32 (v : Int)] w fun e w' => ∃ o, e = .returned o ∧ OwnB w' w.heap.size o (l ++ le 4 v) ∧ Below w.heap.size w w' := by
  have HC := Lib.hid (clone_any A c l w (by omega) hA)
  clear hA
  go_enter Try.func52, Try.ntmps52
  go_wp2_with fail
  refine HC.out.mono ?_
  rintro e w1 ⟨o, rfl, hO, hb⟩
  go_wp2_with fail
  refine (width32 _).mono ?_
  rintro e w2 ⟨rfl, rfl⟩
  have hcv : IntKind.u64.wrap (v : Int) = (v : Int) := by rw [IntKind.wrap_u64]; omega
  go_wp2
  go_loopg [5, 6, 10] 4 (fun gk o _ i wr => ∃ k : Nat, k ≤ 4 ∧ gk = 4 - k ∧ i = .int .i64 k ∧ OwnB wr w.heap.size o (l ++ le k v) ∧ Below w.heap.size w wr)
  case atStart => exact ⟨0, by omega, rfl, rfl, by simpa [le] using hO, hb⟩
  case round =>
    clear hO hb
    obtain ⟨k, hk, rfl, rfl, hO, hb⟩ := hrel
    have hsz := hb.size
    by_cases hlt : k < 4
    · have hlen : (l ++ le k v).length + 1 ≤ 140737488355328 := by simp [le_length]; omega
      have HN := Lib.hid (le_snoc k v)
      have h4 : k = 0 ∨ k = 1 ∨ k = 2 ∨ k = 3 := by omega
      rcases h4 with rfl | rfl | rfl | rfl
      · have hC := Lib.hid (byte_cell (x := (v : Int) % 256) (y := v / 256 ^ 0 % 256) (by simp))
        go_wp2_with (at_builtin; refine wpList_pushB rfl (.tmp 13) (.tmp 20) rfl w.heap.size _ _ rfl hO hsz _ 1 _ rfl rfl hC.out rfl hlen ?_)
        intro v' w' hO2 hb2 _
        have HB := Lib.hid (hb.trans hb2)
        have HO := Lib.hid (show OwnB w' w.heap.size v' (l ++ le (0 + 1) v) by rw [HN.out]; simpa using hO2)
        clear hO hb hO2 hb2 HN hlen hC
        go_wp2
        go_roundg 3
        case measure => omega
        case rel => exact ⟨1, by omega, rfl, by go_num, HO.out, HB.out⟩
      · have hC := Lib.hid (byte_cell (x := (v : Int) / 256 % 256) (y := v / 256 ^ 1 % 256) (by rfl))
        go_wp2_with (at_builtin; refine wpList_pushB rfl (.tmp 13) (.tmp 20) rfl w.heap.size _ _ rfl hO hsz _ 1 _ rfl rfl hC.out rfl hlen ?_)
        intro v' w' hO2 hb2 _
        have HB := Lib.hid (hb.trans hb2)
        have HO := Lib.hid (show OwnB w' w.heap.size v' (l ++ le (1 + 1) v) by rw [HN.out]; simpa using hO2)
        clear hO hb hO2 hb2 HN hlen hC
        go_wp2
        go_roundg 2
        case measure => omega
        case rel => exact ⟨2, by omega, rfl, by go_num, HO.out, HB.out⟩
      · have hC := Lib.hid (byte_cell (x := (v : Int) / 65536 % 256) (y := v / 256 ^ 2 % 256) (by rfl))
        go_wp2_with (at_builtin; refine wpList_pushB rfl (.tmp 13) (.tmp 20) rfl w.heap.size _ _ rfl hO hsz _ 1 _ rfl rfl hC.out rfl hlen ?_)
        intro v' w' hO2 hb2 _
        have HB := Lib.hid (hb.trans hb2)
        have HO := Lib.hid (show OwnB w' w.heap.size v' (l ++ le (2 + 1) v) by rw [HN.out]; simpa using hO2)
        clear hO hb hO2 hb2 HN hlen hC
        go_wp2
        go_roundg 1
        case measure => omega
        case rel => exact ⟨3, by omega, rfl, by go_num, HO.out, HB.out⟩
      · have hC := Lib.hid (byte_cell (x := (v : Int) / 16777216) (y := v / 256 ^ 3 % 256) (by omega))
        go_wp2_with (at_builtin; refine wpList_pushB rfl (.tmp 13) (.tmp 20) rfl w.heap.size _ _ rfl hO hsz _ 1 _ rfl rfl hC.out rfl hlen ?_)
        intro v' w' hO2 hb2 _
        have HB := Lib.hid (hb.trans hb2)
        have HO := Lib.hid (show OwnB w' w.heap.size v' (l ++ le (3 + 1) v) by rw [HN.out]; simpa using hO2)
        clear hO hb hO2 hb2 HN hlen hC
        go_wp2
        go_roundg 0
        case measure => omega
        case rel => exact ⟨4, by omega, rfl, by go_num, HO.out, HB.out⟩
    · have hk4 : k = 4 := by omega
      subst hk4
      have HO := Lib.hid hO; have HB := Lib.hid hb
      clear hO hb
      go_wp2
      go_ret
      exact ⟨_, rfl, HO.out, HB.out⟩
end Go.Proofs.Ytbioanbokbhmgaa
