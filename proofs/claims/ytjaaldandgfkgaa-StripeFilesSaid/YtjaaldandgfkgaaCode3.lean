/- Over, weights, New of the program's code: the walks. Conditions: numbers that make a code. -/
import Derived.Test.YtjaaldandgfkgaaREnp
import Derived.Test.YtjaaldandgfkgaaBasE
import Derived.Test.YtjaaldandgfkgaaRowsE
namespace Go.Proofs.Ytjaaldandgfkgaa
open Go.RowKit

theorem over_any (x y : Fin 256) (w : World) :
    Calls Try.prog 105 #[.int .u8 (x.val : Int), .int .u8 (y.val : Int)] w fun e w' => ∃ er : Int, e = .returned (.tuple #[.int .u8 ((gE.m x (gE.v y)).val : Int), .int .i64 er]) ∧ w = w' := by
  have CI := Lib.hid (fun w => iG_any y w)
  have CT := Lib.hid (fun w => tG_any x (gE.v y) w)
  by_cases h0 : y = gE.z
  · have t1 : ((y.val : Int) == 0) = true := by rw [h0]; rfl
    have HZ : Hid ((gE.m x (gE.v y)).val = 0) := by rw [h0, gE.v_z, gE.m_z]; rfl
    rw [HZ.out]
    clear h0
    go_enter Try.func105, Try.ntmps105
    go_wp2_with fail
    refine (CI.out _).mono ?_
    rintro e w1 ⟨rfl, rfl⟩
    go_wp2
    go_ret2
    exact ⟨10, rfl, rfl⟩
  · have t1 : ((y.val : Int) == 0) = false := by
      rw [beq_eq_false_iff_ne]; intro e; exact h0 (Fin.ext (by show y.val = 0; omega))
    clear h0
    go_enter Try.func105, Try.ntmps105
    go_wp2_with fail
    refine (CI.out _).mono ?_
    rintro e w1 ⟨rfl, rfl⟩
    go_wp2_with fail
    refine (CT.out _).mono ?_
    rintro e w1 ⟨rfl, rfl⟩
    go_wp2
    go_ret2
    exact ⟨0, rfl, rfl⟩
theorem xor_nat_el {a b : Nat} (ha : a < 256) (hb : b < 256) : bits .xor .i64 (a : Int) (b : Int) = (((gE.a (el a) (el b)).val : Nat) : Int) := by
  have h := xor_el (el a) (el b)
  rw [el_val ha, el_val hb] at h
  exact h
set_option maxRecDepth 20000 in
set_option maxHeartbeats 2000000 in
theorem wts_any (k x : Nat) (w : World) (hk : k ≤ 256) (hx : x < 256) :
    Calls Try.prog 84 #[.int .i64 k, .int .i64 x] w fun e w' => e = .returned (.slice (some ⟨w.heap.size, 0, none⟩) k k) ∧ w'.rowIs w.heap.size 127 k (fun j => .int .u8 ((gE.wP el k (el x) j).val : Int)) ∧ Below w.heap.size w w' := by
  have hmk := run_make_row' (P := Try.prog) 128 127 (.int .u8 0) 1 Try.underlying128 elemInfo rfl .i64 .i64 k (by omega) (by omega)
  have HMK := Lib.hid hmk; clear hmk
  have HZ := Lib.hid ((World.rowIs_made w (.int .u8 0) k 127).congr (g := fun j => .int .u8 ((if j < 0 then gE.wP el k (el x) j else gE.z).val : Int)) fun j _ => by rw [if_neg (by omega)]; rfl)
  have HBZ := Lib.hid ((Below.refl w.heap.size w).alloc (Nat.le_refl _) (.cells (madeCells #[.int .u8 0] k) 127))
  have CT := Lib.hid (fun (a b : Fin 256) w => tG_any a b w)
  go_enter Try.func84, Try.ntmps84
  go_wp2
  go_loopg [5, 6, 12] k (fun gk a _ i wr => wr = w ∧ ∃ t : Nat, t ≤ k ∧ gk = k - t ∧ i = .int .i64 t ∧ a = .int .u8 ((gE.pd t (fun i => gE.a (el x) (el i))).val : Int))
  case atStart => exact ⟨rfl, 0, Nat.zero_le _, rfl, rfl, rfl⟩
  case round =>
    obtain ⟨rfl, t, ht, rfl, rfl, rfl⟩ := hrel
    by_cases hlt : t < k
    · have hX := xor_nat_el hx (show t < 256 by omega)
      have hU := u8_el (gE.a (el x) (el t))
      go_wp2_with fail
      refine (CT.out _ (gE.a (el x) (el t)) _).mono ?_
      rintro e w1 ⟨rfl, rfl⟩
      go_wp2
      go_roundg (k - (t + 1))
      case measure => omega
      case rel => exact ⟨rfl, t + 1, by omega, rfl, by go_num, rfl⟩
    · have htk : t = k := by omega
      subst t
      have hmk := HMK.out
      go_wp2
      clear hmk
      obtain ⟨wo, rfl⟩ : ∃ wo : World, wo = wr := ⟨_, rfl⟩
      go_loopg [8, 25] k (fun gk _ i wr => ∃ j : Nat, j ≤ k ∧ gk = k - j ∧ i = .int .i64 j ∧ wr.rowIs wo.heap.size 127 k (fun i => .int .u8 ((if i < j then gE.wP el k (el x) i else gE.z).val : Int)) ∧ Below wo.heap.size wo wr)
      case atStart => exact ⟨0, Nat.zero_le _, rfl, rfl, HZ.out, HBZ.out⟩
      case round =>
        clear HZ HBZ
        obtain ⟨j, hj, rfl, rfl, hQ, hb⟩ := hrel
        have HQ := Lib.hid hQ; have HB := Lib.hid hb
        clear hQ hb
        by_cases hlj : j < k
        · have hX := xor_nat_el hx (show j < 256 by omega)
          have hU := u8_el (gE.a (el x) (el j))
          go_wp2
          clear hX hU
          obtain ⟨wj, rfl⟩ : ∃ wj : World, wj = wr := ⟨_, rfl⟩
          go_loopg [9, 10, 33] k (fun gk u _ i w2 => w2 = wj ∧ ∃ t : Nat, t ≤ k ∧ gk = k - t ∧ i = .int .i64 t ∧ u = .int .u8 ((gE.skp (gE.a (el x) (el j)) j t (fun i => gE.a (el i) (el j))).val : Int))
          case atStart => exact ⟨rfl, 0, Nat.zero_le _, rfl, rfl, rfl⟩
          case round =>
            obtain ⟨rfl, t, ht, rfl, rfl, rfl⟩ := hrel
            by_cases hlt2 : t < k
            · by_cases htj : t = j
              · subst htj
                have HU : Hid (∀ f : Nat → Fin 256, gE.skp (gE.a (el x) (el t)) t (t + 1) f = gE.skp (gE.a (el x) (el t)) t t f) := fun f => by show (if t = t then _ else _) = _; rw [if_pos rfl]
                go_wp2
                go_roundg (k - (t + 1))
                case measure => omega
                case rel => exact ⟨rfl, t + 1, by omega, rfl, by go_num, by rw [HU.out]⟩
              · have htj' : ((t : Int) != (j : Int)) = true := by rw [bne_iff_ne]; omega
                have HU : Hid (∀ f : Nat → Fin 256, gE.skp (gE.a (el x) (el j)) j (t + 1) f = gE.m (gE.skp (gE.a (el x) (el j)) j t f) (f t)) := fun f => by show (if t = j then _ else _) = _; rw [if_neg htj]
                have hX := xor_nat_el (show t < 256 by omega) (show j < 256 by omega)
                have hU := u8_el (gE.a (el t) (el j))
                clear htj
                go_wp2_with fail
                refine (CT.out _ (gE.a (el t) (el j)) _).mono ?_
                rintro e w1 ⟨rfl, rfl⟩
                go_wp2
                go_roundg (k - (t + 1))
                case measure => omega
                case rel => exact ⟨rfl, t + 1, by omega, rfl, by go_num, by rw [HU.out]⟩
            · have htk : t = k := by omega
              subst t
              have hQ := HQ.out
              have hcl := hQ.cell hlj
              have hfz := hQ.frozen j
              have e0 : (if j < j then gE.wP el k (el x) j else gE.z) = gE.z := if_neg (by omega)
              rw [e0] at hcl
              have HW : Hid (gE.m (gE.pd k (fun i => gE.a (el x) (el i))) (gE.v (gE.skp (gE.a (el x) (el j)) j k (fun i => gE.a (el i) (el j)))) = gE.wP el k (el x) j) := rfl
              have HQ3 := Lib.hid ((hQ.set j (.int .u8 ((gE.wP el k (el x) j).val : Int))).congr (g := fun i => .int .u8 ((if i < j + 1 then gE.wP el k (el x) i else gE.z).val : Int)) fun i _ => by
                by_cases e : i = j
                · subst e; rw [if_pos rfl, if_pos (by omega)]
                · rw [if_neg e]
                  by_cases e2 : i < j
                  · rw [if_pos e2, if_pos (by omega)]
                  · rw [if_neg e2, if_neg (by omega)])
              have HB3 := Lib.hid (HB.out.setCell (p := ⟨wo.heap.size, j, none⟩) (Nat.le_refl _) (.int .u8 ((gE.wP el k (el x) j).val : Int)))
              clear hQ e0
              go_wp2_with fail
              refine (over_any _ _ _).mono ?_
              rintro e w5 ⟨er, rfl, rfl⟩
              rw [HW.out]
              go_wp2
              go_roundg (k - (j + 1))
              case measure => omega
              case rel => exact ⟨j + 1, by omega, rfl, by go_num, HQ3.out, HB3.out⟩
        · have hjk : j = k := by omega
          subst j
          have HQ2 := Lib.hid (HQ.out.congr (g := fun i => .int .u8 ((gE.wP el k (el x) i).val : Int)) fun i hi => by rw [if_pos hi])
          clear HQ
          go_wp2
          go_ret
          exact ⟨rfl, HQ2.out, HB.out⟩

/-- A code in memory. -/
structure CodeAt (w : World) (p k n : Nat) : Prop where
  lt : p < w.heap.size
  ck : w.cell? ⟨p, 0, none⟩ = some (.int .i64 k)
  cn : w.cell? ⟨p, 1, none⟩ = some (.int .i64 n)
  cr : ∃ A c, w.cell? ⟨p, 2, none⟩ = some (.slice A n c) ∧ ME w A n (fun _ => k) (fun i j => (gE.cM el k i j).val)
theorem CodeAt.below {w w' : World} {p k n : Nat} (h : CodeAt w p k n) (hb : Below w.heap.size w w') : CodeAt w' p k n := by
  obtain ⟨h1, h2, h3, A, c, h4, h5⟩ := h
  exact ⟨Nat.lt_of_lt_of_le h1 hb.size, (hb.cell h1).trans h2, (hb.cell h1).trans h3, A, c, (hb.cell h1).trans h4, ME.below h5 hb⟩
theorem rowsEInfo : (Try.prog.info? 128).map (fun i => (i.zero, i.size, i.bytes)) = some (some (.slice none 0 0), 1, 24) := by kernel_rfl
set_option maxRecDepth 20000 in
set_option maxHeartbeats 2000000 in
theorem new_ok (k m : Nat) (w : World) (h1 : 1 ≤ m) (h2 : m ≤ k) (h3 : k ≤ 254) (h4 : k + m ≤ 255) :
    Calls Try.prog 54 #[.int .i64 k, .int .i64 m] w fun e w' => ∃ p, e = .returned (.tuple #[.pointer (some ⟨p, 0, none⟩), .int .i64 0]) ∧ CodeAt w' p k (k + m) ∧ w.heap.size ≤ p ∧ Below w.heap.size w w' := by
  have hs : IntKind.i64.wrap (255 - (k : Int)) = 255 - (k : Int) := i64_small _ (by omega) (by omega)
  have hs2 : IntKind.i64.wrap ((k : Int) + (m : Int)) = (k : Int) + (m : Int) := i64_small _ (by omega) (by omega)
  go_enter Try.func54, Try.ntmps54
  go_wp2_with fail
  refine (identE k 1 w (by omega)).mono ?_
  rintro e w1 ⟨b, S, rfl, hM, hb1⟩
  have hO0 : OwnM w1 w.heap.size 128 127 (.slice (some ⟨b, 0, none⟩) k k) k (fun i => some ⟨S i, 0, none⟩) (fun _ => k) (fun _ => k) (fun i j => .int .u8 ((gE.cM el k i j).val : Int)) :=
    ⟨own_of_row hM.top hM.lob (by unfold maxLen; omega), fun i hi => own_of_row ((hM.row i hi).congr (g := fun j => .int .u8 ((gE.cM el k i j).val : Int)) fun j hj => by
      show (if i = j then Value.int .u8 1 else .int .u8 0) = Value.int .u8 ((gE.cM el k i j).val : Int)
      unfold Fd.cM Fd.idm
      rw [if_pos hi]
      by_cases e : i = j
      · rw [if_pos e, if_pos e]; rfl
      · rw [if_neg e, if_neg e]; rfl) (hM.los i hi) (by unfold maxLen; exact Nat.le_trans (show k ≤ 1000 by omega) (by decide))⟩
  clear hM
  go_wp2
  go_loopg [6, 8] m (fun gk v i wr => ∃ (t : Nat) (S : Nat → Option Addr) (C : Nat → Nat), t ≤ m ∧ gk = m - t ∧ i = .int .i64 ((k + t : Nat) : Int) ∧ OwnM wr w.heap.size 128 127 v (k + t) S C (fun _ => k) (fun i j => .int .u8 ((gE.cM el k i j).val : Int)) ∧ Below w.heap.size w wr)
  case atStart => exact ⟨0, _, _, Nat.zero_le _, rfl, rfl, hO0, hb1⟩
  case round =>
    clear hO0 hb1
    obtain ⟨t, S, C, ht, rfl, rfl, hO, hb⟩ := hrel
    have hsz := hb.size
    by_cases hlt : t < m
    · go_wp2_with fail
      refine (wts_any k (k + t) _ (by omega) (by omega)).mono ?_
      rintro e w2 ⟨rfl, hrow, hb2⟩
      have hO1 := (hO.kept hb2).next (some ⟨wr.heap.size, 0, none⟩) k
      have hr : Own w2 w.heap.size 127 1 (.slice (upd S (k + t) (some ⟨wr.heap.size, 0, none⟩) (k + t)) k (upd C (k + t) k (k + t))) k (fun j => [.int .u8 ((gE.cM el k (k + t) j).val : Int)]) := by
        rw [upd_at, upd_at]
        exact own_of_row (hrow.congr fun j _ => by unfold Fd.cM; rw [if_neg (by omega)]) hsz (by unfold maxLen; omega)
      have hu : Hid ((#[Value.slice (some ⟨wr.heap.size, 0, none⟩) k k] : Array Value).toList = [.slice (upd S (k + t) (some ⟨wr.heap.size, 0, none⟩) (k + t)) k (upd C (k + t) k (k + t))]) := by rw [upd_at, upd_at]; rfl
      have hbb := hb.trans (hb2.mono hsz)
      have hsz1 := hbb.size
      have HR := Lib.hid hr
      clear hO hrow hb hb2 hr
      go_wp2_with (at_builtin; refine wpList_push _ rfl (.tmp 39) (.tmp 43) 124 rfl w.heap.size 128 1 24 (.slice none 0 0) #[.slice (some ⟨wr.heap.size, 0, none⟩) k k] Try.underlying124 rowsEInfo rfl (by decide) _ (k + t) _ rfl hO1.1 hsz1 _ rfl rfl hu.out rfl rfl (by omega) (by omega) ?_)
      intro v' w3 hown3 hbel3 hg3 _
      have hO2 := hO1.push (by decide) HR.out hown3 hg3
      have hbF := hbb.trans hbel3
      clear hO1 HR hown3 hg3 hbel3 hbb hu
      go_wp2
      go_roundg (m - (t + 1))
      case measure => omega
      case rel => exact ⟨t + 1, _, _, by omega, rfl, by go_num, hO2, hbF⟩
    · have htm : t = m := by omega
      subst t
      obtain ⟨A, c, hv, _, hR⟩ := hO.rdm
      subst hv
      have HR := Lib.hid hR; have HB := Lib.hid hb
      clear hO hR hb
      go_wp2
      go_ret2
      have hal : ∀ o, Below wr.heap.size wr (wr.alloc o) := fun o => (Below.refl _ _).alloc (Nat.le_refl _) _
      refine ⟨wr.heap.size, rfl, ⟨by simp, by simp, by simp, A, c, by simp, ME.below HR.out (hal _)⟩, hsz, HB.out.trans ((hal _).mono hsz)⟩
set_option maxHeartbeats 400000 in
theorem new_bad (K M : Int) (w : World) (h : ¬ may K M) :
    Calls Try.prog 54 #[.int .i64 K, .int .i64 M] w fun e w' => e = .returned (.tuple #[.pointer none, .int .i64 4]) ∧ w = w' := by
  unfold may at h
  by_cases h1 : M < 1
  · clear h
    go_enter Try.func54, Try.ntmps54
    go_wp2
    go_ret2
    exact ⟨rfl, rfl⟩
  · by_cases h2 : K < M
    · clear h
      go_enter Try.func54, Try.ntmps54
      go_wp2
      go_ret2
      exact ⟨rfl, rfl⟩
    · by_cases h3 : K > 254
      · clear h
        go_enter Try.func54, Try.ntmps54
        go_wp2
        go_ret2
        exact ⟨rfl, rfl⟩
      · have h4 : M > 255 - K := by
          rcases Int.lt_or_le (255 - K) M with h4 | h4
          · exact h4
          · exact absurd ⟨by omega, by omega, by omega, h4⟩ h
        have hs : IntKind.i64.wrap (255 - K) = 255 - K := i64_small _ (by omega) (by omega)
        clear h
        go_enter Try.func54, Try.ntmps54
        go_wp2
        go_ret2
        exact ⟨rfl, rfl⟩
end Go.Proofs.Ytjaaldandgfkgaa

/- none, even, add, product, Encode of the program's code: the walks. Conditions: lengths that memory bears. -/
namespace Go.Proofs.Ytjaaldandgfkgaa
open Go.RowKit

theorem none_any (p k n : Nat) (w : World) (h : CodeAt w p k n) (hk : 0 < k) :
    Calls Try.prog 85 #[.pointer (some ⟨p, 0, none⟩)] w fun e w' => e = .returned (.bool false) ∧ w = w' := by
  have hc := h.ck
  have t1 : ((k : Int) == 0) = false := by rw [beq_eq_false_iff_ne]; omega
  clear h
  go_enter Try.func85, Try.ntmps85
  go_wp2
  go_ret
  exact ⟨rfl, rfl⟩
set_option maxHeartbeats 400000 in
theorem even_any (A : Option Addr) (n c : Nat) (L C : Nat → Nat) (S : Nat → Option Addr) (w : World) (hn : n ≤ 1000000000000000) (hA : Rd w A n (fun i => .slice (S i) (L i) (C i))) :
    Calls Try.prog 86 #[.slice A n c] w fun e w' => e = .returned (.bool (evB n L (L 0))) ∧ w = w' := by
  go_enter Try.func86, Try.ntmps86
  go_wp2
  go_loopg [4, 7] n (fun gk _ i wr => wr = w ∧ ∃ k : Nat, k ≤ n ∧ gk = n - k ∧ i = .int .i64 k ∧ ∀ i, i < k → L i = L 0)
  case atStart => exact ⟨rfl, 0, Nat.zero_le _, rfl, rfl, fun i hi => absurd hi (by omega)⟩
  case round =>
    obtain ⟨rfl, k, hk, rfl, rfl, hL⟩ := hrel
    have HL := Lib.hid hL; clear hL
    by_cases hlt : k < n
    · obtain ⟨b, o, rfl, hb, hc⟩ := hA k hlt
      obtain ⟨b', o', e, hb', hc0⟩ := hA 0 (by omega)
      injection e with e
      injection e with e e2 _
      subst e e2
      rw [Nat.add_zero] at hc0
      by_cases hx : L k = L 0
      · have t1 : ((L k : Int) != (L 0 : Int)) = false := by rw [hx]; simp
        have HX := Lib.hid hx; clear hx
        go_wp2
        go_roundg (n - (k + 1))
        case measure => omega
        case rel => exact ⟨rfl, k + 1, by omega, rfl, by go_num, fun i hi => by
          by_cases e : i = k
          · rw [e]; exact HX.out
          · exact HL.out i (by omega)⟩
      · have t1 : ((L k : Int) != (L 0 : Int)) = true := by rw [bne_iff_ne]; omega
        have HX := Lib.hid hx; clear hx
        go_wp2
        go_ret
        refine ⟨ret_bool ?_, rfl⟩
        cases he : evB n L (L 0)
        · rfl
        · exact absurd (evB_iff.1 he k hlt) HX.out
    · have hkn : k = n := by omega
      subst k
      go_wp2
      go_ret
      exact ⟨ret_bool (evB_iff.2 HL.out).symm, rfl⟩

theorem grown_setNew {w w' : World} {r : Option Nat} (h : w.grownBy w' r) {a : Addr} (ha : w.heap.size ≤ a.block) (v : Value) : w.grownBy (w'.setCell a v) r :=
  ⟨h.os, h.tape, h.output, by simpa using h.size, fun k hk hne => (Below.heap_setCell _ _ _ _ (fun e => by omega)).trans (h.block k hk hne)⟩
theorem zero256 (w : World) : (w.alloc (.cells Try.zeroCells175 175)).rowIs w.heap.size 175 256 (fun _ => .int .u8 0) := by
  have hz : Try.zeroCells175 = Array.replicate 256 (Value.int .u8 0) := by kernel_rfl
  rw [hz]
  have h := World.rowIs_alloc w (Array.replicate 256 (Value.int .u8 0)) 175 (fun _ => .int .u8 0) (by intro i hi; simp at hi; simp [hi])
  simpa using h
set_option maxRecDepth 40000 in
set_option maxHeartbeats 4000000 in
theorem add_any (g len cg c : Nat) (A : Option Addr) (T R : Nat → Fin 256) (x : Fin 256) (w : World) (hlen : len ≤ 140737488351232) (hT : w.rowIs g 5 len (fun c => .int .u8 ((T c).val : Nat))) (hA : Rd w A len (fun c => .int .u8 ((R c).val : Nat))) (hne : 0 < len → ∀ b o, A = some ⟨b, o, none⟩ → b ≠ g) :
    Calls Try.prog 106 #[.slice (some ⟨g, 0, none⟩) len cg, .slice A len c, .int .u8 (x.val : Int)] w fun e w' => e = .returned (.tuple #[]) ∧ w'.rowIs g 5 len (fun c => .int .u8 ((gE.a (T c) (gE.m x (R c))).val : Nat)) ∧ w.grownBy w' (some g) := by
  have HA := Lib.hid hA; have HNE := Lib.hid hne; have HT := Lib.hid hT
  clear hA hne hT
  by_cases h0 : x = gE.z
  · have t0 : ((x.val : Int) == 0) = true := by rw [h0]; rfl
    have H0 := Lib.hid h0; clear h0
    go_enter Try.func106, Try.ntmps106
    go_wp2
    go_end0
    exact ⟨rfl, HT.out.congr fun c _ => by rw [H0.out, gE.z_m, gE.a_z], World.grownBy.refl _ _⟩
  · have t0 : ((x.val : Int) == 0) = false := by rw [beq_eq_false_iff_ne]; intro e; exact h0 (Fin.ext (by show x.val = 0; omega))
    by_cases h1 : x = gE.u
    · have t1 : ((x.val : Int) == 1) = true := by rw [h1]; rfl
      have HM : Hid (∀ y, gE.m x y = y) := fun y => by rw [h1, gE.u_m]
      clear h0 h1
      go_enter Try.func106, Try.ntmps106
      go_wp2
      go_loopg [6, 7, 49] len (fun gk _ _ i wr => ∃ j : Nat, j ≤ len ∧ gk = len - j ∧ i = .int .i64 j ∧ wr.rowIs g 5 len (fun c => .int .u8 ((if c < j then gE.a (T c) (gE.m x (R c)) else T c).val : Nat)) ∧ w.grownBy wr (some g))
      case atStart => exact ⟨0, Nat.zero_le _, rfl, rfl, HT.out.congr fun c _ => by rw [if_neg (by omega)], World.grownBy.refl _ _⟩
      case round =>
        obtain ⟨j, hj, rfl, rfl, hQ, hg⟩ := hrel
        by_cases hlt : j < len
        · obtain ⟨b1, o1, hAe, hb1, hx1⟩ := HA.out j hlt
          have hbg : b1 ≠ g := HNE.out (by omega) b1 o1 hAe
          have hy1 : wr.cell? ⟨b1, o1 + j, none⟩ = some (.int .u8 ((R j).val : Nat)) := (grown_cell hg hb1 (by simpa using hbg)).trans hx1
          have hcl := hQ.cell hlt
          have hfz := hQ.frozen j
          rw [if_neg (Nat.lt_irrefl j)] at hcl
          have hXO := xor_el8 (T j) (gE.m x (R j))
          have HQ2 := Lib.hid ((hQ.set j (.int .u8 ((gE.a (T j) (gE.m x (R j))).val : Nat))).congr (g := (fun c => .int .u8 ((if c < j + 1 then gE.a (T c) (gE.m x (R c)) else T c).val : Nat))) fun c _ => by
          by_cases e : c = j
          · subst e; rw [if_pos rfl, if_pos (by omega)]
          · rw [if_neg e]
            by_cases e2 : c < j
            · rw [if_pos e2, if_pos (by omega)]
            · rw [if_neg e2, if_neg (by omega)])
          have HG2 := Lib.hid (hg.trans (grown_set (w := wr) (a := ⟨g, j, none⟩) rfl (.int .u8 ((gE.a (T j) (gE.m x (R j))).val : Nat))))
          subst hAe
          have HG := Lib.hid hg
          rw [HM.out] at hXO HQ2 HG2
          generalize (gE.a (T j) (R j)).val = Y at *
          generalize (T j).val = X at *
          clear hQ hg hx1
          go_wp2
          go_roundg (len - (j + 1))
          case measure => omega
          case rel => exact ⟨j + 1, by omega, rfl, by go_num, HQ2.out, HG2.out⟩
        · have hjl : j = len := by omega
          subst j
          have HQ := Lib.hid (hQ.congr (g := fun c => .int .u8 ((gE.a (T c) (gE.m x (R c))).val : Nat)) fun c hc => by rw [if_pos hc])
          have HG := Lib.hid hg
          clear hQ hg
          go_wp2
          go_end0
          exact ⟨rfl, HQ.out, HG.out⟩
    · have t1 : ((x.val : Int) == 1) = false := by rw [beq_eq_false_iff_ne]; intro e; exact h1 (Fin.ext (by show x.val = 1; omega))
      have CT := Lib.hid (fun (a b : Fin 256) w => tG_any a b w)
      clear h0 h1
      by_cases hsm : len < 256
      · have t2 : decide ((len : Int) < 256) = true := by simp; omega
        go_enter Try.func106, Try.ntmps106
        go_wp2
        go_loopg [8, 9, 68] len (fun gk _ _ i wr => ∃ j : Nat, j ≤ len ∧ gk = len - j ∧ i = .int .i64 j ∧ wr.rowIs g 5 len (fun c => .int .u8 ((if c < j then gE.a (T c) (gE.m x (R c)) else T c).val : Nat)) ∧ w.grownBy wr (some g))
        case atStart => exact ⟨0, Nat.zero_le _, rfl, rfl, HT.out.congr fun c _ => by rw [if_neg (by omega)], World.grownBy.refl _ _⟩
        case round =>
          obtain ⟨j, hj, rfl, rfl, hQ, hg⟩ := hrel
          by_cases hlt : j < len
          · obtain ⟨b1, o1, hAe, hb1, hx1⟩ := HA.out j hlt
            have hbg : b1 ≠ g := HNE.out (by omega) b1 o1 hAe
            have hy1 : wr.cell? ⟨b1, o1 + j, none⟩ = some (.int .u8 ((R j).val : Nat)) := (grown_cell hg hb1 (by simpa using hbg)).trans hx1
            have hcl := hQ.cell hlt
            have hfz := hQ.frozen j
            rw [if_neg (Nat.lt_irrefl j)] at hcl
            have hXO := xor_el8 (T j) (gE.m x (R j))
            have HQ2 := Lib.hid ((hQ.set j (.int .u8 ((gE.a (T j) (gE.m x (R j))).val : Nat))).congr (g := (fun c => .int .u8 ((if c < j + 1 then gE.a (T c) (gE.m x (R c)) else T c).val : Nat))) fun c _ => by
          by_cases e : c = j
          · subst e; rw [if_pos rfl, if_pos (by omega)]
          · rw [if_neg e]
            by_cases e2 : c < j
            · rw [if_pos e2, if_pos (by omega)]
            · rw [if_neg e2, if_neg (by omega)])
            have HG2 := Lib.hid (hg.trans (grown_set (w := wr) (a := ⟨g, j, none⟩) rfl (.int .u8 ((gE.a (T j) (gE.m x (R j))).val : Nat))))
            subst hAe
            have HG := Lib.hid hg
            have hU := u8_el (gE.m x (R j))
            generalize (gE.a (T j) (gE.m x (R j))).val = Y at *
            generalize (T j).val = X at *
            have KS : Hid (wr.cell? ⟨g, j, none⟩ = some (.int .u8 (X : Nat))) := hcl
            clear hQ hg hx1
            go_wp2_with fail
            refine wp_region_mix [(true, true, false), (true, true, false), (true, true, false), (true, true, true), (true, true, false), (true, true, false), (false, false, false), (false, true, false), (false, true, false), (false, false, true)] mixed (by kernel_rfl) (fun w4 => w4.cell? ⟨g, j, none⟩ = some (.int .u8 (X : Nat))) (KS.out) ?_
            intro hSw0
            simp only [hdM, tlM, List.cons_append, List.nil_append]
            repeat (first
              | (refine mix_look hSw0.out ?_ (by rfl) (fun w4 hSw => ?_) ?_; rotate_left; (focus (have s1 := hSw; go_simp; try with_reducible rfl)); simp only [Act.put, List.setIfInBounds_toArray, List.set_cons_zero, List.set_cons_succ])
              | (refine mix_pure ?_ (by rfl) (fun w4 => ?_) ?_; rotate_left; (focus (go_simp; try with_reducible rfl)); simp only [Act.put, List.setIfInBounds_toArray, List.set_cons_zero, List.set_cons_succ]))
            refine mix_step (fun K hK => ?_)
            go_simp
            refine (CT.out x (R j) _).mono ?_
            rintro e w5 ⟨rfl, rfl⟩
            dsimp only
            refine hK.out _ _ (fun _ h => h) ?_
            clear hK K
            try simp only [Act.put, List.setIfInBounds_toArray, List.set_cons_zero, List.set_cons_succ]
            repeat (refine mix_pure ?_ (by rfl) (fun w4 => ?_) ?_; rotate_left; (focus (go_simp; try with_reducible rfl)); simp only [Act.put, List.setIfInBounds_toArray, List.set_cons_zero, List.set_cons_succ])
            refine mix_step (fun K hK => ?_)
            go_simp
            refine hK.out _ _ (fun h => absurd h (by decide)) ?_
            clear hK K
            try simp only [Act.put, List.setIfInBounds_toArray, List.set_cons_zero, List.set_cons_succ]
            refine mix_nil ?_
            go_wp2
            go_roundg (len - (j + 1))
            case measure => omega
            case rel => exact ⟨j + 1, by omega, rfl, by go_num, HQ2.out.drew, HG2.out.trans (grown_drew _ _)⟩
          · have hjl : j = len := by omega
            subst j
            have HQ := Lib.hid (hQ.congr (g := fun c => .int .u8 ((gE.a (T c) (gE.m x (R c))).val : Nat)) fun c hc => by rw [if_pos hc])
            have HG := Lib.hid hg
            clear hQ hg
            go_wp2
            go_end0
            exact ⟨rfl, HQ.out, HG.out⟩
      · have t2 : decide ((len : Int) < 256) = false := by simp; omega
        have HZT := Lib.hid (zero256 w)
        have HZG : Hid (w.grownBy (w.alloc (.cells Try.zeroCells175 175)) (some g)) := ⟨rfl, rfl, rfl, by simp, fun k hk _ => Below.heap_alloc _ _ _ hk⟩
        have HZQ := Lib.hid (HT.out.alloc (.cells Try.zeroCells175 175))
        have hgl := HT.out.lt
        have hne : w.heap.size ≠ g := by omega
        go_enter Try.func106, Try.ntmps106
        go_wp2
        go_loopg [11, 14] 256 (fun gk _ i wr => ∃ j : Nat, j ≤ 256 ∧ gk = 256 - j ∧ i = .int .i64 j ∧ wr.rowIs g 5 len (fun c => .int .u8 ((T c).val : Nat)) ∧ wr.rowIs w.heap.size 175 256 (fun t => .int .u8 (if t < j then (gE.m x (el t)).val else 0 : Nat)) ∧ w.grownBy wr (some g))
        case atStart => exact ⟨0, Nat.zero_le _, rfl, rfl, HZQ.out, HZT.out.congr fun t _ => by rw [if_neg (by omega)]; rfl, HZG.out⟩
        case round =>
          clear HZT HZG HZQ
          obtain ⟨j, hj, rfl, rfl, hQ, hP, hg⟩ := hrel
          by_cases hlt : j < 256
          · have CJ := Lib.hid (fun w => CT.out x (el j) w)
            have hel : ((el j).val : Nat) = j := el_val hlt
            rw [hel] at CJ
            have hcv : IntKind.u8.wrap (j : Int) = (j : Int) := by rw [IntKind.wrap_u8]; omega
            have hU := u8_el (gE.m x (el j))
            have hcl := hP.cell hlt
            have hfz := hP.frozen j
            rw [if_neg (Nat.lt_irrefl j)] at hcl
            have HP2 := Lib.hid ((hP.set j (.int .u8 ((gE.m x (el j)).val : Nat))).congr (g := fun t => .int .u8 (if t < j + 1 then (gE.m x (el t)).val else 0 : Nat)) fun t _ => by
              by_cases e : t = j
              · subst e; rw [if_pos rfl, if_pos (by omega)]
              · rw [if_neg e]
                by_cases e2 : t < j
                · rw [if_pos e2, if_pos (by omega)]
                · rw [if_neg e2, if_neg (by omega)])
            have HQ2 := Lib.hid (hQ.setOther (a := ⟨w.heap.size, j, none⟩) (fun e => hne e.symm) (.int .u8 ((gE.m x (el j)).val : Nat)))
            have HG2 := Lib.hid (grown_setNew hg (a := ⟨w.heap.size, j, none⟩) (Nat.le_refl _) (.int .u8 ((gE.m x (el j)).val : Nat)))
            clear hQ hP hg hel
            go_wp2_with fail
            refine (CJ.out _).mono ?_
            rintro e w5 ⟨rfl, rfl⟩
            go_wp2
            go_roundg (256 - (j + 1))
            case measure => omega
            case rel => exact ⟨j + 1, by omega, rfl, by go_num, HQ2.out, HP2.out, HG2.out⟩
          · have hj256 : j = 256 := by omega
            subst hj256
            have HP := Lib.hid (hP.congr (g := fun t => .int .u8 ((gE.m x (el t)).val : Nat)) fun t ht => by rw [if_pos ht])
            have HQ := Lib.hid hQ; have HG := Lib.hid hg
            clear hQ hP hg
            go_wp2
            go_loopg [12, 13, 26] len (fun gk _ _ i wr => ∃ j : Nat, j ≤ len ∧ gk = len - j ∧ i = .int .i64 j ∧ wr.rowIs g 5 len (fun c => .int .u8 ((if c < j then gE.a (T c) (gE.m x (R c)) else T c).val : Nat)) ∧ wr.rowIs w.heap.size 175 256 (fun t => .int .u8 ((gE.m x (el t)).val : Nat)) ∧ w.grownBy wr (some g))
            case atStart => exact ⟨0, Nat.zero_le _, rfl, rfl, HQ.out.congr fun c _ => by rw [if_neg (by omega)], HP.out, HG.out⟩
            case round =>
              clear HQ HP HG
              obtain ⟨j, hj, rfl, rfl, hQ, hP, hg⟩ := hrel
              by_cases hlt : j < len
              · obtain ⟨b1, o1, hAe, hb1, hx1⟩ := HA.out j hlt
                have hbg : b1 ≠ g := HNE.out (by omega) b1 o1 hAe
                have hy1 : wr.cell? ⟨b1, o1 + j, none⟩ = some (.int .u8 ((R j).val : Nat)) := (grown_cell hg hb1 (by simpa using hbg)).trans hx1
                have hcl := hQ.cell hlt
                have hfz := hQ.frozen j
                rw [if_neg (Nat.lt_irrefl j)] at hcl
                have hXO := xor_el8 (T j) (gE.m x (R j))
                have HQ2 := Lib.hid ((hQ.set j (.int .u8 ((gE.a (T j) (gE.m x (R j))).val : Nat))).congr (g := (fun c => .int .u8 ((if c < j + 1 then gE.a (T c) (gE.m x (R c)) else T c).val : Nat))) fun c _ => by
          by_cases e : c = j
          · subst e; rw [if_pos rfl, if_pos (by omega)]
          · rw [if_neg e]
            by_cases e2 : c < j
            · rw [if_pos e2, if_pos (by omega)]
            · rw [if_neg e2, if_neg (by omega)])
                have HG2 := Lib.hid (hg.trans (grown_set (w := wr) (a := ⟨g, j, none⟩) rfl (.int .u8 ((gE.a (T j) (gE.m x (R j))).val : Nat))))
                subst hAe
                have HG := Lib.hid hg
                have hDl := (R j).isLt
                have q3 : wr.cell? ⟨w.heap.size, (R j).val, none⟩ = some (.int .u8 ((gE.m x (R j)).val : Nat)) := by
                  have h := hP.cell hDl
                  rw [show el (R j).val = R j from Fin.ext (el_val hDl)] at h
                  exact h
                have HP2 := Lib.hid (hP.setOther (a := ⟨g, j, none⟩) hne (.int .u8 ((gE.a (T j) (gE.m x (R j))).val : Nat)))
                generalize (gE.a (T j) (gE.m x (R j))).val = Y at *
                generalize (T j).val = X at *
                generalize htb : w.heap.size = tb at *
                have KS : Hid (wr.cell? ⟨g, j, none⟩ = some (.int .u8 (X : Nat)) ∧ wr.cell? ⟨tb, (R j).val, none⟩ = some (.int .u8 ((gE.m x (R j)).val : Nat))) := ⟨hcl, q3⟩
                have hD0 : (0 : Int) ≤ ((R j).val : Int) := by omega
                have hD1 : ((R j).val : Int) < 256 := by omega
                clear hQ hP hg hx1
                go_wp2_with fail
                clear q3
                refine wp_region_mix [(true, true, false), (true, true, false), (true, true, false), (true, true, true), (true, true, false), (true, true, false), (true, true, true), (true, true, false), (true, true, false), (false, false, true)] mixed (by kernel_rfl) (fun w4 => w4.cell? ⟨g, j, none⟩ = some (.int .u8 (X : Nat)) ∧ w4.cell? ⟨tb, (R j).val, none⟩ = some (.int .u8 ((gE.m x (R j)).val : Nat))) (KS.out) ?_
                intro hSw0
                simp only [hdM, tlM, List.cons_append, List.nil_append]
                repeat (first
                  | (refine mix_look hSw0.out ?_ (by rfl) (fun w4 hSw => ?_) ?_; rotate_left; (focus (obtain ⟨s1, s2⟩ := hSw; go_simp; try with_reducible rfl)); simp only [Act.put, List.setIfInBounds_toArray, List.set_cons_zero, List.set_cons_succ])
                  | (refine mix_pure ?_ (by rfl) (fun w4 => ?_) ?_; rotate_left; (focus (go_simp; try with_reducible rfl)); simp only [Act.put, List.setIfInBounds_toArray, List.set_cons_zero, List.set_cons_succ]))
                refine mix_step (fun K hK => ?_)
                go_simp
                refine hK.out _ _ (fun h => absurd h (by decide)) ?_
                clear hK K
                try simp only [Act.put, List.setIfInBounds_toArray, List.set_cons_zero, List.set_cons_succ]
                refine mix_nil ?_
                go_wp2
                go_roundg (len - (j + 1))
                case measure => omega
                case rel => exact ⟨j + 1, by omega, rfl, by go_num, HQ2.out.drew, HP2.out.drew, HG2.out.trans (grown_drew _ _)⟩
              · have hjl : j = len := by omega
                subst j
                have HQ := Lib.hid (hQ.congr (g := fun c => .int .u8 ((gE.a (T c) (gE.m x (R c))).val : Nat)) fun c hc => by rw [if_pos hc])
                have HG := Lib.hid hg
                clear hQ hg hP
                go_wp2
                go_end0
                exact ⟨rfl, HQ.out, HG.out⟩
end Go.Proofs.Ytjaaldandgfkgaa

/- product, Encode of the program's code: the walks. Conditions: lengths that memory bears. -/
namespace Go.Proofs.Ytjaaldandgfkgaa
open Go.RowKit

set_option maxRecDepth 40000 in
set_option maxHeartbeats 4000000 in
theorem product_any (A Bm : Option Addr) (n k c1 c2 len : Nat) (O D : Nat → Nat → Fin 256) (w : World) (hn : n ≤ 1000) (hk : k ≤ 1000) (hk0 : 0 < k) (hlen : len ≤ 140737488351232)
    (hA : ME w A n (fun _ => k) (fun i j => (O i j).val)) (hB : RdM w Bm k (fun _ => len) (fun j c => .int .u8 ((D j c).val : Nat))) :
    Calls Try.prog 87 #[.slice A n c1, .slice Bm k c2] w fun e w' => ∃ (A' : Option Addr), e = .returned (.slice A' n n) ∧ RdM w' A' n (fun _ => len) (fun i c => .int .u8 ((gE.s k (fun t => gE.m (O i t) (D t c))).val : Nat)) ∧ Below w.heap.size w w' := by
  obtain ⟨SA, CA, hA1, hA2⟩ := hA
  obtain ⟨SB, CB, hB1, hB2⟩ := hB
  have HA1 := Lib.hid hA1; have HA2 := Lib.hid hA2; have HB1 := Lib.hid hB1; have HB2 := Lib.hid hB2
  clear hA1 hA2 hB1 hB2
  obtain ⟨b0, o0, rfl, hb0, hx0⟩ := HB1.out 0 hk0
  rw [Nat.add_zero] at hx0
  have HX0 := Lib.hid hx0; clear hx0
  have hmk1 := run_make_row' (P := Try.prog) 67 43 (.slice none 0 0) 24 Try.underlying67 bytesInfo rfl .i64 .i64 n (by omega) (by omega)
  have hmk := run_make_row' (P := Try.prog) 43 5 (.int .u8 0) 1 Try.underlying43 byteInfo rfl .i64 .i64 len (by omega) (by omega)
  have HMK := Lib.hid hmk; clear hmk
  have hz0 := Lib.hid (Bs.start w 43 5 n len len (fun _ => 0) (fun i c => .int .u8 ((gE.s k (fun t => gE.m (O i t) (D t c))).val : Nat)))
  have hbz := Lib.hid ((Below.refl w.heap.size w).alloc (Nat.le_refl _) (.cells (madeCells #[.slice none 0 0] n) 43))
  go_enter Try.func87, Try.ntmps87
  go_wp2
  clear hmk1
  go_loopg [6, 7, 15] n (fun gk _ _ v wr => ∃ (i : Nat) (S : Nat → Nat), i ≤ n ∧ gk = n - i ∧ v = .int .i64 i ∧ Bs wr w.heap.size 43 5 n i len len S (fun i c => .int .u8 ((gE.s k (fun t => gE.m (O i t) (D t c))).val : Nat)) ∧ Below w.heap.size w wr)
  case atStart => exact ⟨0, _, Nat.zero_le _, rfl, rfl, hz0.out, hbz.out⟩
  case round =>
    clear hz0 hbz
    obtain ⟨i, S, hi, rfl, rfl, hM, hb⟩ := hrel
    have hsz := hb.size
    by_cases hlt : i < n
    · obtain ⟨wo, rfl⟩ : ∃ wo : World, wo = wr := ⟨_, rfl⟩
      obtain ⟨b1, o1, rfl, hb1, hx1⟩ := HA1.out i hlt
      have hy1 : wo.cell? ⟨b1, o1 + i, none⟩ = some (.slice (SA i) k (CA i)) := (hb.cell hb1).trans hx1
      have hx0 : wo.cell? ⟨b0, o0, none⟩ = some (.slice (SB 0) len (CB 0)) := (hb.cell hb0).trans HX0.out
      have HRA := Lib.hid (HA2.out i hlt)
      generalize SA i = Ai at *
      have hmk := HMK.out
      have htop := hM.top.cell hlt
      rw [if_neg (Nat.lt_irrefl i)] at htop
      have hmbl := hM.top.lt
      have hst1 : ∀ o, (wo.alloc o).cell? ⟨w.heap.size, i, none⟩ = some (.slice none 0 0) := fun o => by
        rw [((Below.refl wo.heap.size wo).alloc (Nat.le_refl _) o).cell hmbl]; exact htop
      have hst2 : ∀ o, (wo.alloc o).frozen? ⟨w.heap.size, i, none⟩ = false := fun o => (hM.top.alloc o).frozen i
      have hzz : (wo.setCell ⟨w.heap.size, i, none⟩ (.slice (some ⟨wo.heap.size, 0, none⟩) len len)).heap.size = wo.heap.size := by simp
      have HROW : Hid (((wo.setCell ⟨w.heap.size, i, none⟩ (.slice (some ⟨wo.heap.size, 0, none⟩) len len)).alloc (.cells (madeCells #[.int .u8 0] len) 5)).rowIs wo.heap.size 5 len (fun _ => .int .u8 0)) := by
        have h := World.rowIs_made (wo.setCell ⟨w.heap.size, i, none⟩ (.slice (some ⟨wo.heap.size, 0, none⟩) len len)) (.int .u8 0) len 5
        rw [hzz] at h
        exact h
      have HTOP := Lib.hid ((hM.top.set i (.slice (some ⟨wo.heap.size, 0, none⟩) len len)).alloc (.cells (madeCells #[.int .u8 0] len) 5))
      have HBN := Lib.hid ((hb.setCell (p := ⟨w.heap.size, i, none⟩) (Nat.le_refl _) (.slice (some ⟨wo.heap.size, 0, none⟩) len len)).alloc (by rw [hzz]; exact hsz) (.cells (madeCells #[.int .u8 0] len) 5))
      have HKEEP : Hid (∀ t, t < i → ((wo.setCell ⟨w.heap.size, i, none⟩ (.slice (some ⟨wo.heap.size, 0, none⟩) len len)).alloc (.cells (madeCells #[.int .u8 0] len) 5)).heap[S t]? = wo.heap[S t]?) := fun t ht => by
        have h1 := hM.los t ht
        have h2 := (hM.row t ht).lt
        rw [Below.heap_alloc _ _ _ (by rw [hzz]; exact h2)]
        exact Below.heap_setCell _ _ _ _ (by show S t ≠ w.heap.size; omega)
      have hSz : ((wo.setCell ⟨w.heap.size, i, none⟩ (.slice (some ⟨wo.heap.size, 0, none⟩) len len)).alloc (.cells (madeCells #[.int .u8 0] len) 5)).heap.size = wo.heap.size + 1 := by simp
      clear hzz
      have HM := Lib.hid hM
      clear hM hb htop hx1
      go_wp2
      clear hy1 hx0 hmk hst1 hst2
      generalize ((wo.setCell ⟨w.heap.size, i, none⟩ (.slice (some ⟨wo.heap.size, 0, none⟩) len len)).alloc (.cells (madeCells #[.int .u8 0] len) 5)) = w3 at *
      generalize hrb : wo.heap.size = rb at *
      have HRB := Lib.hid hrb; clear hrb
      go_loopg [8, 9, 30] k (fun gk _ _ v wr => ∃ j : Nat, j ≤ k ∧ gk = k - j ∧ v = .int .i64 j ∧ wr.rowIs rb 5 len (fun c => .int .u8 ((byc O D i j 0 c).val : Nat)) ∧ w3.grownBy wr (some rb))
      case atStart => exact ⟨0, Nat.zero_le _, rfl, rfl, HROW.out.congr fun c _ => by rw [byc_zero]; rfl, World.grownBy.refl _ _⟩
      case round =>
        clear HROW
        obtain ⟨j, hj, rfl, rfl, hQ, hg⟩ := hrel
        have hbw : Below w.heap.size w wr := HBN.out.grown hg HBN.out.size (fun q hq => by injection hq with hq; have := HRB.out; omega)
        have hTop : wr.rowIs w.heap.size 43 n _ := HTOP.out.of_block (hg.block w.heap.size HTOP.out.lt (by simp; omega))
        by_cases hlj : j < k
        · obtain ⟨bw, ow, rfl, hbwl, hxw⟩ := HRA.out j hlj
          have hy2 : wr.cell? ⟨bw, ow + j, none⟩ = some (.int .u8 ((O i j).val : Nat)) := (hbw.cell hbwl).trans hxw
          obtain ⟨b2, o2, e2, hb2, hx2⟩ := HB1.out j hlj
          injection e2 with e2
          injection e2 with e2 e3 _
          subst e2 e3
          have hy3 : wr.cell? ⟨b0, o0 + j, none⟩ = some (.slice (SB j) len (CB j)) := (hbw.cell hb2).trans hx2
          have hy4 : wr.cell? ⟨w.heap.size, i, none⟩ = some (.slice (some ⟨rb, 0, none⟩) len len) := by rw [hTop.cell hlt]; rw [if_pos rfl]
          have HADD := Lib.hid (add_any rb len len (CB j) (SB j) (fun c => byc O D i j 0 c) (D j) (O i j) wr.drew hlen hQ.drew ((HB2.out j hlj).below hbw.drew) (fun h0 b o e => by
            intro hbr
            obtain ⟨b', o', e', hb', _⟩ := HB2.out j hlj 0 h0
            rw [e] at e'
            injection e' with e'
            injection e' with e' _ _
            have := HRB.out
            omega))
          have HG := Lib.hid hg
          generalize hmb : w.heap.size = mb at *
          have HMB := Lib.hid hmb; clear hmb
          have KS : Hid (wr.cell? ⟨mb, i, none⟩ = some (.slice (some ⟨rb, 0, none⟩) len len) ∧ wr.cell? ⟨b0, o0 + j, none⟩ = some (.slice (SB j) len (CB j))) := ⟨hy4, hy3⟩
          clear hQ hg hxw hx2 hTop hbw
          go_wp2_with fail
          clear hy2 hy3 hy4
          refine wp_region_mix [(true, true, false), (true, true, false), (true, true, false), (true, true, true), (true, true, false), (true, true, false), (true, true, false), (true, true, true), (true, true, false), (false, false, true)] mixed (by kernel_rfl) (fun w4 => w4.cell? ⟨mb, i, none⟩ = some (.slice (some ⟨rb, 0, none⟩) len len) ∧ w4.cell? ⟨b0, o0 + j, none⟩ = some (.slice (SB j) len (CB j))) (KS.out) ?_
          intro hSw0
          simp only [hdM, tlM, List.cons_append, List.nil_append]
          repeat (first
            | (refine mix_look hSw0.out ?_ (by rfl) (fun w4 hSw => ?_) ?_; rotate_left; (focus (obtain ⟨s1, s2⟩ := hSw; go_simp; try with_reducible rfl)); simp only [Act.put, List.setIfInBounds_toArray, List.set_cons_zero, List.set_cons_succ])
            | (refine mix_pure ?_ (by rfl) (fun w4 => ?_) ?_; rotate_left; (focus (go_simp; try with_reducible rfl)); simp only [Act.put, List.setIfInBounds_toArray, List.set_cons_zero, List.set_cons_succ]))
          refine mix_step (fun K hK => ?_)
          go_simp
          refine HADD.out.mono ?_
          rintro e w5 ⟨rfl, hQ5, hg5⟩
          dsimp only
          refine hK.out _ _ (fun h => absurd h (by decide)) ?_
          clear hK K
          try simp only [Act.put, List.setIfInBounds_toArray, List.set_cons_zero, List.set_cons_succ]
          refine mix_nil ?_
          have HQ5 := Lib.hid (hQ5.congr (g := fun c => .int .u8 ((byc O D i (j + 1) 0 c).val : Nat)) fun c _ => by
            show Value.int .u8 ((gE.a (byc O D i j 0 c) (gE.m (O i j) (D j c))).val : Int) = Value.int .u8 ((byc O D i (j + 1) 0 c).val : Int)
            rw [byc_zero, byc_zero]; rfl)
          have HG5 := Lib.hid (HG.out.trans ((grown_drew _ _).trans hg5))
          clear hQ5 hg5
          go_wp2
          go_roundg (k - (j + 1))
          case measure => omega
          case rel => exact ⟨j + 1, by omega, rfl, by go_num, HQ5.out, HG5.out⟩
        · have hjk : j = k := by omega
          subst j
          have hrbv := HRB.out
          have HBN2 := Lib.hid (HM.out.next (k := i) (nb := rb) (w' := wr) (by omega) (fun t ht => by
            have h2 := (HM.out.row t ht).lt
            rw [hg.block (S t) (by omega) (by simp; omega)]
            exact HKEEP.out t ht) (hTop.congr fun t _ => by
            by_cases e : t = i
            · subst e; rw [if_pos rfl, if_pos (by omega), upd_at]
            · rw [if_neg e, upd_ne _ _ _ e]
              by_cases e2 : t < i
              · rw [if_pos e2, if_pos (by omega)]
              · rw [if_neg e2, if_neg (by omega)]) (hQ.congr fun c _ => by rw [byc_zero]))
          have HBW := Lib.hid hbw
          clear hQ hg hTop hbw
          go_wp2
          go_roundg (n - (i + 1))
          case measure => omega
          case rel => exact ⟨i + 1, _, by omega, rfl, by go_num, HBN2.out, HBW.out⟩
    · have hin : i = n := by omega
      subst i
      have HR := Lib.hid hM.done.rdm; have HB := Lib.hid hb
      clear hM hb
      go_wp2
      go_ret
      exact ⟨some ⟨w.heap.size, 0, none⟩, rfl, HR.out, HB.out⟩
set_option maxRecDepth 40000 in
set_option maxHeartbeats 2000000 in
theorem enc_any (p k n : Nat) (A : Option Addr) (nr c : Nat) (L : Nat → Nat) (g : Nat → Nat → Nat) (w : World) (hk : 0 < k) (hkn : k ≤ n) (hn : n ≤ 255) (hnr : nr ≤ 1000000000000000) (hL : ∀ i, i < nr → L i ≤ 140737488351232) (hg : ∀ i, i < nr → ∀ j, j < L i → g i j < 256) (hC : CodeAt w p k n) (hA : RdM w A nr L (fun i j => .int .u8 (g i j))) :
    Calls Try.prog 55 #[.pointer (some ⟨p, 0, none⟩), .slice A nr c] w fun e w' => ∃ (er : Int) (A' : Option Addr) (R c' : Nat), e = .returned (.tuple #[.slice A' R c', .int .i64 er]) ∧ EncP k nr L er ∧ R = (if er = 0 then n else 0) ∧ RdM w' A' R (fun _ => L 0) (fun i c => .int .u8 (wrd k g i c)) ∧ Below w.heap.size w w' := by
  have CN := Lib.hid (none_any p k n w hC hk)
  have hck := hC.ck
  by_cases h1 : nr = k
  · subst h1
    obtain ⟨S, C, hA1, hA2⟩ := id hA
    obtain ⟨b, o, rfl, hb, hc⟩ := hA1 0 hk
    rw [Nat.add_zero] at hc
    have CE := Lib.hid (even_any (some ⟨b, o, none⟩) nr c L C S w hnr hA1)
    have HA := Lib.hid hA; have HL := Lib.hid hL; have HG := Lib.hid hg; have HC := Lib.hid hC
    clear hA hA1 hA2 hL hg hC
    go_enter Try.func55, Try.ntmps55
    go_wp2_with fail
    refine CN.out.mono ?_
    rintro e w1 ⟨rfl, rfl⟩
    go_wp2_with fail
    refine CE.out.mono ?_
    rintro e w1 ⟨rfl, rfl⟩
    have HBB : Hid (evB nr L (L 0) = true ↔ ∀ i, i < nr → L i = L 0) := evB_iff
    clear CE CN hck
    generalize evB nr L (L 0) = bb at *
    cases bb
    · go_wp2
      go_ret2
      exact ⟨41, none, 0, 0, rfl, .inr (.inl ⟨rfl, fun h => absurd (HBB.out.2 h) (by decide), rfl⟩), rfl, RdM.zero _ _ _ _, Below.refl _ _⟩
    · have hev := HBB.out.1 rfl
      have HEV := Lib.hid hev
      by_cases h0 : L 0 = 0
      · have t1 : ((L 0 : Int) == 0) = true := by rw [h0]; rfl
        have hcn := HC.out.cn
        have hmk1 := run_make_row' (P := Try.prog) 67 43 (.slice none 0 0) 24 Try.underlying67 bytesInfo rfl .i64 .i64 n (by omega) (by omega)
        have HR : Hid (RdM (w.alloc (.cells (madeCells #[.slice none 0 0] n) 43)) (some ⟨w.heap.size, 0, none⟩) n (fun _ => L 0) (fun i c => .int .u8 (wrd nr g i c))) :=
          ⟨fun _ => none, fun _ => 0, row_rd ((World.rowIs_made w (.slice none 0 0) n 43).congr fun i _ => by rw [h0]), fun i _ => by rw [h0]; exact Rd.zero _ _ _⟩
        have HB := Lib.hid ((Below.refl w.heap.size w).alloc (Nat.le_refl _) (.cells (madeCells #[.slice none 0 0] n) 43))
        clear h0 hev
        go_wp2
        go_ret2
        exact ⟨0, some ⟨w.heap.size, 0, none⟩, n, n, rfl, .inr (.inr ⟨rfl, HEV.out, rfl⟩), rfl, HR.out, HB.out⟩
      · have t1 : ((L 0 : Int) == 0) = false := by rw [beq_eq_false_iff_ne]; omega
        obtain ⟨Ar, cr, hcr, hM⟩ := HC.out.cr
        have hB : RdM w (some ⟨b, o, none⟩) nr (fun _ => L 0) (fun j c => .int .u8 ((el (g j c)).val : Nat)) := by
          obtain ⟨S, C, h1, h2⟩ := HA.out
          exact ⟨S, C, h1.congr fun i hi => by rw [hev i hi], fun i hi => by
            have h3 := h2 i hi
            rw [hev i hi] at h3
            exact h3.congr fun c hc => by show Value.int .u8 ((g i c : Nat) : Int) = Value.int .u8 ((el (g i c)).val : Int); rw [el_val (HG.out i hi c (by rw [hev i hi]; exact hc))]⟩
        have HP := Lib.hid (product_any Ar (some ⟨b, o, none⟩) n nr cr c (L 0) (gE.cM el nr) (fun j c => el (g j c)) w (by omega) (by omega) hk (HL.out 0 hk) hM hB)
        clear h0 hev hM hB
        go_wp2_with fail
        refine HP.out.mono ?_
        rintro e w2 ⟨A2, rfl, hR, hb2⟩
        have HR := Lib.hid hR; have HB2 := Lib.hid hb2
        clear hR hb2
        go_wp2
        go_ret2
        exact ⟨0, A2, n, n, rfl, .inr (.inr ⟨rfl, HEV.out, rfl⟩), rfl, HR.out, HB2.out⟩
  · have t1 : ((nr : Int) != (k : Int)) = true := by rw [bne_iff_ne]; omega
    have H1 := Lib.hid h1
    clear h1 hA hg hL hC
    go_enter Try.func55, Try.ntmps55
    go_wp2_with fail
    refine CN.out.mono ?_
    rintro e w1 ⟨rfl, rfl⟩
    go_wp2
    go_ret2
    exact ⟨40, none, 0, 0, rfl, .inl ⟨H1.out, rfl⟩, rfl, RdM.zero _ _ _ _, Below.refl _ _⟩
end Go.Proofs.Ytjaaldandgfkgaa
