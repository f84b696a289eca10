/- Sum, Scale, Clone, Turn of the program: the walks. Conditions: lengths that memory bears. -/
import Derived.Test.YthodpgkelmalmaaCode3
import Derived.Test.YthodpgkelmalmaaSame
namespace Go.Proofs.Ythodpgkelmalmaa
open Go.RowKit

set_option maxRecDepth 20000 in
set_option maxHeartbeats 1000000 in
theorem sum_any (A1 A2 : Option Addr) (n c1 c2 : Nat) (X Y : Nat → Fin 256) (w : World) (hn : n ≤ 140737488351232) (h1 : Rd w A1 n fun j => .int .u8 ((X j).val : Nat)) (h2 : Rd w A2 n fun j => .int .u8 ((Y j).val : Nat)) :
    Calls Try.prog 60 #[.slice A1 n c1, .slice A2 n c2] w fun e w' => e = .returned (.tuple #[.slice (some ⟨w.heap.size, 0, none⟩) n n, .int .i64 0]) ∧ w'.rowIs w.heap.size 5 n (fun j => .int .u8 ((gE.a (X j) (Y j)).val : Nat)) ∧ Below w.heap.size w w' := by
  have H1 := Lib.hid h1; have H2 := Lib.hid h2
  clear h1 h2
  have hmk := run_make_row' (P := Try.prog) 24 5 (.int .u8 0) 1 Try.underlying24 byteInfo rfl .i64 .i64 n (by omega) (by omega)
  have HZ := Lib.hid (World.rowIs_made w (.int .u8 0) n 5)
  have HBZ := Lib.hid ((Below.refl w.heap.size w).alloc (Nat.le_refl _) (.cells (madeCells #[.int .u8 0] n) 5))
  go_enter Try.func60, Try.ntmps60
  go_wp2
  clear hmk
  go_loopg [7, 18] n (fun gk _ v wr => ∃ j : Nat, j ≤ n ∧ gk = n - j ∧ v = .int .i64 j ∧ wr.rowIs w.heap.size 5 n (fun i => .int .u8 ((if i < j then gE.a (X i) (Y i) else gE.z).val : Nat)) ∧ Below w.heap.size w wr)
  case atStart => exact ⟨0, Nat.zero_le _, rfl, rfl, HZ.out.congr fun i _ => by rw [if_neg (by omega)]; rfl, HBZ.out⟩
  case round =>
    clear HZ HBZ
    obtain ⟨j, hj, rfl, rfl, hQ, hb⟩ := hrel
    by_cases hlt : j < n
    · obtain ⟨b1, o1, rfl, hb1, hx1⟩ := H1.out j hlt
      obtain ⟨b2, o2, rfl, hb2, hx2⟩ := H2.out j hlt
      have hy1 : wr.cell? ⟨b1, o1 + j, none⟩ = some (.int .u8 ((X j).val : Nat)) := (hb.cell hb1).trans hx1
      have hy2 : wr.cell? ⟨b2, o2 + j, none⟩ = some (.int .u8 ((Y j).val : Nat)) := (hb.cell hb2).trans hx2
      have hcl := hQ.cell hlt
      have hfz := hQ.frozen j
      have e0 : (if j < j then gE.a (X j) (Y j) else gE.z) = gE.z := if_neg (by omega)
      rw [e0] at hcl
      have hXO := xor_el8 (X j) (Y j)
      have HQ2 := Lib.hid ((hQ.set j (.int .u8 ((gE.a (X j) (Y j)).val : Nat))).congr (g := fun i => .int .u8 ((if i < j + 1 then gE.a (X i) (Y i) else gE.z).val : Nat)) fun i _ => by
        by_cases e : i = j
        · subst e; rw [if_pos rfl, if_pos (by omega)]
        · rw [if_neg e]
          by_cases e2 : i < j
          · rw [if_pos e2, if_pos (by omega)]
          · rw [if_neg e2, if_neg (by omega)])
      have HB2 := Lib.hid (hb.setCell (p := ⟨w.heap.size, j, none⟩) (Nat.le_refl _) (.int .u8 ((gE.a (X j) (Y j)).val : Nat)))
      have KS : Hid (wr.cell? ⟨b1, o1 + j, none⟩ = some (.int .u8 ((X j).val : Nat)) ∧ wr.cell? ⟨b2, o2 + j, none⟩ = some (.int .u8 ((Y j).val : Nat))) := ⟨hy1, hy2⟩
      clear hx1 hx2 hQ hb e0
      go_wp2_with fail
      clear hy1 hy2
      refine wp_region_mix [(true, true, false), (true, true, false), (true, true, false), (true, true, false), (true, true, false), (true, true, true), (true, true, false), (true, true, false), (true, true, false), (true, true, true), (true, true, false), (true, true, false), (false, false, true)] mixed (by kernel_rfl) (fun w4 => w4.cell? ⟨b1, o1 + j, none⟩ = some (.int .u8 ((X j).val : Nat)) ∧ w4.cell? ⟨b2, o2 + j, none⟩ = some (.int .u8 ((Y j).val : Nat))) (KS.out) ?_
      intro hSw0
      simp only [hdM, tlM, List.cons_append, List.nil_append]
      repeat (first
        | (refine mix_look hSw0.out ?_ (by rfl) (fun w4 hSw => ?_) ?_; rotate_left; (focus (obtain ⟨s1, s2⟩ := hSw; go_simp; try with_reducible rfl)); simp only [Act.put, List.setIfInBounds_toArray, List.set_cons_zero, List.set_cons_succ])
        | (refine mix_pure ?_ (by rfl) (fun w4 => ?_) ?_; rotate_left; (focus (go_simp; try with_reducible rfl)); simp only [Act.put, List.setIfInBounds_toArray, List.set_cons_zero, List.set_cons_succ]))
      refine mix_step (fun K hK => ?_)
      go_simp
      refine hK.out _ _ (fun h => absurd h (by decide)) ?_
      clear hK K
      try simp only [Act.put, List.setIfInBounds_toArray, List.set_cons_zero, List.set_cons_succ]
      refine mix_nil ?_
      go_wp2
      go_roundg (n - (j + 1))
      case measure => omega
      case rel => exact ⟨j + 1, by omega, rfl, by go_num, HQ2.out.drew, HB2.out.drew⟩
    · have hjn : j = n := by omega
      subst j
      have HQ := Lib.hid (hQ.congr (g := fun i => .int .u8 ((gE.a (X i) (Y i)).val : Nat)) fun i hi => by rw [if_pos hi])
      have HB := Lib.hid hb
      clear hQ hb
      go_wp2
      go_ret2
      exact ⟨rfl, HQ.out, HB.out⟩
set_option maxRecDepth 20000 in
set_option maxHeartbeats 1000000 in
theorem scale_any (A1 : Option Addr) (n c1 : Nat) (X : Nat → Fin 256) (y : Fin 256) (w : World) (hn : n ≤ 140737488351232) (h1 : Rd w A1 n fun j => .int .u8 ((X j).val : Nat)) :
    Calls Try.prog 34 #[.slice A1 n c1, .int .u8 (y.val : Int)] w fun e w' => e = .returned (.slice (some ⟨w.heap.size, 0, none⟩) n n) ∧ w'.rowIs w.heap.size 5 n (fun j => .int .u8 ((gE.m (X j) y).val : Nat)) ∧ Below w.heap.size w w' := by
  have H1 := Lib.hid h1
  have CT := Lib.hid (fun (a b : Fin 256) w => tG_any a b w)
  clear h1
  have hmk := run_make_row' (P := Try.prog) 24 5 (.int .u8 0) 1 Try.underlying24 byteInfo rfl .i64 .i64 n (by omega) (by omega)
  have HZ := Lib.hid (World.rowIs_made w (.int .u8 0) n 5)
  have HBZ := Lib.hid ((Below.refl w.heap.size w).alloc (Nat.le_refl _) (.cells (madeCells #[.int .u8 0] n) 5))
  go_enter Try.func34, Try.ntmps34
  go_wp2
  clear hmk
  go_loopg [6, 12] n (fun gk _ v wr => ∃ j : Nat, j ≤ n ∧ gk = n - j ∧ v = .int .i64 j ∧ wr.rowIs w.heap.size 5 n (fun i => .int .u8 ((if i < j then gE.m (X i) y else gE.z).val : Nat)) ∧ Below w.heap.size w wr)
  case atStart => exact ⟨0, Nat.zero_le _, rfl, rfl, HZ.out.congr fun i _ => by rw [if_neg (by omega)]; rfl, HBZ.out⟩
  case round =>
    clear HZ HBZ
    obtain ⟨j, hj, rfl, rfl, hQ, hb⟩ := hrel
    by_cases hlt : j < n
    · obtain ⟨b1, o1, rfl, hb1, hx1⟩ := H1.out j hlt
      have hy1 : wr.cell? ⟨b1, o1 + j, none⟩ = some (.int .u8 ((X j).val : Nat)) := (hb.cell hb1).trans hx1
      have hcl := hQ.cell hlt
      have hfz := hQ.frozen j
      have e0 : (if j < j then gE.m (X j) y else gE.z) = gE.z := if_neg (by omega)
      rw [e0] at hcl
      have HQ2 := Lib.hid ((hQ.set j (.int .u8 ((gE.m (X j) y).val : Nat))).congr (g := fun i => .int .u8 ((if i < j + 1 then gE.m (X i) y else gE.z).val : Nat)) fun i _ => by
        by_cases e : i = j
        · subst e; rw [if_pos rfl, if_pos (by omega)]
        · rw [if_neg e]
          by_cases e2 : i < j
          · rw [if_pos e2, if_pos (by omega)]
          · rw [if_neg e2, if_neg (by omega)])
      have HB2 := Lib.hid (hb.setCell (p := ⟨w.heap.size, j, none⟩) (Nat.le_refl _) (.int .u8 ((gE.m (X j) y).val : Nat)))
      clear hx1 hQ hb e0
      go_wp2_with fail
      refine (CT.out (X j) y _).mono ?_
      rintro e w5 ⟨rfl, rfl⟩
      go_wp2
      go_roundg (n - (j + 1))
      case measure => omega
      case rel => exact ⟨j + 1, by omega, rfl, by go_num, HQ2.out, HB2.out⟩
    · have hjn : j = n := by omega
      subst j
      have HQ := Lib.hid (hQ.congr (g := fun i => .int .u8 ((gE.m (X i) y).val : Nat)) fun i hi => by rw [if_pos hi])
      have HB := Lib.hid hb
      clear hQ hb
      go_wp2
      go_ret
      exact ⟨rfl, HQ.out, HB.out⟩
set_option maxRecDepth 20000 in
set_option maxHeartbeats 1000000 in
theorem clone_any (A : Option Addr) (n c : Nat) (f : Nat → Nat) (w : World) (hn : n ≤ 140737488351232) (hA : Rd w A n fun i => .int .u8 (f i : Nat)) :
    Calls Try.prog 61 #[.slice A n c] w fun e w' => ∃ v, e = .returned v ∧ Own w' w.heap.size 5 1 v n (fun j => [.int .u8 (f j : Nat)]) ∧ Below w.heap.size w w' := by
  rcases A with _ | ad
  · have hn0 : n = 0 := by
      rcases Nat.eq_zero_or_pos n with h | h
      · exact h
      · obtain ⟨_, _, e, _⟩ := hA 0 h; cases e
    subst hn0
    clear hA
    have hnil : ∀ w, (binOp .eql 24 (.slice none 0 c) (.slice none 0 0)).run Try.prog w = .ok (.bool true) w := fun w => Go.Lib.run_eql_slice_nil (P := Try.prog) w 24 5 none 0 c 0 0 Try.underlying24
    go_enter Try.func61, Try.ntmps61
    go_wp2
    go_ret
    exact ⟨_, rfl, Own.nil _ _ _ _ _, Below.refl _ _⟩
  · have HA := Lib.hid hA
    have hnil : ∀ w, (binOp .eql 24 (.slice (some ad) n c) (.slice none 0 0)).run Try.prog w = .ok (.bool false) w := fun w => Go.Lib.run_eql_slice_nil (P := Try.prog) w 24 5 (some ad) n c 0 0 Try.underlying24
    have hcells : Hid (∀ (j : Nat) (u : Value), ((List.range n).map fun j => Value.int .u8 (f j : Nat))[j]? = some u → (w.alloc (.cells #[] 5)).cell? (ad.add j) = some u) := fun j u hj => by
      have hlt : j < n := by have := (List.getElem?_eq_some_iff.1 hj).1; simpa using this
      obtain ⟨b', o', e1, hb', hc⟩ := hA j hlt
      injection e1 with e1; subst e1
      have hadd : (⟨b', o', none⟩ : Addr).add j = ⟨b', o' + j, none⟩ := by unfold Addr.add; split <;> simp_all
      rw [hadd, ((Below.refl w.heap.size w).alloc (Nat.le_refl _) _).cell hb', hc]; simpa [hlt] using hj
    have hown : Own (w.alloc (.cells #[] 5)) w.heap.size 5 1 (.slice (some ⟨w.heap.size, 0, none⟩) 0 0) 0 (fun _ => [.int .u8 0]) := own_of_row (World.rowIs_alloc w #[] 5 (fun _ => .int .u8 0) (by intro i hi; simp at hi)) (Nat.le_refl _) (by decide)
    have HOWN := Lib.hid hown
    obtain ⟨i0, hi, hz0, hz1, hz2⟩ := info_parts byteInfo
    have HI := Lib.hid hi; have HZ0 := Lib.hid hz0; have HZ1 := Lib.hid hz1; have HZ2 := Lib.hid hz2
    clear hA hown hi hz0 hz1 hz2
    go_enter Try.func61, Try.ntmps61
    go_wp2_with (at_builtin; refine wpList_append_own (w.alloc (.cells #[] 5)) rfl (.tmp 5) (.tmp 6) 24 rfl w.heap.size 5 i0 (.int .u8 0) 1 1 Try.underlying24 HI.out HZ0.out HZ1.out HZ2.out rfl (by decide) (.slice (some ⟨w.heap.size, 0, none⟩) 0 0) 0 [] rfl HOWN.out ad n c ((List.range n).map fun j => Value.int .u8 (f j : Nat)) rfl (by simp) hcells.out ?_ (by unfold maxLen; omega) (by omega) (by simp) ?_)
    · intro u hu
      obtain ⟨j, hj, rfl⟩ := List.mem_map.1 hu
      rfl
    · intro v' w' hown' hg _
      have hO : Own w' w.heap.size 5 1 v' n (fun j => [.int .u8 (f j : Nat)]) := by
        unfold Own; rw [flat1]; simpa using hown'
      have hbF : Below w.heap.size w w' := ((Below.refl w.heap.size w).alloc (Nat.le_refl _) (.cells #[] 5)).grown hg (by simp) (fun q hq => by simp [Value.ownBlock] at hq; omega)
      clear hown' hg
      go_wp2
      go_ret
      exact ⟨_, rfl, hO, hbF⟩
end Go.Proofs.Ythodpgkelmalmaa
