/- The document's numbers over a plain field; over and less: the walks. Conditions: numbers of the field. -/
import Derived.Test.YtpocjpodeahanaaMulR
import Derived.Test.YtpocjpodeahanaaFactG
import Derived.Test.YtpocjpodeahanaaGf
namespace Go.Proofs.Ytpocjpodeahanaa
open Go.RowKit

/-- The field whose numbers are those below s, as the document multiplies and adds them. -/
structure FdOk (s : Nat) (F : Fd (Fin s)) : Prop where
  mul : ∀ x y : Fin s, (F.m x y).val = mulR s x.val y.val
  add : ∀ x y : Fin s, (F.a x y).val = x.val ^^^ y.val
  zero : F.z.val = 0
  one : F.u.val = 1
  le : s ≤ 256
theorem okE : FdOk 256 gE := ⟨fun _ _ => rfl, fun _ _ => rfl, rfl, rfl, by decide⟩
theorem okB : FdOk 2 gB := ⟨fun _ _ => rfl, fun _ _ => rfl, rfl, rfl, by decide⟩
theorem okF : FdOk 4 gF := ⟨fun _ _ => rfl, fun _ _ => rfl, rfl, rfl, by decide⟩
theorem mixedR : Try.prog.follows .mixedOrders = true := by kernel_rfl

theorem mulF_any {s : Nat} {F : Fd (Fin s)} (ok : FdOk s F) (x y : Fin s) (w : World) :
    Calls Try.prog 86 #[.int .i64 (s : Nat), .int .i64 (x.val : Nat), .int .i64 (y.val : Nat)] w fun e w' => e = .returned (.int .i64 ((F.m x y).val : Nat)) ∧ w = w' := by
  have h := mul_any s x.val y.val w (Nat.lt_of_lt_of_le x.isLt ok.le) (Nat.lt_of_lt_of_le y.isLt ok.le)
  rw [← ok.mul] at h; exact h
set_option maxHeartbeats 400000 in
theorem over_any {s : Nat} {F : Fd (Fin s)} (ok : FdOk s F) (x : Fin s) (w : World) (hx : x ≠ F.z) :
    Calls Try.prog 110 #[.int .i64 (s : Nat), .int .i64 (x.val : Nat)] w fun e w' => e = .returned (.int .i64 ((F.v x).val : Nat)) ∧ w = w' := by
  have hs := ok.le
  have HV : Hid (∀ y : Fin s, (F.m x y).val = 1 → y.val = (F.v x).val) := fun y hy => by rw [F.v_uniq (x := x) (y := y) (Fin.ext (by rw [hy, ok.one]))]
  have HV1 : Hid ((F.m x (F.v x)).val = 1) := by rw [F.m_v x hx]; exact ok.one
  have hv0 : 1 ≤ (F.v x).val := by
    have : (F.v x).val ≠ 0 := fun e => F.v_ne hx (Fin.ext (by rw [e, ok.zero]))
    omega
  have hvs := (F.v x).isLt
  have HC := Lib.hid (fun y w => mulF_any ok x y w)
  have HC1 := Lib.hid (fun w => mulF_any ok x (F.v x) w)
  rw [HV1.out] at HC1
  clear hx ok
  generalize (F.v x).val = v at *
  go_enter Try.func110, Try.ntmps110
  go_wp2
  go_loopg [5] (v - 1) (fun g i wr => wr = w ∧ ∃ k : Nat, 1 ≤ k ∧ k ≤ v ∧ g = v - k ∧ i = .int .i64 k)
  case atStart => exact ⟨rfl, 1, by omega, by omega, rfl, rfl⟩
  case round =>
    obtain ⟨rfl, k, hk1, hk2, rfl, rfl⟩ := hrel
    by_cases hkv : k = v
    · subst hkv
      go_wp2_with fail
      refine (HC1.out _).mono ?_
      rintro e w1 ⟨rfl, rfl⟩
      go_wp2
      go_ret
      exact ⟨rfl, rfl⟩
    · have hks : k < s := by omega
      have hlt : k < v := by omega
      have HM := Lib.hid (HC.out ⟨k, hks⟩ wr)
      have hne : (F.m x ⟨k, hks⟩).val ≠ 1 := fun e => hkv (HV.out ⟨k, hks⟩ e)
      generalize (F.m x ⟨k, hks⟩).val = q at *
      have t1 : ((q : Int) == 1) = false := by rw [beq_eq_false_iff_ne]; omega
      clear hkv hne HC HC1 HV HV1
      go_wp2_with fail
      refine HM.out.mono ?_
      rintro e w1 ⟨rfl, rfl⟩
      go_wp2
      go_roundg (v - (k + 1))
      case measure => omega
      case rel => exact ⟨rfl, k + 1, by omega, by omega, rfl, by go_num⟩

theorem intBytes : (Try.prog.info? 3).map (fun i => (i.zero, i.size, i.bytes)) = some (some (.int .i64 0), 1, 8) := by kernel_rfl
set_option maxRecDepth 20000 in
set_option maxHeartbeats 1000000 in
theorem less_fr {s : Nat} {F : Fd (Fin s)} (ok : FdOk s F) (A B : Option Addr) (n m cA cB : Nat) (row oth : Nat → Fin s) (x : Fin s) (fr : Nat → Nat) (w : World) (hn : n ≤ 1000000) (hnm : n ≤ m) (hm : m ≤ 1000000) (hfr : ∀ j, bits .xor .i64 ((row j).val : Int) ((F.m x (oth j)).val : Int) = (fr j : Int)) (hA : Rd w A n fun j => .int .i64 ((row j).val : Nat)) (hB : Rd w B m fun j => .int .i64 ((oth j).val : Nat)) :
    Calls Try.prog 109 #[.int .i64 (s : Nat), .slice A n cA, .slice B m cB, .int .i64 (x.val : Nat)] w fun e w' => ∃ v, e = .returned v ∧ Own w' w.heap.size 3 1 v n (fun j => [.int .i64 (fr j : Nat)]) ∧ Below w.heap.size w w' := by
  have HC := Lib.hid (fun y w => mulF_any ok x y w)
  have HX := Lib.hid hfr
  clear ok hfr
  go_enter Try.func109, Try.ntmps109
  go_wp2
  go_loopg [9, 10] n (fun gk v i wr => ∃ k : Nat, k ≤ n ∧ gk = n - k ∧ i = .int .i64 k ∧ Own wr w.heap.size 3 1 v k (fun j => [.int .i64 (fr j : Nat)]) ∧ Below w.heap.size w wr)
  case atStart => exact ⟨0, Nat.zero_le _, rfl, rfl, Own.nil _ _ _ _ _, Below.refl _ _⟩
  case round =>
    obtain ⟨k, hk, rfl, rfl, hown, hbel⟩ := hrel
    have hsz := hbel.size
    by_cases hlt : k < n
    · obtain ⟨b1, o1, rfl, hb1, hc1⟩ := hA k hlt
      obtain ⟨b2, o2, rfl, hb2, hc2⟩ := hB k (by omega)
      have hkm : k < m := by omega
      have KS : Hid (∀ w4, Below w.heap.size w w4 → w4.cell? ⟨b1, o1 + k, none⟩ = some (.int .i64 ((row k).val : Nat)) ∧ w4.cell? ⟨b2, o2 + k, none⟩ = some (.int .i64 ((oth k).val : Nat))) := fun w4 hb4 => ⟨(hb4.cell hb1).trans hc1, (hb4.cell hb2).trans hc2⟩
      have HO := Lib.hid hown; have HB := Lib.hid hbel; have HA' := Lib.hid hA; have HB' := Lib.hid hB
      clear hc1 hc2 hown hbel hA hB
      go_wp2_with fail
      have hxx := HX.out k
      generalize row k = y1 at *
      generalize oth k = y2 at *
      have hCC := Lib.hid (HC.out y2)
      generalize (F.m x y2).val = pr at *
      as_aux_lemma =>
        refine wp_region_held2 11 (fun k => Nat.beq k 4 || Nat.beq k 10) (fun _ => false) mixedR (by kernel_rfl) (fun w4 => w4.cell? ⟨b1, o1 + k, none⟩ = some (.int .i64 (y1.val : Nat)) ∧ w4.cell? ⟨b2, o2 + k, none⟩ = some (.int .i64 (y2.val : Nat))) (KS.out _ HB.out.drew) ?_
        simp only [List.take_succ_cons, List.take_zero, List.drop_succ_cons, List.drop_zero, tag]
        repeat (first
          | (refine wpHeld_step ?_ (by rfl) (fun w4 hSw => ?_) ?_; rotate_left; (focus (obtain ⟨s1, s2⟩ := hSw; go_simp; try with_reducible rfl)); simp only [Act.put, List.setIfInBounds_toArray, List.set_cons_zero, List.set_cons_succ])
          | (refine wpHeld_pure ?_ (by rfl) (fun w4 => ?_) ?_; rotate_left; (focus (go_simp; try with_reducible rfl)); simp only [Act.put, List.setIfInBounds_toArray, List.set_cons_zero, List.set_cons_succ]))
        refine wpHeld_nil ?_
        refine wpTailE_step (fun K hK => ?_)
        go_simp
        refine (hCC.out _).mono ?_
        rintro e w4 ⟨rfl, rfl⟩
        dsimp only
        refine hK.out _ _ (fun _ h => h) ?_
        clear hK K
        try simp only [Act.put, List.setIfInBounds_toArray, List.set_cons_zero, List.set_cons_succ]
        refine wpTailE_step (fun K hK => ?_)
        go_simp
        refine hK.out _ _ (fun _ h => h) ?_
        clear hK K
        refine wpTailE_step (fun K hK => ?_)
        go_simp
        refine hK.out _ _ (fun _ _ => KS.out _ (HB.out.alloc hsz _).drew) ?_
        clear hK K
        refine wpTailE_list (fun K hK => ?_)
        change wpList _ _ _ _ _ (World.alloc wr.drew _)
        refine wpList_push _ rfl (.tmp 17) (.tmp 30) 23 rfl w.heap.size 3 1 8 (.int .i64 0) #[.int .i64 (fr k : Nat)] Try.underlying23 intBytes rfl (by decide) _ k _ rfl HO.out hsz _ rfl rfl rfl rfl rfl (by omega) (by omega) ?_
        intro v' w1 hown' hbel' _ _
        have hbel2 : Below w.heap.size w w1 := HB.out.drew.trans hbel'
        refine hK.out _ _ (fun _ _ => KS.out _ hbel2) ?_
        clear hK K
        refine wpTailE_step (fun K hK => ?_)
        go_simp
        refine hK.out _ _ (fun _ h => h) ?_
        clear hK K HO HB hbel'
        refine wpTailE_nil ?_
        go_wp2
        go_roundg (n - (k + 1))
        case measure => omega
        case rel => exact ⟨k + 1, by omega, rfl, by go_num, hown', hbel2⟩
    · have : k = n := by omega
      subst this
      go_wp2
      go_ret
      exact ⟨_, rfl, hown, hbel⟩
theorem less_any {s : Nat} {F : Fd (Fin s)} (ok : FdOk s F) (A B : Option Addr) (n m cA cB : Nat) (row oth : Nat → Fin s) (x : Fin s) (w : World) (hn : n ≤ 1000000) (hnm : n ≤ m) (hm : m ≤ 1000000) (hA : Rd w A n fun j => .int .i64 ((row j).val : Nat)) (hB : Rd w B m fun j => .int .i64 ((oth j).val : Nat)) :
    Calls Try.prog 109 #[.int .i64 (s : Nat), .slice A n cA, .slice B m cB, .int .i64 (x.val : Nat)] w fun e w' => ∃ v, e = .returned v ∧ Own w' w.heap.size 3 1 v n (fun j => [.int .i64 ((F.a (row j) (F.m x (oth j))).val : Nat)]) ∧ Below w.heap.size w w' :=
  less_fr ok A B n m cA cB row oth x (fun j => (F.a (row j) (F.m x (oth j))).val) w hn hnm hm (fun j => by
    have h1 := (row j).isLt; have h2 := (F.m x (oth j)).isLt; have := ok.le
    rw [i64_xor_nat _ _ (by omega) (by omega), ok.add]) hA hB
end Go.Proofs.Ytpocjpodeahanaa
