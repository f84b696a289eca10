/- The calls of an element of the field of two, over the plain field. Conditions: none. -/
import Derived.Test.YtpocjpodeahanaaClE
import Derived.Test.YtpocjpodeahanaaMulBF
import Derived.Test.YtpocjpodeahanaaInvP
namespace Go.Proofs.Ytpocjpodeahanaa
open Go.RowKit

/-- An element as a value. -/
def vB (x : Fin 2) : Value := .bool (bB x.val)
/-- Is it one? (Behind a name that the walk does not open.) -/
def nzB (x : Fin 2) : Bool := bB x.val
theorem mB_times (n : Nat) (x : Bool) (w : World) : (method (n + 1) 40 (.bool x) "Times").run Try.prog w = .ok (138, .bool x) w := by kernel_rfl
theorem mB_plus (n : Nat) (x : Bool) (w : World) : (method (n + 1) 40 (.bool x) "Plus").run Try.prog w = .ok (137, .bool x) w := by kernel_rfl
theorem fin2_cases (x : Fin 2) : x = ⟨0, by decide⟩ ∨ x = ⟨1, by decide⟩ := by
  obtain ⟨x, h⟩ := x
  rcases (by omega : x = 0 ∨ x = 1) with e | e <;> subst e
  · exact .inl rfl
  · exact .inr rfl
theorem tB_any (x y : Fin 2) (w : World) : Calls Try.prog 138 #[.bool (bB x.val), .bool (bB y.val)] w fun e w' => e = .returned (.bool (bB (gB.m x y).val)) ∧ w = w' := by
  have h := timesB_any (bB x.val) (bB y.val) w
  have e : bB (gB.m x y).val = (bB x.val && bB y.val) := bB_mul x.isLt y.isLt
  rw [e]; exact h
theorem pB_any (x y : Fin 2) (w : World) : Calls Try.prog 137 #[.bool (bB x.val), .bool (bB y.val)] w fun e w' => e = .returned (.bool (bB (gB.a x y).val)) ∧ w = w' := by
  rcases fin2_cases x with h | h <;> rcases fin2_cases y with h2 | h2 <;> subst h <;> subst h2 <;>
  · go_enter Try.func137, Try.ntmps137
    go_wp2
    go_ret
    exact ⟨rfl, rfl⟩
theorem zB_any (x : Fin 2) (w : World) : Calls Try.prog 136 #[.bool (bB x.val)] w fun e w' => e = .returned (.bool (!bB x.val)) ∧ w = w' := by
  go_enter Try.func136, Try.ntmps136
  go_wp2
  go_ret
  exact ⟨rfl, rfl⟩
theorem iB_any (x : Fin 2) (w : World) : Calls Try.prog 135 #[.bool (bB x.val)] w fun e w' => e = .returned (.tuple #[.bool (bB (gB.v x).val), .bool (nzB x)]) ∧ w = w' := by
  go_enter Try.func135, Try.ntmps135
  go_wp2
  go_ret2
  exact ⟨rfl, rfl⟩
theorem zB_true {x : Fin 2} (h : x = gB.z) : (!bB x.val) = true := by subst h; rfl
theorem zB_false {x : Fin 2} (h : x ≠ gB.z) : (!bB x.val) = false := by
  rcases fin2_cases x with e | e
  · exact absurd e h
  · subst e; rfl
theorem nB_false {x : Fin 2} (h : x = gB.z) : nzB x = false := by subst h; rfl
theorem nB_true {x : Fin 2} (h : x ≠ gB.z) : nzB x = true := by
  rcases fin2_cases x with e | e
  · exact absurd e h
  · subst e; rfl
end Go.Proofs.Ytpocjpodeahanaa

/- without, over the field of two: the walk. Conditions: two rows in memory of their own. -/
namespace Go.Proofs.Ytpocjpodeahanaa
open Go.RowKit

set_option maxRecDepth 20000 in
set_option maxHeartbeats 800000 in
theorem woB_any (g h L c1 c2 : Nat) (f k : Nat → Fin 2) (x : Fin 2) (w : World) (hL : L ≤ 1000000000) (hgh : g ≠ h) (hf : w.rowIs g 40 L (fun j => vB (f j))) (hk : w.rowIs h 40 L (fun j => vB (k j))) :
    Calls Try.prog 112 #[.slice (some ⟨g, 0, none⟩) L c1, .slice (some ⟨h, 0, none⟩) L c2, .bool (bB x.val)] w fun e w' => e = .returned (.tuple #[]) ∧ w'.rowIs g 40 L (fun j => vB (gB.a (f j) (gB.m (k j) x))) ∧ w.grownBy w' (some g) := by
  have CZ := Lib.hid (fun w => zB_any x w)
  by_cases hx : x = gB.z
  · have t1 := zB_true hx; have t2 := nB_false hx
    have HF : Hid (w.rowIs g 40 L (fun j => vB (gB.a (f j) (gB.m (k j) x)))) := hf.congr fun j _ => by rw [hx, gB.m_z, gB.a_z]
    clear hx hf hk
    go_enter Try.func112, Try.ntmps112
    go_wp2_with (go_at_call 136; (with_reducible refine (CZ.out _).mono ?_); rintro e w4 ⟨rfl, rfl⟩)
    exact bodyPost_ret (v := .tuple #[]) (by simp [results, Try.results112, go_sem]) rfl ⟨rfl, HF.out, World.grownBy.refl _ _⟩
  · have t1 := zB_false hx; have t2 := nB_true hx
    clear hx
    go_enter Try.func112, Try.ntmps112
    go_wp2_with (go_at_call 136; (with_reducible refine (CZ.out _).mono ?_); rintro e w4 ⟨rfl, rfl⟩)
    clear t1 CZ
    go_loopg [6, 12] L (fun gk _ i wr => ∃ j : Nat, j ≤ L ∧ gk = L - j ∧ i = .int .i64 j ∧ wr.rowIs g 40 L (upto j (fun j => vB (f j)) (fun j => vB (gB.a (f j) (gB.m (k j) x)))) ∧ w.grownBy wr (some g))
    case atStart => exact ⟨0, Nat.zero_le _, rfl, rfl, hf.congr fun j _ => by simp [upto], World.grownBy.refl _ _⟩
    case round =>
      obtain ⟨j, hj, rfl, rfl, hr, hg⟩ := hrel
      by_cases hlt : j < L
      · have hl := hf.lt
        have hc1 : wr.cell? ⟨g, j, none⟩ = some (.bool (bB (f j).val)) := by rw [hr.cell hlt]; simp [upto, vB]
        have hc2 : wr.cell? ⟨h, j, none⟩ = some (.bool (bB (k j).val)) := (grown_cell (p := ⟨h, j, none⟩) hg hk.lt (by simp; exact fun e => hgh e.symm)).trans (hk.cell hlt)
        have hfz := hr.frozen j
        have HS := Lib.hid (fun v => hr.drew.set j v)
        have HG := Lib.hid (fun v => (hg.trans (grown_drew wr (some g))).trans (grown_set (w := wr.drew) (a := ⟨g, j, none⟩) rfl v))
        have HN : Hid (∀ q, (if q = j then vB (gB.a (f j) (gB.m (k j) x)) else upto j (fun j => vB (f j)) (fun j => vB (gB.a (f j) (gB.m (k j) x))) q) = upto (j + 1) (fun j => vB (f j)) (fun j => vB (gB.a (f j) (gB.m (k j) x))) q) := fun q => upto_next
        clear hr hg
        go_wp2_with fail
        generalize f j = F at *
        generalize k j = y at *
        as_aux_lemma =>
          refine wp_region_still_tail 16 mixed (by kernel_rfl) ?_
          simp only [List.take_succ_cons, List.take_zero, List.drop_succ_cons, List.drop_zero]
          repeat still_step
          have hm1 := mB_times
          refine wpStill_step (fun K hK => ?_)
          go_simp
          refine ⟨_, (tB_any y x _).mono (fun _ _ h => ⟨h.1, h.2.symm⟩), hK _ ?_⟩
          clear hK K hm1
          have hm2 := mB_plus
          refine wpStill_step (fun K hK => ?_)
          go_simp
          refine ⟨_, (pB_any F (gB.m y x) _).mono (fun _ _ h => ⟨h.1, h.2.symm⟩), hK _ ?_⟩
          clear hK K hm2
          repeat still_step
          refine wpStill_nil ?_
          change wpList _ _ _ _ _ wr.drew
          go_wp2
          go_roundg (L - (j + 1))
          case measure => omega
          case rel => exact ⟨j + 1, by omega, rfl, by go_num, (HS.out _).congr fun q _ => HN.out q, HG.out _⟩
      · have : j = L := by omega
        subst this
        go_wp2
        go_end0
        exact ⟨rfl, hr.congr fun q hq => by simp [upto, hq], hg⟩
end Go.Proofs.Ytpocjpodeahanaa

/- cleared, over the field of two: the walk. Conditions: a matrix in memory of its own. -/
namespace Go.Proofs.Ytpocjpodeahanaa
open Go.RowKit

/-- The row t while it is being scaled, up to place j. -/
def partB (x : Fin 2) (t j : Nat) (R : Nat → Nat → Fin 2) (i' j' : Nat) : Fin 2 := if i' = t ∧ j' < j then gB.m (R t j') x else R i' j'
theorem partB_next {x : Fin 2} {t j : Nat} {R : Nat → Nat → Fin 2} {i' j' : Nat} : (if i' = t ∧ j' = j then vB (gB.m (R t j) x) else vB (partB x t j R i' j')) = vB (partB x t (j + 1) R i' j') := by
  unfold partB
  by_cases h1 : i' = t
  · subst h1
    by_cases h2 : j' = j
    · subst h2; simp
    · by_cases h3 : j' < j
      · simp [h2, h3, show j' < j + 1 by omega]
      · simp [h2, h3, show ¬ j' < j + 1 by omega]
  · simp [h1]
set_option maxRecDepth 40000 in
set_option maxHeartbeats 3000000 in
theorem clB_any (b n cap L cols B : Nat) (S : Nat → Nat) (G : Nat → Nat → Fin 2) (w : World) (hn : n ≤ 1000000000) (hL : L ≤ 1000000000) (hcol : cols ≤ L) (hM : Mx w B b 65 40 n S L L (fun i j => vB (G i j))) :
    Calls Try.prog 94 #[.slice (some ⟨b, 0, none⟩) n cap, .int .i64 cols] w fun e w' => ∃ S' G' st p, e = .returned (.int .i64 (st : Nat)) ∧ Mx w' B b 65 40 n S' L L (fun i j => vB (G' i j)) ∧ gB.RR n L cols G G' st p ∧ Below B w w' := by
  go_enter Try.func94, Try.ntmps94
  go_wp2
  go_step3
  go_wp2
  go_step3
  go_wp2
  go_loopg [5, 13] cols (fun gk sv i wr => ∃ (c st : Nat) (S' : Nat → Nat) (G' : Nat → Nat → Fin 2) (p : Nat → Nat), c ≤ cols ∧ gk = cols - c ∧ sv = .int .i64 st ∧ i = .int .i64 c ∧
    Mx wr B b 65 40 n S' L L (fun i j => vB (G' i j)) ∧ gB.RR n L c G G' st p ∧ Below B w wr)
  case atStart => exact ⟨0, 0, S, G, fun _ => 0, Nat.zero_le _, rfl, rfl, rfl, hM, Fd.RR.start _ _ _ _, Below.refl _ _⟩
  case round =>
    clear hM
    obtain ⟨c, st, S', G', p, hc, rfl, rfl, rfl, hM, hRR, hbel⟩ := hrel
    obtain ⟨wo, rfl⟩ : ∃ wo : World, wo = wr := ⟨_, rfl⟩
    have hst := hRR.le
    by_cases hlt : c < cols
    · have hR := Lib.hid hRR; clear hRR
      have hM' := Lib.hid hM; have hbel' := Lib.hid hbel; clear hM hbel
      go_wp2
      go_loopg [5, 7] (n - st) (fun gk sv rv w2 => w2 = wo ∧ sv = .int .i64 (st : Nat) ∧ ∃ r : Nat, st ≤ r ∧ r ≤ n ∧ gk = n - r ∧ rv = .int .i64 r ∧ ∀ i, st ≤ i → i < r → G' i c = gB.z)
      case atStart => exact ⟨rfl, rfl, st, Nat.le_refl _, hst, rfl, rfl, fun i h1 h2 => absurd h2 (by omega)⟩
      case round =>
        obtain ⟨rfl, rfl, r, hr1, hr2, rfl, rfl, hz⟩ := hrel
        have HZ := Lib.hid hz; clear hz
        by_cases hrn : r < n
        · have htop : wr.cell? ⟨b, r, none⟩ = some (.slice (some ⟨S' r, 0, none⟩) L L) := hM'.out.top.cell hrn
          have hcel : wr.cell? ⟨S' r, c, none⟩ = some (.bool (bB (G' r c).val)) := (hM'.out.row r hrn).cell (show c < L by omega)
          by_cases hx : G' r c = gB.z
          · have t1 := zB_true hx; have t2 := nB_false hx
            have HX := Lib.hid hx; clear hx
            go_wp2_with (first
              | (go_at_call 135; (with_reducible refine (iB_any _ _).mono ?_); rintro e w4 ⟨rfl, rfl⟩)
              | (go_at_call 136; (with_reducible refine (zB_any _ _).mono ?_); rintro e w4 ⟨rfl, rfl⟩))
            go_roundg (n - (r + 1))
            case measure => omega
            case rel => exact ⟨rfl, rfl, r + 1, by omega, by omega, rfl, by go_num, fun i h1 h2 => by
              by_cases e : i = r
              · rw [e]; exact HX.out
              · exact HZ.out i h1 (by omega)⟩
          · have t1 := zB_false hx; have t2 := nB_true hx
            have HX := Lib.hid hx; clear hx HZ
            have hstn : st < n := by omega
            have htop2 : wr.cell? ⟨b, st, none⟩ = some (.slice (some ⟨S' st, 0, none⟩) L L) := hM'.out.top.cell hstn
            have hf1 := hM'.out.top.frozen r
            have hf2 := hM'.out.top.frozen st
            have hsw := Lib.hid (Mx.swap hM'.out hrn hstn)
            have htop3 := hsw.out.top.cell hstn
            rw [show Fd.swp r st st = r from if_pos rfl] at htop3
            have hbs := Lib.hid ((hbel'.out.setCell (p := ⟨b, st, none⟩) hM'.out.lob (.slice (some ⟨S' r, 0, none⟩) L L)).setCell (p := ⟨b, r, none⟩) hM'.out.lob (.slice (some ⟨S' st, 0, none⟩) L L))
            go_wp2_with (first
              | (go_at_call 135; (with_reducible refine (iB_any _ _).mono ?_); rintro e w4 ⟨rfl, rfl⟩)
              | (go_at_call 136; (with_reducible refine (zB_any _ _).mono ?_); rintro e w4 ⟨rfl, rfl⟩))
            clear hcel t1 t2
            obtain ⟨v', hv'⟩ := cell?_setCell_some (w := wr) (p := ⟨b, st, none⟩) (x := .slice (some ⟨S' r, 0, none⟩) L L) (q := ⟨b, r, none⟩) (v := .slice (some ⟨S' r, 0, none⟩) L L) htop
            refine wp_region_held2 13 (fun k => Nat.beq k 7 || Nat.beq k 11) (fun _ => true) mixed (by kernel_rfl) (· = wr.drew) rfl ?_
            change wpHeld _ _ _ (fun a' => wpTailE _ _ _ _ _ a' wr.drew) _ _
            simp only [List.take_succ_cons, List.take_zero, List.drop_succ_cons, List.drop_zero, tag]
            repeat (first
              | (refine wpHeld_step ?_ (by rfl) (fun w4 hSw => ?_) ?_; rotate_left; (focus (subst hSw; go_simp; try with_reducible rfl)); simp only [Act.put, List.setIfInBounds_toArray, List.set_cons_zero, List.set_cons_succ])
              | (refine wpHeld_pure ?_ (by rfl) (fun w4 => ?_) ?_; rotate_left; (focus (go_simp; try with_reducible rfl)); simp only [Act.put, List.setIfInBounds_toArray, List.set_cons_zero, List.set_cons_succ]))
            refine wpHeld_nil ?_
            refine wpTailE_step (fun K hK => ?_)
            go_simp
            refine hK.out _ _ (fun h => absurd h (by decide)) ?_
            clear hK K
            refine wpTailE_step (fun K hK => ?_)
            go_simp
            refine hK.out _ _ (fun h => absurd h (by decide)) ?_
            clear hK K
            refine wpTailE_step (fun K hK => ?_)
            go_simp
            refine hK.out _ _ (fun h => absurd h (by decide)) ?_
            clear hK K
            refine wpTailE_nil ?_
            go_wp2
            clear htop htop2 hf1 hf2 hv' htop3 hM' hbel'
            have hM1 := hsw.out.drew
            have hb1 := hbs.out.drew
            clear hsw hbs
            generalize ((wr.setCell ⟨b, st, none⟩ (.slice (some ⟨S' r, 0, none⟩) L L)).setCell ⟨b, r, none⟩ (.slice (some ⟨S' st, 0, none⟩) L L)).drew = W1 at *
            have hR2 := Lib.hid (hR.out.pivot hr1 hrn HX.out)
            clear hR HX
            generalize hov : gB.v (G' r c) = ov at *
            clear hov
            generalize hRw : (fun i => G' (Fd.swp r st i)) = R at *
            have hM1 : Mx W1 B b 65 40 n (fun i => S' (Fd.swp r st i)) L L (fun i j => vB (R i j)) := by rw [← hRw]; exact hM1
            clear hRw
            generalize (fun i => S' (Fd.swp r st i)) = S1 at *
            go_loopg [67] L (fun gk i w3 => ∃ j : Nat, j ≤ L ∧ gk = L - j ∧ i = .int .i64 j ∧ Below B w w3 ∧ Mx w3 B b 65 40 n S1 L L (fun i' j' => vB (partB ov st j R i' j')))
            case atStart => exact ⟨0, Nat.zero_le _, rfl, rfl, hb1, hM1.congr fun i j _ _ => by simp [partB]⟩
            case round =>
              clear hM1 hb1
              obtain ⟨j, hj, rfl, rfl, hb1, hM1⟩ := hrel
              by_cases hlj : j < L
              · have htop := hM1.top.cell hstn
                have hcel : wr.cell? ⟨S1 st, j, none⟩ = some (.bool (bB (R st j).val)) := by rw [(hM1.row st hstn).cell hlj]; simp [partB, vB]
                have hfz := (hM1.row st hstn).frozen j
                have hS := Lib.hid (hM1.drew.set hstn j (vB (gB.m (R st j) ov)))
                have hB := Lib.hid (hb1.drew.setCell (p := ⟨S1 st, j, none⟩) (hM1.los st hstn) (vB (gB.m (R st j) ov)))
                have HN : Hid (∀ i' j', (if i' = st ∧ j' = j then vB (gB.m (R st j) ov) else vB (partB ov st j R i' j')) = vB (partB ov st (j + 1) R i' j')) := fun i' j' => partB_next
                clear hM1 hb1
                go_wp2_with fail
                generalize R st j = x at *
                as_aux_lemma =>
                  refine wp_region_still_tail 16 mixed (by kernel_rfl) ?_
                  simp only [List.take_succ_cons, List.take_zero, List.drop_succ_cons, List.drop_zero]
                  repeat still_step
                  have hm1 := mB_times
                  refine wpStill_step (fun K hK => ?_)
                  go_simp
                  refine ⟨_, (tB_any x ov _).mono (fun _ _ h => ⟨h.1, h.2.symm⟩), hK _ ?_⟩
                  clear hK K hm1
                  repeat still_step
                  refine wpStill_nil ?_
                  change wpList _ _ _ _ _ wr.drew
                  go_wp2
                  go_roundg (L - (j + 1))
                  case measure => omega
                  case rel => exact ⟨j + 1, by omega, rfl, by go_num, hB.out, hS.out.congr fun i' j' _ _ => HN.out i' j'⟩
              · have : j = L := by omega
                subst this
                have hM1 := hM1.congr (g := fun i' j' => vB (gB.scl ov st R i' j')) fun i' j' _ hj' => by unfold partB Fd.scl; by_cases e : i' = st <;> simp [e, hj']
                generalize gB.scl ov st R = N at *
                go_wp2
                go_loopg [89] n (fun gk i w3 => ∃ t : Nat, t ≤ n ∧ gk = n - t ∧ i = .int .i64 t ∧ Below B w w3 ∧ Mx w3 B b 65 40 n S1 j j (fun i' j' => vB (gB.elm c st t N i' j')))
                case atStart => exact ⟨0, Nat.zero_le _, rfl, rfl, hb1, hM1.congr fun i j _ _ => by simp [Fd.elm]⟩
                case round =>
                  clear hM1 hb1
                  obtain ⟨t, ht, rfl, rfl, hb1, hM1⟩ := hrel
                  by_cases hlt3 : t < n
                  · by_cases hts : t = st
                    · have t1 : ((t : Int) != (st : Int)) = false := by simp [hts]
                      have HT := Lib.hid hts; clear hts
                      go_wp2
                      go_roundg (n - (t + 1))
                      case measure => omega
                      case rel => exact ⟨t + 1, by omega, rfl, by go_num, hb1, hM1.congr fun i' j' _ _ => by rw [HT.out, ← elm_skip]⟩
                    · have t1 : ((t : Int) != (st : Int)) = true := by rw [bne_iff_ne]; omega
                      have htop1 := hM1.top.cell hlt3
                      have htop2 := hM1.top.cell hstn
                      have hcl : c < j := by omega
                      have hcel : wr.cell? ⟨S1 t, c, none⟩ = some (.bool (bB (N t c).val)) := by rw [(hM1.row t hlt3).cell hcl]; simp [Fd.elm, vB]
                      have HC := Lib.hid (woB_any (S1 t) (S1 st) j j j (fun q => N t q) (fun q => N st q) (N t c) wr.drew hL (fun e => hts (hM1.inj _ _ hlt3 hstn e)) ((hM1.row t hlt3).drew.congr fun q _ => by simp [Fd.elm]) ((hM1.row st hstn).drew.congr fun q _ => by simp [Fd.elm]))
                      have HM := Lib.hid hM1.drew
                      have HB := Lib.hid hb1.drew
                      have HTS := Lib.hid hts
                      clear hts hM1 hb1
                      go_wp2_with fail
                      as_aux_lemma =>
                        refine wp_region_still_tail 15 mixed (by kernel_rfl) ?_
                        simp only [List.take_succ_cons, List.take_zero, List.drop_succ_cons, List.drop_zero]
                        repeat still_step
                        refine wpStill_nil ?_
                        change wpList _ _ _ _ _ wr.drew
                        go_wp2_with fail
                        refine HC.out.mono ?_
                        rintro e w5 ⟨rfl, hr5, hg5⟩
                        have hM5 := (HM.out.rowSet hlt3 hr5 hg5).congr (g := fun i' j' => vB (gB.elm c st (t + 1) N i' j')) fun i' j' _ _ => by rw [← elm_next HTS.out]; split <;> rfl
                        have hb5 := HB.out.grown hg5 (Nat.le_trans HM.out.lob (Nat.le_of_lt HM.out.top.lt)) (fun k hk => by injection hk with hk; rw [← hk]; exact HM.out.los t hlt3)
                        clear HC HM HB hr5 hg5 htop1 htop2 hcel
                        go_wp2
                        go_roundg (n - (t + 1))
                        case measure => omega
                        case rel => exact ⟨t + 1, by omega, rfl, by go_num, hb5, hM5⟩
                  · have : t = n := by omega
                    subst this
                    go_wp2
                    go_roundg (cols - (c + 1))
                    case measure => omega
                    case rel => exact ⟨c + 1, st + 1, S1, _, _, by omega, rfl, by go_num, by go_num, hM1, hR2.out, hb1⟩
        · have : r = n := by omega
          subst this
          go_wp2
          go_roundg (cols - (c + 1))
          case measure => omega
          case rel => exact ⟨c + 1, st, S', G', p, by omega, rfl, rfl, by go_num, hM'.out, hR.out.skip HZ.out, hbel'.out⟩
    · have : c = cols := by omega
      subst this
      go_wp2
      rw [Exit.noGoto_ret]
      go_ret
      exact ⟨S', G', st, p, rfl, hM, hRR, hbel⟩
end Go.Proofs.Ytpocjpodeahanaa
