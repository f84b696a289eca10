/- cleared, over the field of 256: the walk. Conditions: a matrix in memory of its own. -/
import Derived.Test.YtpocjpodeahanaaWoE
import Derived.Test.YtpocjpodeahanaaInvP
namespace Go.Proofs.Ytpocjpodeahanaa
open Go.RowKit

theorem Mx.rowSet {w w' : World} {B b tR e n L M : Nat} {S : Nat → Nat} {f : Nat → Nat → Value} (h : Mx w B b tR e n S L M f) {i : Nat} (hi : i < n) {fi : Nat → Value} (hr : w'.rowIs (S i) e M fi) (hg : w.grownBy w' (some (S i))) :
    Mx w' B b tR e n S L M (fun i' j => if i' = i then fi j else f i' j) := by
  refine ⟨h.top.of_block (hg.block b h.top.lt fun e => h.off i hi (by injection e with e; exact e.symm)), fun i' hi' => ?_, h.lob, h.los, h.inj, h.off⟩
  by_cases e1 : i' = i
  · subst e1; exact hr.congr fun j _ => by simp
  · exact ((h.row i' hi').of_block (hg.block (S i') (h.row i' hi').lt fun e => e1 (h.inj i' i hi' hi (by injection e with e)))).congr fun j _ => by simp [e1]
theorem Mx.swap {w : World} {B b tR e n L M : Nat} {S : Nat → Nat} {f : Nat → Nat → Value} (h : Mx w B b tR e n S L M f) {r t : Nat} (hr : r < n) (ht : t < n) :
    Mx ((w.setCell ⟨b, t, none⟩ (.slice (some ⟨S r, 0, none⟩) L L)).setCell ⟨b, r, none⟩ (.slice (some ⟨S t, 0, none⟩) L L)) B b tR e n (fun i => S (Fd.swp r t i)) L M (fun i => f (Fd.swp r t i)) := by
  refine ⟨((h.top.set t _).set r _).congr fun i hi => ?_, fun i hi => ?_, h.lob, fun i hi => h.los _ (Fd.swp_lt hr ht hi), fun i j hi hj e => ?_, fun i hi => h.off _ (Fd.swp_lt hr ht hi)⟩
  · unfold Fd.swp
    by_cases h1 : i = r
    · subst h1
      by_cases h2 : i = t
      · subst h2; simp
      · simp [h2]
    · by_cases h2 : i = t
      · subst h2; simp [h1]
      · simp [h1, h2]
  · have hs := Fd.swp_lt hr ht hi
    exact ((h.row _ hs).setOther (a := ⟨b, t, none⟩) (h.off _ hs) _).setOther (a := ⟨b, r, none⟩) (h.off _ hs) _
  · have := h.inj _ _ (Fd.swp_lt hr ht hi) (Fd.swp_lt hr ht hj) e
    rw [← Fd.swp_swp r t i, this, Fd.swp_swp]
/-- The row t while it is being scaled, up to place j. -/
def part (x : Fin 256) (t j : Nat) (R : Nat → Nat → Fin 256) (i' j' : Nat) : Fin 256 := if i' = t ∧ j' < j then gE.m (R t j') x else R i' j'
theorem part_next {x : Fin 256} {t j : Nat} {R : Nat → Nat → Fin 256} {i' j' : Nat} : (if i' = t ∧ j' = j then vE (gE.m (R t j) x) else vE (part x t j R i' j')) = vE (part x t (j + 1) R i' j') := by
  unfold part
  by_cases h1 : i' = t
  · subst h1
    by_cases h2 : j' = j
    · subst h2; simp
    · by_cases h3 : j' < j
      · simp [h2, h3, show j' < j + 1 by omega]
      · simp [h2, h3, show ¬ j' < j + 1 by omega]
  · simp [h1]
theorem elm_next {α : Type} {F : Fd α} {c t i : Nat} {R : Nat → Nat → α} (h : i ≠ t) (i' j : Nat) : (if i' = i then F.a (R i j) (F.m (R t j) (R i c)) else F.elm c t i R i' j) = F.elm c t (i + 1) R i' j := by
  unfold Fd.elm
  by_cases e : i' = i
  · subst e; rw [if_pos rfl, if_pos ⟨by omega, h⟩]
  · by_cases h2 : i' < i ∧ i' ≠ t
    · rw [if_neg e, if_pos h2, if_pos ⟨by omega, h2.2⟩]
    · rw [if_neg e, if_neg h2, if_neg (fun h3 => h2 ⟨by omega, h3.2⟩)]
theorem elm_skip {α : Type} {F : Fd α} {c t : Nat} {R : Nat → Nat → α} (i' j : Nat) : F.elm c t t R i' j = F.elm c t (t + 1) R i' j := by
  unfold Fd.elm
  by_cases h2 : i' < t ∧ i' ≠ t
  · rw [if_pos h2, if_pos ⟨by omega, h2.2⟩]
  · rw [if_neg h2, if_neg (fun h3 => h2 ⟨by omega, h3.2⟩)]

set_option maxRecDepth 40000 in
set_option maxHeartbeats 3000000 in
theorem clE_any (b n cap L cols B : Nat) (S : Nat → Nat) (G : Nat → Nat → Fin 256) (w : World) (hn : n ≤ 1000000000) (hL : L ≤ 1000000000) (hcol : cols ≤ L) (hM : Mx w B b 62 34 n S L L (fun i j => vE (G i j))) :
    Calls Try.prog 92 #[.slice (some ⟨b, 0, none⟩) n cap, .int .i64 cols] w fun e w' => ∃ S' G' st p, e = .returned (.int .i64 (st : Nat)) ∧ Mx w' B b 62 34 n S' L L (fun i j => vE (G' i j)) ∧ gE.RR n L cols G G' st p ∧ Below B w w' := by
  go_enter Try.func92, Try.ntmps92
  go_wp2
  go_step3
  go_wp2
  go_step3
  go_wp2
  go_loopg [5, 13] cols (fun gk sv i wr => ∃ (c st : Nat) (S' : Nat → Nat) (G' : Nat → Nat → Fin 256) (p : Nat → Nat), c ≤ cols ∧ gk = cols - c ∧ sv = .int .i64 st ∧ i = .int .i64 c ∧
    Mx wr B b 62 34 n S' L L (fun i j => vE (G' i j)) ∧ gE.RR n L c G G' st p ∧ Below B w wr)
  case atStart => exact ⟨0, 0, S, G, fun _ => 0, Nat.zero_le _, rfl, rfl, rfl, hM, Fd.RR.start _ _ _ _, Below.refl _ _⟩
  case round =>
    clear hM
    obtain ⟨c, st, S', G', p, hc, rfl, rfl, rfl, hM, hRR, hbel⟩ := hrel
    obtain ⟨wo, rfl⟩ : ∃ wo : World, wo = wr := ⟨_, rfl⟩
    have hst := hRR.le
    by_cases hlt : c < cols
    · have hR := Lib.hid hRR; clear hRR
      have hM' := Lib.hid hM; have hbel' := Lib.hid hbel; clear hM hbel
      go_wp2
      go_loopg [5, 7] (n - st) (fun gk sv rv w2 => w2 = wo ∧ sv = .int .i64 (st : Nat) ∧ ∃ r : Nat, st ≤ r ∧ r ≤ n ∧ gk = n - r ∧ rv = .int .i64 r ∧ ∀ i, st ≤ i → i < r → G' i c = gE.z)
      case atStart => exact ⟨rfl, rfl, st, Nat.le_refl _, hst, rfl, rfl, fun i h1 h2 => absurd h2 (by omega)⟩
      case round =>
        obtain ⟨rfl, rfl, r, hr1, hr2, rfl, rfl, hz⟩ := hrel
        have HZ := Lib.hid hz; clear hz
        by_cases hrn : r < n
        · have htop : wr.cell? ⟨b, r, none⟩ = some (.slice (some ⟨S' r, 0, none⟩) L L) := hM'.out.top.cell hrn
          have hcel : wr.cell? ⟨S' r, c, none⟩ = some (.int .u8 ((G' r c).val : Int)) := (hM'.out.row r hrn).cell (show c < L by omega)
          by_cases hx : G' r c = gE.z
          · have t1 := zG_true hx
            have HX := Lib.hid hx; clear hx
            go_wp2_with (first
              | (go_at_call 130; (with_reducible refine (iG_any _ _).mono ?_); rintro e w4 ⟨rfl, rfl⟩)
              | (go_at_call 131; (with_reducible refine (zG_any _ _).mono ?_); rintro e w4 ⟨rfl, rfl⟩))
            go_roundg (n - (r + 1))
            case measure => omega
            case rel => exact ⟨rfl, rfl, r + 1, by omega, by omega, rfl, by go_num, fun i h1 h2 => by
              by_cases e : i = r
              · rw [e]; exact HX.out
              · exact HZ.out i h1 (by omega)⟩
          · have t1 := zG_false hx
            have HX := Lib.hid hx; clear hx HZ
            have hstn : st < n := by omega
            have htop2 : wr.cell? ⟨b, st, none⟩ = some (.slice (some ⟨S' st, 0, none⟩) L L) := hM'.out.top.cell hstn
            have hf1 := hM'.out.top.frozen r
            have hf2 := hM'.out.top.frozen st
            have hsw := Lib.hid (Mx.swap hM'.out hrn hstn)
            have htop3 := hsw.out.top.cell hstn
            rw [show Fd.swp r st st = r from if_pos rfl] at htop3
            have hbs := Lib.hid ((hbel'.out.setCell (p := ⟨b, st, none⟩) hM'.out.lob (.slice (some ⟨S' r, 0, none⟩) L L)).setCell (p := ⟨b, r, none⟩) hM'.out.lob (.slice (some ⟨S' st, 0, none⟩) L L))
            go_wp2_with (first
              | (go_at_call 130; (with_reducible refine (iG_any _ _).mono ?_); rintro e w4 ⟨rfl, rfl⟩)
              | (go_at_call 131; (with_reducible refine (zG_any _ _).mono ?_); rintro e w4 ⟨rfl, rfl⟩))
            clear hcel t1
            obtain ⟨v', hv'⟩ := cell?_setCell_some (w := wr) (p := ⟨b, st, none⟩) (x := .slice (some ⟨S' r, 0, none⟩) L L) (q := ⟨b, r, none⟩) (v := .slice (some ⟨S' r, 0, none⟩) L L) htop
            refine wp_region_held2 13 (fun k => Nat.beq k 7 || Nat.beq k 11) (fun _ => true) mixed (by kernel_rfl) (· = wr.drew) rfl ?_
            change wpHeld _ _ _ (fun a' => wpTailE _ _ _ _ _ a' wr.drew) _ _
            simp only [List.take_succ_cons, List.take_zero, List.drop_succ_cons, List.drop_zero, tag]
            repeat (first
              | (refine wpHeld_step ?_ (by rfl) (fun w4 hSw => ?_) ?_; rotate_left; (focus (subst hSw; go_simp; try with_reducible rfl)); simp only [Act.put, List.setIfInBounds_toArray, List.set_cons_zero, List.set_cons_succ])
              | (refine wpHeld_pure ?_ (by rfl) (fun w4 => ?_) ?_; rotate_left; (focus (go_simp; try with_reducible rfl)); simp only [Act.put, List.setIfInBounds_toArray, List.set_cons_zero, List.set_cons_succ]))
            refine wpHeld_nil ?_
            refine wpTailE_step (fun K hK => ?_)
            go_simp
            refine hK.out _ _ (fun h => absurd h (by decide)) ?_
            clear hK K
            refine wpTailE_step (fun K hK => ?_)
            go_simp
            refine hK.out _ _ (fun h => absurd h (by decide)) ?_
            clear hK K
            refine wpTailE_step (fun K hK => ?_)
            go_simp
            refine hK.out _ _ (fun h => absurd h (by decide)) ?_
            clear hK K
            refine wpTailE_nil ?_
            go_wp2
            clear htop htop2 hf1 hf2 hv' htop3 hM' hbel'
            have hM1 := hsw.out.drew
            have hb1 := hbs.out.drew
            clear hsw hbs
            generalize ((wr.setCell ⟨b, st, none⟩ (.slice (some ⟨S' r, 0, none⟩) L L)).setCell ⟨b, r, none⟩ (.slice (some ⟨S' st, 0, none⟩) L L)).drew = W1 at *
            have hR2 := Lib.hid (hR.out.pivot hr1 hrn HX.out)
            clear hR HX
            generalize hov : gE.v (G' r c) = ov at *
            clear hov
            generalize hRw : (fun i => G' (Fd.swp r st i)) = R at *
            have hM1 : Mx W1 B b 62 34 n (fun i => S' (Fd.swp r st i)) L L (fun i j => vE (R i j)) := by rw [← hRw]; exact hM1
            clear hRw
            generalize (fun i => S' (Fd.swp r st i)) = S1 at *
            go_loopg [67] L (fun gk i w3 => ∃ j : Nat, j ≤ L ∧ gk = L - j ∧ i = .int .i64 j ∧ Below B w w3 ∧ Mx w3 B b 62 34 n S1 L L (fun i' j' => vE (part ov st j R i' j')))
            case atStart => exact ⟨0, Nat.zero_le _, rfl, rfl, hb1, hM1.congr fun i j _ _ => by simp [part]⟩
            case round =>
              clear hM1 hb1
              obtain ⟨j, hj, rfl, rfl, hb1, hM1⟩ := hrel
              by_cases hlj : j < L
              · have htop := hM1.top.cell hstn
                have hcel : wr.cell? ⟨S1 st, j, none⟩ = some (.int .u8 ((R st j).val : Int)) := by rw [(hM1.row st hstn).cell hlj]; simp [part, vE]
                have hfz := (hM1.row st hstn).frozen j
                have hS := Lib.hid (hM1.drew.set hstn j (vE (gE.m (R st j) ov)))
                have hB := Lib.hid (hb1.drew.setCell (p := ⟨S1 st, j, none⟩) (hM1.los st hstn) (vE (gE.m (R st j) ov)))
                have HN : Hid (∀ i' j', (if i' = st ∧ j' = j then vE (gE.m (R st j) ov) else vE (part ov st j R i' j')) = vE (part ov st (j + 1) R i' j')) := fun i' j' => part_next
                clear hM1 hb1
                go_wp2_with fail
                generalize R st j = x at *
                as_aux_lemma =>
                  refine wp_region_still_tail 16 mixed (by kernel_rfl) ?_
                  simp only [List.take_succ_cons, List.take_zero, List.drop_succ_cons, List.drop_zero]
                  repeat still_step
                  have hm1 := mE_times
                  refine wpStill_step (fun K hK => ?_)
                  go_simp
                  refine ⟨_, (tG_any x ov _).mono (fun _ _ h => ⟨h.1, h.2.symm⟩), hK _ ?_⟩
                  clear hK K hm1
                  repeat still_step
                  refine wpStill_nil ?_
                  change wpList _ _ _ _ _ wr.drew
                  go_wp2
                  go_roundg (L - (j + 1))
                  case measure => omega
                  case rel => exact ⟨j + 1, by omega, rfl, by go_num, hB.out, hS.out.congr fun i' j' _ _ => HN.out i' j'⟩
              · have : j = L := by omega
                subst this
                have hM1 := hM1.congr (g := fun i' j' => vE (gE.scl ov st R i' j')) fun i' j' _ hj' => by unfold part Fd.scl; by_cases e : i' = st <;> simp [e, hj']
                generalize gE.scl ov st R = N at *
                go_wp2
                go_loopg [89] n (fun gk i w3 => ∃ t : Nat, t ≤ n ∧ gk = n - t ∧ i = .int .i64 t ∧ Below B w w3 ∧ Mx w3 B b 62 34 n S1 j j (fun i' j' => vE (gE.elm c st t N i' j')))
                case atStart => exact ⟨0, Nat.zero_le _, rfl, rfl, hb1, hM1.congr fun i j _ _ => by simp [Fd.elm]⟩
                case round =>
                  clear hM1 hb1
                  obtain ⟨t, ht, rfl, rfl, hb1, hM1⟩ := hrel
                  by_cases hlt3 : t < n
                  · by_cases hts : t = st
                    · have t1 : ((t : Int) != (st : Int)) = false := by simp [hts]
                      have HT := Lib.hid hts; clear hts
                      go_wp2
                      go_roundg (n - (t + 1))
                      case measure => omega
                      case rel => exact ⟨t + 1, by omega, rfl, by go_num, hb1, hM1.congr fun i' j' _ _ => by rw [HT.out, ← elm_skip]⟩
                    · have t1 : ((t : Int) != (st : Int)) = true := by rw [bne_iff_ne]; omega
                      have htop1 := hM1.top.cell hlt3
                      have htop2 := hM1.top.cell hstn
                      have hcl : c < j := by omega
                      have hcel : wr.cell? ⟨S1 t, c, none⟩ = some (.int .u8 ((N t c).val : Int)) := by rw [(hM1.row t hlt3).cell hcl]; simp [Fd.elm, vE]
                      have HC := Lib.hid (woE_any (S1 t) (S1 st) j j j (fun q => N t q) (fun q => N st q) (N t c) wr.drew hL (fun e => hts (hM1.inj _ _ hlt3 hstn e)) ((hM1.row t hlt3).drew.congr fun q _ => by simp [Fd.elm]) ((hM1.row st hstn).drew.congr fun q _ => by simp [Fd.elm]))
                      have HM := Lib.hid hM1.drew
                      have HB := Lib.hid hb1.drew
                      have HTS := Lib.hid hts
                      clear hts hM1 hb1
                      go_wp2_with fail
                      as_aux_lemma =>
                        refine wp_region_still_tail 15 mixed (by kernel_rfl) ?_
                        simp only [List.take_succ_cons, List.take_zero, List.drop_succ_cons, List.drop_zero]
                        repeat still_step
                        refine wpStill_nil ?_
                        change wpList _ _ _ _ _ wr.drew
                        go_wp2_with fail
                        refine HC.out.mono ?_
                        rintro e w5 ⟨rfl, hr5, hg5⟩
                        have hM5 := (HM.out.rowSet hlt3 hr5 hg5).congr (g := fun i' j' => vE (gE.elm c st (t + 1) N i' j')) fun i' j' _ _ => by rw [← elm_next HTS.out]; split <;> rfl
                        have hb5 := HB.out.grown hg5 (Nat.le_trans HM.out.lob (Nat.le_of_lt HM.out.top.lt)) (fun k hk => by injection hk with hk; rw [← hk]; exact HM.out.los t hlt3)
                        clear HC HM HB hr5 hg5 htop1 htop2 hcel
                        go_wp2
                        go_roundg (n - (t + 1))
                        case measure => omega
                        case rel => exact ⟨t + 1, by omega, rfl, by go_num, hb5, hM5⟩
                  · have : t = n := by omega
                    subst this
                    go_wp2
                    go_roundg (cols - (c + 1))
                    case measure => omega
                    case rel => exact ⟨c + 1, st + 1, S1, _, _, by omega, rfl, by go_num, by go_num, hM1, hR2.out, hb1⟩
        · have : r = n := by omega
          subst this
          go_wp2
          go_roundg (cols - (c + 1))
          case measure => omega
          case rel => exact ⟨c + 1, st, S', G', p, by omega, rfl, rfl, by go_num, hM'.out, hR.out.skip HZ.out, hbel'.out⟩
    · have : c = cols := by omega
      subst this
      go_wp2
      rw [Exit.noGoto_ret]
      go_ret
      exact ⟨S', G', st, p, rfl, hM, hRR, hbel⟩
end Go.Proofs.Ytpocjpodeahanaa
