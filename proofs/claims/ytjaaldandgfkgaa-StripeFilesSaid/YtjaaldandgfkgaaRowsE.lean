/- without, over the field of 256: the walk. Conditions: two rows in memory of their own. -/
import Derived.Test.YtjaaldandgfkgaaElm
import Derived.Test.YtjaaldandgfkgaaInvP
import Derived.Test.YtjaaldandgfkgaaBasE
import Derived.Test.YtjaaldandgfkgaaApp
import Derived.OwnWalk
namespace Go.Proofs.Ytjaaldandgfkgaa
open Go.RowKit

/-- A row that is written up to place k. -/
def upto (k : Nat) (f g : Nat → Value) (j : Nat) : Value := if j < k then g j else f j
theorem upto_next {k : Nat} {f g : Nat → Value} {j : Nat} : (if j = k then g k else upto k f g j) = upto (k + 1) f g j := by
 unfold upto
 by_cases h : j = k
 · subst h; simp
 · by_cases h2 : j < k
   · simp [h, h2, show j < k + 1 by omega]
   · simp [h, h2, show ¬ j < k + 1 by omega]
theorem grown_set {w : World} {a : Addr} {g : Nat} (h : a.block = g) (v : Value) : w.grownBy (w.setCell a v) (some g) :=
 ⟨rfl, rfl, rfl, by simp, fun k _ hk => Below.heap_setCell _ _ _ _ (fun e => hk (by rw [e, h]))⟩
theorem grown_drew (w : World) (r : Option Nat) : w.grownBy w.drew r := ⟨rfl, rfl, rfl, Nat.le_refl _, fun _ _ _ => rfl⟩
theorem grown_cell {w w' : World} {r : Option Nat} (h : w.grownBy w' r) {p : Addr} (hp : p.block < w.heap.size) (hr : some p.block ≠ r) : w'.cell? p = w.cell? p := World.cell?_of_block (h.block p.block hp hr)

set_option maxRecDepth 20000 in
set_option maxHeartbeats 800000 in
theorem woE_any (g h L c1 c2 : Nat) (f k : Nat → Fin 256) (x : Fin 256) (w : World) (hL : L ≤ 1000000000) (hgh : g ≠ h) (hf : w.rowIs g 127 L (fun j => vE (f j))) (hk : w.rowIs h 127 L (fun j => vE (k j))) :
 Calls Try.prog 122 #[.slice (some ⟨g, 0, none⟩) L c1, .slice (some ⟨h, 0, none⟩) L c2, .int .u8 (x.val : Int)] w fun e w' => e = .returned (.tuple #[]) ∧ w'.rowIs g 127 L (fun j => vE (gE.a (f j) (gE.m (k j) x))) ∧ w.grownBy w' (some g) := by
 have CZ := Lib.hid (fun w => zG_any x w)
 by_cases hx : x = gE.z
 · have t1 := zG_true hx
   have HF : Hid (w.rowIs g 127 L (fun j => vE (gE.a (f j) (gE.m (k j) x)))) := hf.congr fun j _ => by rw [hx, gE.m_z, gE.a_z]
   clear hx hf hk
   go_enter Try.func122, Try.ntmps122
   go_wp2_with (go_at_call 142; (with_reducible refine (CZ.out _).mono ?_); rintro e w4 ⟨rfl, rfl⟩)
   exact bodyPost_ret (v := .tuple #[]) (by simp [results, Try.results122, go_sem]) rfl ⟨rfl, HF.out, World.grownBy.refl _ _⟩
 · have t1 := zG_false hx
   clear hx
   go_enter Try.func122, Try.ntmps122
   go_wp2_with (go_at_call 142; (with_reducible refine (CZ.out _).mono ?_); rintro e w4 ⟨rfl, rfl⟩)
   clear t1 CZ
   go_loopg [6, 12] L (fun gk _ i wr => ∃ j : Nat, j ≤ L ∧ gk = L - j ∧ i = .int .i64 j ∧ wr.rowIs g 127 L (upto j (fun j => vE (f j)) (fun j => vE (gE.a (f j) (gE.m (k j) x)))) ∧ w.grownBy wr (some g))
   case atStart => exact ⟨0, Nat.zero_le _, rfl, rfl, hf.congr fun j _ => by simp [upto], World.grownBy.refl _ _⟩
   case round =>
    obtain ⟨j, hj, rfl, rfl, hr, hg⟩ := hrel
    by_cases hlt : j < L
    · have hl := hf.lt
      have hc1 : wr.cell? ⟨g, j, none⟩ = some (.int .u8 ((f j).val : Int)) := by rw [hr.cell hlt]; simp [upto, vE]
      have hc2 : wr.cell? ⟨h, j, none⟩ = some (.int .u8 ((k j).val : Int)) := (grown_cell (p := ⟨h, j, none⟩) hg hk.lt (by simp; exact fun e => hgh e.symm)).trans (hk.cell hlt)
      have hfz := hr.frozen j
      have HS := Lib.hid (fun v => hr.drew.set j v)
      have HG := Lib.hid (fun v => (hg.trans (grown_drew wr (some g))).trans (grown_set (w := wr.drew) (a := ⟨g, j, none⟩) rfl v))
      have HN : Hid (∀ q, (if q = j then vE (gE.a (f j) (gE.m (k j) x)) else upto j (fun j => vE (f j)) (fun j => vE (gE.a (f j) (gE.m (k j) x))) q) = upto (j + 1) (fun j => vE (f j)) (fun j => vE (gE.a (f j) (gE.m (k j) x))) q) := fun q => upto_next
      clear hr hg
      go_wp2_with fail
      generalize f j = F at *
      generalize k j = y at *
      as_aux_lemma =>
       refine wp_region_still_tail 16 mixed (by kernel_rfl) ?_
       simp only [List.take_succ_cons, List.take_zero, List.drop_succ_cons, List.drop_zero]
       repeat still_step
       have hm1 := mE_times
       refine wpStill_step (fun K hK => ?_)
       go_simp
       refine ⟨_, (tG_any y x _).mono (fun _ _ h => ⟨h.1, h.2.symm⟩), hK _ ?_⟩
       clear hK K hm1
       have hm2 := mE_plus
       refine wpStill_step (fun K hK => ?_)
       go_simp
       refine ⟨_, (pG_any F (gE.m y x) _).mono (fun _ _ h => ⟨h.1, h.2.symm⟩), hK _ ?_⟩
       clear hK K hm2
       repeat still_step
       refine wpStill_nil ?_
       change wpList _ _ _ _ _ wr.drew
       go_wp2
       go_roundg (L - (j + 1))
       case measure => omega
       case rel => exact ⟨j + 1, by omega, rfl, by go_num, (HS.out _).congr fun q _ => HN.out q, HG.out _⟩
    · have : j = L := by omega
      subst this
      go_wp2
      go_end0
      exact ⟨rfl, hr.congr fun q hq => by simp [upto, hq], hg⟩
end Go.Proofs.Ytjaaldandgfkgaa

/- cleared, over the field of 256: the walk. Conditions: a matrix in memory of its own. -/
namespace Go.Proofs.Ytjaaldandgfkgaa
open Go.RowKit

theorem Mx.rowSet {w w' : World} {B b tR e n L M : Nat} {S : Nat → Nat} {f : Nat → Nat → Value} (h : Mx w B b tR e n S L M f) {i : Nat} (hi : i < n) {fi : Nat → Value} (hr : w'.rowIs (S i) e M fi) (hg : w.grownBy w' (some (S i))) :
 Mx w' B b tR e n S L M (fun i' j => if i' = i then fi j else f i' j) := by
 refine ⟨h.top.of_block (hg.block b h.top.lt fun e => h.off i hi (by injection e with e; exact e.symm)), fun i' hi' => ?_, h.lob, h.los, h.inj, h.off⟩
 by_cases e1 : i' = i
 · subst e1; exact hr.congr fun j _ => by simp
 · exact ((h.row i' hi').of_block (hg.block (S i') (h.row i' hi').lt fun e => e1 (h.inj i' i hi' hi (by injection e with e)))).congr fun j _ => by simp [e1]
theorem Mx.swap {w : World} {B b tR e n L M : Nat} {S : Nat → Nat} {f : Nat → Nat → Value} (h : Mx w B b tR e n S L M f) {r t : Nat} (hr : r < n) (ht : t < n) :
 Mx ((w.setCell ⟨b, t, none⟩ (.slice (some ⟨S r, 0, none⟩) L L)).setCell ⟨b, r, none⟩ (.slice (some ⟨S t, 0, none⟩) L L)) B b tR e n (fun i => S (Fd.swp r t i)) L M (fun i => f (Fd.swp r t i)) := by
 refine ⟨((h.top.set t _).set r _).congr fun i hi => ?_, fun i hi => ?_, h.lob, fun i hi => h.los _ (Fd.swp_lt hr ht hi), fun i j hi hj e => ?_, fun i hi => h.off _ (Fd.swp_lt hr ht hi)⟩
 · unfold Fd.swp
   by_cases h1 : i = r
   · subst h1
     by_cases h2 : i = t
     · subst h2; simp
     · simp [h2]
   · by_cases h2 : i = t
     · subst h2; simp [h1]
     · simp [h1, h2]
 · have hs := Fd.swp_lt hr ht hi
   exact ((h.row _ hs).setOther (a := ⟨b, t, none⟩) (h.off _ hs) _).setOther (a := ⟨b, r, none⟩) (h.off _ hs) _
 · have := h.inj _ _ (Fd.swp_lt hr ht hi) (Fd.swp_lt hr ht hj) e
   rw [← Fd.swp_swp r t i, this, Fd.swp_swp]
/-- The row t while it is being scaled, up to place j. -/
def part (x : Fin 256) (t j : Nat) (R : Nat → Nat → Fin 256) (i' j' : Nat) : Fin 256 := if i' = t ∧ j' < j then gE.m (R t j') x else R i' j'
theorem part_next {x : Fin 256} {t j : Nat} {R : Nat → Nat → Fin 256} {i' j' : Nat} : (if i' = t ∧ j' = j then vE (gE.m (R t j) x) else vE (part x t j R i' j')) = vE (part x t (j + 1) R i' j') := by
 unfold part
 by_cases h1 : i' = t
 · subst h1
   by_cases h2 : j' = j
   · subst h2; simp
   · by_cases h3 : j' < j
     · simp [h2, h3, show j' < j + 1 by omega]
     · simp [h2, h3, show ¬ j' < j + 1 by omega]
 · simp [h1]
theorem elm_next {α : Type} {F : Fd α} {c t i : Nat} {R : Nat → Nat → α} (h : i ≠ t) (i' j : Nat) : (if i' = i then F.a (R i j) (F.m (R t j) (R i c)) else F.elm c t i R i' j) = F.elm c t (i + 1) R i' j := by
 unfold Fd.elm
 by_cases e : i' = i
 · subst e; rw [if_pos rfl, if_pos ⟨by omega, h⟩]
 · by_cases h2 : i' < i ∧ i' ≠ t
   · rw [if_neg e, if_pos h2, if_pos ⟨by omega, h2.2⟩]
   · rw [if_neg e, if_neg h2, if_neg (fun h3 => h2 ⟨by omega, h3.2⟩)]
theorem elm_skip {α : Type} {F : Fd α} {c t : Nat} {R : Nat → Nat → α} (i' j : Nat) : F.elm c t t R i' j = F.elm c t (t + 1) R i' j := by
 unfold Fd.elm
 by_cases h2 : i' < t ∧ i' ≠ t
 · rw [if_pos h2, if_pos ⟨by omega, h2.2⟩]
 · rw [if_neg h2, if_neg (fun h3 => h2 ⟨by omega, h3.2⟩)]

set_option maxRecDepth 40000 in
set_option maxHeartbeats 3000000 in
theorem clE_any (b n cap L cols B : Nat) (S : Nat → Nat) (G : Nat → Nat → Fin 256) (w : World) (hn : n ≤ 1000000000) (hL : L ≤ 1000000000) (hcol : cols ≤ L) (hM : Mx w B b 128 127 n S L L (fun i j => vE (G i j))) :
 Calls Try.prog 111 #[.slice (some ⟨b, 0, none⟩) n cap, .int .i64 cols] w fun e w' => ∃ S' G' st p, e = .returned (.int .i64 (st : Nat)) ∧ Mx w' B b 128 127 n S' L L (fun i j => vE (G' i j)) ∧ gE.RR n L cols G G' st p ∧ Below B w w' := by
 go_enter Try.func111, Try.ntmps111
 go_wp2
 go_step3
 go_wp2
 go_step3
 go_wp2
 go_loopg [5, 13] cols (fun gk sv i wr => ∃ (c st : Nat) (S' : Nat → Nat) (G' : Nat → Nat → Fin 256) (p : Nat → Nat), c ≤ cols ∧ gk = cols - c ∧ sv = .int .i64 st ∧ i = .int .i64 c ∧
  Mx wr B b 128 127 n S' L L (fun i j => vE (G' i j)) ∧ gE.RR n L c G G' st p ∧ Below B w wr)
 case atStart => exact ⟨0, 0, S, G, fun _ => 0, Nat.zero_le _, rfl, rfl, rfl, hM, Fd.RR.start _ _ _ _, Below.refl _ _⟩
 case round =>
  clear hM
  obtain ⟨c, st, S', G', p, hc, rfl, rfl, rfl, hM, hRR, hbel⟩ := hrel
  obtain ⟨wo, rfl⟩ : ∃ wo : World, wo = wr := ⟨_, rfl⟩
  have hst := hRR.le
  by_cases hlt : c < cols
  · have hR := Lib.hid hRR; clear hRR
    have hM' := Lib.hid hM; have hbel' := Lib.hid hbel; clear hM hbel
    go_wp2
    go_loopg [5, 7] (n - st) (fun gk sv rv w2 => w2 = wo ∧ sv = .int .i64 (st : Nat) ∧ ∃ r : Nat, st ≤ r ∧ r ≤ n ∧ gk = n - r ∧ rv = .int .i64 r ∧ ∀ i, st ≤ i → i < r → G' i c = gE.z)
    case atStart => exact ⟨rfl, rfl, st, Nat.le_refl _, hst, rfl, rfl, fun i h1 h2 => absurd h2 (by omega)⟩
    case round =>
     obtain ⟨rfl, rfl, r, hr1, hr2, rfl, rfl, hz⟩ := hrel
     have HZ := Lib.hid hz; clear hz
     by_cases hrn : r < n
     · have htop : wr.cell? ⟨b, r, none⟩ = some (.slice (some ⟨S' r, 0, none⟩) L L) := hM'.out.top.cell hrn
       have hcel : wr.cell? ⟨S' r, c, none⟩ = some (.int .u8 ((G' r c).val : Int)) := (hM'.out.row r hrn).cell (show c < L by omega)
       by_cases hx : G' r c = gE.z
       · have t1 := zG_true hx
         have HX := Lib.hid hx; clear hx
         go_wp2_with (first
          | (go_at_call 121; (with_reducible refine (iG_any _ _).mono ?_); rintro e w4 ⟨rfl, rfl⟩)
          | (go_at_call 142; (with_reducible refine (zG_any _ _).mono ?_); rintro e w4 ⟨rfl, rfl⟩))
         go_roundg (n - (r + 1))
         case measure => omega
         case rel => exact ⟨rfl, rfl, r + 1, by omega, by omega, rfl, by go_num, fun i h1 h2 => by
          by_cases e : i = r
          · rw [e]; exact HX.out
          · exact HZ.out i h1 (by omega)⟩
       · have t1 := zG_false hx
         have HX := Lib.hid hx; clear hx HZ
         have hstn : st < n := by omega
         have htop2 : wr.cell? ⟨b, st, none⟩ = some (.slice (some ⟨S' st, 0, none⟩) L L) := hM'.out.top.cell hstn
         have hf1 := hM'.out.top.frozen r
         have hf2 := hM'.out.top.frozen st
         have hsw := Lib.hid (Mx.swap hM'.out hrn hstn)
         have htop3 := hsw.out.top.cell hstn
         rw [show Fd.swp r st st = r from if_pos rfl] at htop3
         have hbs := Lib.hid ((hbel'.out.setCell (p := ⟨b, st, none⟩) hM'.out.lob (.slice (some ⟨S' r, 0, none⟩) L L)).setCell (p := ⟨b, r, none⟩) hM'.out.lob (.slice (some ⟨S' st, 0, none⟩) L L))
         go_wp2_with (first
          | (go_at_call 121; (with_reducible refine (iG_any _ _).mono ?_); rintro e w4 ⟨rfl, rfl⟩)
          | (go_at_call 142; (with_reducible refine (zG_any _ _).mono ?_); rintro e w4 ⟨rfl, rfl⟩))
         clear hcel t1
         obtain ⟨v', hv'⟩ := cell?_setCell_some (w := wr) (p := ⟨b, st, none⟩) (x := .slice (some ⟨S' r, 0, none⟩) L L) (q := ⟨b, r, none⟩) (v := .slice (some ⟨S' r, 0, none⟩) L L) htop
         refine wp_region_held2 13 (fun k => Nat.beq k 7 || Nat.beq k 11) (fun _ => true) mixed (by kernel_rfl) (· = wr.drew) rfl ?_
         change wpHeld _ _ _ (fun a' => wpTailE _ _ _ _ _ a' wr.drew) _ _
         simp only [List.take_succ_cons, List.take_zero, List.drop_succ_cons, List.drop_zero, tag]
         repeat (first
          | (refine wpHeld_step ?_ (by rfl) (fun w4 hSw => ?_) ?_; rotate_left; (focus (subst hSw; go_simp; try with_reducible rfl)); simp only [Act.put, List.setIfInBounds_toArray, List.set_cons_zero, List.set_cons_succ])
          | (refine wpHeld_pure ?_ (by rfl) (fun w4 => ?_) ?_; rotate_left; (focus (go_simp; try with_reducible rfl)); simp only [Act.put, List.setIfInBounds_toArray, List.set_cons_zero, List.set_cons_succ]))
         refine wpHeld_nil ?_
         refine wpTailE_step (fun K hK => ?_)
         go_simp
         refine hK.out _ _ (fun h => absurd h (by decide)) ?_
         clear hK K
         refine wpTailE_step (fun K hK => ?_)
         go_simp
         refine hK.out _ _ (fun h => absurd h (by decide)) ?_
         clear hK K
         refine wpTailE_step (fun K hK => ?_)
         go_simp
         refine hK.out _ _ (fun h => absurd h (by decide)) ?_
         clear hK K
         refine wpTailE_nil ?_
         go_wp2
         clear htop htop2 hf1 hf2 hv' htop3 hM' hbel'
         have hM1 := hsw.out.drew
         have hb1 := hbs.out.drew
         clear hsw hbs
         generalize ((wr.setCell ⟨b, st, none⟩ (.slice (some ⟨S' r, 0, none⟩) L L)).setCell ⟨b, r, none⟩ (.slice (some ⟨S' st, 0, none⟩) L L)).drew = W1 at *
         have hR2 := Lib.hid (hR.out.pivot hr1 hrn HX.out)
         clear hR HX
         generalize hov : gE.v (G' r c) = ov at *
         clear hov
         generalize hRw : (fun i => G' (Fd.swp r st i)) = R at *
         have hM1 : Mx W1 B b 128 127 n (fun i => S' (Fd.swp r st i)) L L (fun i j => vE (R i j)) := by rw [← hRw]; exact hM1
         clear hRw
         generalize (fun i => S' (Fd.swp r st i)) = S1 at *
         go_loopg [67] L (fun gk i w3 => ∃ j : Nat, j ≤ L ∧ gk = L - j ∧ i = .int .i64 j ∧ Below B w w3 ∧ Mx w3 B b 128 127 n S1 L L (fun i' j' => vE (part ov st j R i' j')))
         case atStart => exact ⟨0, Nat.zero_le _, rfl, rfl, hb1, hM1.congr fun i j _ _ => by simp [part]⟩
         case round =>
          clear hM1 hb1
          obtain ⟨j, hj, rfl, rfl, hb1, hM1⟩ := hrel
          by_cases hlj : j < L
          · have htop := hM1.top.cell hstn
            have hcel : wr.cell? ⟨S1 st, j, none⟩ = some (.int .u8 ((R st j).val : Int)) := by rw [(hM1.row st hstn).cell hlj]; simp [part, vE]
            have hfz := (hM1.row st hstn).frozen j
            have hS := Lib.hid (hM1.drew.set hstn j (vE (gE.m (R st j) ov)))
            have hB := Lib.hid (hb1.drew.setCell (p := ⟨S1 st, j, none⟩) (hM1.los st hstn) (vE (gE.m (R st j) ov)))
            have HN : Hid (∀ i' j', (if i' = st ∧ j' = j then vE (gE.m (R st j) ov) else vE (part ov st j R i' j')) = vE (part ov st (j + 1) R i' j')) := fun i' j' => part_next
            clear hM1 hb1
            go_wp2_with fail
            generalize R st j = x at *
            as_aux_lemma =>
             refine wp_region_still_tail 16 mixed (by kernel_rfl) ?_
             simp only [List.take_succ_cons, List.take_zero, List.drop_succ_cons, List.drop_zero]
             repeat still_step
             have hm1 := mE_times
             refine wpStill_step (fun K hK => ?_)
             go_simp
             refine ⟨_, (tG_any x ov _).mono (fun _ _ h => ⟨h.1, h.2.symm⟩), hK _ ?_⟩
             clear hK K hm1
             repeat still_step
             refine wpStill_nil ?_
             change wpList _ _ _ _ _ wr.drew
             go_wp2
             go_roundg (L - (j + 1))
             case measure => omega
             case rel => exact ⟨j + 1, by omega, rfl, by go_num, hB.out, hS.out.congr fun i' j' _ _ => HN.out i' j'⟩
          · have : j = L := by omega
            subst this
            have hM1 := hM1.congr (g := fun i' j' => vE (gE.scl ov st R i' j')) fun i' j' _ hj' => by unfold part Fd.scl; by_cases e : i' = st <;> simp [e, hj']
            generalize gE.scl ov st R = N at *
            go_wp2
            go_loopg [89] n (fun gk i w3 => ∃ t : Nat, t ≤ n ∧ gk = n - t ∧ i = .int .i64 t ∧ Below B w w3 ∧ Mx w3 B b 128 127 n S1 j j (fun i' j' => vE (gE.elm c st t N i' j')))
            case atStart => exact ⟨0, Nat.zero_le _, rfl, rfl, hb1, hM1.congr fun i j _ _ => by simp [Fd.elm]⟩
            case round =>
             clear hM1 hb1
             obtain ⟨t, ht, rfl, rfl, hb1, hM1⟩ := hrel
             by_cases hlt3 : t < n
             · by_cases hts : t = st
               · have t1 : ((t : Int) != (st : Int)) = false := by simp [hts]
                 have HT := Lib.hid hts; clear hts
                 go_wp2
                 go_roundg (n - (t + 1))
                 case measure => omega
                 case rel => exact ⟨t + 1, by omega, rfl, by go_num, hb1, hM1.congr fun i' j' _ _ => by rw [HT.out, ← elm_skip]⟩
               · have t1 : ((t : Int) != (st : Int)) = true := by rw [bne_iff_ne]; omega
                 have htop1 := hM1.top.cell hlt3
                 have htop2 := hM1.top.cell hstn
                 have hcl : c < j := by omega
                 have hcel : wr.cell? ⟨S1 t, c, none⟩ = some (.int .u8 ((N t c).val : Int)) := by rw [(hM1.row t hlt3).cell hcl]; simp [Fd.elm, vE]
                 have HC := Lib.hid (woE_any (S1 t) (S1 st) j j j (fun q => N t q) (fun q => N st q) (N t c) wr.drew hL (fun e => hts (hM1.inj _ _ hlt3 hstn e)) ((hM1.row t hlt3).drew.congr fun q _ => by simp [Fd.elm]) ((hM1.row st hstn).drew.congr fun q _ => by simp [Fd.elm]))
                 have HM := Lib.hid hM1.drew
                 have HB := Lib.hid hb1.drew
                 have HTS := Lib.hid hts
                 clear hts hM1 hb1
                 go_wp2_with fail
                 as_aux_lemma =>
                  refine wp_region_still_tail 15 mixed (by kernel_rfl) ?_
                  simp only [List.take_succ_cons, List.take_zero, List.drop_succ_cons, List.drop_zero]
                  repeat still_step
                  refine wpStill_nil ?_
                  change wpList _ _ _ _ _ wr.drew
                  go_wp2_with fail
                  refine HC.out.mono ?_
                  rintro e w5 ⟨rfl, hr5, hg5⟩
                  have hM5 := (HM.out.rowSet hlt3 hr5 hg5).congr (g := fun i' j' => vE (gE.elm c st (t + 1) N i' j')) fun i' j' _ _ => by rw [← elm_next HTS.out]; split <;> rfl
                  have hb5 := HB.out.grown hg5 (Nat.le_trans HM.out.lob (Nat.le_of_lt HM.out.top.lt)) (fun k hk => by injection hk with hk; rw [← hk]; exact HM.out.los t hlt3)
                  clear HC HM HB hr5 hg5 htop1 htop2 hcel
                  go_wp2
                  go_roundg (n - (t + 1))
                  case measure => omega
                  case rel => exact ⟨t + 1, by omega, rfl, by go_num, hb5, hM5⟩
             · have : t = n := by omega
               subst this
               go_wp2
               go_roundg (cols - (c + 1))
               case measure => omega
               case rel => exact ⟨c + 1, st + 1, S1, _, _, by omega, rfl, by go_num, by go_num, hM1, hR2.out, hb1⟩
     · have : r = n := by omega
       subst this
       go_wp2
       go_roundg (cols - (c + 1))
       case measure => omega
       case rel => exact ⟨c + 1, st, S', G', p, by omega, rfl, rfl, by go_num, hM'.out, hR.out.skip HZ.out, hbel'.out⟩
  · have : c = cols := by omega
    subst this
    go_wp2
    rw [Exit.noGoto_ret]
    go_ret
    exact ⟨S', G', st, p, rfl, hM, hRR, hbel⟩
end Go.Proofs.Ytjaaldandgfkgaa

/- The size of an element. Conditions: none. -/
namespace Go.Proofs.Ytjaaldandgfkgaa
open Go.RowKit

theorem szE : (Try.prog.info? 127).map (·.size) = some 1 := by kernel_rfl
end Go.Proofs.Ytjaaldandgfkgaa

/- beside: the walks. Conditions: matrices that memory bears. -/
namespace Go.Proofs.Ytjaaldandgfkgaa
open Go.RowKit

theorem run_make0 {P : Program} (t e : TypeId) (z : Value) (size bytes : Nat) (ht : P.underlying t = some (.slice e)) (hinfo : (P.info? e).map (fun i => (i.zero, i.size, i.bytes)) = some (some z, size, bytes))
 (kl kc : IntKind) (C D : Nat) (hbytes : bytes * (C + D) ≤ 281474976710656) (h63 : C + D ≤ 9223372036854775807) (w : World) :
 (Instr.makeSlice t (.int kl 0) (.int kc ((C : Int) + (D : Int)))).run P w = .ok (.slice (some ⟨w.heap.size, 0, none⟩) 0 (C + D)) (w.alloc (.cells (madeCells z.cells ((C + D) * size)) e)) := by
 obtain ⟨i, hi, hzz⟩ := Option.map_eq_some_iff.1 hinfo
 simp only [Prod.mk.injEq] at hzz
 obtain ⟨hz, hs, hb⟩ := hzz
 have hb' : (i.bytes : Int) * ((C : Int) + (D : Int)) ≤ 281474976710656 := by
  have h : ((i.bytes * (C + D) : Nat) : Int) ≤ 281474976710656 := by rw [hb]; omega
  rwa [Int.natCast_mul, Int.natCast_add] at h
 have hr := run_make (P := P) w t e i z ht hi hz kl kc 0 ((C : Int) + (D : Int)) (by omega) (by omega) hb' (by omega)
 have e1 : ((C : Int) + (D : Int)).toNat = C + D := by omega
 rw [e1, hs] at hr
 exact hr
/-- What 'beside' has made when k rows are. -/
structure Bs (w : World) (mb tR e n k W M : Nat) (S : Nat → Nat) (f : Nat → Nat → Value) : Prop where
 top : w.rowIs mb tR n (fun i => if i < k then .slice (some ⟨S i, 0, none⟩) W W else .slice none 0 0)
 row : ∀ i, i < k → w.rowIs (S i) e M (f i)
 los : ∀ i, i < k → mb < S i
 inj : ∀ i j, i < k → j < k → S i = S j → i = j
theorem Bs.start (w : World) (tR e n W M : Nat) (S : Nat → Nat) (f : Nat → Nat → Value) : Bs (w.alloc (.cells (madeCells #[.slice none 0 0] n) tR)) w.heap.size tR e n 0 W M S f :=
 ⟨(World.rowIs_made w _ n tR).congr fun j _ => by simp, fun i hi => absurd hi (by omega), fun i hi => absurd hi (by omega), fun i j hi => absurd hi (by omega)⟩
theorem Bs.done {w : World} {mb tR e n W M : Nat} {S : Nat → Nat} {f : Nat → Nat → Value} (h : Bs w mb tR e n n W M S f) : Mx w mb mb tR e n S W M f :=
 ⟨h.top.congr fun i hi => by simp [hi], h.row, Nat.le_refl _, fun i hi => Nat.le_of_lt (h.los i hi), h.inj, fun i hi e => by have := h.los i hi; omega⟩
/-- The next row: nb, made new, in its place; what else was there is as it was. -/
theorem Bs.next {w w' : World} {mb tR e n k W M nb : Nat} {S : Nat → Nat} {f : Nat → Nat → Value} (h : Bs w mb tR e n k W M S f) (hnb : w.heap.size ≤ nb) (hk : ∀ i, i < k → w'.heap[S i]? = w.heap[S i]?)
 (ht : w'.rowIs mb tR n (fun i => if i < k + 1 then .slice (some ⟨upd S k nb i, 0, none⟩) W W else .slice none 0 0)) (hr : w'.rowIs nb e M (f k)) : Bs w' mb tR e n (k + 1) W M (upd S k nb) f := by
 refine ⟨ht, fun i hi => ?_, fun i hi => ?_, fun i j hi hj e => ?_⟩
 · by_cases e : i = k
   · subst e; rw [upd_at]; exact hr
   · rw [upd_ne _ _ _ e]; exact (h.row i (by omega)).of_block (hk i (by omega))
 · by_cases e : i = k
   · subst e; rw [upd_at]; have := h.top.lt; omega
   · rw [upd_ne _ _ _ e]; exact h.los i (by omega)
 · by_cases ei : i = k
   · by_cases ej : j = k
     · omega
     · rw [ei, upd_at, upd_ne _ _ _ ej] at e
       have := (h.row j (by omega)).lt
       omega
   · by_cases ej : j = k
     · rw [ej, upd_at, upd_ne _ _ _ ei] at e
       have := (h.row i (by omega)).lt
       omega
     · rw [upd_ne _ _ _ ei, upd_ne _ _ _ ej] at e
       exact h.inj i j (by omega) (by omega) e
set_option maxRecDepth 40000 in
set_option maxHeartbeats 2000000 in
theorem besideE_any (A B : Option Addr) (n cA cB C D : Nat) (G H : Nat → Nat → Fin 256) (w : World) (hn : n ≤ 1000) (hC : C ≤ 1000) (hD : D ≤ 1000) (hA : ME w A n (fun _ => C) (fun i j => (G i j).val)) (hB : ME w B n (fun _ => D) (fun i j => (H i j).val)) :
 Calls Try.prog 110 #[.slice A n cA, .slice B n cB] w fun e w' => ∃ b S, e = .returned (.slice (some ⟨b, 0, none⟩) n n) ∧ Mx w' w.heap.size b 128 127 n S (C + D) (C + D) (fun i j => vE (bsd C (G i) (H i) j)) ∧ Below w.heap.size w w' := by
 obtain ⟨SA, KA, hA1, hA2⟩ := hA
 obtain ⟨SB, KB, hB1, hB2⟩ := hB
 have hmk1 := run_make_row' (P := Try.prog) 124 128 (.slice none 0 0) 24 Try.underlying124 elemsInfo rfl .i64 .i64 n (by omega) (by omega)
 have hmk := run_make0 (P := Try.prog) 128 127 (.int .u8 0) 1 1 Try.underlying128 elemInfo .i64 .i64 C D (by omega) (by omega)
 simp only [Nat.mul_one, Value.cells] at hmk
 have HA1 := Lib.hid hA1; have HA2 := Lib.hid hA2; have HB1 := Lib.hid hB1; have HB2 := Lib.hid hB2
 clear hA1 hA2 hB1 hB2
 have hz0 := Lib.hid (Bs.start w 128 127 n (C + D) (C + D) (fun _ => 0) (fun i j => vE (bsd C (G i) (H i) j)))
 have hb0 := Lib.hid ((Below.refl w.heap.size w).alloc (Nat.le_refl _) (.cells (madeCells #[.slice none 0 0] n) 128))
 go_enter Try.func110, Try.ntmps110
 go_wp2
 go_loopg [6, 12] n (fun gk _ i wr => ∃ (k : Nat) (S : Nat → Nat), k ≤ n ∧ gk = n - k ∧ i = .int .i64 k ∧ Bs wr w.heap.size 128 127 n k (C + D) (C + D) S (fun i j => vE (bsd C (G i) (H i) j)) ∧ Below w.heap.size w wr)
 case atStart => exact ⟨0, _, Nat.zero_le _, rfl, rfl, hz0.out, hb0.out⟩
 case round =>
  clear hz0 hb0
  obtain ⟨k, S, hk, rfl, rfl, hM, hbel⟩ := hrel
  have hsz := hbel.size
  by_cases hlt : k < n
  · obtain ⟨b1, o1, rfl, hb1, hx1⟩ := HA1.out k hlt
    obtain ⟨b2, o2, rfl, hb2, hx2⟩ := HB1.out k hlt
    have hy1 : wr.cell? ⟨b1, o1 + k, none⟩ = some (.slice (SA k) C (KA k)) := (hbel.cell hb1).trans hx1
    have hy2 : wr.cell? ⟨b2, o2 + k, none⟩ = some (.slice (SB k) D (KB k)) := (hbel.cell hb2).trans hx2
    have hr1 := (HA2.out k hlt).below hbel
    have hr2 := (HB2.out k hlt).below hbel
    have KS : Hid (∀ w4, Below wr.heap.size wr w4 → w4.cell? ⟨b1, o1 + k, none⟩ = some (.slice (SA k) C (KA k)) ∧ w4.cell? ⟨b2, o2 + k, none⟩ = some (.slice (SB k) D (KB k))) := fun w4 hb4 => ⟨(hb4.cell (by show b1 < _; omega)).trans hy1, (hb4.cell (by show b2 < _; omega)).trans hy2⟩
    have hmbl : w.heap.size < wr.heap.size := hM.top.lt
    have HM := Lib.hid hM; have HB := Lib.hid hbel; have HR1 := Lib.hid hr1; have HR2 := Lib.hid hr2
    have hbA := (Below.refl wr.heap.size wr).alloc (Nat.le_refl _) (.cells (madeCells #[.int .u8 0] (C + D)) 127)
    have htA := below_row hM.top hbA hM.top.lt
    have hnA := World.rowIs_made wr (.int .u8 0) (C + D) 127
    have hta := htA.cell hlt
    have htf := htA.frozen k
    have HBA := Lib.hid hbA; have HTA := Lib.hid htA; have HNA := Lib.hid hnA
    clear hM hbel hr1 hr2 hbA htA hnA
    have HX1 := Lib.hid hx1; have HX2 := Lib.hid hx2; clear hx1 hx2
    go_wp2_with fail
    clear hy1 hy2
    refine wp_region_mix [(true, true, false), (true, true, false), (true, true, false), (true, true, false), (true, true, false), (true, true, true), (true, true, false), (true, true, false), (true, true, false), (true, true, false), (true, true, true), (true, true, false), (true, true, false), (false, false, false), (false, false, false), (false, false, true)] mixed (by kernel_rfl) (fun w4 => w4.cell? ⟨b1, o1 + k, none⟩ = some (.slice (SA k) C (KA k)) ∧ w4.cell? ⟨b2, o2 + k, none⟩ = some (.slice (SB k) D (KB k))) (KS.out _ (Below.refl _ _).drew) ?_
    intro hSw0
    simp only [hdM, tlM, List.cons_append, List.nil_append]
    repeat (first
     | (refine mix_look hSw0.out ?_ (by rfl) (fun w4 hSw => ?_) ?_; rotate_left; (focus (obtain ⟨s1, s2⟩ := hSw; go_simp; try with_reducible rfl)); simp only [Act.put, List.setIfInBounds_toArray, List.set_cons_zero, List.set_cons_succ])
     | (refine mix_pure ?_ (by rfl) (fun w4 => ?_) ?_; rotate_left; (focus (go_simp; try with_reducible rfl)); simp only [Act.put, List.setIfInBounds_toArray, List.set_cons_zero, List.set_cons_succ]))
    refine mix_step (fun K hK => ?_)
    have hwr : IntKind.i64.wrap ((C : Int) + (D : Int)) = (C : Int) + (D : Int) := i64_small _ (by omega) (by omega)
    go_simp
    refine hK.out _ _ (fun _ _ => KS.out _ HBA.out.drew) ?_
    clear hK K hwr
    try simp only [Act.put, List.setIfInBounds_toArray, List.set_cons_zero, List.set_cons_succ]
    refine mix_step (fun K hK => ?_)
    go_simp
    refine hK.out _ _ (fun _ h => h) ?_
    clear hK K
    try simp only [Act.put, List.setIfInBounds_toArray, List.set_cons_zero, List.set_cons_succ]
    refine mix_step (fun K hK => ?_)
    go_simp
    refine hK.out _ _ (fun h => absurd h (by decide)) ?_
    clear hK K
    try simp only [Act.put, List.setIfInBounds_toArray, List.set_cons_zero, List.set_cons_succ]
    refine mix_nil ?_
    have hzz : (wr.setCell ⟨w.heap.size, k, none⟩ (.slice (some ⟨wr.heap.size, 0, none⟩) 0 (C + D))).heap.size = wr.heap.size := by simp
    have HQ : Hid (((wr.setCell ⟨w.heap.size, k, none⟩ (.slice (some ⟨wr.heap.size, 0, none⟩) 0 (C + D))).alloc (.cells (madeCells #[.int .u8 0] (C + D)) 127)).drew.rowIs w.heap.size 128 n (fun j => if j = k then .slice (some ⟨wr.heap.size, 0, none⟩) 0 (C + D) else if j < k then .slice (some ⟨S j, 0, none⟩) (C + D) (C + D) else .slice none 0 0)) := ((HM.out.top.set k _).alloc _).drew
    have HNB : Hid (((wr.setCell ⟨w.heap.size, k, none⟩ (.slice (some ⟨wr.heap.size, 0, none⟩) 0 (C + D))).alloc (.cells (madeCells #[.int .u8 0] (C + D)) 127)).drew.rowIs wr.heap.size 127 (C + D) (fun _ => .int .u8 0)) := by
     have h := World.rowIs_made (wr.setCell ⟨w.heap.size, k, none⟩ (.slice (some ⟨wr.heap.size, 0, none⟩) 0 (C + D))) (.int .u8 0) (C + D) 127
     rw [hzz] at h
     exact h.drew
    have HBW := Lib.hid ((HB.out.setCell (p := ⟨w.heap.size, k, none⟩) (Nat.le_refl _) (.slice (some ⟨wr.heap.size, 0, none⟩) 0 (C + D))).alloc (by rw [hzz]; exact hsz) (.cells (madeCells #[.int .u8 0] (C + D)) 127)).drew
    have HOT : Hid (∀ b, b < wr.heap.size → b ≠ w.heap.size → ((wr.setCell ⟨w.heap.size, k, none⟩ (.slice (some ⟨wr.heap.size, 0, none⟩) 0 (C + D))).alloc (.cells (madeCells #[.int .u8 0] (C + D)) 127)).drew.heap[b]? = wr.heap[b]?) := fun b h1 h2 => (Below.heap_alloc _ _ _ (by rw [hzz]; exact h1)).trans (Below.heap_setCell _ _ _ _ h2)
    clear hta htf HBA HTA HNA KS HR1 HR2 hzz
    generalize ((wr.setCell ⟨w.heap.size, k, none⟩ (.slice (some ⟨wr.heap.size, 0, none⟩) 0 (C + D))).alloc (.cells (madeCells #[.int .u8 0] (C + D)) 127)).drew = W8 at *
    have hz8 : wr.heap.size < W8.heap.size := HNB.out.lt
    have HRW : Hid (∀ i, i < k → S i < wr.heap.size) := fun i hi => (HM.out.row i hi).lt
    generalize hnbg : wr.heap.size = nb at *
    have HNG := Lib.hid hnbg
    clear hnbg
    have hta : W8.cell? ⟨w.heap.size, k, none⟩ = some (.slice (some ⟨nb, 0, none⟩) 0 (C + D)) := by rw [HQ.out.cell hlt]; simp
    have hy1 : W8.cell? ⟨b1, o1 + k, none⟩ = some (.slice (SA k) C (KA k)) := (HBW.out.cell hb1).trans HX1.out
    have hy2 : W8.cell? ⟨b2, o2 + k, none⟩ = some (.slice (SB k) D (KB k)) := (HBW.out.cell hb2).trans HX2.out
    have KT : Hid (∀ w4, W8.grownBy w4 (some nb) → w4.cell? ⟨w.heap.size, k, none⟩ = some (.slice (some ⟨nb, 0, none⟩) 0 (C + D)) ∧ w4.cell? ⟨b1, o1 + k, none⟩ = some (.slice (SA k) C (KA k)) ∧ w4.cell? ⟨b2, o2 + k, none⟩ = some (.slice (SB k) D (KB k))) := fun w4 hg => ⟨(grown_cell hg (by show w.heap.size < _; omega) (by simp; omega)).trans hta, (grown_cell hg (by show b1 < _; omega) (by simp; omega)).trans hy1, (grown_cell hg (by show b2 < _; omega) (by simp; omega)).trans hy2⟩
    go_wp2_with fail
    clear hta hy1 hy2
    as_aux_lemma =>
     refine wp_region_mix [(true, true, false), (true, true, false), (true, true, false), (true, true, false), (true, true, false), (true, true, true), (true, true, false), (true, true, false), (true, true, false), (true, true, true), (false, false, false), (true, true, false), (true, true, false), (true, true, false), (true, true, true), (false, false, false), (false, false, false), (false, false, true)] mixed (by kernel_rfl) (fun w4 => w4.cell? ⟨w.heap.size, k, none⟩ = some (.slice (some ⟨nb, 0, none⟩) 0 (C + D)) ∧ w4.cell? ⟨b1, o1 + k, none⟩ = some (.slice (SA k) C (KA k)) ∧ w4.cell? ⟨b2, o2 + k, none⟩ = some (.slice (SB k) D (KB k))) (KT.out _ (grown_drew _ _)) ?_
     intro hSw0
     simp only [hdM, tlM, List.cons_append, List.nil_append]
     repeat (first
      | (refine mix_look hSw0.out ?_ (by rfl) (fun w4 hSw => ?_) ?_; rotate_left; (focus (obtain ⟨s1, s2, s3⟩ := hSw; go_simp; try with_reducible rfl)); simp only [Act.put, List.setIfInBounds_toArray, List.set_cons_zero, List.set_cons_succ])
      | (refine mix_pure ?_ (by rfl) (fun w4 => ?_) ?_; rotate_left; (focus (go_simp; try with_reducible rfl)); simp only [Act.put, List.setIfInBounds_toArray, List.set_cons_zero, List.set_cons_succ]))
     refine mix_step (fun K hK => ?_)
     refine step_appRd rfl (.tmp 35) (.tmp 39) 128 rfl 127 1 nb 0 (C + D) C (KA k) (C + D) (SA k) 127 (fun _ => .int .u8 0) (fun j => vE (G k j)) Try.underlying128 szE rfl rfl HNB.out.drew (by rw [Nat.mul_one]; exact (HA2.out k hlt).below HBW.out.drew) (fun _ _ => rfl) (by omega) (Nat.mul_one _) ?_
     intro w5 hr5 hg5
     have hG5 := (grown_drew W8 (some nb)).trans hg5
     have hB5 : Below w.heap.size w w5 := HBW.out.grown hG5 (by omega) (fun q hq => by injection hq with hq; omega)
     refine hK.out _ _ (fun _ _ => KT.out _ hG5) ?_
     clear hK K
     try simp only [Act.put, List.setIfInBounds_toArray, List.set_cons_zero, List.set_cons_succ]
     refine mix_step (fun K hK => ?_)
     refine step_appRd rfl (.tmp 40) (.tmp 44) 128 rfl 127 1 nb (0 + C) (C + D) D (KB k) (C + D) (SB k) 127 _ (fun j => vE (H k j)) Try.underlying128 szE rfl rfl hr5 (by rw [Nat.mul_one]; exact (HB2.out k hlt).below hB5) (fun _ _ => rfl) (by omega) (Nat.mul_one _) ?_
     intro w6 hr6 hg6
     have hG6 := hG5.trans hg6
     refine hK.out _ _ (fun _ _ => KT.out _ hG6) ?_
     clear hK K
     try simp only [Act.put, List.setIfInBounds_toArray, List.set_cons_zero, List.set_cons_succ]
     have hrF : w6.rowIs nb 127 (C + D) ((fun i j => vE (bsd C (G i) (H i) j)) k) := hr6.congr fun j hj => by
      show (if (0 + C) * 1 ≤ j ∧ j < (0 + C + D) * 1 then vE (H k (j - (0 + C) * 1)) else if 0 * 1 ≤ j ∧ j < (0 + C) * 1 then vE (G k (j - 0 * 1)) else .int .u8 0) = vE (bsd C (G k) (H k) j)
      unfold bsd
      by_cases h1 : j < C
      · rw [if_neg (by omega), if_pos (by omega), if_pos h1, show j - 0 * 1 = j by omega]
      · rw [if_pos (by omega), if_neg h1, show j - (0 + C) * 1 = j - C by omega]
     have hl6 : (0 + C + D) = C + D := by omega
     rw [hl6]
     refine mix_step (fun K hK => ?_)
     go_simp
     refine hK.out _ _ (fun _ h => h) ?_
     clear hK K
     try simp only [Act.put, List.setIfInBounds_toArray, List.set_cons_zero, List.set_cons_succ]
     have hQ6 := HQ.out.of_block (hG6.block w.heap.size HQ.out.lt (by simp; omega))
     have hf6 := hQ6.frozen k
     have hc6 := hQ6.cell hlt
     refine mix_step (fun K hK => ?_)
     go_simp
     refine hK.out _ _ (fun h => absurd h (by decide)) ?_
     clear hK K
     try simp only [Act.put, List.setIfInBounds_toArray, List.set_cons_zero, List.set_cons_succ]
     refine mix_nil ?_
     have hB6 : Below w.heap.size w (w6.setCell ⟨w.heap.size, k, none⟩ (.slice (some ⟨nb, 0, none⟩) (C + D) (C + D))) := (HBW.out.grown hG6 (by omega) (fun q hq => by injection hq with hq; omega)).setCell (Nat.le_refl _) _
     have hN6 := HM.out.next (w' := w6.setCell ⟨w.heap.size, k, none⟩ (.slice (some ⟨nb, 0, none⟩) (C + D) (C + D))) (nb := nb) (by have := HNG.out; omega) (fun i hi => by
      have h1 := HRW.out i hi
      have h2 := HM.out.los i hi
      exact (Below.heap_setCell _ _ _ _ (by show S i ≠ w.heap.size; omega)).trans ((hG6.block (S i) (by omega) (by simp; omega)).trans (HOT.out (S i) h1 (by omega))))
      ((hQ6.set k _).congr fun i hi => by
       by_cases e : i = k
       · subst e; simp [upd_at]
       · by_cases e2 : i < k
         · simp [e, e2, show i < k + 1 by omega, upd_ne _ _ _ e]
         · simp [e, e2, show ¬ i < k + 1 by omega])
      (hrF.setOther (a := ⟨w.heap.size, k, none⟩) (by show nb ≠ w.heap.size; omega) _)
     clear hf6 hc6 hQ6 hG6 hG5 hr5 hr6 hg5 hg6 hrF KT HM HB HQ HNB HBW HOT HRW hB5
     go_wp2
     go_roundg (n - (k + 1))
     case measure => omega
     case rel => exact ⟨k + 1, _, by omega, rfl, by go_num, hN6, hB6⟩
  · have : k = n := by omega
    subst this
    go_wp2
    go_ret
    exact ⟨_, _, rfl, hM.done, hbel⟩
end Go.Proofs.Ytjaaldandgfkgaa

/- one: the walks. Conditions: matrices that memory bears. -/
namespace Go.Proofs.Ytjaaldandgfkgaa
open Go.RowKit

/-- What 'one' says: a one, if there is a number that is not zero; else nothing. -/
def OneIs {α : Type} (F : Fd α) (n C : Nat) (G : Nat → Nat → α) (y : α) (b : Bool) : Prop :=
 (b = true ∧ y = F.u ∧ ∃ i j, i < n ∧ j < C ∧ G i j ≠ F.z) ∨ (b = false ∧ y = F.z ∧ ∀ i j, i < n → j < C → G i j = F.z)
set_option maxRecDepth 20000 in
set_option maxHeartbeats 1000000 in
theorem oneE_any (A : Option Addr) (n c C : Nat) (G : Nat → Nat → Fin 256) (w : World) (hn : n ≤ 1000000) (hC : C ≤ 1000000) (hA : ME w A n (fun _ => C) (fun i j => (G i j).val)) :
 Calls Try.prog 109 #[.slice A n c] w fun e w' => ∃ y b, e = .returned (.tuple #[.int .u8 ((y).val : Int), .bool b]) ∧ OneIs gE n C G y b ∧ Below w.heap.size w w' := by
 obtain ⟨SA, KA, hA1, hA2⟩ := hA
 have HU : Hid (∀ x : Fin 256, x ≠ gE.z → gE.m x (gE.v x) = gE.u) := fun x hx => gE.m_v x hx
 go_enter Try.func109, Try.ntmps109
 go_wp2
 go_loopg [13] n (fun gk i wr => wr = w ∧ ∃ k : Nat, k ≤ n ∧ gk = n - k ∧ i = .int .i64 k ∧ ∀ i j, i < k → j < C → G i j = gE.z)
 case atStart => exact ⟨rfl, 0, Nat.zero_le _, rfl, rfl, fun i j hi => absurd hi (by omega)⟩
 case round =>
  obtain ⟨rfl, k, hk, rfl, rfl, hz⟩ := hrel
  have HZ := Lib.hid hz; clear hz
  obtain ⟨wo, rfl⟩ : ∃ wo : World, wo = wr := ⟨_, rfl⟩
  by_cases hlt : k < n
  · obtain ⟨b1, o1, rfl, hb1, hx1⟩ := hA1 k hlt
    have hy1 : wo.cell? ⟨b1, o1 + k, none⟩ = some (.slice (SA k) C (KA k)) := hx1
    have hr := hA2 k hlt
    have HA1 := Lib.hid hA1; have HA2 := Lib.hid hA2
    clear hx1 hA1 hA2
    generalize SA k = Ak at *
    go_wp2
    go_loopg [19] C (fun gk i w2 => w2 = wo ∧ ∃ j : Nat, j ≤ C ∧ gk = C - j ∧ i = .int .i64 j ∧ ∀ j', j' < j → G k j' = gE.z)
    case atStart => exact ⟨rfl, 0, Nat.zero_le _, rfl, rfl, fun j hj => absurd hj (by omega)⟩
    case round =>
     obtain ⟨rfl, j, hj, rfl, rfl, hz⟩ := hrel
     have HZ2 := Lib.hid hz; clear hz
     by_cases hlj : j < C
     · obtain ⟨b3, o3, rfl, hb3, hx3⟩ := hr j hlj
       have hy3 : wr.cell? ⟨b3, o3 + j, none⟩ = some (.int .u8 ((G k j).val : Int)) := hx3
       clear hx3 hy1
       by_cases hx : G k j = gE.z
       · have t1 := zG_true hx
         have HX := Lib.hid hx; clear hx
         go_wp2_with (first
          | (go_at_call 121; (with_reducible refine (iG_any _ _).mono ?_); rintro e w4 ⟨rfl, rfl⟩)
          | (go_at_call 142; (with_reducible refine (zG_any _ _).mono ?_); rintro e w4 ⟨rfl, rfl⟩))
         go_roundg (C - (j + 1))
         case measure => omega
         case rel => exact ⟨rfl, j + 1, by omega, rfl, by go_num, fun j' h => by
          by_cases e : j' = j
          · rw [e]; exact HX.out
          · exact HZ2.out j' (by omega)⟩
       · have t1 := zG_false hx
         have HX := Lib.hid hx; clear hx
         go_wp2_with (first
          | (go_at_call 121; (with_reducible refine (iG_any _ _).mono ?_); rintro e w4 ⟨rfl, rfl⟩)
          | (go_at_call 142; (with_reducible refine (zG_any _ _).mono ?_); rintro e w4 ⟨rfl, rfl⟩)
          | (go_at_call 104; (with_reducible refine (tG_any _ _ _).mono ?_); rintro e w4 ⟨rfl, rfl⟩))
         go_ret2
         exact ⟨gE.m (G k j) (gE.v (G k j)), true, rfl, .inl ⟨rfl, HU.out _ HX.out, k, j, hlt, hlj, HX.out⟩, Below.refl _ _⟩
     · have : j = C := by omega
       subst this
       go_wp2
       go_roundg (n - (k + 1))
       case measure => omega
       case rel => exact ⟨rfl, k + 1, by omega, rfl, by go_num, fun i j' hi hj' => by
        by_cases e : i = k
        · rw [e]; exact HZ2.out j' hj'
        · exact HZ.out i j' (by omega) hj'⟩
  · have : k = n := by omega
    subst this
    go_wp2
    go_ret2
    exact ⟨gE.z, false, rfl, .inr ⟨rfl, rfl, HZ.out⟩, Below.refl _ _⟩
end Go.Proofs.Ytjaaldandgfkgaa

/- Inverse of the program: the walks. Conditions: lengths that memory bears. -/
namespace Go.Proofs.Ytjaaldandgfkgaa
open Go.RowKit

theorem Fd.RR.congrG {α : Type} {F : Fd α} {n L c : Nat} {G H G' : Nat → Nat → α} {st : Nat} {p : Nat → Nat} (h : F.RR n L c G G' st p) (e : ∀ i j, i < n → j < L → H i j = G i j) : F.RR n L c H G' st p :=
 ⟨(Fd.Same.of_eq (F := F) e).trans h.same, h.le, h.piv, h.up, h.zero⟩
/-- What Inverse says, by what the program does. -/
def InvP {α : Type} (F : Fd α) (n : Nat) (L : Nat → Nat) (G : Nat → Nat → α) (er : Int) (X : Nat → Nat → α) : Prop :=
 (faultE n L ≠ 0 ∧ er = faultE n L) ∨ (faultE n L = 0 ∧ colsN n L ≠ n ∧ er = 31) ∨ (faultE n L = 0 ∧ colsN n L = n ∧ ¬ F.Free n n G ∧ er = 32) ∨
 (faultE n L = 0 ∧ colsN n L = n ∧ er = 0 ∧ ∃ G' p, F.RR n (n + n) n (F.aug n G) G' n p ∧ ∀ i j, X i j = G' i (n + j))
theorem free_ne {α : Type} {F : Fd α} {n : Nat} {G : Nat → Nat → α} (h : ∀ i j, i < n → j < n → G i j = F.z) (hn : 0 < n) : ¬ F.Free n n G := fun hf =>
 F.u_z (hf (fun _ => F.u) (fun j hj => F.s_zero fun i hi => by rw [h i j hi hj, F.m_z]) 0 hn)
set_option maxRecDepth 40000 in
set_option maxHeartbeats 3000000 in
theorem invE_any (A : Option Addr) (n c : Nat) (L : Nat → Nat) (G : Nat → Nat → Fin 256) (w : World) (hn : n ≤ 9223372036854775807) (hL : ∀ i, i < n → L i ≤ 9223372036854775807) (hA : ME w A n L (fun i j => (G i j).val)) :
 Calls Try.prog 92 #[.slice A n c] w fun e w' => ∃ (er : Int) (X : Nat → Nat → Fin 256) (Av : Option Addr) (cv : Nat), e = .returned (.tuple #[.slice Av (if er = 0 then n else 0) cv, .int .i64 er]) ∧ InvP gE n L G er X ∧ Below w.heap.size w w' ∧ ME w' Av (if er = 0 then n else 0) (fun _ => n) (fun i j => (X i j).val) := by
 have CA := Lib.hid (faultE_any A n c L w hn hL hA.top)
 by_cases hf : faultE n L = 0
 · have HF := Lib.hid hf
   rw [hf] at CA
   have CC := Lib.hid (columnsE_any A n c L w hA.top)
   have hn5 := (faultE_ok hf).1
   by_cases hc : colsN n L = n
   · have HC := Lib.hid hc
     have hA' : ME w A n (fun _ => n) (fun i j => (G i j).val) := by
      obtain ⟨SA, KA, h1, h2⟩ := hA
      exact ⟨SA, KA, h1.congr fun i hi => by rw [colsN_len hf i hi, hc], fun i hi => by have := h2 i hi; rw [colsN_len hf i hi, hc] at this; exact this⟩
     have CO := Lib.hid (oneE_any A n c n G w (by omega) (by omega) hA')
     have HA := Lib.hid hA'
     rw [hc] at CC
     clear hf hc hA hA' hL
     go_enter Try.func92, Try.ntmps92
     go_wp2_with fail
     refine CA.out.mono ?_
     rintro e w1 ⟨rfl, rfl⟩
     go_wp2_with fail
     refine CC.out.mono ?_
     rintro e w1 ⟨rfl, rfl⟩
     go_wp2_with fail
     refine CO.out.mono ?_
     rintro e w4 ⟨y, ok, rfl, hone, hb4⟩
     clear CA CC CO
     have HONE := Lib.hid hone; clear hone
     by_cases hbad : ok = false ∧ 0 < n
     · obtain ⟨rfl, hpos⟩ := hbad
       have t1 : decide ((n : Int) > 0) = true := by simp; omega
       go_wp2
       go_ret2
       rcases HONE.out with ⟨h1, _⟩ | ⟨_, _, h2⟩
       · cases h1
       · exact ⟨32, fun _ _ => gE.z, none, 0, rfl, .inr (.inr (.inl ⟨HF.out, HC.out, free_ne h2 hpos, rfl⟩)), hb4, RdM.zero _ _ _ _⟩
     · have hok : ok = true ∨ n = 0 := by
        cases ok
        · exact .inr (by simp at hbad; omega)
        · exact .inl rfl
       have HY : Hid (∀ i j, i < n → j < n + n → gE.aug n G i j = bsd n (G i) (fun j => if i = j then y else gE.z) j) := fun i j hi _ => by
        rcases HONE.out with ⟨_, h2, _⟩ | ⟨h1, _, _⟩
        · subst h2; rfl
        · rcases hok with h | h
          · rw [h] at h1; cases h1
          · omega
       have HOK := Lib.hid hok
       clear hbad hok HONE
       have key : ok = true ∨ (ok = false ∧ n = 0) := by
        rcases HOK.out with h | h
        · exact .inl h
        · cases ok
          · exact .inr ⟨rfl, h⟩
          · exact .inl rfl
       clear HOK
       have t0 : ok = true ∨ (ok = false ∧ n ≤ 0) := by
        rcases key with h | ⟨h1, h2⟩
        · exact .inl h
        · exact .inr ⟨h1, by omega⟩
       clear key
       have hz4 := hb4.size
       rcases t0 with rfl | ⟨rfl, t1⟩
       · go_wp2_with fail
         refine (identE n _ _ (by omega)).mono ?_
         rintro e w5 ⟨bi, Si, rfl, hMi, hb5⟩
         have hI : ME w5 (some ⟨bi, 0, none⟩) n (fun _ => n) (fun i j => (if i = j then y else gE.z : Fin 256).val) := (hMi.congr (g := fun i j => vE (if i = j then y else gE.z)) fun i j _ _ => by split <;> rfl).rdm
         have HB5 := Lib.hid (hb4.trans (hb5.mono hz4))
         clear hMi hb4 hb5 hz4
         go_wp2_with fail
         refine (besideE_any A (some ⟨bi, 0, none⟩) n c n n n G (fun i j => (if i = j then y else gE.z : Fin 256)) w5 (by omega) (by omega) (by omega) (ME.below HA.out HB5.out) hI).mono ?_
         rintro e w6 ⟨bm, S6, rfl, hM6, hb6⟩
         clear hI
         go_wp2_with fail
         refine (clE_any bm n n (n + n) n w5.heap.size S6 (fun i => bsd n (G i) (fun j => if i = j then y else gE.z)) w6 (by omega) (by omega) (by omega) hM6).mono ?_
         rintro e w7 ⟨Sm, G', st, p, rfl, hM7, hRR, hb7⟩
         have HRR : Hid (gE.RR n (n + n) n (gE.aug n G) G' st p) := Fd.RR.congrG hRR HY.out
         have hb57 : Below w5.heap.size w5 w7 := hb6.trans hb7
         have HB7 := Lib.hid (HB5.out.trans (hb57.mono HB5.out.size))
         have hst := hRR.le
         clear hM6 hRR hb6 hb7 HY hb57
         by_cases hfull : st = n
         · have hge : ¬ st < n := by omega
           have HRF : Hid (gE.RR n (n + n) n (gE.aug n G) G' n p) := by rw [← hfull]; rw [hfull]; rw [hfull] at HRR; exact HRR.out
           clear hfull HRR
           go_wp2_with (go_at_call 103; (with_reducible refine (zerosE n n _ (by omega) (by omega)).mono ?_); rintro e w8 ⟨rfl, hMz, hb8⟩)
           have HM7 := Lib.hid hM7
           clear hM7
           go_loopg [12, 54] n (fun gk _ i wr => ∃ k : Nat, k ≤ n ∧ gk = n - k ∧ i = .int .i64 k ∧ Below w7.heap.size w7 wr ∧ Mx wr w7.heap.size w7.heap.size 128 127 n (fun i => w7.heap.size + 1 + i) n n (fun i => if i < k then (fun j => vE ((fun j => G' i (n + j)) j)) else fun _ => .int .u8 0))
           case atStart => exact ⟨0, Nat.zero_le _, rfl, rfl, hb8, hMz.congr fun i j _ _ => by simp⟩
           case round =>
            clear hMz hb8
            obtain ⟨k, hk, rfl, rfl, hbel, hM⟩ := hrel
            by_cases hlt : k < n
            · have hm7 := HM7.out.keep hbel
              have hto := hM.top.cell hlt
              have htm := hm7.top.cell hlt
              have hlo : w7.heap.size < wr.heap.size := hM.top.lt
              have hlm : bm < wr.heap.size := hm7.top.lt
              have hneo : bm ≠ w7.heap.size + 1 + k := by have := HM7.out.top.lt; omega
              have KS : Hid (∀ w4, wr.grownBy w4 (some (w7.heap.size + 1 + k)) → w4.cell? ⟨w7.heap.size, k, none⟩ = some (.slice (some ⟨w7.heap.size + 1 + k, 0, none⟩) n n) ∧ w4.cell? ⟨bm, k, none⟩ = some (.slice (some ⟨Sm k, 0, none⟩) (n + n) (n + n))) := fun w4 hg => ⟨(grown_cell hg hlo (by simp; omega)).trans hto, (grown_cell hg hlm (by simp; exact hneo)).trans htm⟩
              have HM := Lib.hid hM; have HB := Lib.hid hbel
              have HSR : Hid (Rd wr.drew (some ⟨Sm k, n, none⟩) (n * 1) (fun j => vE ((fun j => G' k (n + j)) j))) := fun j hj => ⟨Sm k, n, rfl, (hm7.row k hlt).lt, by
               have h := (hm7.row k hlt).cell (i := n + j) (by omega)
               exact h⟩
              have hs1 : (0 : Int) ≤ (n : Int) := by omega
              have hs2 : (n : Int) ≤ (n : Int) + (n : Int) := by omega
              have hs3 : (n : Int) ≤ ((n + n : Nat) : Int) := by omega
              have hs4 : (0 : Int) < (n : Int) := by omega
              clear hM hbel hm7
              go_wp2_with fail
              clear hto htm
              refine wp_region_mix [(true, true, false), (true, true, false), (true, true, false), (true, true, true), (true, true, false), (true, true, false), (true, true, false), (true, true, true), (true, true, false), (true, true, false), (false, false, false)] mixed (by kernel_rfl) (fun w4 => w4.cell? ⟨w7.heap.size, k, none⟩ = some (.slice (some ⟨w7.heap.size + 1 + k, 0, none⟩) n n) ∧ w4.cell? ⟨bm, k, none⟩ = some (.slice (some ⟨Sm k, 0, none⟩) (n + n) (n + n))) (KS.out _ (grown_drew _ _)) ?_
              intro hSw0
              simp only [hdM, tlM, List.cons_append, List.nil_append]
              repeat (first
               | (refine mix_look hSw0.out ?_ (by rfl) (fun w4 hSw => ?_) ?_; rotate_left; (focus (obtain ⟨s1, s2⟩ := hSw; go_simp; try with_reducible rfl)); simp only [Act.put, List.setIfInBounds_toArray, List.set_cons_zero, List.set_cons_succ])
               | (refine mix_pure ?_ (by rfl) (fun w4 => ?_) ?_; rotate_left; (focus (go_simp; try with_reducible rfl)); simp only [Act.put, List.setIfInBounds_toArray, List.set_cons_zero, List.set_cons_succ]))
              have hs5 : n + n - n = n := by omega
              refine mix_step (fun K hK => ?_)
              refine step_copyAll rfl (.tmp 60) (.tmp 66) 128 128 rfl 127 1 (w7.heap.size + 1 + k) n n n (some ⟨Sm k, n, none⟩) 127 (((fun i => if i < k then (fun j => vE ((fun j => G' i (n + j)) j)) else fun _ => .int .u8 0) : Nat → Nat → Value) k) (fun j => vE ((fun j => G' k (n + j)) j)) Try.underlying128 szE rfl (by show Value.slice _ _ _ = Value.slice _ _ _; rw [if_neg (by omega)]) (by rw [Nat.mul_one]; exact (HM.out.row k hlt).drew) HSR.out (fun _ _ => rfl) ?_
              intro w9 hr9 hg9
              rw [Nat.mul_one] at hr9
              have hG9 := (grown_drew wr (some (w7.heap.size + 1 + k))).trans hg9
              refine hK.out _ _ (fun _ _ => KS.out _ hG9) ?_
              clear hK K
              try simp only [Act.put, List.setIfInBounds_toArray, List.set_cons_zero, List.set_cons_succ]
              refine mix_nil ?_
              have hM9 := (HM.out.rowSet (i := k) hlt hr9 hG9).congr (g := (fun i => if i < k + 1 then (fun j => vE ((fun j => G' i (n + j)) j)) else fun _ => .int .u8 0)) fun i j _ _ => by
               by_cases e : i = k
               · subst e; simp
               · by_cases e2 : i < k
                 · simp [e, e2, show i < k + 1 by omega]
                 · simp [e, e2, show ¬ i < k + 1 by omega]
              have hb9 := HB.out.grown hG9 HB.out.size (fun q hq => by injection hq with hq; omega)
              have HM9 := Lib.hid hM9; have HB9 := Lib.hid hb9
              clear KS HM HB HSR hr9 hg9 hG9 hM9 hb9 hs1 hs2 hs3 hs4 hs5
              go_wp2
              go_roundg (n - (k + 1))
              case measure => omega
              case rel => exact ⟨k + 1, by omega, rfl, by go_num, HB9.out, HM9.out⟩
            · have : k = n := by omega
              subst this
              have HMX := Lib.hid (hM.congr (g := (fun i j => vE (G' i (k + j)))) fun i j hi hj => by simp only [hi, if_true])
              have HBX := Lib.hid (HB7.out.trans (hbel.mono HB7.out.size))
              clear hM hbel
              go_wp2
              go_ret2
              exact ⟨0, fun i j => G' i (k + j), some ⟨w7.heap.size, 0, none⟩, k, rfl, .inr (.inr (.inr ⟨HF.out, HC.out, rfl, G', p, HRF.out, fun _ _ => rfl⟩)), HBX.out, HMX.out.rdm⟩
         · have hlt : st < n := by omega
           have HNF : Hid (¬ gE.Free n n G) := fun hf => hfull ((HRR.out.full_iff (by omega)).2 (Fd.free_aug.2 hf))
           clear hM7 hfull
           go_wp2
           go_ret2
           exact ⟨32, fun _ _ => gE.z, none, 0, rfl, .inr (.inr (.inl ⟨HF.out, HC.out, HNF.out, rfl⟩)), HB7.out, RdM.zero _ _ _ _⟩
       · go_wp2_with fail
         refine (identE n _ _ (by omega)).mono ?_
         rintro e w5 ⟨bi, Si, rfl, hMi, hb5⟩
         have hI : ME w5 (some ⟨bi, 0, none⟩) n (fun _ => n) (fun i j => (if i = j then y else gE.z : Fin 256).val) := (hMi.congr (g := fun i j => vE (if i = j then y else gE.z)) fun i j _ _ => by split <;> rfl).rdm
         have HB5 := Lib.hid (hb4.trans (hb5.mono hz4))
         clear hMi hb4 hb5 hz4
         go_wp2_with fail
         refine (besideE_any A (some ⟨bi, 0, none⟩) n c n n n G (fun i j => (if i = j then y else gE.z : Fin 256)) w5 (by omega) (by omega) (by omega) (ME.below HA.out HB5.out) hI).mono ?_
         rintro e w6 ⟨bm, S6, rfl, hM6, hb6⟩
         clear hI
         go_wp2_with fail
         refine (clE_any bm n n (n + n) n w5.heap.size S6 (fun i => bsd n (G i) (fun j => if i = j then y else gE.z)) w6 (by omega) (by omega) (by omega) hM6).mono ?_
         rintro e w7 ⟨Sm, G', st, p, rfl, hM7, hRR, hb7⟩
         have HRR : Hid (gE.RR n (n + n) n (gE.aug n G) G' st p) := Fd.RR.congrG hRR HY.out
         have hb57 : Below w5.heap.size w5 w7 := hb6.trans hb7
         have HB7 := Lib.hid (HB5.out.trans (hb57.mono HB5.out.size))
         have hst := hRR.le
         clear hM6 hRR hb6 hb7 HY hb57
         by_cases hfull : st = n
         · have hge : ¬ st < n := by omega
           have HRF : Hid (gE.RR n (n + n) n (gE.aug n G) G' n p) := by rw [← hfull]; rw [hfull]; rw [hfull] at HRR; exact HRR.out
           clear hfull HRR
           go_wp2_with (go_at_call 103; (with_reducible refine (zerosE n n _ (by omega) (by omega)).mono ?_); rintro e w8 ⟨rfl, hMz, hb8⟩)
           have HM7 := Lib.hid hM7
           clear hM7
           go_loopg [12, 54] n (fun gk _ i wr => ∃ k : Nat, k ≤ n ∧ gk = n - k ∧ i = .int .i64 k ∧ Below w7.heap.size w7 wr ∧ Mx wr w7.heap.size w7.heap.size 128 127 n (fun i => w7.heap.size + 1 + i) n n (fun i => if i < k then (fun j => vE ((fun j => G' i (n + j)) j)) else fun _ => .int .u8 0))
           case atStart => exact ⟨0, Nat.zero_le _, rfl, rfl, hb8, hMz.congr fun i j _ _ => by simp⟩
           case round =>
            clear hMz hb8
            obtain ⟨k, hk, rfl, rfl, hbel, hM⟩ := hrel
            by_cases hlt : k < n
            · exfalso; omega
            · have : k = n := by omega
              subst this
              have HMX := Lib.hid (hM.congr (g := (fun i j => vE (G' i (k + j)))) fun i j hi hj => by simp only [hi, if_true])
              have HBX := Lib.hid (HB7.out.trans (hbel.mono HB7.out.size))
              clear hM hbel
              go_wp2
              go_ret2
              exact ⟨0, fun i j => G' i (k + j), some ⟨w7.heap.size, 0, none⟩, k, rfl, .inr (.inr (.inr ⟨HF.out, HC.out, rfl, G', p, HRF.out, fun _ _ => rfl⟩)), HBX.out, HMX.out.rdm⟩
         · have hlt : st < n := by omega
           have HNF : Hid (¬ gE.Free n n G) := fun hf => hfull ((HRR.out.full_iff (by omega)).2 (Fd.free_aug.2 hf))
           clear hM7 hfull
           go_wp2
           go_ret2
           exact ⟨32, fun _ _ => gE.z, none, 0, rfl, .inr (.inr (.inl ⟨HF.out, HC.out, HNF.out, rfl⟩)), HB7.out, RdM.zero _ _ _ _⟩
   · have HC := Lib.hid hc
     have t1 : ((colsN n L : Int) != (n : Int)) = true := by rw [bne_iff_ne]; omega
     clear hf hc hA hL
     go_enter Try.func92, Try.ntmps92
     go_wp2_with fail
     refine CA.out.mono ?_
     rintro e w1 ⟨rfl, rfl⟩
     go_wp2_with fail
     refine CC.out.mono ?_
     rintro e w1 ⟨rfl, rfl⟩
     clear CA CC
     go_wp2
     go_ret2
     exact ⟨31, fun _ _ => gE.z, none, 0, rfl, .inr (.inl ⟨HF.out, HC.out, rfl⟩), Below.refl _ _, RdM.zero _ _ _ _⟩
 · have HF := Lib.hid hf
   have t1 : (faultE n L != 0) = true := by simpa using hf
   have he : (if faultE n L = 0 then n else 0) = 0 := if_neg hf
   have HE := Lib.hid he
   clear hf hA hL he
   go_enter Try.func92, Try.ntmps92
   go_wp2_with fail
   refine CA.out.mono ?_
   rintro e w1 ⟨rfl, rfl⟩
   clear CA
   go_wp2
   go_ret2
   exact ⟨faultE n L, fun _ _ => gE.z, none, 0, by rw [HE.out]; rfl, .inl ⟨HF.out, rfl⟩, Below.refl _ _, by rw [HE.out]; exact RdM.zero _ _ _ _⟩
end Go.Proofs.Ytjaaldandgfkgaa

/- Rows of a matrix of bytes: the walk. Conditions: the matrix and the indices lie in memory. -/
namespace Go.Proofs.Ytjaaldandgfkgaa
open Go.RowKit

theorem elemSZ : (Try.prog.info? 127).map (·.size) = some 1 := by kernel_rfl
def RowsOut (B tR e sz m p : Nat) (t : Nat → Int) (L : Nat → Nat) (f : Nat → Nat → List Value) (w : World) (x : Ending) (w' : World) : Prop :=
 (p = m → ∃ v S C, x = .returned (.tuple #[v, .int .i64 0]) ∧ OwnQ w' B tR e sz v m S C (fun i => L (t i).toNat) (fun i j => f (t i).toNat j)) ∧ (p < m → x = .returned (.tuple #[.slice none 0 0, .int .i64 2])) ∧ Below B w w'


set_option maxRecDepth 20000 in
set_option maxHeartbeats 2000000 in
theorem rowsE (A At : Option Addr) (n m p cA cAt : Nat) (L : Nat → Nat) (g : Nat → Nat → Nat) (t : Nat → Int) (w : World) (hf : faultE n L = 0) (hm : m ≤ 255) (hp : p ≤ m) (hA : ME w A n L g) (hAt : Rd w At m (fun i => .int .i64 (t i)))
 (hgood : ∀ i, i < p → 0 ≤ t i ∧ t i < n) (hbad : p < m → t p < 0 ∨ n ≤ t p) :
 Calls Try.prog 91 #[.slice A n cA, .slice At m cAt] w (RowsOut w.heap.size 128 127 1 m p t L (fun i j => [.int .u8 (g i j)]) w) := by
 obtain ⟨hn, hl, -⟩ := faultE_ok hf
 have HB := Lib.hid hbad; clear hbad
 have HG := Lib.hid hgood; clear hgood
 have HL := Lib.hid hl; clear hl
 have HT := Lib.hid hA.top
 obtain ⟨SA, CA, hA1, hA2⟩ := hA
 have HF := Lib.hid hf; clear hf
 obtain ⟨i0, hi0, hz0, hz1, hz2⟩ := info_parts elemsInfo
 go_enter Try.func91, Try.ntmps91
 go_wp2_with fail
 refine (faultE_any A n cA L _ (by omega) (fun i hi => by have := HL.out i hi; omega) HT.out).mono ?_
 rintro e w1 ⟨rfl, rfl⟩
 have HF2 : faultE n L = 0 := HF.out
 rw [HF2]; clear HF2
 go_wp2_with (at_make; refine wpList_make_own _ rfl _ _ 124 rfl w.heap.size 128 i0 (.slice none 0 0) 1 Try.underlying124 hi0 hz0 hz1 .i64 .i64 _ m rfl rfl (by omega) (by rw [hz2]; omega) (by unfold maxLen; omega) (Nat.le_refl _) ?_)
 intro w2 hown2 hgr2
 have hb2 : Below w.heap.size w w2 := (Below.refl _ _).grown hgr2 (Nat.le_refl _) (by simp)
 clear hgr2 hi0 hz0 hz1 hz2
 go_wp2
 go_loopg [7, 9, 10, 24] m (fun gk v _ _ i wr => ∃ (k : Nat) (S : Nat → Option Addr) (C : Nat → Nat), k ≤ p ∧ gk = m - k ∧ i = .int .i64 k ∧ OwnQ wr w.heap.size 128 127 1 v k S C (fun i => L (t i).toNat) (fun i j => (fun i j => [.int .u8 (g i j)]) (t i).toNat j) ∧ Below w.heap.size w wr)
 case atStart => exact ⟨0, fun _ => none, fun _ => 0, Nat.zero_le _, rfl, rfl, ⟨hown2, fun i hi => absurd hi (by omega)⟩, hb2⟩
 case round =>
  obtain ⟨k, S, C, hk, rfl, rfl, hown, hbel⟩ := hrel
  have hsz := hbel.size
  by_cases hlt : k < p
  · obtain ⟨b, o, rfl, hb, hc⟩ := hAt k (by omega)
    have hc' : wr.cell? ⟨b, o + k, none⟩ = some (.int .i64 (t k)) := (hbel.cell hb).trans hc
    obtain ⟨hg0, hg1⟩ := HG.out k hlt
    obtain ⟨q, hq⟩ := Int.eq_ofNat_of_zero_le hg0
    rw [hq] at hc' hg1
    have hqn : q < n := by omega
    have hqt : (t k).toNat = q := by omega
    have HQ := Lib.hid hqt; clear hqt
    clear hg0 hg1 hq hc hAt
    obtain ⟨b2, o2, rfl, hb2, hc2⟩ := hA1 q hqn
    have hc2' : wr.cell? ⟨b2, o2 + q, none⟩ = some (.slice (SA q) (L q) (CA q)) := (hbel.cell hb2).trans hc2
    have hc2n : ∀ o, (wr.alloc o).cell? ⟨b2, o2 + q, none⟩ = some (.slice (SA q) (L q) (CA q)) := fun o => by rw [← hc2']; exact (((Below.refl wr.heap.size wr).alloc (Nat.le_refl _) o).cell (by have := hb2; simp; omega))
    have hrow := (hA2 q hqn).below hbel
    have hLq := HL.out q hqn
    have hqlt : (q : Int) < n := by omega
    clear hc2 hA2
    have hmk := run_make_row' (P := Try.prog) 128 127 (.int .u8 0) 1 Try.underlying128 elemInfo rfl .i64 .i64 (L q) (by omega) (by omega)
    have hkm : k < m := by omega
    have HLT := Lib.hid hlt; clear hlt
    go_wp2_with (refine wpList_copyAll rfl (.tmp 42) (.tmp 46) 128 128 rfl 127 1 wr.heap.size (L q) (L q) (CA q) (SA q) 127 (fun _ => (.int .u8 0)) (fun j => .int .u8 (g q j)) Try.underlying128 (elemSZ) rfl rfl (by rw [Nat.mul_one]; exact World.rowIs_made _ _ _ _) (by rw [Nat.mul_one]; exact hrow.below (((Below.refl _ _).alloc (Nat.le_refl _) _))) (fun _ _ => rfl) ?_)
    intro w3 hrow3 hgr3
    have hbel3 : Below wr.heap.size wr w3 := ((Below.refl _ _).alloc (Nat.le_refl _) _).grown hgr3 (by simp) (by intro k hk; cases hk; exact Nat.le_refl _)
    have hownB := (hown.kept hbel3).next (some ⟨wr.heap.size, 0, none⟩) (L q)
    have hown1' : Own w3 w.heap.size 127 1 (.slice (upd S k (some ⟨wr.heap.size, 0, none⟩) k) (L (t k).toNat) (upd C k (L q) k)) (L (t k).toNat) (fun j => (fun i j => [.int .u8 (g i j)]) (t k).toNat j) := by
     rw [upd_at, upd_at, HQ.out]; exact own_of_rowN (n := L q) (sz := 1) (f := fun j => .int .u8 (g q j)) (by rw [Nat.mul_one]; exact hrow3) (by rw [Nat.mul_one]; exact flat1 _ _) hsz (by unfold maxLen; omega)
    have hu : Hid ((#[Value.slice (some ⟨wr.heap.size, 0, none⟩) (L q) (L q)] : Array Value).toList = [.slice (upd S k (some ⟨wr.heap.size, 0, none⟩) k) (L (t k).toNat) (upd C k (L q) k)]) := by rw [upd_at, upd_at, HQ.out]; rfl
    have hbel3' := hbel.trans (hbel3.mono hsz)
    have hsz3 := hbel3'.size
    clear hown hbel3 hbel hc' hc2' hc2n hrow hrow3 hgr3 hmk
    go_wp2_with (at_builtin; refine wpList_push _ rfl (.tmp 48) (.tmp 50) 124 rfl w.heap.size 128 1 24 (.slice none 0 0) #[.slice (some ⟨wr.heap.size, 0, none⟩) (L q) (L q)] Try.underlying124 elemsInfo rfl (by decide) _ k _ rfl hownB.1 hsz3 _ rfl rfl hu.out rfl rfl (by omega) (by omega) ?_)
    intro v' w4 hown4 hbel4 hg4 _
    have hO := hownB.push (by decide) hown1' hown4 hg4
    have hbelF := hbel3'.trans hbel4
    clear hownB hown1' hown4 hg4 hbel4 hbel3'
    go_wp2
    go_roundg (m - (k + 1))
    case measure => omega
    case rel => exact ⟨k + 1, _, _, Nat.succ_le_of_lt HLT.out, rfl, by go_num, hO, hbelF⟩
  · have : k = p := by omega
    subst this
    by_cases hkm : k < m
    · obtain ⟨b, o, rfl, hb, hc⟩ := hAt k hkm
      have hc' : wr.cell? ⟨b, o + k, none⟩ = some (.int .i64 (t k)) := (hbel.cell hb).trans hc
      have hcon : RowsOut w.heap.size 128 127 1 m k t L (fun i j => [.int .u8 (g i j)]) w (.returned (.tuple #[.slice none 0 0, .int .i64 2])) wr := ⟨fun h => absurd h (by omega), fun _ => rfl, hbel⟩
      have htk : t k < 0 ∨ n ≤ t k := HB.out hkm
      clear hc hlt hown
      rcases htk with h0 | h0
      · go_wp2
        go_ret2
        exact hcon
      · have h1 : ¬ t k < 0 := by omega
        have h2 : ¬ t k < n := by omega
        go_wp2
        go_ret2
        exact hcon
    · have : k = m := by omega
      subst this
      go_wp2
      go_ret2
      exact ⟨fun _ => ⟨_, _, _, rfl, hown⟩, fun h => absurd h (by omega), hbel⟩


theorem rowsE_ok (A At : Option Addr) (n m cA cAt : Nat) (L : Nat → Nat) (g : Nat → Nat → Nat) (t : Nat → Nat) (w : World) (hf : faultE n L = 0) (hm : m ≤ 255) (hA : ME w A n L g) (hAt : Rd w At m (fun i => .int .i64 (t i : Nat))) (ht : ∀ i, i < m → t i < n) :
 Calls Try.prog 91 #[.slice A n cA, .slice At m cAt] w fun e w' => ∃ Av c, e = .returned (.tuple #[.slice Av m c, .int .i64 0]) ∧ ME w' Av m (fun i => L (t i)) (fun i j => g (t i) j) ∧ Below w.heap.size w w' := by
 refine (rowsE A At n m m cA cAt L g (fun i => (t i : Nat)) w hf hm (Nat.le_refl _) hA hAt (fun i hi => by have := ht i hi; omega) (fun h => absurd h (by omega))).mono ?_
 rintro e w' ⟨h1, _, h3⟩
 obtain ⟨v, S, C, he, hO⟩ := h1 rfl
 obtain ⟨Av, c, rfl, _, _, hM⟩ := OwnQ.rdm (g := fun i j => .int .u8 (g (t i) j)) hO
 exact ⟨Av, c, he, hM, h3⟩
end Go.Proofs.Ytjaaldandgfkgaa
