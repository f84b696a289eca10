/- Rebuild of the program: the walk. Conditions: lengths that memory bears, bytes. -/
import Derived.Test.YtjaaldandgfkgaaRebQ
import Derived.Test.YtjaaldandgfkgaaRowsE
import Derived.Test.YtjaaldandgfkgaaCode3
import Derived.Test.YtjaaldandgfkgaaProdM
namespace Go.Proofs.Ytjaaldandgfkgaa
open Go.RowKit

theorem const_cols {k : Nat} (hk : 0 < k) : colsN k (fun _ => k) = k := by unfold colsN; rw [if_neg (by omega)]
theorem const_fault {n l : Nat} (hn : n ≤ 255) (hl : l ≤ 255) : faultE n (fun _ => l) = 0 := fault_none hn (fun _ _ => hl) fun _ _ => rfl
theorem inv_of_free {n : Nat} {L : Nat → Nat} {G : Nat → Nat → Fin 256} {er : Int} {X : Nat → Nat → Fin 256} (h : InvP gE n L G er X) (hf : faultE n L = 0) (hc : colsN n L = n) (hG : gE.Free n n G) :
    er = 0 ∧ ∀ i j, i < n → j < n → gE.s n (fun t => gE.m (G i t) (X t j)) = gE.idm i j := by
  rcases h with ⟨a1, _⟩ | ⟨_, a2, _⟩ | ⟨_, _, a3, _⟩ | ⟨_, _, a3, G', p, hR, hX⟩
  · exact absurd hf a1
  · exact absurd hc a2
  · exact absurd hG a3
  · refine ⟨a3, fun i j hi hj => ?_⟩
    rw [← Fd.inv_right hR hi j hj]
    exact gE.s_congr fun t _ => by rw [hX]
theorem shP_own {k n i : Nat} {a : Nat → Nat} {o : Nat → Fin 256} (hk : k ≤ n) (hn : n ≤ 256) (hi : i < n) (ha : ∀ t, t < k → a t = t) (ho : gE.ShP (fun t => el (a t)) k (el i) o) : ∀ j, j < k → o j = gE.cM el k i j := by
  have hq : ∀ s t, s < k → t < k → el s = el t → s = t := fun s t hs ht e => el_inj (by omega) (by omega) e
  have hq' : ∀ s t, s < k → t < k → (fun t => el (a t)) s = (fun t => el (a t)) t → s = t := fun s t hs ht e => hq s t hs ht (by simpa only [ha s hs, ha t ht] using e)
  have hK : gE.Kills k k (fun j => gE.a (o j) (gE.cM el k i j)) el := fun e he => by
    have h1 : gE.s k (fun j => gE.m (gE.a (o j) (gE.cM el k i j)) (gE.pow (el j) e)) = gE.a (gE.s k fun j => gE.m (o j) (gE.pow (el (a j)) e)) (gE.s k fun j => gE.m (gE.cM el k i j) (gE.pow (el j) e)) := by
      rw [← gE.s_a]; exact gE.s_congr fun j hj => by rw [ha j hj]; exact gE.dist' _ _ _
    rw [h1, Fd.shP_pow hq' ho e he, Fd.cM_pow (F := gE) (k := k) (q := el) (i := i) (fun x y hx hy e => el_inj (by omega) (by omega) e) e he, gE.a_self]
  exact fun j hj => gE.eq_of_a (hK.zero hq j hj)
/-- What Rebuild answers: error, rows; the list's room. -/
def RebF (k n nr : Nat) (L : Nat → Nat) (g : Nat → Nat → Nat) (w : World) (e : Ending) (w' : World) : Prop :=
  ∃ (er : Int) (A' : Option Addr) (R c' : Nat) (W : Nat → Nat → Fin 256), e = .returned (.tuple #[.slice A' R c', .int .i64 er]) ∧ RebE k n nr L er ∧ R = (if er = 0 then n else 0) ∧ (er = 0 → RebW k n L g (L (pkA L n 0)) W) ∧ RdM w' A' R (fun _ => L (pkA L n 0)) (fun i c => .int .u8 ((W i c).val : Nat)) ∧ Below w.heap.size w w' ∧ R ≤ c'
set_option maxRecDepth 20000 in
set_option maxHeartbeats 4000000 in
theorem reb_full (p k n : Nat) (A : Option Addr) (nr c : Nat) (L : Nat → Nat) (g : Nat → Nat → Nat) (w : World) (hk : 0 < k) (hkn : k ≤ n) (hn : n ≤ 255) (hnr : nr ≤ 1000000000000000) (hL : ∀ i, i < nr → L i ≤ 140737488351232) (hg : ∀ i, i < nr → ∀ j, j < L i → g i j < 256) (hC : CodeAt w p k n) (hA : RdM w A nr L (fun i j => .int .u8 (g i j))) :
    Calls Try.prog 64 #[.pointer (some ⟨p, 0, none⟩), .slice A nr c] w (RebF k n nr L g w) := by
  obtain ⟨S, C, hA1, hA2⟩ := hA
  have CN := Lib.hid (none_any p k n w hC hk)
  have hcn := hC.cn
  have HA1 := Lib.hid hA1; have HA2 := Lib.hid hA2; have HG := Lib.hid hg; have HL := Lib.hid hL; have HC := Lib.hid hC
  clear hA1 hA2 hg hL hC
  by_cases h1 : nr = n
  · subst h1
    have t1 : ((nr : Int) != (nr : Int)) = false := by simp
    go_enter Try.func64, Try.ntmps64
    go_wp2_with fail
    refine CN.out.mono ?_
    rintro e w1 ⟨rfl, rfl⟩
    clear CN
    go_wp2
    clear t1 hcn
    go_loopg [6, 7, 8, 9, 25] nr (fun gk pv hv _ _ i wr => ∃ q : Nat, q ≤ nr ∧ gk = nr - q ∧ i = .int .i64 q ∧ Own wr w.heap.size 3 1 pv (pkN L q) (fun t => [.int .i64 (pkA L q t : Nat)]) ∧ Own wr w.heap.size 43 1 hv (pkN L q) (fun t => [.slice (S (pkA L q t)) (L (pkA L q t)) (C (pkA L q t))]) ∧ Below w.heap.size w wr)
    case atStart => exact ⟨0, Nat.zero_le _, rfl, rfl, Own.nil _ _ _ _ _, Own.nil _ _ _ _ _, Below.refl _ _⟩
    case round =>
      obtain ⟨q, hq, rfl, rfl, hP, hH, hB⟩ := hrel
      have HP := Lib.hid hP; have HH := Lib.hid hH; have HB := Lib.hid hB
      clear hP hH hB
      by_cases hlt : q < nr
      · obtain ⟨b, o, rfl, hb, hc⟩ := HA1.out q hlt
        replace hc : w.cell? ⟨b, o + q, none⟩ = some (.slice (S q) (L q) (C q)) := hc
        have hc' : wr.cell? ⟨b, o + q, none⟩ = some (.slice (S q) (L q) (C q)) := (HB.out.cell hb).trans hc
        by_cases hl : 0 < L q
        · have e1 := pkN_yes hl
          have e2 := pkA_hi hl
          have hP : Own wr w.heap.size 3 1 _ (pkN L q) (fun t => [.int .i64 (pkA L (q + 1) t : Nat)]) := HP.out.congr fun t ht => by rw [pkA_lo ht]
          have hH : Own wr w.heap.size 43 1 _ (pkN L q) (fun t => [.slice (S (pkA L (q + 1) t)) (L (pkA L (q + 1) t)) (C (pkA L (q + 1) t))]) := HH.out.congr fun t ht => by rw [pkA_lo ht]
          have hu : Hid ((#[Value.int .i64 (q : Nat)] : Array Value).toList = [.int .i64 (pkA L (q + 1) (pkN L q) : Nat)]) := by rw [e2]; rfl
          have hu2 : Hid ((#[Value.slice (S q) (L q) (C q)] : Array Value).toList = [.slice (S (pkA L (q + 1) (pkN L q))) (L (pkA L (q + 1) (pkN L q))) (C (pkA L (q + 1) (pkN L q)))]) := by rw [e2]; rfl
          have hle := pkN_le L q
          have E1 := Lib.hid e1
          have HC := Lib.hid hc
          clear hc e1 e2
          generalize pkN L q = N at *
          have hsz := HB.out.size
          have HHH := Lib.hid hH
          clear hH hc'
          have hc1 : wr.cell? ⟨b, o + q, none⟩ = some (.slice (S q) (L q) (C q)) := (HB.out.cell hb).trans HC.out
          go_wp2_with (at_builtin; refine wpList_push _ rfl (.tmp 33) (.tmp 35) 25 rfl w.heap.size 3 1 8 (.int .i64 0) #[.int .i64 (q : Nat)] Try.underlying25 intInfo rfl (by decide) _ N _ rfl hP hsz _ rfl rfl hu.out rfl rfl (by omega) (by omega) ?_)
          intro pv2 w2 hP2 hbl2 hg2 _
          have hH2 := HHH.out.keptRow hg2 (own_ne HHH.out hP (by decide))
          have HP2 := Lib.hid hP2
          have hb2 := HB.out.trans hbl2
          have hsz2 := hb2.size
          have hc3 : w2.cell? ⟨b, o + q, none⟩ = some (.slice (S q) (L q) (C q)) := (hb2.cell hb).trans HC.out
          clear hP2 hP hg2 hbl2 hc1
          go_wp2_with (at_builtin; refine wpList_push _ rfl (.tmp 37) (.tmp 39) 67 rfl w.heap.size 43 1 24 (.slice none 0 0) #[.slice (S q) (L q) (C q)] Try.underlying67 bytesInfo rfl (by decide) _ N _ rfl hH2 hsz2 _ rfl rfl hu2.out rfl rfl (by omega) (by omega) ?_)
          intro hv2 w3 hH3 hbl3 hg3 _
          have hP3 := HP2.out.keptRow hg3 (own_ne HP2.out hH2 (by decide))
          have hb3 := hb2.trans hbl3
          clear hH2 hg3 hbl3 hb2 HP2 HHH hc3
          go_wp2
          go_roundg (nr - (q + 1))
          case measure => omega
          case rel => exact ⟨q + 1, by omega, rfl, by go_num, by rw [E1.out]; exact hP3, by rw [E1.out]; exact hH3, hb3⟩
        · have e1 := pkN_no hl
          have hP := Lib.hid (HP.out.congr (g := fun t => [.int .i64 (pkA L (q + 1) t : Nat)]) fun t ht => by rw [pkA_no hl])
          have hH := Lib.hid (HH.out.congr (g := fun t => [.slice (S (pkA L (q + 1) t)) (L (pkA L (q + 1) t)) (C (pkA L (q + 1) t))]) fun t ht => by rw [pkA_no hl])
          rw [← e1] at hP hH
          clear e1 hc
          go_wp2
          go_roundg (nr - (q + 1))
          case measure => omega
          case rel => exact ⟨q + 1, by omega, rfl, by go_num, hP.out, hH.out, HB.out⟩
      · have hqn : q = nr := by omega
        subst hqn
        obtain ⟨Ap, cp, rfl, hcp, _, hRp, _⟩ := HP.out.rd
        obtain ⟨Ah, ch, rfl, hch, _, hRh, _⟩ := HH.out.rd
        have HRp := Lib.hid hRp; have HRh := Lib.hid hRh
        have hle := pkN_le L q
        clear hRp hRh HP HH
        have CO := Lib.hid (even_any Ah (pkN L q) ch (fun t => L (pkA L q t)) (fun t => C (pkA L q t)) (fun t => S (pkA L q t)) wr (by omega) HRh.out)
        have HBB : Hid (evB (pkN L q) (fun t => L (pkA L q t)) (L (pkA L q 0)) = true ↔ ∀ t, t < pkN L q → L (pkA L q t) = L (pkA L q 0)) := evB_iff
        have HCW := Lib.hid (HC.out.below HB.out)
        go_wp2_with fail
        refine CO.out.mono ?_
        rintro e w1 ⟨rfl, rfl⟩
        clear CO
        generalize evB (pkN L q) (fun t => L (pkA L q t)) (L (pkA L q 0)) = bb at *
        cases bb
        · have HE : Hid (RebE k q q L 41) := .inr (.inl ⟨rfl, fun h => absurd (HBB.out.2 h) (by decide), rfl⟩)
          have HBF := Lib.hid HB.out
          go_wp2
          go_ret2
          exact ⟨41, none, 0, 0, fun _ _ => 0, rfl, HE.out, rfl, fun h => absurd h (by decide), RdM.zero _ _ _ _, HBF.out, Nat.le_refl _⟩
        · have hev := HBB.out.1 rfl
          have HEV := Lib.hid hev
          have hck := HCW.out.ck
          clear hev
          by_cases hNk : pkN L q < k
          · have HE : Hid (RebE k q q L 42) := .inr (.inr (.inl ⟨rfl, HEV.out, hNk, rfl⟩))
            have HBF := Lib.hid HB.out
            go_wp2
            go_ret2
            exact ⟨42, none, 0, 0, fun _ _ => 0, rfl, HE.out, rfl, fun h => absurd h (by decide), RdM.zero _ _ _ _, HBF.out, Nat.le_refl _⟩
          · have HE : Hid (RebE k q q L 0) := .inr (.inr (.inr ⟨rfl, HEV.out, by omega, rfl⟩))
            have hkN : k ≤ pkN L q := by omega
            have hb1 : (0 : Int) ≤ (k : Int) := by omega
            have hb2 : (k : Int) ≤ (cp : Int) := by omega
            have hb3 : (k : Int) ≤ (ch : Int) := by omega
            have hHR := have_rd (g := g) (k := k) HA2.out HG.out HB.out hkN HRh.out HEV.out
            have HHR := Lib.hid hHR
            have HPR : Hid (Rd wr Ap k (fun t => .int .i64 (pkA L q t : Nat))) := fun i hi => HRp.out i (by omega)
            have HLN : Hid (L (pkA L q 0) ≤ 140737488351232) := HL.out _ (pkA_ok L q 0 (by omega)).1
            have HAn : Hid (∀ t, t < k → pkA L q t < q) := fun t ht => (pkA_ok L q t (by omega)).1
            have HQI : Hid (∀ i j, i < k → j < k → pkA L q i = pkA L q j → i = j) := fun i j hi hj e => pkA_inj (by omega) (by omega) e
            have HEI : Hid (∀ i j, i < k → j < k → el (pkA L q i) = el (pkA L q j) → i = j) := fun i j hi hj e => HQI.out i j hi hj (el_inj (by have := HAn.out i hi; omega) (by have := HAn.out j hj; omega) e)
            have HBF := Lib.hid HB.out
            have HPL := Lib.hid HCW.out.lt
            obtain ⟨bp, op, rfl, hbp, hcp1⟩ := HPR.out (k - 1) (by omega)
            replace hcp1 : wr.cell? ⟨bp, op + (k - 1), none⟩ = some (.int .i64 (pkA L q (k - 1) : Nat)) := hcp1
            have hw1 : IntKind.i64.wrap ((k : Int) - 1) = ((k - 1 : Nat) : Int) := by rw [i64_small _ (by omega) (by omega)]; omega
            have hw2 : (k : Int) - 1 = ((k - 1 : Nat) : Int) := by omega
            have HLX : Hid (L (pkA L q 0) = L (pkA L q 0)) := rfl
            generalize hlen : L (pkA L q 0) = len at *
            have HLEN := Lib.hid hlen
            obtain ⟨Ar, cr, hcr, hM⟩ := HCW.out.cr
            have HM := Lib.hid hM
            have KS : Hid (wr.cell? ⟨p, 0, none⟩ = some (.int .i64 k) ∧ wr.cell? ⟨p, 2, none⟩ = some (.slice Ar q cr)) := ⟨hck, hcr⟩
            clear hNk hHR HB HRp HRh hlen HLX hM hcr HCW
            by_cases hown : pkA L q (k - 1) = k - 1
            · have HOW := Lib.hid hown
              have t2 : (((pkA L q (k - 1) : Nat) : Int) == ((k - 1 : Nat) : Int)) = true := by rw [hown]; simp
              clear hown hw2
              go_wp2_with fail
              go_quiet (fail)
              clear t2 hw1 hcp1 hck
              go_wp2_with fail
              refine wp_region_mix [(true, true, false), (true, true, false), (true, true, false), (true, true, true), (true, true, false), (true, true, false), (true, true, false), (true, true, false), (true, true, true), (true, true, false), (false, false, false), (false, false, true), (false, true, false)] mixed (by kernel_rfl) (fun w4 => w4.cell? ⟨p, 0, none⟩ = some (.int .i64 k) ∧ w4.cell? ⟨p, 2, none⟩ = some (.slice Ar q cr)) (KS.out) ?_
              intro hSw0
              simp only [hdM, tlM, List.cons_append, List.nil_append]
              repeat (first
                | (refine mix_look hSw0.out ?_ (by rfl) (fun w4 hSw => ?_) ?_; rotate_left; (focus (obtain ⟨s1, s2⟩ := hSw; go_simp; try with_reducible rfl)); simp only [Act.put, List.setIfInBounds_toArray, List.set_cons_zero, List.set_cons_succ])
                | (refine mix_pure ?_ (by rfl) (fun w4 => ?_) ?_; rotate_left; (focus (go_simp; try with_reducible rfl)); simp only [Act.put, List.setIfInBounds_toArray, List.set_cons_zero, List.set_cons_succ]))
              refine mix_step (fun K hK => ?_)
              go_simp
              refine (product_any Ar Ah q k cr ch len (gE.cM el k) (fun t c => el (g (pkA L q t) c)) _ (by omega) (by omega) hk HLN.out (ME.below HM.out (((Dr.refl wr).drewN _).drew.below _)) (RdM.below HHR.out (((Dr.refl wr).drewN _).drew.below _))).mono ?_
              rintro e w2 ⟨A2, rfl, hR, hb2⟩
              dsimp only
              have HR := Lib.hid hR; have HBG : Hid (Below w.heap.size w w2) := (((Dr.refl wr).drewN _).drew.below' HBF.out).trans (hb2.mono HBF.out.size)
              clear hR
              refine hK.out _ _ (fun _ hS => ⟨(hb2.cell HPL.out).trans hS.1, (hb2.cell HPL.out).trans hS.2⟩) ?_
              clear hK K hb2
              try simp only [Act.put, List.setIfInBounds_toArray, List.set_cons_zero, List.set_cons_succ]
              refine mix_step (fun K hK => ?_)
              go_simp
              refine hK.out _ _ (fun h => absurd h (by decide)) ?_
              clear hK K
              try simp only [Act.put, List.setIfInBounds_toArray, List.set_cons_zero, List.set_cons_succ]
              repeat (refine mix_pure ?_ (by rfl) (fun w4 => ?_) ?_; rotate_left; (focus (go_simp; try with_reducible rfl)); simp only [Act.put, List.setIfInBounds_toArray, List.set_cons_zero, List.set_cons_succ])
              refine mix_nil ?_
              go_wp2
              go_ret2
              exact ⟨0, A2, q, q, fun i c => gE.s k (fun t => gE.m (gE.cM el k i t) (el (g (pkA L q t) c))), rfl, HE.out, rfl, fun _ O' hO' i hi c _ => gE.s_congr fun t ht => by rw [shP_own (by omega) (by omega) hi (fun t ht => pkA_own hk hkN HOW.out ht) (hO' i hi) t ht], by rw [HLEN.out]; exact HR.out, HBG.out, Nat.le_refl _⟩
            · have HOW := Lib.hid hown
              have t2 : (((pkA L q (k - 1) : Nat) : Int) == ((k - 1 : Nat) : Int)) = false := by rw [beq_eq_false_iff_ne]; omega
              clear hown hw2
              go_wp2_with fail
              go_quiet (fail)
              clear t2 hw1 hcp1 hck
              go_wp2_with fail
              refine wp_region_mix [(true, true, false), (true, true, false), (true, true, false), (true, true, true), (true, true, false), (true, true, false), (true, true, false), (true, true, false), (true, true, true), (true, true, false), (false, false, false), (false, true, false), (false, true, false), (false, true, false), (false, true, false), (false, true, false)] mixed (by kernel_rfl) (fun w4 => w4.cell? ⟨p, 0, none⟩ = some (.int .i64 k) ∧ w4.cell? ⟨p, 2, none⟩ = some (.slice Ar q cr)) (KS.out) ?_
              intro hSw0
              simp only [hdM, tlM, List.cons_append, List.nil_append]
              repeat (first
                | (refine mix_look hSw0.out ?_ (by rfl) (fun w4 hSw => ?_) ?_; rotate_left; (focus (obtain ⟨s1, s2⟩ := hSw; go_simp; try with_reducible rfl)); simp only [Act.put, List.setIfInBounds_toArray, List.set_cons_zero, List.set_cons_succ])
                | (refine mix_pure ?_ (by rfl) (fun w4 => ?_) ?_; rotate_left; (focus (go_simp; try with_reducible rfl)); simp only [Act.put, List.setIfInBounds_toArray, List.set_cons_zero, List.set_cons_succ]))
              refine mix_step (fun K hK => ?_)
              go_simp
              refine (rowsE_ok Ar (some ⟨bp, op, none⟩) q k cr cp (fun _ => k) (fun i j => (gE.cM el k i j).val) (pkA L q) _ (const_fault (by omega) (by omega)) (by omega) (ME.below HM.out (((Dr.refl wr).drewN _).drew.below _)) (HPR.out.below (((Dr.refl wr).drewN _).drew.below _)) HAn.out).mono ?_
              rintro e w2 ⟨A2, c2, rfl, hR, hb2⟩
              dsimp only
              have hbd := (((Dr.refl wr).drewN _).drew.below wr.heap.size).trans (hb2.mono (Nat.le_refl _))
              have HM2 := Lib.hid (ME.below HM.out hbd); have HHR2 := Lib.hid (RdM.below HHR.out hbd)
              have KS2 : Hid (w2.cell? ⟨p, 0, none⟩ = some (.int .i64 k) ∧ w2.cell? ⟨p, 2, none⟩ = some (.slice Ar q cr)) := ⟨(hbd.cell (HPL.out)).trans KS.out.1, (hbd.cell (HPL.out)).trans KS.out.2⟩
              have HR := Lib.hid hR; have HBG : Hid (Below w.heap.size w w2) := HBF.out.trans (hbd.mono HBF.out.size)
              have hpl2 : p < w2.heap.size := by have := hbd.size; have := HPL.out; omega
              have HPL2 := Lib.hid hpl2
              clear hR hbd hpl2
              refine hK.out _ _ (fun _ hS => ⟨(hb2.cell HPL.out).trans hS.1, (hb2.cell HPL.out).trans hS.2⟩) ?_
              clear hK K hb2
              try simp only [Act.put, List.setIfInBounds_toArray, List.set_cons_zero, List.set_cons_succ]
              repeat (refine mix_pure ?_ (by rfl) (fun w4 => ?_) ?_; rotate_left; (focus (go_simp; try with_reducible rfl)); simp only [Act.put, List.setIfInBounds_toArray, List.set_cons_zero, List.set_cons_succ])
              refine mix_nil ?_
              clear KS HM HHR HBF HPL
              go_wp2_with fail
              refine (invE_any A2 k c2 (fun _ => k) (fun i j => gE.cM el k (pkA L q i) j) _ (by omega) (fun _ _ => by omega) HR.out).mono ?_
              rintro e w3 ⟨er, X, A3, c3, rfl, hIP, hb3, hX⟩
              obtain ⟨he, hid⟩ := inv_of_free hIP (const_fault (by omega) (by omega)) (const_cols hk) (code_free (by omega) (by omega) HAn.out HQI.out)
              subst he
              rw [if_pos rfl] at hX ⊢
              have HX := Lib.hid hX; have HID := Lib.hid hid
              have HM3 := Lib.hid (ME.below HM2.out hb3); have HHR3 := Lib.hid (RdM.below HHR2.out hb3)
              have KS3 : Hid (w3.cell? ⟨p, 0, none⟩ = some (.int .i64 k) ∧ w3.cell? ⟨p, 2, none⟩ = some (.slice Ar q cr)) := ⟨(hb3.cell (HPL2.out)).trans KS2.out.1, (hb3.cell (HPL2.out)).trans KS2.out.2⟩
              have HBG3 := Lib.hid (HBG.out.trans (hb3.mono HBG.out.size))
              have hpl3 : p < w3.heap.size := by have := hb3.size; have := HPL2.out; omega
              have HPL3 := Lib.hid hpl3
              clear hIP hX hid hb3 HR HM2 HHR2 KS2 HBG HPL2 hpl3
              go_wp2_with fail
              refine wp_region_mix [(true, true, false), (true, true, false), (true, true, false), (true, true, true), (true, true, false), (true, true, false), (true, true, false), (true, true, false), (true, true, false), (true, true, true), (true, true, false), (false, false, false), (false, false, false), (false, false, true), (false, true, false)] mixed (by kernel_rfl) (fun w4 => w4.cell? ⟨p, 0, none⟩ = some (.int .i64 k) ∧ w4.cell? ⟨p, 2, none⟩ = some (.slice Ar q cr)) (KS3.out) ?_
              intro hSw0
              simp only [hdM, tlM, List.cons_append, List.nil_append]
              repeat (first
                | (refine mix_look hSw0.out ?_ (by rfl) (fun w4 hSw => ?_) ?_; rotate_left; (focus (obtain ⟨s1, s2⟩ := hSw; go_simp; try with_reducible rfl)); simp only [Act.put, List.setIfInBounds_toArray, List.set_cons_zero, List.set_cons_succ])
                | (refine mix_pure ?_ (by rfl) (fun w4 => ?_) ?_; rotate_left; (focus (go_simp; try with_reducible rfl)); simp only [Act.put, List.setIfInBounds_toArray, List.set_cons_zero, List.set_cons_succ]))
              refine mix_step (fun K hK => ?_)
              go_simp
              refine (product_any A3 Ah k k c3 ch len X (fun t c => el (g (pkA L q t) c)) _ (by omega) (by omega) hk HLN.out (ME.below HX.out ((Dr.refl w3).drew.below _)) (RdM.below HHR3.out ((Dr.refl w3).drew.below _))).mono ?_
              rintro e w4 ⟨A4, rfl, hR, hb4⟩
              dsimp only
              have hbd := ((Dr.refl w3).drew.below w3.heap.size).trans (hb4.mono (Nat.le_refl _))
              have HM4 := Lib.hid (ME.below HM3.out hbd)
              have HR := Lib.hid hR; have HBG4 := Lib.hid (HBG3.out.trans (hbd.mono HBG3.out.size))
              have hpl4 : p < w4.heap.size := by have := hbd.size; have := HPL3.out; omega
              have HPL4 := Lib.hid hpl4
              clear hR hbd hpl4
              refine hK.out _ _ (fun _ hS => ⟨(hb4.cell HPL3.out).trans hS.1, (hb4.cell HPL3.out).trans hS.2⟩) ?_
              clear hK K hb4
              try simp only [Act.put, List.setIfInBounds_toArray, List.set_cons_zero, List.set_cons_succ]
              refine mix_step (fun K hK => ?_)
              go_simp
              refine (product_any Ar A4 q k cr k len (gE.cM el k) (fun j c => gE.s k (fun t => gE.m (X j t) (el (g (pkA L q t) c)))) _ (by omega) (by omega) hk HLN.out HM4.out HR.out).mono ?_
              rintro e w5 ⟨A5, rfl, hR5, hb5⟩
              dsimp only
              have HR5 := Lib.hid hR5; have HBG5 := Lib.hid (HBG4.out.trans (hb5.mono HBG4.out.size))
              clear hR5
              refine hK.out _ _ (fun _ hS => ⟨(hb5.cell HPL4.out).trans hS.1, (hb5.cell HPL4.out).trans hS.2⟩) ?_
              clear hK K hb5
              try simp only [Act.put, List.setIfInBounds_toArray, List.set_cons_zero, List.set_cons_succ]
              refine mix_step (fun K hK => ?_)
              go_simp
              refine hK.out _ _ (fun h => absurd h (by decide)) ?_
              clear hK K
              try simp only [Act.put, List.setIfInBounds_toArray, List.set_cons_zero, List.set_cons_succ]
              repeat (refine mix_pure ?_ (by rfl) (fun w4 => ?_) ?_; rotate_left; (focus (go_simp; try with_reducible rfl)); simp only [Act.put, List.setIfInBounds_toArray, List.set_cons_zero, List.set_cons_succ])
              refine mix_nil ?_
              go_wp2
              go_ret2
              exact ⟨0, A5, q, q, fun i c => gE.s k (fun j => gE.m (gE.cM el k i j) (gE.s k fun t => gE.m (X j t) (el (g (pkA L q t) c)))), rfl, HE.out, rfl, fun _ O' hO' i hi c _ => back_shares (by omega) (by omega) hi HAn.out HQI.out (hO' i hi) (fun s t hs ht => HID.out s t hs ht) (fun t => el (g (pkA L q t) c)), by rw [HLEN.out]; exact HR5.out, HBG5.out, Nat.le_refl _⟩
  · have t1 : ((nr : Int) != (n : Int)) = true := by rw [bne_iff_ne]; omega
    have H1 := Lib.hid h1
    clear h1
    go_enter Try.func64, Try.ntmps64
    go_wp2_with fail
    refine CN.out.mono ?_
    rintro e w1 ⟨rfl, rfl⟩
    go_wp2
    go_ret2
    exact ⟨40, none, 0, 0, fun _ _ => 0, rfl, .inl ⟨H1.out, rfl⟩, rfl, fun h => absurd h (by decide), RdM.zero _ _ _ _, Below.refl _ _, Nat.le_refl _⟩
theorem reb_any (p k n : Nat) (A : Option Addr) (nr c : Nat) (L : Nat → Nat) (g : Nat → Nat → Nat) (w : World) (hk : 0 < k) (hkn : k ≤ n) (hn : n ≤ 255) (hnr : nr ≤ 1000000000000000) (hL : ∀ i, i < nr → L i ≤ 140737488351232) (hg : ∀ i, i < nr → ∀ j, j < L i → g i j < 256) (hC : CodeAt w p k n) (hA : RdM w A nr L (fun i j => .int .u8 (g i j))) :
    Calls Try.prog 64 #[.pointer (some ⟨p, 0, none⟩), .slice A nr c] w (RebO k n nr L g w) :=
  (reb_full p k n A nr c L g w hk hkn hn hnr hL hg hC hA).mono fun _ _ ⟨a, b, c, d, f, h1, h2, h3, h4, h5, h6, _⟩ => ⟨a, b, c, d, f, h1, h2, h3, h4, h5, h6⟩
end Go.Proofs.Ytjaaldandgfkgaa

/- Rebuild of the program: what it answers is new memory, rows apart. Conditions: as Rebuild's. -/
namespace Go.Proofs.Ytjaaldandgfkgaa
open Go.RowKit

/-- What Rebuild answers: error, rows; the list's room. -/
def RebX (k n nr : Nat) (L : Nat → Nat) (g : Nat → Nat → Nat) (w : World) (e : Ending) (w' : World) : Prop :=
  ∃ (er : Int) (A' : Option Addr) (R c' : Nat) (W : Nat → Nat → Fin 256), e = .returned (.tuple #[.slice A' R c', .int .i64 er]) ∧ RebE k n nr L er ∧ R = (if er = 0 then n else 0) ∧ (er = 0 → RebW k n L g (L (pkA L n 0)) W) ∧ (er = 0 → ∃ T S, A' = some ⟨T, 0, none⟩ ∧ c' = n ∧ w.heap.size ≤ T ∧ Mx w' w.heap.size T 43 5 n S (L (pkA L n 0)) (L (pkA L n 0)) (fun i c => .int .u8 ((W i c).val : Nat))) ∧ Below w.heap.size w w' ∧ R ≤ c'
set_option maxRecDepth 20000 in
set_option maxHeartbeats 4000000 in
theorem reb_mx (p k n : Nat) (A : Option Addr) (nr c : Nat) (L : Nat → Nat) (g : Nat → Nat → Nat) (w : World) (hk : 0 < k) (hkn : k ≤ n) (hn : n ≤ 255) (hnr : nr ≤ 1000000000000000) (hL : ∀ i, i < nr → L i ≤ 140737488351232) (hg : ∀ i, i < nr → ∀ j, j < L i → g i j < 256) (hC : CodeAt w p k n) (hA : RdM w A nr L (fun i j => .int .u8 (g i j))) :
    Calls Try.prog 64 #[.pointer (some ⟨p, 0, none⟩), .slice A nr c] w (RebX k n nr L g w) := by
  obtain ⟨S, C, hA1, hA2⟩ := hA
  have CN := Lib.hid (none_any p k n w hC hk)
  have hcn := hC.cn
  have HA1 := Lib.hid hA1; have HA2 := Lib.hid hA2; have HG := Lib.hid hg; have HL := Lib.hid hL; have HC := Lib.hid hC
  clear hA1 hA2 hg hL hC
  by_cases h1 : nr = n
  · subst h1
    have t1 : ((nr : Int) != (nr : Int)) = false := by simp
    go_enter Try.func64, Try.ntmps64
    go_wp2_with fail
    refine CN.out.mono ?_
    rintro e w1 ⟨rfl, rfl⟩
    clear CN
    go_wp2
    clear t1 hcn
    go_loopg [6, 7, 8, 9, 25] nr (fun gk pv hv _ _ i wr => ∃ q : Nat, q ≤ nr ∧ gk = nr - q ∧ i = .int .i64 q ∧ Own wr w.heap.size 3 1 pv (pkN L q) (fun t => [.int .i64 (pkA L q t : Nat)]) ∧ Own wr w.heap.size 43 1 hv (pkN L q) (fun t => [.slice (S (pkA L q t)) (L (pkA L q t)) (C (pkA L q t))]) ∧ Below w.heap.size w wr)
    case atStart => exact ⟨0, Nat.zero_le _, rfl, rfl, Own.nil _ _ _ _ _, Own.nil _ _ _ _ _, Below.refl _ _⟩
    case round =>
      obtain ⟨q, hq, rfl, rfl, hP, hH, hB⟩ := hrel
      have HP := Lib.hid hP; have HH := Lib.hid hH; have HB := Lib.hid hB
      clear hP hH hB
      by_cases hlt : q < nr
      · obtain ⟨b, o, rfl, hb, hc⟩ := HA1.out q hlt
        replace hc : w.cell? ⟨b, o + q, none⟩ = some (.slice (S q) (L q) (C q)) := hc
        have hc' : wr.cell? ⟨b, o + q, none⟩ = some (.slice (S q) (L q) (C q)) := (HB.out.cell hb).trans hc
        by_cases hl : 0 < L q
        · have e1 := pkN_yes hl
          have e2 := pkA_hi hl
          have hP : Own wr w.heap.size 3 1 _ (pkN L q) (fun t => [.int .i64 (pkA L (q + 1) t : Nat)]) := HP.out.congr fun t ht => by rw [pkA_lo ht]
          have hH : Own wr w.heap.size 43 1 _ (pkN L q) (fun t => [.slice (S (pkA L (q + 1) t)) (L (pkA L (q + 1) t)) (C (pkA L (q + 1) t))]) := HH.out.congr fun t ht => by rw [pkA_lo ht]
          have hu : Hid ((#[Value.int .i64 (q : Nat)] : Array Value).toList = [.int .i64 (pkA L (q + 1) (pkN L q) : Nat)]) := by rw [e2]; rfl
          have hu2 : Hid ((#[Value.slice (S q) (L q) (C q)] : Array Value).toList = [.slice (S (pkA L (q + 1) (pkN L q))) (L (pkA L (q + 1) (pkN L q))) (C (pkA L (q + 1) (pkN L q)))]) := by rw [e2]; rfl
          have hle := pkN_le L q
          have E1 := Lib.hid e1
          have HC := Lib.hid hc
          clear hc e1 e2
          generalize pkN L q = N at *
          have hsz := HB.out.size
          have HHH := Lib.hid hH
          clear hH hc'
          have hc1 : wr.cell? ⟨b, o + q, none⟩ = some (.slice (S q) (L q) (C q)) := (HB.out.cell hb).trans HC.out
          go_wp2_with (at_builtin; refine wpList_push _ rfl (.tmp 33) (.tmp 35) 25 rfl w.heap.size 3 1 8 (.int .i64 0) #[.int .i64 (q : Nat)] Try.underlying25 intInfo rfl (by decide) _ N _ rfl hP hsz _ rfl rfl hu.out rfl rfl (by omega) (by omega) ?_)
          intro pv2 w2 hP2 hbl2 hg2 _
          have hH2 := HHH.out.keptRow hg2 (own_ne HHH.out hP (by decide))
          have HP2 := Lib.hid hP2
          have hb2 := HB.out.trans hbl2
          have hsz2 := hb2.size
          have hc3 : w2.cell? ⟨b, o + q, none⟩ = some (.slice (S q) (L q) (C q)) := (hb2.cell hb).trans HC.out
          clear hP2 hP hg2 hbl2 hc1
          go_wp2_with (at_builtin; refine wpList_push _ rfl (.tmp 37) (.tmp 39) 67 rfl w.heap.size 43 1 24 (.slice none 0 0) #[.slice (S q) (L q) (C q)] Try.underlying67 bytesInfo rfl (by decide) _ N _ rfl hH2 hsz2 _ rfl rfl hu2.out rfl rfl (by omega) (by omega) ?_)
          intro hv2 w3 hH3 hbl3 hg3 _
          have hP3 := HP2.out.keptRow hg3 (own_ne HP2.out hH2 (by decide))
          have hb3 := hb2.trans hbl3
          clear hH2 hg3 hbl3 hb2 HP2 HHH hc3
          go_wp2
          go_roundg (nr - (q + 1))
          case measure => omega
          case rel => exact ⟨q + 1, by omega, rfl, by go_num, by rw [E1.out]; exact hP3, by rw [E1.out]; exact hH3, hb3⟩
        · have e1 := pkN_no hl
          have hP := Lib.hid (HP.out.congr (g := fun t => [.int .i64 (pkA L (q + 1) t : Nat)]) fun t ht => by rw [pkA_no hl])
          have hH := Lib.hid (HH.out.congr (g := fun t => [.slice (S (pkA L (q + 1) t)) (L (pkA L (q + 1) t)) (C (pkA L (q + 1) t))]) fun t ht => by rw [pkA_no hl])
          rw [← e1] at hP hH
          clear e1 hc
          go_wp2
          go_roundg (nr - (q + 1))
          case measure => omega
          case rel => exact ⟨q + 1, by omega, rfl, by go_num, hP.out, hH.out, HB.out⟩
      · have hqn : q = nr := by omega
        subst hqn
        obtain ⟨Ap, cp, rfl, hcp, _, hRp, _⟩ := HP.out.rd
        obtain ⟨Ah, ch, rfl, hch, _, hRh, _⟩ := HH.out.rd
        have HRp := Lib.hid hRp; have HRh := Lib.hid hRh
        have hle := pkN_le L q
        clear hRp hRh HP HH
        have CO := Lib.hid (even_any Ah (pkN L q) ch (fun t => L (pkA L q t)) (fun t => C (pkA L q t)) (fun t => S (pkA L q t)) wr (by omega) HRh.out)
        have HBB : Hid (evB (pkN L q) (fun t => L (pkA L q t)) (L (pkA L q 0)) = true ↔ ∀ t, t < pkN L q → L (pkA L q t) = L (pkA L q 0)) := evB_iff
        have HCW := Lib.hid (HC.out.below HB.out)
        go_wp2_with fail
        refine CO.out.mono ?_
        rintro e w1 ⟨rfl, rfl⟩
        clear CO
        generalize evB (pkN L q) (fun t => L (pkA L q t)) (L (pkA L q 0)) = bb at *
        cases bb
        · have HE : Hid (RebE k q q L 41) := .inr (.inl ⟨rfl, fun h => absurd (HBB.out.2 h) (by decide), rfl⟩)
          have HBF := Lib.hid HB.out
          go_wp2
          go_ret2
          exact ⟨41, none, 0, 0, fun _ _ => 0, rfl, HE.out, rfl, fun h => absurd h (by decide), fun h => absurd h (by decide), HBF.out, Nat.le_refl _⟩
        · have hev := HBB.out.1 rfl
          have HEV := Lib.hid hev
          have hck := HCW.out.ck
          clear hev
          by_cases hNk : pkN L q < k
          · have HE : Hid (RebE k q q L 42) := .inr (.inr (.inl ⟨rfl, HEV.out, hNk, rfl⟩))
            have HBF := Lib.hid HB.out
            go_wp2
            go_ret2
            exact ⟨42, none, 0, 0, fun _ _ => 0, rfl, HE.out, rfl, fun h => absurd h (by decide), fun h => absurd h (by decide), HBF.out, Nat.le_refl _⟩
          · have HE : Hid (RebE k q q L 0) := .inr (.inr (.inr ⟨rfl, HEV.out, by omega, rfl⟩))
            have hkN : k ≤ pkN L q := by omega
            have hb1 : (0 : Int) ≤ (k : Int) := by omega
            have hb2 : (k : Int) ≤ (cp : Int) := by omega
            have hb3 : (k : Int) ≤ (ch : Int) := by omega
            have hHR := have_rd (g := g) (k := k) HA2.out HG.out HB.out hkN HRh.out HEV.out
            have HHR := Lib.hid hHR
            have HPR : Hid (Rd wr Ap k (fun t => .int .i64 (pkA L q t : Nat))) := fun i hi => HRp.out i (by omega)
            have HLN : Hid (L (pkA L q 0) ≤ 140737488351232) := HL.out _ (pkA_ok L q 0 (by omega)).1
            have HAn : Hid (∀ t, t < k → pkA L q t < q) := fun t ht => (pkA_ok L q t (by omega)).1
            have HQI : Hid (∀ i j, i < k → j < k → pkA L q i = pkA L q j → i = j) := fun i j hi hj e => pkA_inj (by omega) (by omega) e
            have HEI : Hid (∀ i j, i < k → j < k → el (pkA L q i) = el (pkA L q j) → i = j) := fun i j hi hj e => HQI.out i j hi hj (el_inj (by have := HAn.out i hi; omega) (by have := HAn.out j hj; omega) e)
            have HBF := Lib.hid HB.out
            have HPL := Lib.hid HCW.out.lt
            obtain ⟨bp, op, rfl, hbp, hcp1⟩ := HPR.out (k - 1) (by omega)
            replace hcp1 : wr.cell? ⟨bp, op + (k - 1), none⟩ = some (.int .i64 (pkA L q (k - 1) : Nat)) := hcp1
            have hw1 : IntKind.i64.wrap ((k : Int) - 1) = ((k - 1 : Nat) : Int) := by rw [i64_small _ (by omega) (by omega)]; omega
            have hw2 : (k : Int) - 1 = ((k - 1 : Nat) : Int) := by omega
            have HLX : Hid (L (pkA L q 0) = L (pkA L q 0)) := rfl
            generalize hlen : L (pkA L q 0) = len at *
            have HLEN := Lib.hid hlen
            obtain ⟨Ar, cr, hcr, hM⟩ := HCW.out.cr
            have HM := Lib.hid hM
            have KS : Hid (wr.cell? ⟨p, 0, none⟩ = some (.int .i64 k) ∧ wr.cell? ⟨p, 2, none⟩ = some (.slice Ar q cr)) := ⟨hck, hcr⟩
            clear hNk hHR HB HRp HRh hlen HLX hM hcr HCW
            by_cases hown : pkA L q (k - 1) = k - 1
            · have HOW := Lib.hid hown
              have t2 : (((pkA L q (k - 1) : Nat) : Int) == ((k - 1 : Nat) : Int)) = true := by rw [hown]; simp
              clear hown hw2
              go_wp2_with fail
              go_quiet (fail)
              clear t2 hw1 hcp1 hck
              go_wp2_with fail
              refine wp_region_mix [(true, true, false), (true, true, false), (true, true, false), (true, true, true), (true, true, false), (true, true, false), (true, true, false), (true, true, false), (true, true, true), (true, true, false), (false, false, false), (false, false, true), (false, true, false)] mixed (by kernel_rfl) (fun w4 => w4.cell? ⟨p, 0, none⟩ = some (.int .i64 k) ∧ w4.cell? ⟨p, 2, none⟩ = some (.slice Ar q cr)) (KS.out) ?_
              intro hSw0
              simp only [hdM, tlM, List.cons_append, List.nil_append]
              repeat (first
                | (refine mix_look hSw0.out ?_ (by rfl) (fun w4 hSw => ?_) ?_; rotate_left; (focus (obtain ⟨s1, s2⟩ := hSw; go_simp; try with_reducible rfl)); simp only [Act.put, List.setIfInBounds_toArray, List.set_cons_zero, List.set_cons_succ])
                | (refine mix_pure ?_ (by rfl) (fun w4 => ?_) ?_; rotate_left; (focus (go_simp; try with_reducible rfl)); simp only [Act.put, List.setIfInBounds_toArray, List.set_cons_zero, List.set_cons_succ]))
              refine mix_step (fun K hK => ?_)
              go_simp
              refine (product_mx Ar Ah q k cr ch len (gE.cM el k) (fun t c => el (g (pkA L q t) c)) _ (by omega) (by omega) hk HLN.out (ME.below HM.out (((Dr.refl wr).drewN _).drew.below _)) (RdM.below HHR.out (((Dr.refl wr).drewN _).drew.below _))).mono ?_
              rintro e w2 ⟨T2, S2, rfl, hT2, hR, hb2⟩
              dsimp only
              have HT2 : Hid (w.heap.size ≤ T2) := Nat.le_trans HBF.out.size (by simpa using hT2)
              have HR := Lib.hid (hR.mono (B' := w.heap.size) (by simpa using HBF.out.size)); have HBG : Hid (Below w.heap.size w w2) := (((Dr.refl wr).drewN _).drew.below' HBF.out).trans (hb2.mono HBF.out.size)
              clear hR hT2
              refine hK.out _ _ (fun _ hS => ⟨(hb2.cell HPL.out).trans hS.1, (hb2.cell HPL.out).trans hS.2⟩) ?_
              clear hK K hb2
              try simp only [Act.put, List.setIfInBounds_toArray, List.set_cons_zero, List.set_cons_succ]
              refine mix_step (fun K hK => ?_)
              go_simp
              refine hK.out _ _ (fun h => absurd h (by decide)) ?_
              clear hK K
              try simp only [Act.put, List.setIfInBounds_toArray, List.set_cons_zero, List.set_cons_succ]
              repeat (refine mix_pure ?_ (by rfl) (fun w4 => ?_) ?_; rotate_left; (focus (go_simp; try with_reducible rfl)); simp only [Act.put, List.setIfInBounds_toArray, List.set_cons_zero, List.set_cons_succ])
              refine mix_nil ?_
              go_wp2
              go_ret2
              exact ⟨0, some ⟨T2, 0, none⟩, q, q, fun i c => gE.s k (fun t => gE.m (gE.cM el k i t) (el (g (pkA L q t) c))), rfl, HE.out, rfl, fun _ O' hO' i hi c _ => gE.s_congr fun t ht => by rw [shP_own (by omega) (by omega) hi (fun t ht => pkA_own hk hkN HOW.out ht) (hO' i hi) t ht], fun _ => ⟨T2, S2, rfl, rfl, HT2.out, by rw [HLEN.out]; exact HR.out⟩, HBG.out, Nat.le_refl _⟩
            · have HOW := Lib.hid hown
              have t2 : (((pkA L q (k - 1) : Nat) : Int) == ((k - 1 : Nat) : Int)) = false := by rw [beq_eq_false_iff_ne]; omega
              clear hown hw2
              go_wp2_with fail
              go_quiet (fail)
              clear t2 hw1 hcp1 hck
              go_wp2_with fail
              refine wp_region_mix [(true, true, false), (true, true, false), (true, true, false), (true, true, true), (true, true, false), (true, true, false), (true, true, false), (true, true, false), (true, true, true), (true, true, false), (false, false, false), (false, true, false), (false, true, false), (false, true, false), (false, true, false), (false, true, false)] mixed (by kernel_rfl) (fun w4 => w4.cell? ⟨p, 0, none⟩ = some (.int .i64 k) ∧ w4.cell? ⟨p, 2, none⟩ = some (.slice Ar q cr)) (KS.out) ?_
              intro hSw0
              simp only [hdM, tlM, List.cons_append, List.nil_append]
              repeat (first
                | (refine mix_look hSw0.out ?_ (by rfl) (fun w4 hSw => ?_) ?_; rotate_left; (focus (obtain ⟨s1, s2⟩ := hSw; go_simp; try with_reducible rfl)); simp only [Act.put, List.setIfInBounds_toArray, List.set_cons_zero, List.set_cons_succ])
                | (refine mix_pure ?_ (by rfl) (fun w4 => ?_) ?_; rotate_left; (focus (go_simp; try with_reducible rfl)); simp only [Act.put, List.setIfInBounds_toArray, List.set_cons_zero, List.set_cons_succ]))
              refine mix_step (fun K hK => ?_)
              go_simp
              refine (rowsE_ok Ar (some ⟨bp, op, none⟩) q k cr cp (fun _ => k) (fun i j => (gE.cM el k i j).val) (pkA L q) _ (const_fault (by omega) (by omega)) (by omega) (ME.below HM.out (((Dr.refl wr).drewN _).drew.below _)) (HPR.out.below (((Dr.refl wr).drewN _).drew.below _)) HAn.out).mono ?_
              rintro e w2 ⟨A2, c2, rfl, hR, hb2⟩
              dsimp only
              have hbd := (((Dr.refl wr).drewN _).drew.below wr.heap.size).trans (hb2.mono (Nat.le_refl _))
              have HM2 := Lib.hid (ME.below HM.out hbd); have HHR2 := Lib.hid (RdM.below HHR.out hbd)
              have KS2 : Hid (w2.cell? ⟨p, 0, none⟩ = some (.int .i64 k) ∧ w2.cell? ⟨p, 2, none⟩ = some (.slice Ar q cr)) := ⟨(hbd.cell (HPL.out)).trans KS.out.1, (hbd.cell (HPL.out)).trans KS.out.2⟩
              have HR := Lib.hid hR; have HBG : Hid (Below w.heap.size w w2) := HBF.out.trans (hbd.mono HBF.out.size)
              have hpl2 : p < w2.heap.size := by have := hbd.size; have := HPL.out; omega
              have HPL2 := Lib.hid hpl2
              clear hR hbd hpl2
              refine hK.out _ _ (fun _ hS => ⟨(hb2.cell HPL.out).trans hS.1, (hb2.cell HPL.out).trans hS.2⟩) ?_
              clear hK K hb2
              try simp only [Act.put, List.setIfInBounds_toArray, List.set_cons_zero, List.set_cons_succ]
              repeat (refine mix_pure ?_ (by rfl) (fun w4 => ?_) ?_; rotate_left; (focus (go_simp; try with_reducible rfl)); simp only [Act.put, List.setIfInBounds_toArray, List.set_cons_zero, List.set_cons_succ])
              refine mix_nil ?_
              clear KS HM HHR HBF HPL
              go_wp2_with fail
              refine (invE_any A2 k c2 (fun _ => k) (fun i j => gE.cM el k (pkA L q i) j) _ (by omega) (fun _ _ => by omega) HR.out).mono ?_
              rintro e w3 ⟨er, X, A3, c3, rfl, hIP, hb3, hX⟩
              obtain ⟨he, hid⟩ := inv_of_free hIP (const_fault (by omega) (by omega)) (const_cols hk) (code_free (by omega) (by omega) HAn.out HQI.out)
              subst he
              rw [if_pos rfl] at hX ⊢
              have HX := Lib.hid hX; have HID := Lib.hid hid
              have HM3 := Lib.hid (ME.below HM2.out hb3); have HHR3 := Lib.hid (RdM.below HHR2.out hb3)
              have KS3 : Hid (w3.cell? ⟨p, 0, none⟩ = some (.int .i64 k) ∧ w3.cell? ⟨p, 2, none⟩ = some (.slice Ar q cr)) := ⟨(hb3.cell (HPL2.out)).trans KS2.out.1, (hb3.cell (HPL2.out)).trans KS2.out.2⟩
              have HBG3 := Lib.hid (HBG.out.trans (hb3.mono HBG.out.size))
              have hpl3 : p < w3.heap.size := by have := hb3.size; have := HPL2.out; omega
              have HPL3 := Lib.hid hpl3
              clear hIP hX hid hb3 HR HM2 HHR2 KS2 HBG HPL2 hpl3
              go_wp2_with fail
              refine wp_region_mix [(true, true, false), (true, true, false), (true, true, false), (true, true, true), (true, true, false), (true, true, false), (true, true, false), (true, true, false), (true, true, false), (true, true, true), (true, true, false), (false, false, false), (false, false, false), (false, false, true), (false, true, false)] mixed (by kernel_rfl) (fun w4 => w4.cell? ⟨p, 0, none⟩ = some (.int .i64 k) ∧ w4.cell? ⟨p, 2, none⟩ = some (.slice Ar q cr)) (KS3.out) ?_
              intro hSw0
              simp only [hdM, tlM, List.cons_append, List.nil_append]
              repeat (first
                | (refine mix_look hSw0.out ?_ (by rfl) (fun w4 hSw => ?_) ?_; rotate_left; (focus (obtain ⟨s1, s2⟩ := hSw; go_simp; try with_reducible rfl)); simp only [Act.put, List.setIfInBounds_toArray, List.set_cons_zero, List.set_cons_succ])
                | (refine mix_pure ?_ (by rfl) (fun w4 => ?_) ?_; rotate_left; (focus (go_simp; try with_reducible rfl)); simp only [Act.put, List.setIfInBounds_toArray, List.set_cons_zero, List.set_cons_succ]))
              refine mix_step (fun K hK => ?_)
              go_simp
              refine (product_mx A3 Ah k k c3 ch len X (fun t c => el (g (pkA L q t) c)) _ (by omega) (by omega) hk HLN.out (ME.below HX.out ((Dr.refl w3).drew.below _)) (RdM.below HHR3.out ((Dr.refl w3).drew.below _))).mono ?_
              rintro e w4 ⟨T4, S4, rfl, hT4, hR0, hb4⟩
              dsimp only
              have hbd := ((Dr.refl w3).drew.below w3.heap.size).trans (hb4.mono (Nat.le_refl _))
              have HM4 := Lib.hid (ME.below HM3.out hbd)
              have hR := hR0.rdm; have HR := Lib.hid hR; have HBG4 := Lib.hid (HBG3.out.trans (hbd.mono HBG3.out.size))
              have hpl4 : p < w4.heap.size := by have := hbd.size; have := HPL3.out; omega
              have HPL4 := Lib.hid hpl4
              clear hR hR0 hT4 hbd hpl4
              refine hK.out _ _ (fun _ hS => ⟨(hb4.cell HPL3.out).trans hS.1, (hb4.cell HPL3.out).trans hS.2⟩) ?_
              clear hK K hb4
              try simp only [Act.put, List.setIfInBounds_toArray, List.set_cons_zero, List.set_cons_succ]
              refine mix_step (fun K hK => ?_)
              go_simp
              refine (product_mx Ar (some ⟨T4, 0, none⟩) q k cr k len (gE.cM el k) (fun j c => gE.s k (fun t => gE.m (X j t) (el (g (pkA L q t) c)))) _ (by omega) (by omega) hk HLN.out HM4.out HR.out).mono ?_
              rintro e w5 ⟨T5, S5, rfl, hT5, hR5, hb5⟩
              dsimp only
              have HR5 := Lib.hid (hR5.mono HBG4.out.size); have HT5 : Hid (w.heap.size ≤ T5) := Nat.le_trans HBG4.out.size hT5; have HBG5 := Lib.hid (HBG4.out.trans (hb5.mono HBG4.out.size))
              clear hR5 hT5
              refine hK.out _ _ (fun _ hS => ⟨(hb5.cell HPL4.out).trans hS.1, (hb5.cell HPL4.out).trans hS.2⟩) ?_
              clear hK K hb5
              try simp only [Act.put, List.setIfInBounds_toArray, List.set_cons_zero, List.set_cons_succ]
              refine mix_step (fun K hK => ?_)
              go_simp
              refine hK.out _ _ (fun h => absurd h (by decide)) ?_
              clear hK K
              try simp only [Act.put, List.setIfInBounds_toArray, List.set_cons_zero, List.set_cons_succ]
              repeat (refine mix_pure ?_ (by rfl) (fun w4 => ?_) ?_; rotate_left; (focus (go_simp; try with_reducible rfl)); simp only [Act.put, List.setIfInBounds_toArray, List.set_cons_zero, List.set_cons_succ])
              refine mix_nil ?_
              go_wp2
              go_ret2
              exact ⟨0, some ⟨T5, 0, none⟩, q, q, fun i c => gE.s k (fun j => gE.m (gE.cM el k i j) (gE.s k fun t => gE.m (X j t) (el (g (pkA L q t) c)))), rfl, HE.out, rfl, fun _ O' hO' i hi c _ => back_shares (by omega) (by omega) hi HAn.out HQI.out (hO' i hi) (fun s t hs ht => HID.out s t hs ht) (fun t => el (g (pkA L q t) c)), fun _ => ⟨T5, S5, rfl, rfl, HT5.out, by rw [HLEN.out]; exact HR5.out⟩, HBG5.out, Nat.le_refl _⟩
  · have t1 : ((nr : Int) != (n : Int)) = true := by rw [bne_iff_ne]; omega
    have H1 := Lib.hid h1
    clear h1
    go_enter Try.func64, Try.ntmps64
    go_wp2_with fail
    refine CN.out.mono ?_
    rintro e w1 ⟨rfl, rfl⟩
    go_wp2
    go_ret2
    exact ⟨40, none, 0, 0, fun _ _ => 0, rfl, .inl ⟨H1.out, rfl⟩, rfl, fun h => absurd h (by decide), fun h => absurd h (by decide), Below.refl _ _, Nat.le_refl _⟩
end Go.Proofs.Ytjaaldandgfkgaa
