/- Rebuild of the document: the walk. Conditions: lengths that memory bears, bytes. -/
import Derived.Test.YthodpgkelmalmaaRebP
namespace Go.Proofs.Ythodpgkelmalmaa
open Go.RowKit

theorem spreadP_any (A Bm : Option Addr) (n k c1 c2 len : Nat) (a : Nat → Nat) (D : Nat → Nat → Fin 256) (w : World) (hn : n ≤ 256) (hk : k ≤ 256) (hk0 : 0 < k) (hlen : len ≤ 140737488351232) (ha : ∀ t, t < k → a t < 256)
    (hA : Rd w A k (fun t => .int .i64 (a t : Nat))) (hB : RdM w Bm k (fun _ => len) (fun j c => .int .u8 ((D j c).val : Nat))) :
    Calls Try.prog 53 #[.int .i64 n, .slice A k c1, .slice Bm k c2] w fun e w' => ∃ (A' : Option Addr) (c' : Nat) (O : Nat → Nat → Fin 256), e = .returned (.slice A' n c') ∧ (∀ i, i < n → gE.ShP (fun t => el (a t)) k (el i) (O i)) ∧ RdM w' A' n (fun _ => len) (fun i c => .int .u8 ((gE.s k (fun t => gE.m (O i t) (D t c))).val : Nat)) ∧ Below w.heap.size w w' := by
  have hA' : Rd w A k (fun t => .int .i64 ((el (a t)).val : Nat)) := hA.congr fun i hi => by rw [el_val (ha i hi)]
  have HA := Lib.hid hA'; have HB := Lib.hid hB
  clear hA hA' hB
  go_enter Try.func53, Try.ntmps53
  go_wp2_with fail
  refine (weights_any A n k c1 (fun t => el (a t)) w hn (by omega) HA.out).mono ?_
  rintro e w1 ⟨A1, c3, O, rfl, hO, hS, hb1⟩
  have HS := Lib.hid hS; have HO := Lib.hid hO; have HB1 := Lib.hid hb1
  clear hO hS hb1
  go_wp2_with fail
  refine (by_any A1 Bm n k c3 c2 len O D w1 hn (by omega) hk0 hlen HO.out (RdM.below HB.out HB1.out)).mono ?_
  rintro e w2 ⟨A2, c4, rfl, hR, hb2⟩
  have HR := Lib.hid hR
  have HB2 := Lib.hid (HB1.out.trans (hb2.mono HB1.out.size))
  clear hR hb2
  go_wp2
  go_ret
  exact ⟨A2, c4, O, rfl, HS.out, HR.out, HB2.out⟩
/-- The rows that stand, read. -/
theorem have_rd {w w1 : World} {n len : Nat} {L C : Nat → Nat} {S : Nat → Option Addr} {g : Nat → Nat → Nat} {A : Option Addr} {k : Nat} (h2 : ∀ i, i < n → Rd w (S i) (L i) (fun j => .int .u8 (g i j))) (hg : ∀ i, i < n → ∀ j, j < L i → g i j < 256) (hb : Below w.heap.size w w1) (hk : k ≤ pkN L n)
    (hH : Rd w1 A (pkN L n) (fun t => .slice (S (pkA L n t)) (L (pkA L n t)) (C (pkA L n t)))) (hlen : ∀ t, t < pkN L n → L (pkA L n t) = len) : RdM w1 A k (fun _ => len) (fun t c => .int .u8 ((el (g (pkA L n t) c)).val : Nat)) :=
  ⟨fun t => S (pkA L n t), fun t => C (pkA L n t), fun t ht => by
    obtain ⟨b, o, e, hb', hc⟩ := hH t (by omega)
    exact ⟨b, o, e, hb', by
      rw [hc]
      show some (Value.slice (S (pkA L n t)) (L (pkA L n t)) (C (pkA L n t))) = some (Value.slice (S (pkA L n t)) len (C (pkA L n t)))
      rw [hlen t (by omega)]⟩, fun t ht => by
    have h := pkA_ok L n t (by omega)
    have h3 := (h2 _ h.1).below hb
    rw [hlen t (by omega)] at h3
    exact h3.congr fun c hc => by
      show Value.int .u8 ((g (pkA L n t) c : Nat) : Int) = Value.int .u8 ((el (g (pkA L n t) c)).val : Int)
      rw [el_val (hg _ h.1 c (by rw [hlen t (by omega)]; exact hc))]⟩
/-- What Rebuild answers: error, rows. -/
def RebO (k n nr : Nat) (L : Nat → Nat) (g : Nat → Nat → Nat) (w : World) (e : Ending) (w' : World) : Prop :=
  ∃ (er : Int) (A' : Option Addr) (R c' : Nat) (W : Nat → Nat → Fin 256), e = .returned (.tuple #[.slice A' R c', .int .i64 er]) ∧ RebE k n nr L er ∧ R = (if er = 0 then n else 0) ∧ (er = 0 → RebW k n L g (L (pkA L n 0)) W) ∧ RdM w' A' R (fun _ => L (pkA L n 0)) (fun i c => .int .u8 ((W i c).val : Nat)) ∧ Below w.heap.size w w'
set_option maxRecDepth 20000 in
set_option maxHeartbeats 4000000 in
theorem rreb_any (A : Option Addr) (k m nr c : Nat) (L : Nat → Nat) (g : Nat → Nat → Nat) (w : World) (hk : 0 < k) (hkm : k + m ≤ 255) (hnr : nr ≤ 1000000000000000) (hL : ∀ i, i < nr → L i ≤ 140737488351232) (hg : ∀ i, i < nr → ∀ j, j < L i → g i j < 256) (hA : RdM w A nr L (fun i j => .int .u8 (g i j))) :
    Calls Try.prog 37 #[.int .i64 k, .int .i64 m, .slice A nr c] w (RebO k (k + m) nr L g w) := by
  obtain ⟨S, C, hA1, hA2⟩ := hA
  have HA1 := Lib.hid hA1; have HA2 := Lib.hid hA2; have HG := Lib.hid hg; have HL := Lib.hid hL
  clear hA1 hA2 hg hL
  have hs1 : IntKind.i64.wrap ((k : Int) + (m : Int)) = (k : Int) + (m : Int) := i64_small _ (by omega) (by omega)
  by_cases h1 : nr = k + m
  · subst h1
    go_enter Try.func37, Try.ntmps37
    go_wp2
    go_loopg [8, 9, 10] (k + m) (fun gk pv hv i wr => ∃ q : Nat, q ≤ k + m ∧ gk = k + m - q ∧ i = .int .i64 q ∧ Own wr w.heap.size 3 1 pv (pkN L q) (fun t => [.int .i64 (pkA L q t : Nat)]) ∧ Own wr w.heap.size 24 1 hv (pkN L q) (fun t => [.slice (S (pkA L q t)) (L (pkA L q t)) (C (pkA L q t))]) ∧ Below w.heap.size w wr)
    case atStart => exact ⟨0, Nat.zero_le _, rfl, rfl, Own.nil _ _ _ _ _, Own.nil _ _ _ _ _, Below.refl _ _⟩
    case round =>
      obtain ⟨q, hq, rfl, rfl, hP, hH, hB⟩ := hrel
      have HP := Lib.hid hP; have HH := Lib.hid hH; have HB := Lib.hid hB
      clear hP hH hB
      by_cases hlt : q < k + m
      · obtain ⟨b, o, rfl, hb, hc⟩ := HA1.out q hlt
        replace hc : w.cell? ⟨b, o + q, none⟩ = some (.slice (S q) (L q) (C q)) := hc
        have hc' : wr.cell? ⟨b, o + q, none⟩ = some (.slice (S q) (L q) (C q)) := (HB.out.cell hb).trans hc
        by_cases hl : 0 < L q
        · have e1 := pkN_yes hl
          have e2 := pkA_hi hl
          have hP : Own wr w.heap.size 3 1 _ (pkN L q) (fun t => [.int .i64 (pkA L (q + 1) t : Nat)]) := HP.out.congr fun t ht => by rw [pkA_lo ht]
          have hH : Own wr w.heap.size 24 1 _ (pkN L q) (fun t => [.slice (S (pkA L (q + 1) t)) (L (pkA L (q + 1) t)) (C (pkA L (q + 1) t))]) := HH.out.congr fun t ht => by rw [pkA_lo ht]
          have hu : Hid ((#[Value.int .i64 (q : Nat)] : Array Value).toList = [.int .i64 (pkA L (q + 1) (pkN L q) : Nat)]) := by rw [e2]; rfl
          have hu2 : Hid ((#[Value.slice (S q) (L q) (C q)] : Array Value).toList = [.slice (S (pkA L (q + 1) (pkN L q))) (L (pkA L (q + 1) (pkN L q))) (C (pkA L (q + 1) (pkN L q)))]) := by rw [e2]; rfl
          have hle := pkN_le L q
          have E1 := Lib.hid e1
          have HC := Lib.hid hc
          clear hc e1 e2
          generalize pkN L q = N at *
          have hsz := HB.out.size
          have HHH := Lib.hid hH
          clear hH
          have hc2 := hc'
          go_wp2_with (at_builtin; refine wpList_push _ rfl (.tmp 29) (.tmp 31) 40 rfl w.heap.size 3 1 8 (.int .i64 0) #[.int .i64 (q : Nat)] Try.underlying40 intInfo rfl (by decide) _ N _ rfl hP hsz _ rfl rfl hu.out rfl rfl (by omega) (by omega) ?_)
          intro pv2 w2 hP2 hbl2 hg2 _
          have hH2 := HHH.out.keptRow hg2 (own_ne HHH.out hP (by decide))
          have HP2 := Lib.hid hP2
          have hb2 := HB.out.trans hbl2
          have hsz2 := hb2.size
          have hc3 : w2.cell? ⟨b, o + q, none⟩ = some (.slice (S q) (L q) (C q)) := (hb2.cell hb).trans HC.out
          clear hP2 hP hg2 hbl2 hc2
          go_wp2_with (at_builtin; refine wpList_push _ rfl (.tmp 33) (.tmp 38) 23 rfl w.heap.size 24 1 24 (.slice none 0 0) #[.slice (S q) (L q) (C q)] Try.underlying23 bytesInfo rfl (by decide) _ N _ rfl hH2 hsz2 _ rfl rfl hu2.out rfl rfl (by omega) (by omega) ?_)
          intro hv2 w3 hH3 hbl3 hg3 _
          have hP3 := HP2.out.keptRow hg3 (own_ne HP2.out hH2 (by decide))
          have hb3 := hb2.trans hbl3
          clear hH2 hg3 hbl3 hb2 HP2 HHH hc3
          go_wp2
          go_roundg (k + m - (q + 1))
          case measure => omega
          case rel => exact ⟨q + 1, by omega, rfl, by go_num, by rw [E1.out]; exact hP3, by rw [E1.out]; exact hH3, hb3⟩
        · have e1 := pkN_no hl
          have hP := Lib.hid (HP.out.congr (g := fun t => [.int .i64 (pkA L (q + 1) t : Nat)]) fun t ht => by rw [pkA_no hl])
          have hH := Lib.hid (HH.out.congr (g := fun t => [.slice (S (pkA L (q + 1) t)) (L (pkA L (q + 1) t)) (C (pkA L (q + 1) t))]) fun t ht => by rw [pkA_no hl])
          rw [← e1] at hP hH
          clear e1 hc
          go_wp2
          go_roundg (k + m - (q + 1))
          case measure => omega
          case rel => exact ⟨q + 1, by omega, rfl, by go_num, hP.out, hH.out, HB.out⟩
      · have hqn : q = k + m := by omega
        subst hqn
        obtain ⟨Ap, cp, rfl, hcp, _, hRp, _⟩ := HP.out.rd
        obtain ⟨Ah, ch, rfl, hch, _, hRh, _⟩ := HH.out.rd
        have HRp := Lib.hid hRp; have HRh := Lib.hid hRh
        have hle := pkN_le L (k + m)
        clear hRp hRh HP HH
        by_cases hN0 : pkN L (k + m) = 0
        · have HE : Hid (RebE k (k + m) (k + m) L 42) := .inr (.inr (.inl ⟨rfl, fun t ht => absurd ht (by omega), by omega, rfl⟩))
          have hNz : pkN L (k + m) ≤ 0 := by omega
          have HBF := Lib.hid HB.out
          clear hN0
          go_wp2
          go_ret2
          exact ⟨42, none, 0, 0, fun _ _ => 0, rfl, HE.out, rfl, fun h => absurd h (by decide), RdM.zero _ _ _ _, HBF.out⟩
        · have hNp : 0 < pkN L (k + m) := by omega
          obtain ⟨bh, oh, rfl, hbh, hch0⟩ := HRh.out 0 (by omega)
          rw [Nat.add_zero] at hch0
          replace hch0 : wr.cell? ⟨bh, oh, none⟩ = some (.slice (S (pkA L (k + m) 0)) (L (pkA L (k + m) 0)) (C (pkA L (k + m) 0))) := hch0
          have CO := Lib.hid (one_any (some ⟨bh, oh, none⟩) (pkN L (k + m)) ch (L (pkA L (k + m) 0)) (fun t => L (pkA L (k + m) t)) (fun t => C (pkA L (k + m) t)) (fun t => S (pkA L (k + m) t)) wr (by omega) HRh.out)
          have HBB : Hid (evB (pkN L (k + m)) (fun t => L (pkA L (k + m) t)) (L (pkA L (k + m) 0)) = true ↔ ∀ t, t < pkN L (k + m) → L (pkA L (k + m) t) = L (pkA L (k + m) 0)) := evB_iff
          clear hN0
          go_wp2_with fail
          refine CO.out.mono ?_
          rintro e w1 ⟨rfl, rfl⟩
          clear CO
          generalize evB (pkN L (k + m)) (fun t => L (pkA L (k + m) t)) (L (pkA L (k + m) 0)) = bb at *
          cases bb
          · have HE : Hid (RebE k (k + m) (k + m) L 41) := .inr (.inl ⟨rfl, fun h => absurd (HBB.out.2 h) (by decide), rfl⟩)
            have HBF := Lib.hid HB.out
            go_wp2
            go_ret2
            exact ⟨41, none, 0, 0, fun _ _ => 0, rfl, HE.out, rfl, fun h => absurd h (by decide), RdM.zero _ _ _ _, HBF.out⟩
          · have hev := HBB.out.1 rfl
            have HEV := Lib.hid hev
            clear hev
            by_cases hNk : pkN L (k + m) < k
            · have HE : Hid (RebE k (k + m) (k + m) L 42) := .inr (.inr (.inl ⟨rfl, HEV.out, hNk, rfl⟩))
              have HBF := Lib.hid HB.out
              go_wp2
              go_ret2
              exact ⟨42, none, 0, 0, fun _ _ => 0, rfl, HE.out, rfl, fun h => absurd h (by decide), RdM.zero _ _ _ _, HBF.out⟩
            · have HE : Hid (RebE k (k + m) (k + m) L 0) := .inr (.inr (.inr ⟨rfl, HEV.out, by omega, rfl⟩))
              have hkN : k ≤ pkN L (k + m) := by omega
              have hb1 : (0 : Int) ≤ (k : Int) := by omega
              have hb2 : (k : Int) ≤ (cp : Int) := by omega
              have hb3 : (k : Int) ≤ (ch : Int) := by omega
              have hHR := have_rd (g := g) (k := k) HA2.out HG.out HB.out hkN HRh.out HEV.out
              have HHR := Lib.hid hHR
              have HPR : Hid (Rd wr Ap k (fun t => .int .i64 (pkA L (k + m) t : Nat))) := fun i hi => HRp.out i (by omega)
              have HLN : Hid (L (pkA L (k + m) 0) ≤ 140737488351232) := HL.out _ (pkA_ok L (k + m) 0 (by omega)).1
              have HA256 : Hid (∀ t, t < k → pkA L (k + m) t < 256) := fun t ht => by have := (pkA_ok L (k + m) t (by omega)).1; omega
              have HQI : Hid (∀ i j, i < k → j < k → el (pkA L (k + m) i) = el (pkA L (k + m) j) → i = j) := fun i j hi hj e => pkA_inj (by omega) (by omega) (el_inj (HA256.out i hi) (HA256.out j hj) e)
              have HBF := Lib.hid HB.out
              clear hNk hHR hch0 HB HRp HRh
              go_wp2_with fail
              refine wp_region_mix [(true, true, false), (true, true, false), (true, true, false), (true, true, false), (true, true, false), (true, true, false), (true, true, false), (true, true, false), (true, true, false), (false, false, true), (false, false, true), (false, true, false)] mixed (by kernel_rfl) (fun w4 => True) (trivial) ?_
              intro hSw0
              simp only [hdM, tlM, List.cons_append, List.nil_append]
              repeat (first
                | (refine mix_look hSw0.out ?_ (by rfl) (fun w4 hSw => ?_) ?_; rotate_left; (focus (have s1 := hSw; go_simp; try with_reducible rfl)); simp only [Act.put, List.setIfInBounds_toArray, List.set_cons_zero, List.set_cons_succ])
                | (refine mix_pure ?_ (by rfl) (fun w4 => ?_) ?_; rotate_left; (focus (go_simp; try with_reducible rfl)); simp only [Act.put, List.setIfInBounds_toArray, List.set_cons_zero, List.set_cons_succ]))
              refine mix_step (fun K hK => ?_)
              go_simp
              rw [show (k : Int) + (m : Int) = ((k + m : Nat) : Int) from by omega]
              refine (spreadP_any Ap (some ⟨bh, oh, none⟩) (k + m) k cp ch (L (pkA L (k + m) 0)) (pkA L (k + m)) (fun t c => el (g (pkA L (k + m) t) c)) _ (by omega) (by omega) hk HLN.out HA256.out (HPR.out.below ((Below.refl _ _).drew)) (RdM.below HHR.out ((Below.refl _ _).drew))).mono ?_
              rintro e w2 ⟨A2, c2, O, rfl, hO, hR, hb2⟩
              dsimp only
              have HO := Lib.hid hO; have HR := Lib.hid hR; have HBG : Hid (Below w.heap.size w w2) := HBF.out.drew.trans (hb2.mono HBF.out.size)
              clear hO hR hb2
              refine hK.out _ _ (fun _ h => h) ?_
              clear hK K
              try simp only [Act.put, List.setIfInBounds_toArray, List.set_cons_zero, List.set_cons_succ]
              refine mix_step (fun K hK => ?_)
              go_simp
              refine hK.out _ _ (fun _ h => h) ?_
              clear hK K
              try simp only [Act.put, List.setIfInBounds_toArray, List.set_cons_zero, List.set_cons_succ]
              repeat (refine mix_pure ?_ (by rfl) (fun w4 => ?_) ?_; rotate_left; (focus (go_simp; try with_reducible rfl)); simp only [Act.put, List.setIfInBounds_toArray, List.set_cons_zero, List.set_cons_succ])
              refine mix_nil ?_
              go_wp2
              go_ret2
              exact ⟨0, A2, k + m, c2, fun i c => gE.s k (fun t => gE.m (O i t) (el (g (pkA L (k + m) t) c))), rfl, HE.out, rfl, fun _ O' hO' i hi c _ => gE.s_congr fun t ht => by rw [Fd.shP_uniq HQI.out (HO.out i hi) (hO' i hi) t ht], HR.out, HBG.out⟩
  · have t1 : ((nr : Int) != (k : Int) + (m : Int)) = true := by rw [bne_iff_ne]; omega
    have H1 := Lib.hid h1
    clear h1
    go_enter Try.func37, Try.ntmps37
    go_wp2
    go_ret2
    exact ⟨40, none, 0, 0, fun _ _ => 0, rfl, .inl ⟨H1.out, rfl⟩, rfl, fun h => absurd h (by decide), RdM.zero _ _ _ _, Below.refl _ _⟩
end Go.Proofs.Ythodpgkelmalmaa
