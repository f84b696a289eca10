/- product, Encode of the program's code: what they answer is new memory, rows apart. Conditions: as theirs. -/
import Derived.Test.YtjaaldandgfkgaaCode3
namespace Go.Proofs.Ytjaaldandgfkgaa
open Go.RowKit

theorem Mx.mono {w : World} {B B' b tR e n L M : Nat} {S : Nat → Nat} {f : Nat → Nat → Value} (h : Mx w B b tR e n S L M f) (hB : B' ≤ B) : Mx w B' b tR e n S L M f :=
  ⟨h.top, h.row, Nat.le_trans hB h.lob, fun i hi => Nat.le_trans hB (h.los i hi), h.inj, h.off⟩
set_option maxRecDepth 40000 in
set_option maxHeartbeats 4000000 in
theorem product_mx (A Bm : Option Addr) (n k c1 c2 len : Nat) (O D : Nat → Nat → Fin 256) (w : World) (hn : n ≤ 1000) (hk : k ≤ 1000) (hk0 : 0 < k) (hlen : len ≤ 140737488351232)
    (hA : ME w A n (fun _ => k) (fun i j => (O i j).val)) (hB : RdM w Bm k (fun _ => len) (fun j c => .int .u8 ((D j c).val : Nat))) :
    Calls Try.prog 87 #[.slice A n c1, .slice Bm k c2] w fun e w' => ∃ (T : Nat) (S : Nat → Nat), e = .returned (.slice (some ⟨T, 0, none⟩) n n) ∧ w.heap.size ≤ T ∧ Mx w' w.heap.size T 43 5 n S len len (fun i c => .int .u8 ((gE.s k (fun t => gE.m (O i t) (D t c))).val : Nat)) ∧ Below w.heap.size w w' := by
  obtain ⟨SA, CA, hA1, hA2⟩ := hA
  obtain ⟨SB, CB, hB1, hB2⟩ := hB
  have HA1 := Lib.hid hA1; have HA2 := Lib.hid hA2; have HB1 := Lib.hid hB1; have HB2 := Lib.hid hB2
  clear hA1 hA2 hB1 hB2
  obtain ⟨b0, o0, rfl, hb0, hx0⟩ := HB1.out 0 hk0
  rw [Nat.add_zero] at hx0
  have HX0 := Lib.hid hx0; clear hx0
  have hmk1 := run_make_row' (P := Try.prog) 67 43 (.slice none 0 0) 24 Try.underlying67 bytesInfo rfl .i64 .i64 n (by omega) (by omega)
  have hmk := run_make_row' (P := Try.prog) 43 5 (.int .u8 0) 1 Try.underlying43 byteInfo rfl .i64 .i64 len (by omega) (by omega)
  have HMK := Lib.hid hmk; clear hmk
  have hz0 := Lib.hid (Bs.start w 43 5 n len len (fun _ => 0) (fun i c => .int .u8 ((gE.s k (fun t => gE.m (O i t) (D t c))).val : Nat)))
  have hbz := Lib.hid ((Below.refl w.heap.size w).alloc (Nat.le_refl _) (.cells (madeCells #[.slice none 0 0] n) 43))
  go_enter Try.func87, Try.ntmps87
  go_wp2
  clear hmk1
  go_loopg [6, 7, 15] n (fun gk _ _ v wr => ∃ (i : Nat) (S : Nat → Nat), i ≤ n ∧ gk = n - i ∧ v = .int .i64 i ∧ Bs wr w.heap.size 43 5 n i len len S (fun i c => .int .u8 ((gE.s k (fun t => gE.m (O i t) (D t c))).val : Nat)) ∧ Below w.heap.size w wr)
  case atStart => exact ⟨0, _, Nat.zero_le _, rfl, rfl, hz0.out, hbz.out⟩
  case round =>
    clear hz0 hbz
    obtain ⟨i, S, hi, rfl, rfl, hM, hb⟩ := hrel
    have hsz := hb.size
    by_cases hlt : i < n
    · obtain ⟨wo, rfl⟩ : ∃ wo : World, wo = wr := ⟨_, rfl⟩
      obtain ⟨b1, o1, rfl, hb1, hx1⟩ := HA1.out i hlt
      have hy1 : wo.cell? ⟨b1, o1 + i, none⟩ = some (.slice (SA i) k (CA i)) := (hb.cell hb1).trans hx1
      have hx0 : wo.cell? ⟨b0, o0, none⟩ = some (.slice (SB 0) len (CB 0)) := (hb.cell hb0).trans HX0.out
      have HRA := Lib.hid (HA2.out i hlt)
      generalize SA i = Ai at *
      have hmk := HMK.out
      have htop := hM.top.cell hlt
      rw [if_neg (Nat.lt_irrefl i)] at htop
      have hmbl := hM.top.lt
      have hst1 : ∀ o, (wo.alloc o).cell? ⟨w.heap.size, i, none⟩ = some (.slice none 0 0) := fun o => by
        rw [((Below.refl wo.heap.size wo).alloc (Nat.le_refl _) o).cell hmbl]; exact htop
      have hst2 : ∀ o, (wo.alloc o).frozen? ⟨w.heap.size, i, none⟩ = false := fun o => (hM.top.alloc o).frozen i
      have hzz : (wo.setCell ⟨w.heap.size, i, none⟩ (.slice (some ⟨wo.heap.size, 0, none⟩) len len)).heap.size = wo.heap.size := by simp
      have HROW : Hid (((wo.setCell ⟨w.heap.size, i, none⟩ (.slice (some ⟨wo.heap.size, 0, none⟩) len len)).alloc (.cells (madeCells #[.int .u8 0] len) 5)).rowIs wo.heap.size 5 len (fun _ => .int .u8 0)) := by
        have h := World.rowIs_made (wo.setCell ⟨w.heap.size, i, none⟩ (.slice (some ⟨wo.heap.size, 0, none⟩) len len)) (.int .u8 0) len 5
        rw [hzz] at h
        exact h
      have HTOP := Lib.hid ((hM.top.set i (.slice (some ⟨wo.heap.size, 0, none⟩) len len)).alloc (.cells (madeCells #[.int .u8 0] len) 5))
      have HBN := Lib.hid ((hb.setCell (p := ⟨w.heap.size, i, none⟩) (Nat.le_refl _) (.slice (some ⟨wo.heap.size, 0, none⟩) len len)).alloc (by rw [hzz]; exact hsz) (.cells (madeCells #[.int .u8 0] len) 5))
      have HKEEP : Hid (∀ t, t < i → ((wo.setCell ⟨w.heap.size, i, none⟩ (.slice (some ⟨wo.heap.size, 0, none⟩) len len)).alloc (.cells (madeCells #[.int .u8 0] len) 5)).heap[S t]? = wo.heap[S t]?) := fun t ht => by
        have h1 := hM.los t ht
        have h2 := (hM.row t ht).lt
        rw [Below.heap_alloc _ _ _ (by rw [hzz]; exact h2)]
        exact Below.heap_setCell _ _ _ _ (by show S t ≠ w.heap.size; omega)
      have hSz : ((wo.setCell ⟨w.heap.size, i, none⟩ (.slice (some ⟨wo.heap.size, 0, none⟩) len len)).alloc (.cells (madeCells #[.int .u8 0] len) 5)).heap.size = wo.heap.size + 1 := by simp
      clear hzz
      have HM := Lib.hid hM
      clear hM hb htop hx1
      go_wp2
      clear hy1 hx0 hmk hst1 hst2
      generalize ((wo.setCell ⟨w.heap.size, i, none⟩ (.slice (some ⟨wo.heap.size, 0, none⟩) len len)).alloc (.cells (madeCells #[.int .u8 0] len) 5)) = w3 at *
      generalize hrb : wo.heap.size = rb at *
      have HRB := Lib.hid hrb; clear hrb
      go_loopg [8, 9, 30] k (fun gk _ _ v wr => ∃ j : Nat, j ≤ k ∧ gk = k - j ∧ v = .int .i64 j ∧ wr.rowIs rb 5 len (fun c => .int .u8 ((byc O D i j 0 c).val : Nat)) ∧ w3.grownBy wr (some rb))
      case atStart => exact ⟨0, Nat.zero_le _, rfl, rfl, HROW.out.congr fun c _ => by rw [byc_zero]; rfl, World.grownBy.refl _ _⟩
      case round =>
        clear HROW
        obtain ⟨j, hj, rfl, rfl, hQ, hg⟩ := hrel
        have hbw : Below w.heap.size w wr := HBN.out.grown hg HBN.out.size (fun q hq => by injection hq with hq; have := HRB.out; omega)
        have hTop : wr.rowIs w.heap.size 43 n _ := HTOP.out.of_block (hg.block w.heap.size HTOP.out.lt (by simp; omega))
        by_cases hlj : j < k
        · obtain ⟨bw, ow, rfl, hbwl, hxw⟩ := HRA.out j hlj
          have hy2 : wr.cell? ⟨bw, ow + j, none⟩ = some (.int .u8 ((O i j).val : Nat)) := (hbw.cell hbwl).trans hxw
          obtain ⟨b2, o2, e2, hb2, hx2⟩ := HB1.out j hlj
          injection e2 with e2
          injection e2 with e2 e3 _
          subst e2 e3
          have hy3 : wr.cell? ⟨b0, o0 + j, none⟩ = some (.slice (SB j) len (CB j)) := (hbw.cell hb2).trans hx2
          have hy4 : wr.cell? ⟨w.heap.size, i, none⟩ = some (.slice (some ⟨rb, 0, none⟩) len len) := by rw [hTop.cell hlt]; rw [if_pos rfl]
          have HADD := Lib.hid (add_any rb len len (CB j) (SB j) (fun c => byc O D i j 0 c) (D j) (O i j) wr.drew hlen hQ.drew ((HB2.out j hlj).below hbw.drew) (fun h0 b o e => by
            intro hbr
            obtain ⟨b', o', e', hb', _⟩ := HB2.out j hlj 0 h0
            rw [e] at e'
            injection e' with e'
            injection e' with e' _ _
            have := HRB.out
            omega))
          have HG := Lib.hid hg
          generalize hmb : w.heap.size = mb at *
          have HMB := Lib.hid hmb; clear hmb
          have KS : Hid (wr.cell? ⟨mb, i, none⟩ = some (.slice (some ⟨rb, 0, none⟩) len len) ∧ wr.cell? ⟨b0, o0 + j, none⟩ = some (.slice (SB j) len (CB j))) := ⟨hy4, hy3⟩
          clear hQ hg hxw hx2 hTop hbw
          go_wp2_with fail
          clear hy2 hy3 hy4
          refine wp_region_mix [(true, true, false), (true, true, false), (true, true, false), (true, true, true), (true, true, false), (true, true, false), (true, true, false), (true, true, true), (true, true, false), (false, false, true)] mixed (by kernel_rfl) (fun w4 => w4.cell? ⟨mb, i, none⟩ = some (.slice (some ⟨rb, 0, none⟩) len len) ∧ w4.cell? ⟨b0, o0 + j, none⟩ = some (.slice (SB j) len (CB j))) (KS.out) ?_
          intro hSw0
          simp only [hdM, tlM, List.cons_append, List.nil_append]
          repeat (first
            | (refine mix_look hSw0.out ?_ (by rfl) (fun w4 hSw => ?_) ?_; rotate_left; (focus (obtain ⟨s1, s2⟩ := hSw; go_simp; try with_reducible rfl)); simp only [Act.put, List.setIfInBounds_toArray, List.set_cons_zero, List.set_cons_succ])
            | (refine mix_pure ?_ (by rfl) (fun w4 => ?_) ?_; rotate_left; (focus (go_simp; try with_reducible rfl)); simp only [Act.put, List.setIfInBounds_toArray, List.set_cons_zero, List.set_cons_succ]))
          refine mix_step (fun K hK => ?_)
          go_simp
          refine HADD.out.mono ?_
          rintro e w5 ⟨rfl, hQ5, hg5⟩
          dsimp only
          refine hK.out _ _ (fun h => absurd h (by decide)) ?_
          clear hK K
          try simp only [Act.put, List.setIfInBounds_toArray, List.set_cons_zero, List.set_cons_succ]
          refine mix_nil ?_
          have HQ5 := Lib.hid (hQ5.congr (g := fun c => .int .u8 ((byc O D i (j + 1) 0 c).val : Nat)) fun c _ => by
            show Value.int .u8 ((gE.a (byc O D i j 0 c) (gE.m (O i j) (D j c))).val : Int) = Value.int .u8 ((byc O D i (j + 1) 0 c).val : Int)
            rw [byc_zero, byc_zero]; rfl)
          have HG5 := Lib.hid (HG.out.trans ((grown_drew _ _).trans hg5))
          clear hQ5 hg5
          go_wp2
          go_roundg (k - (j + 1))
          case measure => omega
          case rel => exact ⟨j + 1, by omega, rfl, by go_num, HQ5.out, HG5.out⟩
        · have hjk : j = k := by omega
          subst j
          have hrbv := HRB.out
          have HBN2 := Lib.hid (HM.out.next (k := i) (nb := rb) (w' := wr) (by omega) (fun t ht => by
            have h2 := (HM.out.row t ht).lt
            rw [hg.block (S t) (by omega) (by simp; omega)]
            exact HKEEP.out t ht) (hTop.congr fun t _ => by
            by_cases e : t = i
            · subst e; rw [if_pos rfl, if_pos (by omega), upd_at]
            · rw [if_neg e, upd_ne _ _ _ e]
              by_cases e2 : t < i
              · rw [if_pos e2, if_pos (by omega)]
              · rw [if_neg e2, if_neg (by omega)]) (hQ.congr fun c _ => by rw [byc_zero]))
          have HBW := Lib.hid hbw
          clear hQ hg hTop hbw
          go_wp2
          go_roundg (n - (i + 1))
          case measure => omega
          case rel => exact ⟨i + 1, _, by omega, rfl, by go_num, HBN2.out, HBW.out⟩
    · have hin : i = n := by omega
      subst i
      have HR := Lib.hid hM.done; have HB := Lib.hid hb
      clear hM hb
      go_wp2
      go_ret
      exact ⟨w.heap.size, S, rfl, Nat.le_refl _, HR.out, HB.out⟩

set_option maxRecDepth 40000 in
set_option maxHeartbeats 4000000 in
theorem enc_mx (p k n : Nat) (A : Option Addr) (nr c : Nat) (L : Nat → Nat) (g : Nat → Nat → Nat) (w : World) (hk : 0 < k) (hkn : k ≤ n) (hn : n ≤ 255) (hnr : nr ≤ 1000000000000000) (hL : ∀ i, i < nr → L i ≤ 140737488351232) (hg : ∀ i, i < nr → ∀ j, j < L i → g i j < 256) (hC : CodeAt w p k n) (hA : RdM w A nr L (fun i j => .int .u8 (g i j))) :
    Calls Try.prog 55 #[.pointer (some ⟨p, 0, none⟩), .slice A nr c] w fun e w' => ∃ (er : Int) (A' : Option Addr) (R c' : Nat), e = .returned (.tuple #[.slice A' R c', .int .i64 er]) ∧ EncP k nr L er ∧ R = (if er = 0 then n else 0) ∧ (er = 0 → ∃ T U, A' = some ⟨T, 0, none⟩ ∧ c' = n ∧ w.heap.size ≤ T ∧ w'.rowIs T 43 n U ∧ (0 < L 0 → ∃ S, Mx w' w.heap.size T 43 5 n S (L 0) (L 0) (fun i c => .int .u8 (wrd k g i c)) ∧ U = fun i => .slice (some ⟨S i, 0, none⟩) (L 0) (L 0))) ∧ Below w.heap.size w w' ∧ R ≤ c' := by
  have CN := Lib.hid (none_any p k n w hC hk)
  have hck := hC.ck
  by_cases h1 : nr = k
  · subst h1
    obtain ⟨S, C, hA1, hA2⟩ := id hA
    obtain ⟨b, o, rfl, hb, hc⟩ := hA1 0 hk
    rw [Nat.add_zero] at hc
    have CE := Lib.hid (even_any (some ⟨b, o, none⟩) nr c L C S w hnr hA1)
    have HA := Lib.hid hA; have HL := Lib.hid hL; have HG := Lib.hid hg; have HC := Lib.hid hC
    clear hA hA1 hA2 hL hg hC
    go_enter Try.func55, Try.ntmps55
    go_wp2_with fail
    refine CN.out.mono ?_
    rintro e w1 ⟨rfl, rfl⟩
    go_wp2_with fail
    refine CE.out.mono ?_
    rintro e w1 ⟨rfl, rfl⟩
    have HBB : Hid (evB nr L (L 0) = true ↔ ∀ i, i < nr → L i = L 0) := evB_iff
    clear CE CN hck
    generalize evB nr L (L 0) = bb at *
    cases bb
    · go_wp2
      go_ret2
      exact ⟨41, none, 0, 0, rfl, .inr (.inl ⟨rfl, fun h => absurd (HBB.out.2 h) (by decide), rfl⟩), rfl, fun h => absurd h (by decide), Below.refl _ _, Nat.le_refl _⟩
    · have hev := HBB.out.1 rfl
      have HEV := Lib.hid hev
      by_cases h0 : L 0 = 0
      · have HZ : Hid (¬ 0 < L 0) := by rw [h0]; exact Nat.lt_irrefl 0
        have t1 : ((L 0 : Int) == 0) = true := by rw [h0]; rfl
        have hcn := HC.out.cn
        have hmk1 := run_make_row' (P := Try.prog) 67 43 (.slice none 0 0) 24 Try.underlying67 bytesInfo rfl .i64 .i64 n (by omega) (by omega)
        have HB := Lib.hid ((Below.refl w.heap.size w).alloc (Nat.le_refl _) (.cells (madeCells #[.slice none 0 0] n) 43))
        clear h0 hev
        go_wp2
        go_ret2
        exact ⟨0, some ⟨w.heap.size, 0, none⟩, n, n, rfl, .inr (.inr ⟨rfl, HEV.out, rfl⟩), rfl, fun _ => ⟨w.heap.size, _, rfl, rfl, Nat.le_refl _, World.rowIs_made _ _ _ _, fun h => absurd h HZ.out⟩, HB.out, Nat.le_refl _⟩
      · have t1 : ((L 0 : Int) == 0) = false := by rw [beq_eq_false_iff_ne]; omega
        obtain ⟨Ar, cr, hcr, hM⟩ := HC.out.cr
        have hB : RdM w (some ⟨b, o, none⟩) nr (fun _ => L 0) (fun j c => .int .u8 ((el (g j c)).val : Nat)) := by
          obtain ⟨S, C, h1, h2⟩ := HA.out
          exact ⟨S, C, h1.congr fun i hi => by rw [hev i hi], fun i hi => by
            have h3 := h2 i hi
            rw [hev i hi] at h3
            exact h3.congr fun c hc => by show Value.int .u8 ((g i c : Nat) : Int) = Value.int .u8 ((el (g i c)).val : Int); rw [el_val (HG.out i hi c (by rw [hev i hi]; exact hc))]⟩
        have HP := Lib.hid (product_mx Ar (some ⟨b, o, none⟩) n nr cr c (L 0) (gE.cM el nr) (fun j c => el (g j c)) w (by omega) (by omega) hk (HL.out 0 hk) hM hB)
        clear h0 hev hM hB
        go_wp2_with fail
        refine HP.out.mono ?_
        rintro e w2 ⟨T2, S2, rfl, hT2, hR, hb2⟩
        have HR := Lib.hid hR; have HT2 := Lib.hid hT2; have HB2 := Lib.hid hb2
        clear hR hb2 hT2
        go_wp2
        go_ret2
        exact ⟨0, some ⟨T2, 0, none⟩, n, n, rfl, .inr (.inr ⟨rfl, HEV.out, rfl⟩), rfl, fun _ => ⟨T2, _, rfl, rfl, HT2.out, HR.out.top, fun _ => ⟨S2, HR.out, rfl⟩⟩, HB2.out, Nat.le_refl _⟩
  · have t1 : ((nr : Int) != (k : Int)) = true := by rw [bne_iff_ne]; omega
    have H1 := Lib.hid h1
    clear h1 hA hg hL hC
    go_enter Try.func55, Try.ntmps55
    go_wp2_with fail
    refine CN.out.mono ?_
    rintro e w1 ⟨rfl, rfl⟩
    go_wp2
    go_ret2
    exact ⟨40, none, 0, 0, rfl, .inl ⟨H1.out, rfl⟩, rfl, fun h => absurd h (by decide), Below.refl _ _, Nat.le_refl _⟩
end Go.Proofs.Ytjaaldandgfkgaa
