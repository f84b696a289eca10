/- beside: the walks. Conditions: matrices that memory bears. -/
import Derived.Test.YtpocjpodeahanaaApp
import Derived.Test.YtpocjpodeahanaaInvP
import Derived.Test.YtpocjpodeahanaaTwin
namespace Go.Proofs.Ytpocjpodeahanaa
open Go.RowKit

theorem run_make0 {P : Program} (t e : TypeId) (z : Value) (size bytes : Nat) (ht : P.underlying t = some (.slice e)) (hinfo : (P.info? e).map (fun i => (i.zero, i.size, i.bytes)) = some (some z, size, bytes))
    (kl kc : IntKind) (C D : Nat) (hbytes : bytes * (C + D) ≤ 281474976710656) (h63 : C + D ≤ 9223372036854775807) (w : World) :
    (Instr.makeSlice t (.int kl 0) (.int kc ((C : Int) + (D : Int)))).run P w = .ok (.slice (some ⟨w.heap.size, 0, none⟩) 0 (C + D)) (w.alloc (.cells (madeCells z.cells ((C + D) * size)) e)) := by
  obtain ⟨i, hi, hzz⟩ := Option.map_eq_some_iff.1 hinfo
  simp only [Prod.mk.injEq] at hzz
  obtain ⟨hz, hs, hb⟩ := hzz
  have hb' : (i.bytes : Int) * ((C : Int) + (D : Int)) ≤ 281474976710656 := by
    have h : ((i.bytes * (C + D) : Nat) : Int) ≤ 281474976710656 := by rw [hb]; omega
    rwa [Int.natCast_mul, Int.natCast_add] at h
  have hr := run_make (P := P) w t e i z ht hi hz kl kc 0 ((C : Int) + (D : Int)) (by omega) (by omega) hb' (by omega)
  have e1 : ((C : Int) + (D : Int)).toNat = C + D := by omega
  rw [e1, hs] at hr
  exact hr
/-- What 'beside' has made when k rows are. -/
structure Bs (w : World) (mb tR e n k W M : Nat) (S : Nat → Nat) (f : Nat → Nat → Value) : Prop where
  top : w.rowIs mb tR n (fun i => if i < k then .slice (some ⟨S i, 0, none⟩) W W else .slice none 0 0)
  row : ∀ i, i < k → w.rowIs (S i) e M (f i)
  los : ∀ i, i < k → mb < S i
  inj : ∀ i j, i < k → j < k → S i = S j → i = j
theorem Bs.start (w : World) (tR e n W M : Nat) (S : Nat → Nat) (f : Nat → Nat → Value) : Bs (w.alloc (.cells (madeCells #[.slice none 0 0] n) tR)) w.heap.size tR e n 0 W M S f :=
  ⟨(World.rowIs_made w _ n tR).congr fun j _ => by simp, fun i hi => absurd hi (by omega), fun i hi => absurd hi (by omega), fun i j hi => absurd hi (by omega)⟩
theorem Bs.done {w : World} {mb tR e n W M : Nat} {S : Nat → Nat} {f : Nat → Nat → Value} (h : Bs w mb tR e n n W M S f) : Mx w mb mb tR e n S W M f :=
  ⟨h.top.congr fun i hi => by simp [hi], h.row, Nat.le_refl _, fun i hi => Nat.le_of_lt (h.los i hi), h.inj, fun i hi e => by have := h.los i hi; omega⟩
/-- The next row: nb, made new, in its place; what else was there is as it was. -/
theorem Bs.next {w w' : World} {mb tR e n k W M nb : Nat} {S : Nat → Nat} {f : Nat → Nat → Value} (h : Bs w mb tR e n k W M S f) (hnb : w.heap.size ≤ nb) (hk : ∀ i, i < k → w'.heap[S i]? = w.heap[S i]?)
    (ht : w'.rowIs mb tR n (fun i => if i < k + 1 then .slice (some ⟨upd S k nb i, 0, none⟩) W W else .slice none 0 0)) (hr : w'.rowIs nb e M (f k)) : Bs w' mb tR e n (k + 1) W M (upd S k nb) f := by
  refine ⟨ht, fun i hi => ?_, fun i hi => ?_, fun i j hi hj e => ?_⟩
  · by_cases e : i = k
    · subst e; rw [upd_at]; exact hr
    · rw [upd_ne _ _ _ e]; exact (h.row i (by omega)).of_block (hk i (by omega))
  · by_cases e : i = k
    · subst e; rw [upd_at]; have := h.top.lt; omega
    · rw [upd_ne _ _ _ e]; exact h.los i (by omega)
  · by_cases ei : i = k
    · by_cases ej : j = k
      · omega
      · rw [ei, upd_at, upd_ne _ _ _ ej] at e
        have := (h.row j (by omega)).lt
        omega
    · by_cases ej : j = k
      · rw [ej, upd_at, upd_ne _ _ _ ei] at e
        have := (h.row i (by omega)).lt
        omega
      · rw [upd_ne _ _ _ ei, upd_ne _ _ _ ej] at e
        exact h.inj i j (by omega) (by omega) e
set_option maxRecDepth 40000 in
set_option maxHeartbeats 2000000 in
theorem besideE_any (A B : Option Addr) (n cA cB C D : Nat) (G H : Nat → Nat → Fin 256) (w : World) (hn : n ≤ 1000) (hC : C ≤ 1000) (hD : D ≤ 1000) (hA : ME w A n (fun _ => C) (fun i j => (G i j).val)) (hB : ME w B n (fun _ => D) (fun i j => (H i j).val)) :
    Calls Try.prog 98 #[.slice A n cA, .slice B n cB] w fun e w' => ∃ b S, e = .returned (.slice (some ⟨b, 0, none⟩) n n) ∧ Mx w' w.heap.size b 62 34 n S (C + D) (C + D) (fun i j => vE (bsd C (G i) (H i) j)) ∧ Below w.heap.size w w' := by
  obtain ⟨SA, KA, hA1, hA2⟩ := hA
  obtain ⟨SB, KB, hB1, hB2⟩ := hB
  have hmk1 := run_make_row' (P := Try.prog) 31 62 (.slice none 0 0) 24 Try.underlying31 elemsInfo rfl .i64 .i64 n (by omega) (by omega)
  have hmk := run_make0 (P := Try.prog) 62 34 (.int .u8 0) 1 1 Try.underlying62 elemInfo .i64 .i64 C D (by omega) (by omega)
  simp only [Nat.mul_one, Value.cells] at hmk
  have HA1 := Lib.hid hA1; have HA2 := Lib.hid hA2; have HB1 := Lib.hid hB1; have HB2 := Lib.hid hB2
  clear hA1 hA2 hB1 hB2
  have hz0 := Lib.hid (Bs.start w 62 34 n (C + D) (C + D) (fun _ => 0) (fun i j => vE (bsd C (G i) (H i) j)))
  have hb0 := Lib.hid ((Below.refl w.heap.size w).alloc (Nat.le_refl _) (.cells (madeCells #[.slice none 0 0] n) 62))
  go_enter Try.func98, Try.ntmps98
  go_wp2
  go_loopg [6, 12] n (fun gk _ i wr => ∃ (k : Nat) (S : Nat → Nat), k ≤ n ∧ gk = n - k ∧ i = .int .i64 k ∧ Bs wr w.heap.size 62 34 n k (C + D) (C + D) S (fun i j => vE (bsd C (G i) (H i) j)) ∧ Below w.heap.size w wr)
  case atStart => exact ⟨0, _, Nat.zero_le _, rfl, rfl, hz0.out, hb0.out⟩
  case round =>
    clear hz0 hb0
    obtain ⟨k, S, hk, rfl, rfl, hM, hbel⟩ := hrel
    have hsz := hbel.size
    by_cases hlt : k < n
    · obtain ⟨b1, o1, rfl, hb1, hx1⟩ := HA1.out k hlt
      obtain ⟨b2, o2, rfl, hb2, hx2⟩ := HB1.out k hlt
      have hy1 : wr.cell? ⟨b1, o1 + k, none⟩ = some (.slice (SA k) C (KA k)) := (hbel.cell hb1).trans hx1
      have hy2 : wr.cell? ⟨b2, o2 + k, none⟩ = some (.slice (SB k) D (KB k)) := (hbel.cell hb2).trans hx2
      have hr1 := (HA2.out k hlt).below hbel
      have hr2 := (HB2.out k hlt).below hbel
      have KS : Hid (∀ w4, Below wr.heap.size wr w4 → w4.cell? ⟨b1, o1 + k, none⟩ = some (.slice (SA k) C (KA k)) ∧ w4.cell? ⟨b2, o2 + k, none⟩ = some (.slice (SB k) D (KB k))) := fun w4 hb4 => ⟨(hb4.cell (by show b1 < _; omega)).trans hy1, (hb4.cell (by show b2 < _; omega)).trans hy2⟩
      have hmbl : w.heap.size < wr.heap.size := hM.top.lt
      have HM := Lib.hid hM; have HB := Lib.hid hbel; have HR1 := Lib.hid hr1; have HR2 := Lib.hid hr2
      have hbA := (Below.refl wr.heap.size wr).alloc (Nat.le_refl _) (.cells (madeCells #[.int .u8 0] (C + D)) 34)
      have htA := below_row hM.top hbA hM.top.lt
      have hnA := World.rowIs_made wr (.int .u8 0) (C + D) 34
      have hta := htA.cell hlt
      have htf := htA.frozen k
      have HBA := Lib.hid hbA; have HTA := Lib.hid htA; have HNA := Lib.hid hnA
      clear hM hbel hr1 hr2 hbA htA hnA
      have HX1 := Lib.hid hx1; have HX2 := Lib.hid hx2; clear hx1 hx2
      go_wp2_with fail
      clear hy1 hy2
      refine wp_region_mix [(true, true, false), (true, true, false), (true, true, false), (true, true, false), (true, true, false), (true, true, true), (true, true, false), (true, true, false), (true, true, false), (true, true, false), (true, true, true), (true, true, false), (true, true, false), (false, false, false), (false, false, false), (false, false, true)] mixed (by kernel_rfl) (fun w4 => w4.cell? ⟨b1, o1 + k, none⟩ = some (.slice (SA k) C (KA k)) ∧ w4.cell? ⟨b2, o2 + k, none⟩ = some (.slice (SB k) D (KB k))) (KS.out _ (Below.refl _ _).drew) ?_
      intro hSw0
      simp only [hdM, tlM, List.cons_append, List.nil_append]
      repeat (first
        | (refine mix_look hSw0.out ?_ (by rfl) (fun w4 hSw => ?_) ?_; rotate_left; (focus (obtain ⟨s1, s2⟩ := hSw; go_simp; try with_reducible rfl)); simp only [Act.put, List.setIfInBounds_toArray, List.set_cons_zero, List.set_cons_succ])
        | (refine mix_pure ?_ (by rfl) (fun w4 => ?_) ?_; rotate_left; (focus (go_simp; try with_reducible rfl)); simp only [Act.put, List.setIfInBounds_toArray, List.set_cons_zero, List.set_cons_succ]))
      refine mix_step (fun K hK => ?_)
      have hwr : IntKind.i64.wrap ((C : Int) + (D : Int)) = (C : Int) + (D : Int) := i64_small _ (by omega) (by omega)
      go_simp
      refine hK.out _ _ (fun _ _ => KS.out _ HBA.out.drew) ?_
      clear hK K hwr
      try simp only [Act.put, List.setIfInBounds_toArray, List.set_cons_zero, List.set_cons_succ]
      refine mix_step (fun K hK => ?_)
      go_simp
      refine hK.out _ _ (fun _ h => h) ?_
      clear hK K
      try simp only [Act.put, List.setIfInBounds_toArray, List.set_cons_zero, List.set_cons_succ]
      refine mix_step (fun K hK => ?_)
      go_simp
      refine hK.out _ _ (fun h => absurd h (by decide)) ?_
      clear hK K
      try simp only [Act.put, List.setIfInBounds_toArray, List.set_cons_zero, List.set_cons_succ]
      refine mix_nil ?_
      have hzz : (wr.setCell ⟨w.heap.size, k, none⟩ (.slice (some ⟨wr.heap.size, 0, none⟩) 0 (C + D))).heap.size = wr.heap.size := by simp
      have HQ : Hid (((wr.setCell ⟨w.heap.size, k, none⟩ (.slice (some ⟨wr.heap.size, 0, none⟩) 0 (C + D))).alloc (.cells (madeCells #[.int .u8 0] (C + D)) 34)).drew.rowIs w.heap.size 62 n (fun j => if j = k then .slice (some ⟨wr.heap.size, 0, none⟩) 0 (C + D) else if j < k then .slice (some ⟨S j, 0, none⟩) (C + D) (C + D) else .slice none 0 0)) := ((HM.out.top.set k _).alloc _).drew
      have HNB : Hid (((wr.setCell ⟨w.heap.size, k, none⟩ (.slice (some ⟨wr.heap.size, 0, none⟩) 0 (C + D))).alloc (.cells (madeCells #[.int .u8 0] (C + D)) 34)).drew.rowIs wr.heap.size 34 (C + D) (fun _ => .int .u8 0)) := by
        have h := World.rowIs_made (wr.setCell ⟨w.heap.size, k, none⟩ (.slice (some ⟨wr.heap.size, 0, none⟩) 0 (C + D))) (.int .u8 0) (C + D) 34
        rw [hzz] at h
        exact h.drew
      have HBW := Lib.hid ((HB.out.setCell (p := ⟨w.heap.size, k, none⟩) (Nat.le_refl _) (.slice (some ⟨wr.heap.size, 0, none⟩) 0 (C + D))).alloc (by rw [hzz]; exact hsz) (.cells (madeCells #[.int .u8 0] (C + D)) 34)).drew
      have HOT : Hid (∀ b, b < wr.heap.size → b ≠ w.heap.size → ((wr.setCell ⟨w.heap.size, k, none⟩ (.slice (some ⟨wr.heap.size, 0, none⟩) 0 (C + D))).alloc (.cells (madeCells #[.int .u8 0] (C + D)) 34)).drew.heap[b]? = wr.heap[b]?) := fun b h1 h2 => (Below.heap_alloc _ _ _ (by rw [hzz]; exact h1)).trans (Below.heap_setCell _ _ _ _ h2)
      clear hta htf HBA HTA HNA KS HR1 HR2 hzz
      generalize ((wr.setCell ⟨w.heap.size, k, none⟩ (.slice (some ⟨wr.heap.size, 0, none⟩) 0 (C + D))).alloc (.cells (madeCells #[.int .u8 0] (C + D)) 34)).drew = W8 at *
      have hz8 : wr.heap.size < W8.heap.size := HNB.out.lt
      have HRW : Hid (∀ i, i < k → S i < wr.heap.size) := fun i hi => (HM.out.row i hi).lt
      generalize hnbg : wr.heap.size = nb at *
      have HNG := Lib.hid hnbg
      clear hnbg
      have hta : W8.cell? ⟨w.heap.size, k, none⟩ = some (.slice (some ⟨nb, 0, none⟩) 0 (C + D)) := by rw [HQ.out.cell hlt]; simp
      have hy1 : W8.cell? ⟨b1, o1 + k, none⟩ = some (.slice (SA k) C (KA k)) := (HBW.out.cell hb1).trans HX1.out
      have hy2 : W8.cell? ⟨b2, o2 + k, none⟩ = some (.slice (SB k) D (KB k)) := (HBW.out.cell hb2).trans HX2.out
      have KT : Hid (∀ w4, W8.grownBy w4 (some nb) → w4.cell? ⟨w.heap.size, k, none⟩ = some (.slice (some ⟨nb, 0, none⟩) 0 (C + D)) ∧ w4.cell? ⟨b1, o1 + k, none⟩ = some (.slice (SA k) C (KA k)) ∧ w4.cell? ⟨b2, o2 + k, none⟩ = some (.slice (SB k) D (KB k))) := fun w4 hg => ⟨(grown_cell hg (by show w.heap.size < _; omega) (by simp; omega)).trans hta, (grown_cell hg (by show b1 < _; omega) (by simp; omega)).trans hy1, (grown_cell hg (by show b2 < _; omega) (by simp; omega)).trans hy2⟩
      go_wp2_with fail
      clear hta hy1 hy2
      as_aux_lemma =>
        refine wp_region_mix [(true, true, false), (true, true, false), (true, true, false), (true, true, false), (true, true, false), (true, true, true), (true, true, false), (true, true, false), (true, true, false), (true, true, true), (false, false, false), (true, true, false), (true, true, false), (true, true, false), (true, true, true), (false, false, false), (false, false, false), (false, false, true)] mixed (by kernel_rfl) (fun w4 => w4.cell? ⟨w.heap.size, k, none⟩ = some (.slice (some ⟨nb, 0, none⟩) 0 (C + D)) ∧ w4.cell? ⟨b1, o1 + k, none⟩ = some (.slice (SA k) C (KA k)) ∧ w4.cell? ⟨b2, o2 + k, none⟩ = some (.slice (SB k) D (KB k))) (KT.out _ (grown_drew _ _)) ?_
        intro hSw0
        simp only [hdM, tlM, List.cons_append, List.nil_append]
        repeat (first
          | (refine mix_look hSw0.out ?_ (by rfl) (fun w4 hSw => ?_) ?_; rotate_left; (focus (obtain ⟨s1, s2, s3⟩ := hSw; go_simp; try with_reducible rfl)); simp only [Act.put, List.setIfInBounds_toArray, List.set_cons_zero, List.set_cons_succ])
          | (refine mix_pure ?_ (by rfl) (fun w4 => ?_) ?_; rotate_left; (focus (go_simp; try with_reducible rfl)); simp only [Act.put, List.setIfInBounds_toArray, List.set_cons_zero, List.set_cons_succ]))
        refine mix_step (fun K hK => ?_)
        refine step_appRd rfl (.tmp 35) (.tmp 39) 62 rfl 34 1 nb 0 (C + D) C (KA k) (C + D) (SA k) 34 (fun _ => .int .u8 0) (fun j => vE (G k j)) Try.underlying62 szE rfl rfl HNB.out.drew (by rw [Nat.mul_one]; exact (HA2.out k hlt).below HBW.out.drew) (fun _ _ => rfl) (by omega) (Nat.mul_one _) ?_
        intro w5 hr5 hg5
        have hG5 := (grown_drew W8 (some nb)).trans hg5
        have hB5 : Below w.heap.size w w5 := HBW.out.grown hG5 (by omega) (fun q hq => by injection hq with hq; omega)
        refine hK.out _ _ (fun _ _ => KT.out _ hG5) ?_
        clear hK K
        try simp only [Act.put, List.setIfInBounds_toArray, List.set_cons_zero, List.set_cons_succ]
        refine mix_step (fun K hK => ?_)
        refine step_appRd rfl (.tmp 40) (.tmp 44) 62 rfl 34 1 nb (0 + C) (C + D) D (KB k) (C + D) (SB k) 34 _ (fun j => vE (H k j)) Try.underlying62 szE rfl rfl hr5 (by rw [Nat.mul_one]; exact (HB2.out k hlt).below hB5) (fun _ _ => rfl) (by omega) (Nat.mul_one _) ?_
        intro w6 hr6 hg6
        have hG6 := hG5.trans hg6
        refine hK.out _ _ (fun _ _ => KT.out _ hG6) ?_
        clear hK K
        try simp only [Act.put, List.setIfInBounds_toArray, List.set_cons_zero, List.set_cons_succ]
        have hrF : w6.rowIs nb 34 (C + D) ((fun i j => vE (bsd C (G i) (H i) j)) k) := hr6.congr fun j hj => by
          show (if (0 + C) * 1 ≤ j ∧ j < (0 + C + D) * 1 then vE (H k (j - (0 + C) * 1)) else if 0 * 1 ≤ j ∧ j < (0 + C) * 1 then vE (G k (j - 0 * 1)) else .int .u8 0) = vE (bsd C (G k) (H k) j)
          unfold bsd
          by_cases h1 : j < C
          · rw [if_neg (by omega), if_pos (by omega), if_pos h1, show j - 0 * 1 = j by omega]
          · rw [if_pos (by omega), if_neg h1, show j - (0 + C) * 1 = j - C by omega]
        have hl6 : (0 + C + D) = C + D := by omega
        rw [hl6]
        refine mix_step (fun K hK => ?_)
        go_simp
        refine hK.out _ _ (fun _ h => h) ?_
        clear hK K
        try simp only [Act.put, List.setIfInBounds_toArray, List.set_cons_zero, List.set_cons_succ]
        have hQ6 := HQ.out.of_block (hG6.block w.heap.size HQ.out.lt (by simp; omega))
        have hf6 := hQ6.frozen k
        have hc6 := hQ6.cell hlt
        refine mix_step (fun K hK => ?_)
        go_simp
        refine hK.out _ _ (fun h => absurd h (by decide)) ?_
        clear hK K
        try simp only [Act.put, List.setIfInBounds_toArray, List.set_cons_zero, List.set_cons_succ]
        refine mix_nil ?_
        have hB6 : Below w.heap.size w (w6.setCell ⟨w.heap.size, k, none⟩ (.slice (some ⟨nb, 0, none⟩) (C + D) (C + D))) := (HBW.out.grown hG6 (by omega) (fun q hq => by injection hq with hq; omega)).setCell (Nat.le_refl _) _
        have hN6 := HM.out.next (w' := w6.setCell ⟨w.heap.size, k, none⟩ (.slice (some ⟨nb, 0, none⟩) (C + D) (C + D))) (nb := nb) (by have := HNG.out; omega) (fun i hi => by
            have h1 := HRW.out i hi
            have h2 := HM.out.los i hi
            exact (Below.heap_setCell _ _ _ _ (by show S i ≠ w.heap.size; omega)).trans ((hG6.block (S i) (by omega) (by simp; omega)).trans (HOT.out (S i) h1 (by omega))))
          ((hQ6.set k _).congr fun i hi => by
            by_cases e : i = k
            · subst e; simp [upd_at]
            · by_cases e2 : i < k
              · simp [e, e2, show i < k + 1 by omega, upd_ne _ _ _ e]
              · simp [e, e2, show ¬ i < k + 1 by omega])
          (hrF.setOther (a := ⟨w.heap.size, k, none⟩) (by show nb ≠ w.heap.size; omega) _)
        clear hf6 hc6 hQ6 hG6 hG5 hr5 hr6 hg5 hg6 hrF KT HM HB HQ HNB HBW HOT HRW hB5
        go_wp2
        go_roundg (n - (k + 1))
        case measure => omega
        case rel => exact ⟨k + 1, _, by omega, rfl, by go_num, hN6, hB6⟩
    · have : k = n := by omega
      subst this
      go_wp2
      go_ret
      exact ⟨_, _, rfl, hM.done, hbel⟩
set_option maxRecDepth 40000 in
set_option maxHeartbeats 2000000 in
theorem besideB_any (A B : Option Addr) (n cA cB C D : Nat) (G H : Nat → Nat → Fin 2) (w : World) (hn : n ≤ 1000) (hC : C ≤ 1000) (hD : D ≤ 1000) (hA : MB w A n (fun _ => C) (fun i j => (G i j).val)) (hB : MB w B n (fun _ => D) (fun i j => (H i j).val)) :
    Calls Try.prog 99 #[.slice A n cA, .slice B n cB] w fun e w' => ∃ b S, e = .returned (.slice (some ⟨b, 0, none⟩) n n) ∧ Mx w' w.heap.size b 65 40 n S (C + D) (C + D) (fun i j => vB (bsd C (G i) (H i) j)) ∧ Below w.heap.size w w' := by
  obtain ⟨SA, KA, hA1, hA2⟩ := hA
  obtain ⟨SB, KB, hB1, hB2⟩ := hB
  have hmk1 := run_make_row' (P := Try.prog) 37 65 (.slice none 0 0) 24 Try.underlying37 bitsInfo rfl .i64 .i64 n (by omega) (by omega)
  have hmk := run_make0 (P := Try.prog) 65 40 (.bool false) 1 1 Try.underlying65 bitInfo .i64 .i64 C D (by omega) (by omega)
  simp only [Nat.mul_one, Value.cells] at hmk
  have HA1 := Lib.hid hA1; have HA2 := Lib.hid hA2; have HB1 := Lib.hid hB1; have HB2 := Lib.hid hB2
  clear hA1 hA2 hB1 hB2
  have hz0 := Lib.hid (Bs.start w 65 40 n (C + D) (C + D) (fun _ => 0) (fun i j => vB (bsd C (G i) (H i) j)))
  have hb0 := Lib.hid ((Below.refl w.heap.size w).alloc (Nat.le_refl _) (.cells (madeCells #[.slice none 0 0] n) 65))
  go_enter Try.func99, Try.ntmps99
  go_wp2
  go_loopg [6, 12] n (fun gk _ i wr => ∃ (k : Nat) (S : Nat → Nat), k ≤ n ∧ gk = n - k ∧ i = .int .i64 k ∧ Bs wr w.heap.size 65 40 n k (C + D) (C + D) S (fun i j => vB (bsd C (G i) (H i) j)) ∧ Below w.heap.size w wr)
  case atStart => exact ⟨0, _, Nat.zero_le _, rfl, rfl, hz0.out, hb0.out⟩
  case round =>
    clear hz0 hb0
    obtain ⟨k, S, hk, rfl, rfl, hM, hbel⟩ := hrel
    have hsz := hbel.size
    by_cases hlt : k < n
    · obtain ⟨b1, o1, rfl, hb1, hx1⟩ := HA1.out k hlt
      obtain ⟨b2, o2, rfl, hb2, hx2⟩ := HB1.out k hlt
      have hy1 : wr.cell? ⟨b1, o1 + k, none⟩ = some (.slice (SA k) C (KA k)) := (hbel.cell hb1).trans hx1
      have hy2 : wr.cell? ⟨b2, o2 + k, none⟩ = some (.slice (SB k) D (KB k)) := (hbel.cell hb2).trans hx2
      have hr1 := (HA2.out k hlt).below hbel
      have hr2 := (HB2.out k hlt).below hbel
      have KS : Hid (∀ w4, Below wr.heap.size wr w4 → w4.cell? ⟨b1, o1 + k, none⟩ = some (.slice (SA k) C (KA k)) ∧ w4.cell? ⟨b2, o2 + k, none⟩ = some (.slice (SB k) D (KB k))) := fun w4 hb4 => ⟨(hb4.cell (by show b1 < _; omega)).trans hy1, (hb4.cell (by show b2 < _; omega)).trans hy2⟩
      have hmbl : w.heap.size < wr.heap.size := hM.top.lt
      have HM := Lib.hid hM; have HB := Lib.hid hbel; have HR1 := Lib.hid hr1; have HR2 := Lib.hid hr2
      have hbA := (Below.refl wr.heap.size wr).alloc (Nat.le_refl _) (.cells (madeCells #[.bool false] (C + D)) 40)
      have htA := below_row hM.top hbA hM.top.lt
      have hnA := World.rowIs_made wr (.bool false) (C + D) 40
      have hta := htA.cell hlt
      have htf := htA.frozen k
      have HBA := Lib.hid hbA; have HTA := Lib.hid htA; have HNA := Lib.hid hnA
      clear hM hbel hr1 hr2 hbA htA hnA
      have HX1 := Lib.hid hx1; have HX2 := Lib.hid hx2; clear hx1 hx2
      go_wp2_with fail
      clear hy1 hy2
      refine wp_region_mix [(true, true, false), (true, true, false), (true, true, false), (true, true, false), (true, true, false), (true, true, true), (true, true, false), (true, true, false), (true, true, false), (true, true, false), (true, true, true), (true, true, false), (true, true, false), (false, false, false), (false, false, false), (false, false, true)] mixed (by kernel_rfl) (fun w4 => w4.cell? ⟨b1, o1 + k, none⟩ = some (.slice (SA k) C (KA k)) ∧ w4.cell? ⟨b2, o2 + k, none⟩ = some (.slice (SB k) D (KB k))) (KS.out _ (Below.refl _ _).drew) ?_
      intro hSw0
      simp only [hdM, tlM, List.cons_append, List.nil_append]
      repeat (first
        | (refine mix_look hSw0.out ?_ (by rfl) (fun w4 hSw => ?_) ?_; rotate_left; (focus (obtain ⟨s1, s2⟩ := hSw; go_simp; try with_reducible rfl)); simp only [Act.put, List.setIfInBounds_toArray, List.set_cons_zero, List.set_cons_succ])
        | (refine mix_pure ?_ (by rfl) (fun w4 => ?_) ?_; rotate_left; (focus (go_simp; try with_reducible rfl)); simp only [Act.put, List.setIfInBounds_toArray, List.set_cons_zero, List.set_cons_succ]))
      refine mix_step (fun K hK => ?_)
      have hwr : IntKind.i64.wrap ((C : Int) + (D : Int)) = (C : Int) + (D : Int) := i64_small _ (by omega) (by omega)
      go_simp
      refine hK.out _ _ (fun _ _ => KS.out _ HBA.out.drew) ?_
      clear hK K hwr
      try simp only [Act.put, List.setIfInBounds_toArray, List.set_cons_zero, List.set_cons_succ]
      refine mix_step (fun K hK => ?_)
      go_simp
      refine hK.out _ _ (fun _ h => h) ?_
      clear hK K
      try simp only [Act.put, List.setIfInBounds_toArray, List.set_cons_zero, List.set_cons_succ]
      refine mix_step (fun K hK => ?_)
      go_simp
      refine hK.out _ _ (fun h => absurd h (by decide)) ?_
      clear hK K
      try simp only [Act.put, List.setIfInBounds_toArray, List.set_cons_zero, List.set_cons_succ]
      refine mix_nil ?_
      have hzz : (wr.setCell ⟨w.heap.size, k, none⟩ (.slice (some ⟨wr.heap.size, 0, none⟩) 0 (C + D))).heap.size = wr.heap.size := by simp
      have HQ : Hid (((wr.setCell ⟨w.heap.size, k, none⟩ (.slice (some ⟨wr.heap.size, 0, none⟩) 0 (C + D))).alloc (.cells (madeCells #[.bool false] (C + D)) 40)).drew.rowIs w.heap.size 65 n (fun j => if j = k then .slice (some ⟨wr.heap.size, 0, none⟩) 0 (C + D) else if j < k then .slice (some ⟨S j, 0, none⟩) (C + D) (C + D) else .slice none 0 0)) := ((HM.out.top.set k _).alloc _).drew
      have HNB : Hid (((wr.setCell ⟨w.heap.size, k, none⟩ (.slice (some ⟨wr.heap.size, 0, none⟩) 0 (C + D))).alloc (.cells (madeCells #[.bool false] (C + D)) 40)).drew.rowIs wr.heap.size 40 (C + D) (fun _ => .bool false)) := by
        have h := World.rowIs_made (wr.setCell ⟨w.heap.size, k, none⟩ (.slice (some ⟨wr.heap.size, 0, none⟩) 0 (C + D))) (.bool false) (C + D) 40
        rw [hzz] at h
        exact h.drew
      have HBW := Lib.hid ((HB.out.setCell (p := ⟨w.heap.size, k, none⟩) (Nat.le_refl _) (.slice (some ⟨wr.heap.size, 0, none⟩) 0 (C + D))).alloc (by rw [hzz]; exact hsz) (.cells (madeCells #[.bool false] (C + D)) 40)).drew
      have HOT : Hid (∀ b, b < wr.heap.size → b ≠ w.heap.size → ((wr.setCell ⟨w.heap.size, k, none⟩ (.slice (some ⟨wr.heap.size, 0, none⟩) 0 (C + D))).alloc (.cells (madeCells #[.bool false] (C + D)) 40)).drew.heap[b]? = wr.heap[b]?) := fun b h1 h2 => (Below.heap_alloc _ _ _ (by rw [hzz]; exact h1)).trans (Below.heap_setCell _ _ _ _ h2)
      clear hta htf HBA HTA HNA KS HR1 HR2 hzz
      generalize ((wr.setCell ⟨w.heap.size, k, none⟩ (.slice (some ⟨wr.heap.size, 0, none⟩) 0 (C + D))).alloc (.cells (madeCells #[.bool false] (C + D)) 40)).drew = W8 at *
      have hz8 : wr.heap.size < W8.heap.size := HNB.out.lt
      have HRW : Hid (∀ i, i < k → S i < wr.heap.size) := fun i hi => (HM.out.row i hi).lt
      generalize hnbg : wr.heap.size = nb at *
      have HNG := Lib.hid hnbg
      clear hnbg
      have hta : W8.cell? ⟨w.heap.size, k, none⟩ = some (.slice (some ⟨nb, 0, none⟩) 0 (C + D)) := by rw [HQ.out.cell hlt]; simp
      have hy1 : W8.cell? ⟨b1, o1 + k, none⟩ = some (.slice (SA k) C (KA k)) := (HBW.out.cell hb1).trans HX1.out
      have hy2 : W8.cell? ⟨b2, o2 + k, none⟩ = some (.slice (SB k) D (KB k)) := (HBW.out.cell hb2).trans HX2.out
      have KT : Hid (∀ w4, W8.grownBy w4 (some nb) → w4.cell? ⟨w.heap.size, k, none⟩ = some (.slice (some ⟨nb, 0, none⟩) 0 (C + D)) ∧ w4.cell? ⟨b1, o1 + k, none⟩ = some (.slice (SA k) C (KA k)) ∧ w4.cell? ⟨b2, o2 + k, none⟩ = some (.slice (SB k) D (KB k))) := fun w4 hg => ⟨(grown_cell hg (by show w.heap.size < _; omega) (by simp; omega)).trans hta, (grown_cell hg (by show b1 < _; omega) (by simp; omega)).trans hy1, (grown_cell hg (by show b2 < _; omega) (by simp; omega)).trans hy2⟩
      go_wp2_with fail
      clear hta hy1 hy2
      as_aux_lemma =>
        refine wp_region_mix [(true, true, false), (true, true, false), (true, true, false), (true, true, false), (true, true, false), (true, true, true), (true, true, false), (true, true, false), (true, true, false), (true, true, true), (false, false, false), (true, true, false), (true, true, false), (true, true, false), (true, true, true), (false, false, false), (false, false, false), (false, false, true)] mixed (by kernel_rfl) (fun w4 => w4.cell? ⟨w.heap.size, k, none⟩ = some (.slice (some ⟨nb, 0, none⟩) 0 (C + D)) ∧ w4.cell? ⟨b1, o1 + k, none⟩ = some (.slice (SA k) C (KA k)) ∧ w4.cell? ⟨b2, o2 + k, none⟩ = some (.slice (SB k) D (KB k))) (KT.out _ (grown_drew _ _)) ?_
        intro hSw0
        simp only [hdM, tlM, List.cons_append, List.nil_append]
        repeat (first
          | (refine mix_look hSw0.out ?_ (by rfl) (fun w4 hSw => ?_) ?_; rotate_left; (focus (obtain ⟨s1, s2, s3⟩ := hSw; go_simp; try with_reducible rfl)); simp only [Act.put, List.setIfInBounds_toArray, List.set_cons_zero, List.set_cons_succ])
          | (refine mix_pure ?_ (by rfl) (fun w4 => ?_) ?_; rotate_left; (focus (go_simp; try with_reducible rfl)); simp only [Act.put, List.setIfInBounds_toArray, List.set_cons_zero, List.set_cons_succ]))
        refine mix_step (fun K hK => ?_)
        refine step_appRd rfl (.tmp 35) (.tmp 39) 65 rfl 40 1 nb 0 (C + D) C (KA k) (C + D) (SA k) 40 (fun _ => .bool false) (fun j => vB (G k j)) Try.underlying65 szB rfl rfl HNB.out.drew (by rw [Nat.mul_one]; exact (HA2.out k hlt).below HBW.out.drew) (fun _ _ => rfl) (by omega) (Nat.mul_one _) ?_
        intro w5 hr5 hg5
        have hG5 := (grown_drew W8 (some nb)).trans hg5
        have hB5 : Below w.heap.size w w5 := HBW.out.grown hG5 (by omega) (fun q hq => by injection hq with hq; omega)
        refine hK.out _ _ (fun _ _ => KT.out _ hG5) ?_
        clear hK K
        try simp only [Act.put, List.setIfInBounds_toArray, List.set_cons_zero, List.set_cons_succ]
        refine mix_step (fun K hK => ?_)
        refine step_appRd rfl (.tmp 40) (.tmp 44) 65 rfl 40 1 nb (0 + C) (C + D) D (KB k) (C + D) (SB k) 40 _ (fun j => vB (H k j)) Try.underlying65 szB rfl rfl hr5 (by rw [Nat.mul_one]; exact (HB2.out k hlt).below hB5) (fun _ _ => rfl) (by omega) (Nat.mul_one _) ?_
        intro w6 hr6 hg6
        have hG6 := hG5.trans hg6
        refine hK.out _ _ (fun _ _ => KT.out _ hG6) ?_
        clear hK K
        try simp only [Act.put, List.setIfInBounds_toArray, List.set_cons_zero, List.set_cons_succ]
        have hrF : w6.rowIs nb 40 (C + D) ((fun i j => vB (bsd C (G i) (H i) j)) k) := hr6.congr fun j hj => by
          show (if (0 + C) * 1 ≤ j ∧ j < (0 + C + D) * 1 then vB (H k (j - (0 + C) * 1)) else if 0 * 1 ≤ j ∧ j < (0 + C) * 1 then vB (G k (j - 0 * 1)) else .bool false) = vB (bsd C (G k) (H k) j)
          unfold bsd
          by_cases h1 : j < C
          · rw [if_neg (by omega), if_pos (by omega), if_pos h1, show j - 0 * 1 = j by omega]
          · rw [if_pos (by omega), if_neg h1, show j - (0 + C) * 1 = j - C by omega]
        have hl6 : (0 + C + D) = C + D := by omega
        rw [hl6]
        refine mix_step (fun K hK => ?_)
        go_simp
        refine hK.out _ _ (fun _ h => h) ?_
        clear hK K
        try simp only [Act.put, List.setIfInBounds_toArray, List.set_cons_zero, List.set_cons_succ]
        have hQ6 := HQ.out.of_block (hG6.block w.heap.size HQ.out.lt (by simp; omega))
        have hf6 := hQ6.frozen k
        have hc6 := hQ6.cell hlt
        refine mix_step (fun K hK => ?_)
        go_simp
        refine hK.out _ _ (fun h => absurd h (by decide)) ?_
        clear hK K
        try simp only [Act.put, List.setIfInBounds_toArray, List.set_cons_zero, List.set_cons_succ]
        refine mix_nil ?_
        have hB6 : Below w.heap.size w (w6.setCell ⟨w.heap.size, k, none⟩ (.slice (some ⟨nb, 0, none⟩) (C + D) (C + D))) := (HBW.out.grown hG6 (by omega) (fun q hq => by injection hq with hq; omega)).setCell (Nat.le_refl _) _
        have hN6 := HM.out.next (w' := w6.setCell ⟨w.heap.size, k, none⟩ (.slice (some ⟨nb, 0, none⟩) (C + D) (C + D))) (nb := nb) (by have := HNG.out; omega) (fun i hi => by
            have h1 := HRW.out i hi
            have h2 := HM.out.los i hi
            exact (Below.heap_setCell _ _ _ _ (by show S i ≠ w.heap.size; omega)).trans ((hG6.block (S i) (by omega) (by simp; omega)).trans (HOT.out (S i) h1 (by omega))))
          ((hQ6.set k _).congr fun i hi => by
            by_cases e : i = k
            · subst e; simp [upd_at]
            · by_cases e2 : i < k
              · simp [e, e2, show i < k + 1 by omega, upd_ne _ _ _ e]
              · simp [e, e2, show ¬ i < k + 1 by omega])
          (hrF.setOther (a := ⟨w.heap.size, k, none⟩) (by show nb ≠ w.heap.size; omega) _)
        clear hf6 hc6 hQ6 hG6 hG5 hr5 hr6 hg5 hg6 hrF KT HM HB HQ HNB HBW HOT HRW hB5
        go_wp2
        go_roundg (n - (k + 1))
        case measure => omega
        case rel => exact ⟨k + 1, _, by omega, rfl, by go_num, hN6, hB6⟩
    · have : k = n := by omega
      subst this
      go_wp2
      go_ret
      exact ⟨_, _, rfl, hM.done, hbel⟩
set_option maxRecDepth 40000 in
set_option maxHeartbeats 2000000 in
theorem besideF_any (A B : Option Addr) (n cA cB C D : Nat) (G H : Nat → Nat → Fin 4) (w : World) (hn : n ≤ 1000) (hC : C ≤ 1000) (hD : D ≤ 1000) (hA : MF w A n (fun _ => C) (fun i j => (G i j).val)) (hB : MF w B n (fun _ => D) (fun i j => (H i j).val)) :
    Calls Try.prog 100 #[.slice A n cA, .slice B n cB] w fun e w' => ∃ b S, e = .returned (.slice (some ⟨b, 0, none⟩) n n) ∧ Mx w' w.heap.size b 68 47 n S (C + D) ((C + D) * 2) (fun i => cF (bsd C (G i) (H i))) ∧ Below w.heap.size w w' := by
  obtain ⟨SA, KA, hA1, hA2'⟩ := hA
  obtain ⟨SB, KB, hB1, hB2'⟩ := hB
  have hA2 : ∀ i, i < n → Rd w (SA i) (C * 2) (cF (G i)) := fun i hi => (hA2' i hi).cells.congr fun j _ => two_cF _ _
  have hB2 : ∀ i, i < n → Rd w (SB i) (D * 2) (cF (H i)) := fun i hi => (hB2' i hi).cells.congr fun j _ => two_cF _ _
  clear hA2' hB2'
  have hmk1 := run_make_row' (P := Try.prog) 43 68 (.slice none 0 0) 24 Try.underlying43 foursInfo rfl .i64 .i64 n (by omega) (by omega)
  have hmk := run_make0 (P := Try.prog) 68 47 (.agg #[.bool false, .bool false]) 2 2 Try.underlying68 fourInfo .i64 .i64 C D (by omega) (by omega)
  simp only [Value.cells] at hmk
  have HA1 := Lib.hid hA1; have HA2 := Lib.hid hA2; have HB1 := Lib.hid hB1; have HB2 := Lib.hid hB2
  clear hA1 hA2 hB1 hB2
  have hz0 := Lib.hid (Bs.start w 68 47 n (C + D) ((C + D) * 2) (fun _ => 0) (fun i => cF (bsd C (G i) (H i))))
  have hb0 := Lib.hid ((Below.refl w.heap.size w).alloc (Nat.le_refl _) (.cells (madeCells #[.slice none 0 0] n) 68))
  go_enter Try.func100, Try.ntmps100
  go_wp2
  go_loopg [6, 12] n (fun gk _ i wr => ∃ (k : Nat) (S : Nat → Nat), k ≤ n ∧ gk = n - k ∧ i = .int .i64 k ∧ Bs wr w.heap.size 68 47 n k (C + D) ((C + D) * 2) S (fun i => cF (bsd C (G i) (H i))) ∧ Below w.heap.size w wr)
  case atStart => exact ⟨0, _, Nat.zero_le _, rfl, rfl, hz0.out, hb0.out⟩
  case round =>
    clear hz0 hb0
    obtain ⟨k, S, hk, rfl, rfl, hM, hbel⟩ := hrel
    have hsz := hbel.size
    by_cases hlt : k < n
    · obtain ⟨b1, o1, rfl, hb1, hx1⟩ := HA1.out k hlt
      obtain ⟨b2, o2, rfl, hb2, hx2⟩ := HB1.out k hlt
      have hy1 : wr.cell? ⟨b1, o1 + k, none⟩ = some (.slice (SA k) C (KA k)) := (hbel.cell hb1).trans hx1
      have hy2 : wr.cell? ⟨b2, o2 + k, none⟩ = some (.slice (SB k) D (KB k)) := (hbel.cell hb2).trans hx2
      have hr1 := (HA2.out k hlt).below hbel
      have hr2 := (HB2.out k hlt).below hbel
      have KS : Hid (∀ w4, Below wr.heap.size wr w4 → w4.cell? ⟨b1, o1 + k, none⟩ = some (.slice (SA k) C (KA k)) ∧ w4.cell? ⟨b2, o2 + k, none⟩ = some (.slice (SB k) D (KB k))) := fun w4 hb4 => ⟨(hb4.cell (by show b1 < _; omega)).trans hy1, (hb4.cell (by show b2 < _; omega)).trans hy2⟩
      have hmbl : w.heap.size < wr.heap.size := hM.top.lt
      have HM := Lib.hid hM; have HB := Lib.hid hbel; have HR1 := Lib.hid hr1; have HR2 := Lib.hid hr2
      have hbA := (Below.refl wr.heap.size wr).alloc (Nat.le_refl _) (.cells (madeCells #[.bool false, .bool false] ((C + D) * 2)) 47)
      have htA := below_row hM.top hbA hM.top.lt
      have hnA := rowIs_made2 wr (C + D) 47
      have hta := htA.cell hlt
      have htf := htA.frozen k
      have HBA := Lib.hid hbA; have HTA := Lib.hid htA; have HNA := Lib.hid hnA
      clear hM hbel hr1 hr2 hbA htA hnA
      have HX1 := Lib.hid hx1; have HX2 := Lib.hid hx2; clear hx1 hx2
      go_wp2_with fail
      clear hy1 hy2
      refine wp_region_mix [(true, true, false), (true, true, false), (true, true, false), (true, true, false), (true, true, false), (true, true, true), (true, true, false), (true, true, false), (true, true, false), (true, true, false), (true, true, true), (true, true, false), (true, true, false), (false, false, false), (false, false, false), (false, false, true)] mixed (by kernel_rfl) (fun w4 => w4.cell? ⟨b1, o1 + k, none⟩ = some (.slice (SA k) C (KA k)) ∧ w4.cell? ⟨b2, o2 + k, none⟩ = some (.slice (SB k) D (KB k))) (KS.out _ (Below.refl _ _).drew) ?_
      intro hSw0
      simp only [hdM, tlM, List.cons_append, List.nil_append]
      repeat (first
        | (refine mix_look hSw0.out ?_ (by rfl) (fun w4 hSw => ?_) ?_; rotate_left; (focus (obtain ⟨s1, s2⟩ := hSw; go_simp; try with_reducible rfl)); simp only [Act.put, List.setIfInBounds_toArray, List.set_cons_zero, List.set_cons_succ])
        | (refine mix_pure ?_ (by rfl) (fun w4 => ?_) ?_; rotate_left; (focus (go_simp; try with_reducible rfl)); simp only [Act.put, List.setIfInBounds_toArray, List.set_cons_zero, List.set_cons_succ]))
      refine mix_step (fun K hK => ?_)
      have hwr : IntKind.i64.wrap ((C : Int) + (D : Int)) = (C : Int) + (D : Int) := i64_small _ (by omega) (by omega)
      go_simp
      refine hK.out _ _ (fun _ _ => KS.out _ HBA.out.drew) ?_
      clear hK K hwr
      try simp only [Act.put, List.setIfInBounds_toArray, List.set_cons_zero, List.set_cons_succ]
      refine mix_step (fun K hK => ?_)
      go_simp
      refine hK.out _ _ (fun _ h => h) ?_
      clear hK K
      try simp only [Act.put, List.setIfInBounds_toArray, List.set_cons_zero, List.set_cons_succ]
      refine mix_step (fun K hK => ?_)
      go_simp
      refine hK.out _ _ (fun h => absurd h (by decide)) ?_
      clear hK K
      try simp only [Act.put, List.setIfInBounds_toArray, List.set_cons_zero, List.set_cons_succ]
      refine mix_nil ?_
      have hzz : (wr.setCell ⟨w.heap.size, k, none⟩ (.slice (some ⟨wr.heap.size, 0, none⟩) 0 (C + D))).heap.size = wr.heap.size := by simp
      have HQ : Hid (((wr.setCell ⟨w.heap.size, k, none⟩ (.slice (some ⟨wr.heap.size, 0, none⟩) 0 (C + D))).alloc (.cells (madeCells #[.bool false, .bool false] ((C + D) * 2)) 47)).drew.rowIs w.heap.size 68 n (fun j => if j = k then .slice (some ⟨wr.heap.size, 0, none⟩) 0 (C + D) else if j < k then .slice (some ⟨S j, 0, none⟩) (C + D) (C + D) else .slice none 0 0)) := ((HM.out.top.set k _).alloc _).drew
      have HNB : Hid (((wr.setCell ⟨w.heap.size, k, none⟩ (.slice (some ⟨wr.heap.size, 0, none⟩) 0 (C + D))).alloc (.cells (madeCells #[.bool false, .bool false] ((C + D) * 2)) 47)).drew.rowIs wr.heap.size 47 ((C + D) * 2) (fun _ => .bool false)) := by
        have h := rowIs_made2 (wr.setCell ⟨w.heap.size, k, none⟩ (.slice (some ⟨wr.heap.size, 0, none⟩) 0 (C + D))) (C + D) 47
        rw [hzz] at h
        exact h.drew
      have HBW := Lib.hid ((HB.out.setCell (p := ⟨w.heap.size, k, none⟩) (Nat.le_refl _) (.slice (some ⟨wr.heap.size, 0, none⟩) 0 (C + D))).alloc (by rw [hzz]; exact hsz) (.cells (madeCells #[.bool false, .bool false] ((C + D) * 2)) 47)).drew
      have HOT : Hid (∀ b, b < wr.heap.size → b ≠ w.heap.size → ((wr.setCell ⟨w.heap.size, k, none⟩ (.slice (some ⟨wr.heap.size, 0, none⟩) 0 (C + D))).alloc (.cells (madeCells #[.bool false, .bool false] ((C + D) * 2)) 47)).drew.heap[b]? = wr.heap[b]?) := fun b h1 h2 => (Below.heap_alloc _ _ _ (by rw [hzz]; exact h1)).trans (Below.heap_setCell _ _ _ _ h2)
      clear hta htf HBA HTA HNA KS HR1 HR2 hzz
      generalize ((wr.setCell ⟨w.heap.size, k, none⟩ (.slice (some ⟨wr.heap.size, 0, none⟩) 0 (C + D))).alloc (.cells (madeCells #[.bool false, .bool false] ((C + D) * 2)) 47)).drew = W8 at *
      have hz8 : wr.heap.size < W8.heap.size := HNB.out.lt
      have HRW : Hid (∀ i, i < k → S i < wr.heap.size) := fun i hi => (HM.out.row i hi).lt
      generalize hnbg : wr.heap.size = nb at *
      have HNG := Lib.hid hnbg
      clear hnbg
      have hta : W8.cell? ⟨w.heap.size, k, none⟩ = some (.slice (some ⟨nb, 0, none⟩) 0 (C + D)) := by rw [HQ.out.cell hlt]; simp
      have hy1 : W8.cell? ⟨b1, o1 + k, none⟩ = some (.slice (SA k) C (KA k)) := (HBW.out.cell hb1).trans HX1.out
      have hy2 : W8.cell? ⟨b2, o2 + k, none⟩ = some (.slice (SB k) D (KB k)) := (HBW.out.cell hb2).trans HX2.out
      have KT : Hid (∀ w4, W8.grownBy w4 (some nb) → w4.cell? ⟨w.heap.size, k, none⟩ = some (.slice (some ⟨nb, 0, none⟩) 0 (C + D)) ∧ w4.cell? ⟨b1, o1 + k, none⟩ = some (.slice (SA k) C (KA k)) ∧ w4.cell? ⟨b2, o2 + k, none⟩ = some (.slice (SB k) D (KB k))) := fun w4 hg => ⟨(grown_cell hg (by show w.heap.size < _; omega) (by simp; omega)).trans hta, (grown_cell hg (by show b1 < _; omega) (by simp; omega)).trans hy1, (grown_cell hg (by show b2 < _; omega) (by simp; omega)).trans hy2⟩
      go_wp2_with fail
      clear hta hy1 hy2
      as_aux_lemma =>
        refine wp_region_mix [(true, true, false), (true, true, false), (true, true, false), (true, true, false), (true, true, false), (true, true, true), (true, true, false), (true, true, false), (true, true, false), (true, true, true), (false, false, false), (true, true, false), (true, true, false), (true, true, false), (true, true, true), (false, false, false), (false, false, false), (false, false, true)] mixed (by kernel_rfl) (fun w4 => w4.cell? ⟨w.heap.size, k, none⟩ = some (.slice (some ⟨nb, 0, none⟩) 0 (C + D)) ∧ w4.cell? ⟨b1, o1 + k, none⟩ = some (.slice (SA k) C (KA k)) ∧ w4.cell? ⟨b2, o2 + k, none⟩ = some (.slice (SB k) D (KB k))) (KT.out _ (grown_drew _ _)) ?_
        intro hSw0
        simp only [hdM, tlM, List.cons_append, List.nil_append]
        repeat (first
          | (refine mix_look hSw0.out ?_ (by rfl) (fun w4 hSw => ?_) ?_; rotate_left; (focus (obtain ⟨s1, s2, s3⟩ := hSw; go_simp; try with_reducible rfl)); simp only [Act.put, List.setIfInBounds_toArray, List.set_cons_zero, List.set_cons_succ])
          | (refine mix_pure ?_ (by rfl) (fun w4 => ?_) ?_; rotate_left; (focus (go_simp; try with_reducible rfl)); simp only [Act.put, List.setIfInBounds_toArray, List.set_cons_zero, List.set_cons_succ]))
        refine mix_step (fun K hK => ?_)
        refine step_appRd rfl (.tmp 35) (.tmp 39) 68 rfl 47 2 nb 0 (C + D) C (KA k) ((C + D) * 2) (SA k) 47 (fun _ => .bool false) (cF (G k)) Try.underlying68 szF rfl rfl HNB.out.drew (by exact (HA2.out k hlt).below HBW.out.drew) (fun j _ => by unfold cF pcell; split <;> rfl) (by omega) rfl ?_
        intro w5 hr5 hg5
        have hG5 := (grown_drew W8 (some nb)).trans hg5
        have hB5 : Below w.heap.size w w5 := HBW.out.grown hG5 (by omega) (fun q hq => by injection hq with hq; omega)
        refine hK.out _ _ (fun _ _ => KT.out _ hG5) ?_
        clear hK K
        try simp only [Act.put, List.setIfInBounds_toArray, List.set_cons_zero, List.set_cons_succ]
        refine mix_step (fun K hK => ?_)
        refine step_appRd rfl (.tmp 40) (.tmp 44) 68 rfl 47 2 nb (0 + C) (C + D) D (KB k) ((C + D) * 2) (SB k) 47 _ (cF (H k)) Try.underlying68 szF rfl rfl hr5 (by exact (HB2.out k hlt).below hB5) (fun j _ => by unfold cF pcell; split <;> rfl) (by omega) rfl ?_
        intro w6 hr6 hg6
        have hG6 := hG5.trans hg6
        refine hK.out _ _ (fun _ _ => KT.out _ hG6) ?_
        clear hK K
        try simp only [Act.put, List.setIfInBounds_toArray, List.set_cons_zero, List.set_cons_succ]
        have hrF : w6.rowIs nb 47 ((C + D) * 2) ((fun i => cF (bsd C (G i) (H i))) k) := hr6.congr fun j hj => by
          show (if (0 + C) * 2 ≤ j ∧ j < (0 + C + D) * 2 then cF (H k) (j - (0 + C) * 2) else if 0 * 2 ≤ j ∧ j < (0 + C) * 2 then cF (G k) (j - 0 * 2) else Value.bool false) = cF (bsd C (G k) (H k)) j
          unfold cF bsd
          by_cases h1 : j / 2 < C
          · rw [if_neg (by omega), if_pos (by omega), if_pos h1, show j - 0 * 2 = j by omega]
          · rw [if_pos (by omega), if_neg h1, show (j - (0 + C) * 2) / 2 = j / 2 - C by omega]
            unfold pcell
            rw [show (j - (0 + C) * 2) % 2 = j % 2 by omega]
        have hl6 : (0 + C + D) = C + D := by omega
        rw [hl6]
        refine mix_step (fun K hK => ?_)
        go_simp
        refine hK.out _ _ (fun _ h => h) ?_
        clear hK K
        try simp only [Act.put, List.setIfInBounds_toArray, List.set_cons_zero, List.set_cons_succ]
        have hQ6 := HQ.out.of_block (hG6.block w.heap.size HQ.out.lt (by simp; omega))
        have hf6 := hQ6.frozen k
        have hc6 := hQ6.cell hlt
        refine mix_step (fun K hK => ?_)
        go_simp
        refine hK.out _ _ (fun h => absurd h (by decide)) ?_
        clear hK K
        try simp only [Act.put, List.setIfInBounds_toArray, List.set_cons_zero, List.set_cons_succ]
        refine mix_nil ?_
        have hB6 : Below w.heap.size w (w6.setCell ⟨w.heap.size, k, none⟩ (.slice (some ⟨nb, 0, none⟩) (C + D) (C + D))) := (HBW.out.grown hG6 (by omega) (fun q hq => by injection hq with hq; omega)).setCell (Nat.le_refl _) _
        have hN6 := HM.out.next (w' := w6.setCell ⟨w.heap.size, k, none⟩ (.slice (some ⟨nb, 0, none⟩) (C + D) (C + D))) (nb := nb) (by have := HNG.out; omega) (fun i hi => by
            have h1 := HRW.out i hi
            have h2 := HM.out.los i hi
            exact (Below.heap_setCell _ _ _ _ (by show S i ≠ w.heap.size; omega)).trans ((hG6.block (S i) (by omega) (by simp; omega)).trans (HOT.out (S i) h1 (by omega))))
          ((hQ6.set k _).congr fun i hi => by
            by_cases e : i = k
            · subst e; simp [upd_at]
            · by_cases e2 : i < k
              · simp [e, e2, show i < k + 1 by omega, upd_ne _ _ _ e]
              · simp [e, e2, show ¬ i < k + 1 by omega])
          (hrF.setOther (a := ⟨w.heap.size, k, none⟩) (by show nb ≠ w.heap.size; omega) _)
        clear hf6 hc6 hQ6 hG6 hG5 hr5 hr6 hg5 hg6 hrF KT HM HB HQ HNB HBW HOT HRW hB5
        go_wp2
        go_roundg (n - (k + 1))
        case measure => omega
        case rel => exact ⟨k + 1, _, by omega, rfl, by go_num, hN6, hB6⟩
    · have : k = n := by omega
      subst this
      go_wp2
      go_ret
      exact ⟨_, _, rfl, hM.done, hbel⟩
end Go.Proofs.Ytpocjpodeahanaa
