/- The document's Solve: the walk. Conditions: lengths that memory bears. -/
import Derived.Test.YtpocjpodeahanaaSolP
namespace Go.Proofs.Ytpocjpodeahanaa
open Go.RowKit

/-- The list while it is being filled: k places are whole, at place k the first j terms are in. -/
def xsum {s : Nat} (F : Fd (Fin s)) (n : Nat) (X : Nat → Nat → Fin s) (v : Nat → Fin s) (k j i : Nat) : Fin s :=
  if i < k then F.s n (fun t => F.m (X i t) (v t)) else if i = k then F.s j (fun t => F.m (X i t) (v t)) else F.z
theorem xsum_next {s : Nat} {F : Fd (Fin s)} {n : Nat} {X : Nat → Nat → Fin s} {v : Nat → Fin s} {k j i : Nat} : xsum F n X v k (j + 1) i = if i = k then F.a (xsum F n X v k j k) (F.m (X k j) (v j)) else xsum F n X v k j i := by
  unfold xsum
  by_cases h : i < k
  · simp [h, show ¬ i = k by omega]
  · by_cases h2 : i = k
    · subst h2; simp [Fd.s_succ]
    · simp [h, h2]
theorem xsum_row {s : Nat} {F : Fd (Fin s)} {n : Nat} {X : Nat → Nat → Fin s} {v : Nat → Fin s} {k i : Nat} : xsum F n X v k n i = xsum F n X v (k + 1) 0 i := by
  unfold xsum
  by_cases h : i < k
  · simp [h, show i < k + 1 by omega]
  · by_cases h2 : i = k
    · subst h2; simp
    · by_cases h3 : i = k + 1
      · subst h3; rw [if_neg (by omega), if_neg (by omega), if_neg (by omega), if_pos rfl]; rfl
      · simp [h, h2, h3, show ¬ i < k + 1 by omega]
set_option maxRecDepth 40000 in
set_option maxHeartbeats 2000000 in
theorem rsol_ok {s : Nat} {F : Fd (Fin s)} (ok : FdOk s F) (A B : Option Addr) (n c cB : Nat) (L : Nat → Nat) (G : Nat → Nat → Fin s) (v : Nat → Fin s) (w : World) (hf : faultE n L = 0) (hcn : colsN n L = n) (hA : MI w A n L (fun i j => (G i j).val)) (hB : Rd w B n (fun i => .int .i64 ((v i).val : Nat))) :
    Calls Try.prog 51 #[.int .i64 (s : Nat), .slice A n c, .slice B n cB] w fun e w' => ∃ (er : Int) (x : Nat → Fin s) (Av : Option Addr) (cv : Nat), e = .returned (.tuple #[.slice Av (if er = 0 then n else 0) cv, .int .i64 er]) ∧ SolR F n L n G v er x ∧ Below w.heap.size w w' ∧ Rd w' Av (if er = 0 then n else 0) (fun i => .int .i64 ((x i).val : Nat)) := by
  obtain ⟨hn, hl, -⟩ := faultE_ok hf
  have CA := Lib.hid (rfault_any A n c L w (by omega) (fun i hi => by have := hl i hi; omega) hA.top)
  have CC := Lib.hid (fun w' (hb : Below w.heap.size w w') => rcolumns_any A n c L w' (MI.below hA hb).top)
  have CI := Lib.hid (fun w' (hb : Below w.heap.size w w') => rinv_any ok A n c L G w' (by omega) (fun i hi => by have := hl i hi; omega) (MI.below hA hb))
  have CM := Lib.hid (fun (x y : Fin s) w' => mulF_any ok x y w')
  have HAD := Lib.hid (fun (x y : Fin s) => show bits .xor .i64 (x.val : Nat) (y.val : Nat) = (((F.a x y).val : Nat) : Int) from by
    have h1 := x.isLt; have h2 := y.isLt; have := ok.le
    rw [i64_xor_nat _ _ (by omega) (by omega), ok.add])
  have HZ := Lib.hid ok.zero
  have HB := Lib.hid hB
  rw [hf] at CA
  rw [hcn] at CC
  have HF := Lib.hid hf; have HCN := Lib.hid hcn
  clear hf hcn hA hl ok hB
  go_enter Try.func51, Try.ntmps51
  go_wp2_with fail
  refine CA.out.mono ?_
  rintro e w1 ⟨rfl, hd1⟩
  have hb1 := hd1.below w.heap.size
  go_wp2_with fail
  refine (CC.out _ hb1).mono ?_
  rintro e w2 ⟨rfl, rfl⟩
  clear CA CC hd1
  go_wp2_with fail
  refine (CI.out _ hb1).mono ?_
  rintro e w3 ⟨er, X, Av, cv, rfl, hIR, hb3, hX⟩
  have HB3 := Lib.hid (hb1.trans (hb3.mono hb1.size))
  have HIR := Lib.hid hIR
  clear CI hb1 hb3 hIR
  by_cases he : er = 0
  · subst he
    have hX : MI w3 Av n (fun _ => n) (fun i j => (X i j).val) := hX
    obtain ⟨SX, CX, hx1, hx2⟩ := hX
    have HX1 := Lib.hid hx1; have HX2 := Lib.hid hx2
    clear hx1 hx2
    rw [if_pos rfl]
    go_wp2_with fail
    refine (rzeros n _ (by omega)).mono ?_
    rintro e w4 ⟨vx, rfl, hO4, hb4⟩
    have HO4 : Hid (Own w4 w3.heap.size 3 1 vx n (fun i => [.int .i64 ((xsum F n X v 0 0 i).val : Nat)])) := hO4.congr fun i _ => by
      have : (xsum F n X v 0 0 i) = F.z := by unfold xsum; by_cases e : i = 0 <;> simp [e, Fd.s]
      rw [this, HZ.out]; rfl
    have HB4 := Lib.hid hb4
    clear hO4 hb4
    go_wp2
    go_loopg [12] n (fun gk i wr => ∃ k : Nat, k ≤ n ∧ gk = n - k ∧ i = .int .i64 k ∧ Below w3.heap.size w3 wr ∧ Own wr w3.heap.size 3 1 vx n (fun i => [.int .i64 ((xsum F n X v k 0 i).val : Nat)]))
    case atStart => exact ⟨0, Nat.zero_le _, rfl, rfl, HB4.out, HO4.out⟩
    case round =>
      clear HB4 HO4
      obtain ⟨k, hk, rfl, rfl, hb, hO⟩ := hrel
      by_cases hlt : k < n
      · obtain ⟨g, cg, rfl, hgB, _, _, _⟩ := hO.form (by omega)
        obtain ⟨b1, o1, rfl, hb1, hx1⟩ := HX1.out k hlt
        have HX1' := Lib.hid hx1; have HB0 := Lib.hid hb; have HO := Lib.hid hO
        clear hx1 hb hO
        go_wp2
        go_loopg [13] n (fun gk i wr => ∃ j : Nat, j ≤ n ∧ gk = n - j ∧ i = .int .i64 j ∧ Below w3.heap.size w3 wr ∧ Own wr w3.heap.size 3 1 (.slice (some ⟨g, 0, none⟩) n cg) n (fun i => [.int .i64 ((xsum F n X v k j i).val : Nat)]))
        case atStart => exact ⟨0, Nat.zero_le _, rfl, rfl, HB0.out, HO.out⟩
        case round =>
          clear HB0 HO
          obtain ⟨j, hj, rfl, rfl, hb, hO⟩ := hrel
          by_cases hlj : j < n
          · obtain ⟨b3, o3, hSX, hb3, hx3⟩ := HX2.out k hlt j hlj
            obtain ⟨bv, ov, rfl, hbv, hxv⟩ := (HB.out.below HB3.out) j hlj
            have hc := hO.cell1 (i := k) hlt
            obtain ⟨_, _, e3, _, hgl, _, hfz⟩ := hO.form (by omega)
            injection e3 with e3 _ e4
            injection e3 with e3
            injection e3 with e3 _ _
            subst e3 e4
            have hfk := hfz k
            have q1 : wr.cell? ⟨b1, o1 + k, none⟩ = some (.slice (some ⟨b3, o3, none⟩) n (CX k)) := by rw [← hSX]; exact (hb.cell hb1).trans HX1'.out
            have q2 : wr.cell? ⟨b3, o3 + j, none⟩ = some (.int .i64 ((X k j).val : Nat)) := (hb.cell hb3).trans hx3
            have q3 : wr.cell? ⟨bv, ov + j, none⟩ = some (.int .i64 ((v j).val : Nat)) := (hb.cell hbv).trans hxv
            have HXR : Hid (bits .xor .i64 ((xsum F n X v k j k).val : Nat) ((F.m (X k j) (v j)).val : Nat) = (((F.a (xsum F n X v k j k) (F.m (X k j) (v j))).val : Nat) : Int)) := HAD.out _ _
            have HO5 := Lib.hid (((hO.set1 hlt (.int .i64 ((F.a (xsum F n X v k j k) (F.m (X k j) (v j))).val : Nat))).kept (Below.refl _ _).drew).congr (g := fun i => [.int .i64 ((xsum F n X v k (j + 1) i).val : Nat)]) fun i _ => by rw [xsum_next]; split <;> rfl)
            have HB5 := Lib.hid ((hb.setCell (p := ⟨g, k, none⟩) hgB (.int .i64 ((F.a (xsum F n X v k j k) (F.m (X k j) (v j))).val : Nat))).drew)
            rw [← HXR.out] at HO5 HB5
            generalize (xsum F n X v k j k).val = D at *
            have KS : Hid (wr.cell? ⟨g, k, none⟩ = some (.int .i64 (D : Nat)) ∧ wr.cell? ⟨b1, o1 + k, none⟩ = some (.slice (some ⟨b3, o3, none⟩) n (CX k)) ∧ wr.cell? ⟨b3, o3 + j, none⟩ = some (.int .i64 ((X k j).val : Nat)) ∧ wr.cell? ⟨bv, ov + j, none⟩ = some (.int .i64 ((v j).val : Nat))) := ⟨hc, q1, q2, q3⟩
            clear hfz hxv hx3 hSX hb hO
            go_wp2_with fail
            clear q1 q2 q3
            as_aux_lemma =>
              refine wp_region_mix [(true, true, false), (true, true, false), (true, true, false), (true, true, false), (true, true, false), (true, true, true), (true, true, false), (true, true, false), (true, true, false), (true, true, false), (true, true, true), (true, true, false), (true, true, false), (true, true, true), (true, true, false), (true, true, false), (true, true, false), (true, true, true), (false, false, false), (false, true, false), (false, true, false), (false, false, true)] mixedR (by kernel_rfl) (fun w4 => w4.cell? ⟨g, k, none⟩ = some (.int .i64 (D : Nat)) ∧ w4.cell? ⟨b1, o1 + k, none⟩ = some (.slice (some ⟨b3, o3, none⟩) n (CX k)) ∧ w4.cell? ⟨b3, o3 + j, none⟩ = some (.int .i64 ((X k j).val : Nat)) ∧ w4.cell? ⟨bv, ov + j, none⟩ = some (.int .i64 ((v j).val : Nat))) (KS.out) ?_
              intro hSw0
              simp only [hdM, tlM, List.cons_append, List.nil_append]
              repeat (first
                | (refine mix_look hSw0.out ?_ (by rfl) (fun w4 hSw => ?_) ?_; rotate_left; (focus (obtain ⟨s1, s2, s3, s4⟩ := hSw; go_simp; try with_reducible rfl)); simp only [Act.put, List.setIfInBounds_toArray, List.set_cons_zero, List.set_cons_succ])
                | (refine mix_pure ?_ (by rfl) (fun w4 => ?_) ?_; rotate_left; (focus (go_simp; try with_reducible rfl)); simp only [Act.put, List.setIfInBounds_toArray, List.set_cons_zero, List.set_cons_succ]))
              refine mix_step (fun K hK => ?_)
              go_simp
              refine (CM.out (X k j) (v j) _).mono ?_
              rintro e w5 ⟨rfl, rfl⟩
              dsimp only
              refine hK.out _ _ (fun _ h => h) ?_
              clear hK K
              try simp only [Act.put, List.setIfInBounds_toArray, List.set_cons_zero, List.set_cons_succ]
              repeat (refine mix_pure ?_ (by rfl) (fun w4 => ?_) ?_; rotate_left; (focus (go_simp; try with_reducible rfl)); simp only [Act.put, List.setIfInBounds_toArray, List.set_cons_zero, List.set_cons_succ])
              refine mix_step (fun K hK => ?_)
              go_simp
              refine hK.out _ _ (fun h => absurd h (by decide)) ?_
              clear hK K
              try simp only [Act.put, List.setIfInBounds_toArray, List.set_cons_zero, List.set_cons_succ]
              refine mix_nil ?_
              go_wp2
              go_roundg (n - (j + 1))
              case measure => omega
              case rel => exact ⟨j + 1, by omega, rfl, by go_num, HB5.out, HO5.out⟩
          · have hjn : j = n := by omega
            subst j
            have HO6 := Lib.hid (hO.congr (g := fun i => [.int .i64 ((xsum F n X v (k + 1) 0 i).val : Nat)]) fun i _ => by rw [xsum_row])
            have HB6 := Lib.hid hb
            clear hO hb
            go_wp2
            go_roundg (n - (k + 1))
            case measure => omega
            case rel => exact ⟨k + 1, by omega, rfl, by go_num, HB6.out, HO6.out⟩
      · have hkn : k = n := by omega
        subst k
        obtain ⟨Ax, cx, hv, _, _, hRx, _⟩ := hO.rd
        subst hv
        have HRX := Lib.hid hRx; have HBX := Lib.hid (HB3.out.trans (hb.mono HB3.out.size))
        clear hO hb hRx
        go_wp2
        go_ret2
        exact ⟨0, xsum F n X v n 0, Ax, cx, rfl, .inr (.inr ⟨HF.out, ⟨HCN.out, rfl⟩, X, HIR.out, fun _ i hi => by unfold xsum; rw [if_pos hi]⟩), HBX.out, HRX.out⟩
  · have t1 : (er != 0) = true := by simpa using he
    have HE : Hid ((if er = 0 then n else 0) = 0) := if_neg he
    have HNE := Lib.hid he
    clear he hX
    rw [HE.out]
    go_wp2
    go_ret2
    exact ⟨er, fun _ => F.z, none, 0, by rw [HE.out]; rfl, .inr (.inr ⟨HF.out, ⟨HCN.out, rfl⟩, X, HIR.out, fun e => absurd e HNE.out⟩), HB3.out, by rw [HE.out]; exact Rd.zero _ _ _⟩
set_option maxHeartbeats 800000 in
theorem rsol_any {s : Nat} {F : Fd (Fin s)} (ok : FdOk s F) (A B : Option Addr) (n c m cB : Nat) (L : Nat → Nat) (G : Nat → Nat → Fin s) (v : Nat → Fin s) (w : World) (hn : n ≤ 9223372036854775807) (hL : ∀ i, i < n → L i ≤ 9223372036854775807) (hA : MI w A n L (fun i j => (G i j).val)) (hB : Rd w B m (fun i => .int .i64 ((v i).val : Nat))) :
    Calls Try.prog 51 #[.int .i64 (s : Nat), .slice A n c, .slice B m cB] w fun e w' => ∃ (er : Int) (x : Nat → Fin s) (Av : Option Addr) (cv : Nat), e = .returned (.tuple #[.slice Av (if er = 0 then n else 0) cv, .int .i64 er]) ∧ SolR F n L m G v er x ∧ Below w.heap.size w w' ∧ Rd w' Av (if er = 0 then n else 0) (fun i => .int .i64 ((x i).val : Nat)) := by
  by_cases h : faultE n L = 0 ∧ colsN n L = n ∧ m = n
  · obtain ⟨h1, h2, rfl⟩ := h
    exact rsol_ok ok A B m c cB L G v w h1 h2 hA hB
  · have CA := Lib.hid (rfault_any A n c L w hn hL hA.top)
    have CC := Lib.hid (fun w1 (hd : Dr w w1) => rcolumns_any A n c L w1 (MI.below hA (hd.below w.heap.size)).top)
    have CP : Hid (∀ er : Int, er = (if faultE n L = 0 then 31 else faultE n L) → SolR F n L m G v er (fun _ => F.z) ∧ (if er = 0 then n else 0) = 0) := fun er he => by
      subst he
      by_cases hf : faultE n L = 0
      · rw [if_pos hf]
        exact ⟨.inr (.inl ⟨hf, fun e => h ⟨hf, e.1, e.2⟩, rfl⟩), rfl⟩
      · rw [if_neg hf]
        exact ⟨.inl ⟨hf, rfl⟩, if_neg hf⟩
    have hh : faultE n L = 0 → colsN n L = n → m = n → False := fun a b c => h ⟨a, b, c⟩
    have fin : ∀ w', Below w.heap.size w w' → ∀ er : Int, er = (if faultE n L = 0 then 31 else faultE n L) → ∃ (er' : Int) (x : Nat → Fin s) (Av : Option Addr) (cv : Nat), Ending.returned (.tuple #[.slice none 0 0, .int .i64 er]) = .returned (.tuple #[.slice Av (if er' = 0 then n else 0) cv, .int .i64 er']) ∧ SolR F n L m G v er' x ∧ Below w.heap.size w w' ∧ Rd w' Av (if er' = 0 then n else 0) (fun i => .int .i64 ((x i).val : Nat)) := fun w' hb er he => by
      obtain ⟨h1, h2⟩ := CP.out er he
      exact ⟨er, fun _ => F.z, none, 0, by rw [h2], h1, hb, by rw [h2]; exact Rd.zero _ _ _⟩
    have FIN := Lib.hid fin
    clear h hL hA hB CP fin ok
    generalize faultE n L = fa at *
    generalize colsN n L = ca at *
    by_cases h1 : fa = 0
    · subst h1
      rw [if_pos rfl] at FIN
      by_cases h2 : ca = n
      · subst h2
        have t1 : ((m : Int) != (ca : Int)) = true := by rw [bne_iff_ne]; intro e; exact hh rfl rfl (by omega)
        clear hh
        go_enter Try.func51, Try.ntmps51
        go_wp2_with fail
        refine CA.out.mono ?_
        rintro e w1 ⟨rfl, hd1⟩
        go_wp2_with fail
        refine (CC.out w1 hd1).mono ?_
        rintro e w3 ⟨rfl, rfl⟩
        have hb := hd1.below w.heap.size
        clear CA CC hd1
        go_wp2
        go_ret2
        exact FIN.out _ hb 31 rfl
      · have t1 : ((ca : Int) != (n : Int)) = true := by rw [bne_iff_ne]; omega
        clear hh
        go_enter Try.func51, Try.ntmps51
        go_wp2_with fail
        refine CA.out.mono ?_
        rintro e w1 ⟨rfl, hd1⟩
        go_wp2_with fail
        refine (CC.out w1 hd1).mono ?_
        rintro e w3 ⟨rfl, rfl⟩
        have hb := hd1.below w.heap.size
        clear CA CC hd1
        go_wp2
        go_ret2
        exact FIN.out _ hb 31 rfl
    · have t1 : (fa != 0) = true := by simpa using h1
      have t2 : (fa == 0) = false := by simpa using h1
      rw [if_neg h1] at FIN
      clear h1 hh
      go_enter Try.func51, Try.ntmps51
      go_wp2_with fail
      refine CA.out.mono ?_
      rintro e w1 ⟨rfl, hd1⟩
      have hb := hd1.below w.heap.size
      clear CA CC hd1
      go_wp2
      go_ret2
      exact FIN.out _ hb fa rfl
end Go.Proofs.Ytpocjpodeahanaa
