/- Inverse of the program: the walks. Conditions: lengths that memory bears. -/
import Derived.Test.YtpocjpodeahanaaBes
import Derived.Test.YtpocjpodeahanaaOne
namespace Go.Proofs.Ytpocjpodeahanaa
open Go.RowKit

theorem Fd.RR.congrG {α : Type} {F : Fd α} {n L c : Nat} {G H G' : Nat → Nat → α} {st : Nat} {p : Nat → Nat} (h : F.RR n L c G G' st p) (e : ∀ i j, i < n → j < L → H i j = G i j) : F.RR n L c H G' st p :=
  ⟨(Fd.Same.of_eq (F := F) e).trans h.same, h.le, h.piv, h.up, h.zero⟩
/-- What Inverse says, by what the program does. -/
def InvP {α : Type} (F : Fd α) (n : Nat) (L : Nat → Nat) (G : Nat → Nat → α) (er : Int) (X : Nat → Nat → α) : Prop :=
  (faultE n L ≠ 0 ∧ er = faultE n L) ∨ (faultE n L = 0 ∧ colsN n L ≠ n ∧ er = 31) ∨ (faultE n L = 0 ∧ colsN n L = n ∧ ¬ F.Free n n G ∧ er = 32) ∨
  (faultE n L = 0 ∧ colsN n L = n ∧ er = 0 ∧ ∃ G' p, F.RR n (n + n) n (F.aug n G) G' n p ∧ ∀ i j, X i j = G' i (n + j))
theorem free_ne {α : Type} {F : Fd α} {n : Nat} {G : Nat → Nat → α} (h : ∀ i j, i < n → j < n → G i j = F.z) (hn : 0 < n) : ¬ F.Free n n G := fun hf =>
  F.u_z (hf (fun _ => F.u) (fun j hj => F.s_zero fun i hi => by rw [h i j hi hj, F.m_z]) 0 hn)
set_option maxRecDepth 40000 in
set_option maxHeartbeats 3000000 in
theorem invE_any (A : Option Addr) (n c : Nat) (L : Nat → Nat) (G : Nat → Nat → Fin 256) (w : World) (hn : n ≤ 9223372036854775807) (hL : ∀ i, i < n → L i ≤ 9223372036854775807) (hA : ME w A n L (fun i j => (G i j).val)) :
    Calls Try.prog 59 #[.slice A n c] w fun e w' => ∃ (er : Int) (X : Nat → Nat → Fin 256) (Av : Option Addr) (cv : Nat), e = .returned (.tuple #[.slice Av (if er = 0 then n else 0) cv, .int .i64 er]) ∧ InvP gE n L G er X ∧ Below w.heap.size w w' ∧ ME w' Av (if er = 0 then n else 0) (fun _ => n) (fun i j => (X i j).val) := by
  have CA := Lib.hid (faultE_any A n c L w hn hL hA.top)
  by_cases hf : faultE n L = 0
  · have HF := Lib.hid hf
    rw [hf] at CA
    have CC := Lib.hid (columnsE_any A n c L w hA.top)
    have hn5 := (faultE_ok hf).1
    by_cases hc : colsN n L = n
    · have HC := Lib.hid hc
      have hA' : ME w A n (fun _ => n) (fun i j => (G i j).val) := by
        obtain ⟨SA, KA, h1, h2⟩ := hA
        exact ⟨SA, KA, h1.congr fun i hi => by rw [colsN_len hf i hi, hc], fun i hi => by have := h2 i hi; rw [colsN_len hf i hi, hc] at this; exact this⟩
      have CO := Lib.hid (oneE_any A n c n G w (by omega) (by omega) hA')
      have HA := Lib.hid hA'
      rw [hc] at CC
      clear hf hc hA hA' hL
      go_enter Try.func59, Try.ntmps59
      go_wp2_with fail
      refine CA.out.mono ?_
      rintro e w1 ⟨rfl, rfl⟩
      go_wp2_with fail
      refine CC.out.mono ?_
      rintro e w1 ⟨rfl, rfl⟩
      go_wp2_with fail
      refine CO.out.mono ?_
      rintro e w4 ⟨y, ok, rfl, hone, hb4⟩
      clear CA CC CO
      have HONE := Lib.hid hone; clear hone
      by_cases hbad : ok = false ∧ 0 < n
      · obtain ⟨rfl, hpos⟩ := hbad
        have t1 : decide ((n : Int) > 0) = true := by simp; omega
        go_wp2
        go_ret2
        rcases HONE.out with ⟨h1, _⟩ | ⟨_, _, h2⟩
        · cases h1
        · exact ⟨32, fun _ _ => gE.z, none, 0, rfl, .inr (.inr (.inl ⟨HF.out, HC.out, free_ne h2 hpos, rfl⟩)), hb4, RdM.zero _ _ _ _⟩
      · have hok : ok = true ∨ n = 0 := by
          cases ok
          · exact .inr (by simp at hbad; omega)
          · exact .inl rfl
        have HY : Hid (∀ i j, i < n → j < n + n → gE.aug n G i j = bsd n (G i) (fun j => if i = j then y else gE.z) j) := fun i j hi _ => by
          rcases HONE.out with ⟨_, h2, _⟩ | ⟨h1, _, _⟩
          · subst h2; rfl
          · rcases hok with h | h
            · rw [h] at h1; cases h1
            · omega
        have HOK := Lib.hid hok
        clear hbad hok HONE
        have key : ok = true ∨ (ok = false ∧ n = 0) := by
          rcases HOK.out with h | h
          · exact .inl h
          · cases ok
            · exact .inr ⟨rfl, h⟩
            · exact .inl rfl
        clear HOK
        have t0 : ok = true ∨ (ok = false ∧ n ≤ 0) := by
          rcases key with h | ⟨h1, h2⟩
          · exact .inl h
          · exact .inr ⟨h1, by omega⟩
        clear key
        skip
        have hz4 := hb4.size
        rcases t0 with rfl | ⟨rfl, t1⟩
        · go_wp2_with fail
          refine (identE n _ _ (by omega)).mono ?_
          rintro e w5 ⟨bi, Si, rfl, hMi, hb5⟩
          have hI : ME w5 (some ⟨bi, 0, none⟩) n (fun _ => n) (fun i j => (if i = j then y else gE.z : Fin 256).val) := (hMi.congr (g := fun i j => vE (if i = j then y else gE.z)) fun i j _ _ => by split <;> rfl).rdm
          have HB5 := Lib.hid (hb4.trans (hb5.mono hz4))
          clear hMi hb4 hb5 hz4
          go_wp2_with fail
          refine (besideE_any A (some ⟨bi, 0, none⟩) n c n n n G (fun i j => (if i = j then y else gE.z : Fin 256)) w5 (by omega) (by omega) (by omega) (ME.below HA.out HB5.out) hI).mono ?_
          rintro e w6 ⟨bm, S6, rfl, hM6, hb6⟩
          clear hI
          go_wp2_with fail
          refine (clE_any bm n n (n + n) n w5.heap.size S6 (fun i => bsd n (G i) (fun j => if i = j then y else gE.z)) w6 (by omega) (by omega) (by omega) hM6).mono ?_
          rintro e w7 ⟨Sm, G', st, p, rfl, hM7, hRR, hb7⟩
          have HRR : Hid (gE.RR n (n + n) n (gE.aug n G) G' st p) := Fd.RR.congrG hRR HY.out
          have hb57 : Below w5.heap.size w5 w7 := hb6.trans hb7
          have HB7 := Lib.hid (HB5.out.trans (hb57.mono HB5.out.size))
          have hst := hRR.le
          clear hM6 hRR hb6 hb7 HY hb57
          by_cases hfull : st = n
          · have hge : ¬ st < n := by omega
            have HRF : Hid (gE.RR n (n + n) n (gE.aug n G) G' n p) := by rw [← hfull]; rw [hfull]; rw [hfull] at HRR; exact HRR.out
            clear hfull HRR
            go_wp2_with (go_at_call 79; (with_reducible refine (zerosE n n _ (by omega) (by omega)).mono ?_); rintro e w8 ⟨rfl, hMz, hb8⟩)
            have HM7 := Lib.hid hM7
            clear hM7
            go_loopg [12, 54] n (fun gk _ i wr => ∃ k : Nat, k ≤ n ∧ gk = n - k ∧ i = .int .i64 k ∧ Below w7.heap.size w7 wr ∧ Mx wr w7.heap.size w7.heap.size 62 34 n (fun i => w7.heap.size + 1 + i) n n (fun i => if i < k then (fun j => vE ((fun j => G' i (n + j)) j)) else fun _ => .int .u8 0))
            case atStart => exact ⟨0, Nat.zero_le _, rfl, rfl, hb8, hMz.congr fun i j _ _ => by simp⟩
            case round =>
              clear hMz hb8
              obtain ⟨k, hk, rfl, rfl, hbel, hM⟩ := hrel
              by_cases hlt : k < n
              · have hm7 := HM7.out.keep hbel
                have hto := hM.top.cell hlt
                have htm := hm7.top.cell hlt
                have hlo : w7.heap.size < wr.heap.size := hM.top.lt
                have hlm : bm < wr.heap.size := hm7.top.lt
                have hneo : bm ≠ w7.heap.size + 1 + k := by have := HM7.out.top.lt; omega
                have KS : Hid (∀ w4, wr.grownBy w4 (some (w7.heap.size + 1 + k)) → w4.cell? ⟨w7.heap.size, k, none⟩ = some (.slice (some ⟨w7.heap.size + 1 + k, 0, none⟩) n n) ∧ w4.cell? ⟨bm, k, none⟩ = some (.slice (some ⟨Sm k, 0, none⟩) (n + n) (n + n))) := fun w4 hg => ⟨(grown_cell hg hlo (by simp; omega)).trans hto, (grown_cell hg hlm (by simp; exact hneo)).trans htm⟩
                have HM := Lib.hid hM; have HB := Lib.hid hbel
                have HSR : Hid (Rd wr.drew (some ⟨Sm k, n, none⟩) (n * 1) (fun j => vE ((fun j => G' k (n + j)) j))) := fun j hj => ⟨Sm k, n, rfl, (hm7.row k hlt).lt, by
                  have h := (hm7.row k hlt).cell (i := n + j) (by omega)
                  exact h⟩
                have hs1 : (0 : Int) ≤ (n : Int) := by omega
                have hs2 : (n : Int) ≤ (n : Int) + (n : Int) := by omega
                have hs3 : (n : Int) ≤ ((n + n : Nat) : Int) := by omega
                have hs4 : (0 : Int) < (n : Int) := by omega
                clear hM hbel hm7
                go_wp2_with fail
                clear hto htm
                refine wp_region_mix [(true, true, false), (true, true, false), (true, true, false), (true, true, true), (true, true, false), (true, true, false), (true, true, false), (true, true, true), (true, true, false), (true, true, false), (false, false, false)] mixed (by kernel_rfl) (fun w4 => w4.cell? ⟨w7.heap.size, k, none⟩ = some (.slice (some ⟨w7.heap.size + 1 + k, 0, none⟩) n n) ∧ w4.cell? ⟨bm, k, none⟩ = some (.slice (some ⟨Sm k, 0, none⟩) (n + n) (n + n))) (KS.out _ (grown_drew _ _)) ?_
                intro hSw0
                simp only [hdM, tlM, List.cons_append, List.nil_append]
                repeat (first
                  | (refine mix_look hSw0.out ?_ (by rfl) (fun w4 hSw => ?_) ?_; rotate_left; (focus (obtain ⟨s1, s2⟩ := hSw; go_simp; try with_reducible rfl)); simp only [Act.put, List.setIfInBounds_toArray, List.set_cons_zero, List.set_cons_succ])
                  | (refine mix_pure ?_ (by rfl) (fun w4 => ?_) ?_; rotate_left; (focus (go_simp; try with_reducible rfl)); simp only [Act.put, List.setIfInBounds_toArray, List.set_cons_zero, List.set_cons_succ]))
                have hs5 : n + n - n = n := by omega
                refine mix_step (fun K hK => ?_)
                refine step_copyAll rfl (.tmp 60) (.tmp 66) 62 62 rfl 34 1 (w7.heap.size + 1 + k) n n n (some ⟨Sm k, n, none⟩) 34 (((fun i => if i < k then (fun j => vE ((fun j => G' i (n + j)) j)) else fun _ => .int .u8 0) : Nat → Nat → Value) k) (fun j => vE ((fun j => G' k (n + j)) j)) Try.underlying62 szE rfl (by show Value.slice _ _ _ = Value.slice _ _ _; rw [if_neg (by omega)]) (by rw [Nat.mul_one]; exact (HM.out.row k hlt).drew) HSR.out (fun _ _ => rfl) ?_
                intro w9 hr9 hg9
                rw [Nat.mul_one] at hr9
                have hG9 := (grown_drew wr (some (w7.heap.size + 1 + k))).trans hg9
                refine hK.out _ _ (fun _ _ => KS.out _ hG9) ?_
                clear hK K
                try simp only [Act.put, List.setIfInBounds_toArray, List.set_cons_zero, List.set_cons_succ]
                refine mix_nil ?_
                have hM9 := (HM.out.rowSet (i := k) hlt hr9 hG9).congr (g := (fun i => if i < k + 1 then (fun j => vE ((fun j => G' i (n + j)) j)) else fun _ => .int .u8 0)) fun i j _ _ => by
                  by_cases e : i = k
                  · subst e; simp
                  · by_cases e2 : i < k
                    · simp [e, e2, show i < k + 1 by omega]
                    · simp [e, e2, show ¬ i < k + 1 by omega]
                have hb9 := HB.out.grown hG9 HB.out.size (fun q hq => by injection hq with hq; omega)
                have HM9 := Lib.hid hM9; have HB9 := Lib.hid hb9
                clear KS HM HB HSR hr9 hg9 hG9 hM9 hb9 hs1 hs2 hs3 hs4 hs5
                go_wp2
                go_roundg (n - (k + 1))
                case measure => omega
                case rel => exact ⟨k + 1, by omega, rfl, by go_num, HB9.out, HM9.out⟩
              · have : k = n := by omega
                subst this
                have HMX := Lib.hid (hM.congr (g := (fun i j => vE (G' i (k + j)))) fun i j hi hj => by simp only [hi, if_true])
                have HBX := Lib.hid (HB7.out.trans (hbel.mono HB7.out.size))
                clear hM hbel
                go_wp2
                go_ret2
                exact ⟨0, fun i j => G' i (k + j), some ⟨w7.heap.size, 0, none⟩, k, rfl, .inr (.inr (.inr ⟨HF.out, HC.out, rfl, G', p, HRF.out, fun _ _ => rfl⟩)), HBX.out, HMX.out.rdm⟩
          · have hlt : st < n := by omega
            have HNF : Hid (¬ gE.Free n n G) := fun hf => hfull ((HRR.out.full_iff (by omega)).2 (Fd.free_aug.2 hf))
            clear hM7 hfull
            go_wp2
            go_ret2
            exact ⟨32, fun _ _ => gE.z, none, 0, rfl, .inr (.inr (.inl ⟨HF.out, HC.out, HNF.out, rfl⟩)), HB7.out, RdM.zero _ _ _ _⟩
        · go_wp2_with fail
          refine (identE n _ _ (by omega)).mono ?_
          rintro e w5 ⟨bi, Si, rfl, hMi, hb5⟩
          have hI : ME w5 (some ⟨bi, 0, none⟩) n (fun _ => n) (fun i j => (if i = j then y else gE.z : Fin 256).val) := (hMi.congr (g := fun i j => vE (if i = j then y else gE.z)) fun i j _ _ => by split <;> rfl).rdm
          have HB5 := Lib.hid (hb4.trans (hb5.mono hz4))
          clear hMi hb4 hb5 hz4
          go_wp2_with fail
          refine (besideE_any A (some ⟨bi, 0, none⟩) n c n n n G (fun i j => (if i = j then y else gE.z : Fin 256)) w5 (by omega) (by omega) (by omega) (ME.below HA.out HB5.out) hI).mono ?_
          rintro e w6 ⟨bm, S6, rfl, hM6, hb6⟩
          clear hI
          go_wp2_with fail
          refine (clE_any bm n n (n + n) n w5.heap.size S6 (fun i => bsd n (G i) (fun j => if i = j then y else gE.z)) w6 (by omega) (by omega) (by omega) hM6).mono ?_
          rintro e w7 ⟨Sm, G', st, p, rfl, hM7, hRR, hb7⟩
          have HRR : Hid (gE.RR n (n + n) n (gE.aug n G) G' st p) := Fd.RR.congrG hRR HY.out
          have hb57 : Below w5.heap.size w5 w7 := hb6.trans hb7
          have HB7 := Lib.hid (HB5.out.trans (hb57.mono HB5.out.size))
          have hst := hRR.le
          clear hM6 hRR hb6 hb7 HY hb57
          by_cases hfull : st = n
          · have hge : ¬ st < n := by omega
            have HRF : Hid (gE.RR n (n + n) n (gE.aug n G) G' n p) := by rw [← hfull]; rw [hfull]; rw [hfull] at HRR; exact HRR.out
            clear hfull HRR
            go_wp2_with (go_at_call 79; (with_reducible refine (zerosE n n _ (by omega) (by omega)).mono ?_); rintro e w8 ⟨rfl, hMz, hb8⟩)
            have HM7 := Lib.hid hM7
            clear hM7
            go_loopg [12, 54] n (fun gk _ i wr => ∃ k : Nat, k ≤ n ∧ gk = n - k ∧ i = .int .i64 k ∧ Below w7.heap.size w7 wr ∧ Mx wr w7.heap.size w7.heap.size 62 34 n (fun i => w7.heap.size + 1 + i) n n (fun i => if i < k then (fun j => vE ((fun j => G' i (n + j)) j)) else fun _ => .int .u8 0))
            case atStart => exact ⟨0, Nat.zero_le _, rfl, rfl, hb8, hMz.congr fun i j _ _ => by simp⟩
            case round =>
              clear hMz hb8
              obtain ⟨k, hk, rfl, rfl, hbel, hM⟩ := hrel
              by_cases hlt : k < n
              · exfalso; omega
              · have : k = n := by omega
                subst this
                have HMX := Lib.hid (hM.congr (g := (fun i j => vE (G' i (k + j)))) fun i j hi hj => by simp only [hi, if_true])
                have HBX := Lib.hid (HB7.out.trans (hbel.mono HB7.out.size))
                clear hM hbel
                go_wp2
                go_ret2
                exact ⟨0, fun i j => G' i (k + j), some ⟨w7.heap.size, 0, none⟩, k, rfl, .inr (.inr (.inr ⟨HF.out, HC.out, rfl, G', p, HRF.out, fun _ _ => rfl⟩)), HBX.out, HMX.out.rdm⟩
          · have hlt : st < n := by omega
            have HNF : Hid (¬ gE.Free n n G) := fun hf => hfull ((HRR.out.full_iff (by omega)).2 (Fd.free_aug.2 hf))
            clear hM7 hfull
            go_wp2
            go_ret2
            exact ⟨32, fun _ _ => gE.z, none, 0, rfl, .inr (.inr (.inl ⟨HF.out, HC.out, HNF.out, rfl⟩)), HB7.out, RdM.zero _ _ _ _⟩
    · have HC := Lib.hid hc
      have t1 : ((colsN n L : Int) != (n : Int)) = true := by rw [bne_iff_ne]; omega
      clear hf hc hA hL
      go_enter Try.func59, Try.ntmps59
      go_wp2_with fail
      refine CA.out.mono ?_
      rintro e w1 ⟨rfl, rfl⟩
      go_wp2_with fail
      refine CC.out.mono ?_
      rintro e w1 ⟨rfl, rfl⟩
      clear CA CC
      go_wp2
      go_ret2
      exact ⟨31, fun _ _ => gE.z, none, 0, rfl, .inr (.inl ⟨HF.out, HC.out, rfl⟩), Below.refl _ _, RdM.zero _ _ _ _⟩
  · have HF := Lib.hid hf
    have t1 : (faultE n L != 0) = true := by simpa using hf
    have he : (if faultE n L = 0 then n else 0) = 0 := if_neg hf
    have HE := Lib.hid he
    clear hf hA hL he
    go_enter Try.func59, Try.ntmps59
    go_wp2_with fail
    refine CA.out.mono ?_
    rintro e w1 ⟨rfl, rfl⟩
    clear CA
    go_wp2
    go_ret2
    exact ⟨faultE n L, fun _ _ => gE.z, none, 0, by rw [HE.out]; rfl, .inl ⟨HF.out, rfl⟩, Below.refl _ _, by rw [HE.out]; exact RdM.zero _ _ _ _⟩
set_option maxRecDepth 40000 in
set_option maxHeartbeats 3000000 in
theorem invB_any (A : Option Addr) (n c : Nat) (L : Nat → Nat) (G : Nat → Nat → Fin 2) (w : World) (hn : n ≤ 9223372036854775807) (hL : ∀ i, i < n → L i ≤ 9223372036854775807) (hA : MB w A n L (fun i j => (G i j).val)) :
    Calls Try.prog 60 #[.slice A n c] w fun e w' => ∃ (er : Int) (X : Nat → Nat → Fin 2) (Av : Option Addr) (cv : Nat), e = .returned (.tuple #[.slice Av (if er = 0 then n else 0) cv, .int .i64 er]) ∧ InvP gB n L G er X ∧ Below w.heap.size w w' ∧ MB w' Av (if er = 0 then n else 0) (fun _ => n) (fun i j => (X i j).val) := by
  have CA := Lib.hid (faultB_any A n c L w hn hL hA.top)
  by_cases hf : faultE n L = 0
  · have HF := Lib.hid hf
    rw [hf] at CA
    have CC := Lib.hid (columnsB_any A n c L w hA.top)
    have hn5 := (faultE_ok hf).1
    by_cases hc : colsN n L = n
    · have HC := Lib.hid hc
      have hA' : MB w A n (fun _ => n) (fun i j => (G i j).val) := by
        obtain ⟨SA, KA, h1, h2⟩ := hA
        exact ⟨SA, KA, h1.congr fun i hi => by rw [colsN_len hf i hi, hc], fun i hi => by have := h2 i hi; rw [colsN_len hf i hi, hc] at this; exact this⟩
      have CO := Lib.hid (oneB_any A n c n G w (by omega) (by omega) hA')
      have HA := Lib.hid hA'
      rw [hc] at CC
      clear hf hc hA hA' hL
      go_enter Try.func60, Try.ntmps60
      go_wp2_with fail
      refine CA.out.mono ?_
      rintro e w1 ⟨rfl, rfl⟩
      go_wp2_with fail
      refine CC.out.mono ?_
      rintro e w1 ⟨rfl, rfl⟩
      go_wp2_with fail
      refine CO.out.mono ?_
      rintro e w4 ⟨y, ok, rfl, hone, hb4⟩
      clear CA CC CO
      have HONE := Lib.hid hone; clear hone
      by_cases hbad : ok = false ∧ 0 < n
      · obtain ⟨rfl, hpos⟩ := hbad
        have t1 : decide ((n : Int) > 0) = true := by simp; omega
        go_wp2
        go_ret2
        rcases HONE.out with ⟨h1, _⟩ | ⟨_, _, h2⟩
        · cases h1
        · exact ⟨32, fun _ _ => gB.z, none, 0, rfl, .inr (.inr (.inl ⟨HF.out, HC.out, free_ne h2 hpos, rfl⟩)), hb4, RdM.zero _ _ _ _⟩
      · have hok : ok = true ∨ n = 0 := by
          cases ok
          · exact .inr (by simp at hbad; omega)
          · exact .inl rfl
        have HY : Hid (∀ i j, i < n → j < n + n → gB.aug n G i j = bsd n (G i) (fun j => if i = j then y else gB.z) j) := fun i j hi _ => by
          rcases HONE.out with ⟨_, h2, _⟩ | ⟨h1, _, _⟩
          · subst h2; rfl
          · rcases hok with h | h
            · rw [h] at h1; cases h1
            · omega
        have HOK := Lib.hid hok
        clear hbad hok HONE
        have key : ok = true ∨ (ok = false ∧ n = 0) := by
          rcases HOK.out with h | h
          · exact .inl h
          · cases ok
            · exact .inr ⟨rfl, h⟩
            · exact .inl rfl
        clear HOK
        have t0 : ok = true ∨ (ok = false ∧ n ≤ 0) := by
          rcases key with h | ⟨h1, h2⟩
          · exact .inl h
          · exact .inr ⟨h1, by omega⟩
        clear key
        skip
        have hz4 := hb4.size
        rcases t0 with rfl | ⟨rfl, t1⟩
        · go_wp2_with fail
          refine (identB n _ _ (by omega)).mono ?_
          rintro e w5 ⟨bi, Si, rfl, hMi, hb5⟩
          have hI : MB w5 (some ⟨bi, 0, none⟩) n (fun _ => n) (fun i j => (if i = j then y else gB.z : Fin 2).val) := (hMi.congr (g := fun i j => vB (if i = j then y else gB.z)) fun i j _ _ => by split <;> rfl).rdm
          have HB5 := Lib.hid (hb4.trans (hb5.mono hz4))
          clear hMi hb4 hb5 hz4
          go_wp2_with fail
          refine (besideB_any A (some ⟨bi, 0, none⟩) n c n n n G (fun i j => (if i = j then y else gB.z : Fin 2)) w5 (by omega) (by omega) (by omega) (MB.below HA.out HB5.out) hI).mono ?_
          rintro e w6 ⟨bm, S6, rfl, hM6, hb6⟩
          clear hI
          go_wp2_with fail
          refine (clB_any bm n n (n + n) n w5.heap.size S6 (fun i => bsd n (G i) (fun j => if i = j then y else gB.z)) w6 (by omega) (by omega) (by omega) hM6).mono ?_
          rintro e w7 ⟨Sm, G', st, p, rfl, hM7, hRR, hb7⟩
          have HRR : Hid (gB.RR n (n + n) n (gB.aug n G) G' st p) := Fd.RR.congrG hRR HY.out
          have hb57 : Below w5.heap.size w5 w7 := hb6.trans hb7
          have HB7 := Lib.hid (HB5.out.trans (hb57.mono HB5.out.size))
          have hst := hRR.le
          clear hM6 hRR hb6 hb7 HY hb57
          by_cases hfull : st = n
          · have hge : ¬ st < n := by omega
            have HRF : Hid (gB.RR n (n + n) n (gB.aug n G) G' n p) := by rw [← hfull]; rw [hfull]; rw [hfull] at HRR; exact HRR.out
            clear hfull HRR
            go_wp2_with (go_at_call 80; (with_reducible refine (zerosB n n _ (by omega) (by omega)).mono ?_); rintro e w8 ⟨rfl, hMz, hb8⟩)
            have HM7 := Lib.hid hM7
            clear hM7
            go_loopg [12, 54] n (fun gk _ i wr => ∃ k : Nat, k ≤ n ∧ gk = n - k ∧ i = .int .i64 k ∧ Below w7.heap.size w7 wr ∧ Mx wr w7.heap.size w7.heap.size 65 40 n (fun i => w7.heap.size + 1 + i) n n (fun i => if i < k then (fun j => vB ((fun j => G' i (n + j)) j)) else fun _ => .bool false))
            case atStart => exact ⟨0, Nat.zero_le _, rfl, rfl, hb8, hMz.congr fun i j _ _ => by simp⟩
            case round =>
              clear hMz hb8
              obtain ⟨k, hk, rfl, rfl, hbel, hM⟩ := hrel
              by_cases hlt : k < n
              · have hm7 := HM7.out.keep hbel
                have hto := hM.top.cell hlt
                have htm := hm7.top.cell hlt
                have hlo : w7.heap.size < wr.heap.size := hM.top.lt
                have hlm : bm < wr.heap.size := hm7.top.lt
                have hneo : bm ≠ w7.heap.size + 1 + k := by have := HM7.out.top.lt; omega
                have KS : Hid (∀ w4, wr.grownBy w4 (some (w7.heap.size + 1 + k)) → w4.cell? ⟨w7.heap.size, k, none⟩ = some (.slice (some ⟨w7.heap.size + 1 + k, 0, none⟩) n n) ∧ w4.cell? ⟨bm, k, none⟩ = some (.slice (some ⟨Sm k, 0, none⟩) (n + n) (n + n))) := fun w4 hg => ⟨(grown_cell hg hlo (by simp; omega)).trans hto, (grown_cell hg hlm (by simp; exact hneo)).trans htm⟩
                have HM := Lib.hid hM; have HB := Lib.hid hbel
                have HSR : Hid (Rd wr.drew (some ⟨Sm k, n, none⟩) (n * 1) (fun j => vB ((fun j => G' k (n + j)) j))) := fun j hj => ⟨Sm k, n, rfl, (hm7.row k hlt).lt, by
                  have h := (hm7.row k hlt).cell (i := n + j) (by omega)
                  exact h⟩
                have hs1 : (0 : Int) ≤ (n : Int) := by omega
                have hs2 : (n : Int) ≤ (n : Int) + (n : Int) := by omega
                have hs3 : (n : Int) ≤ ((n + n : Nat) : Int) := by omega
                have hs4 : (0 : Int) < (n : Int) := by omega
                clear hM hbel hm7
                go_wp2_with fail
                clear hto htm
                refine wp_region_mix [(true, true, false), (true, true, false), (true, true, false), (true, true, true), (true, true, false), (true, true, false), (true, true, false), (true, true, true), (true, true, false), (true, true, false), (false, false, false)] mixed (by kernel_rfl) (fun w4 => w4.cell? ⟨w7.heap.size, k, none⟩ = some (.slice (some ⟨w7.heap.size + 1 + k, 0, none⟩) n n) ∧ w4.cell? ⟨bm, k, none⟩ = some (.slice (some ⟨Sm k, 0, none⟩) (n + n) (n + n))) (KS.out _ (grown_drew _ _)) ?_
                intro hSw0
                simp only [hdM, tlM, List.cons_append, List.nil_append]
                repeat (first
                  | (refine mix_look hSw0.out ?_ (by rfl) (fun w4 hSw => ?_) ?_; rotate_left; (focus (obtain ⟨s1, s2⟩ := hSw; go_simp; try with_reducible rfl)); simp only [Act.put, List.setIfInBounds_toArray, List.set_cons_zero, List.set_cons_succ])
                  | (refine mix_pure ?_ (by rfl) (fun w4 => ?_) ?_; rotate_left; (focus (go_simp; try with_reducible rfl)); simp only [Act.put, List.setIfInBounds_toArray, List.set_cons_zero, List.set_cons_succ]))
                have hs5 : n + n - n = n := by omega
                refine mix_step (fun K hK => ?_)
                refine step_copyAll rfl (.tmp 60) (.tmp 66) 65 65 rfl 40 1 (w7.heap.size + 1 + k) n n n (some ⟨Sm k, n, none⟩) 40 (((fun i => if i < k then (fun j => vB ((fun j => G' i (n + j)) j)) else fun _ => .bool false) : Nat → Nat → Value) k) (fun j => vB ((fun j => G' k (n + j)) j)) Try.underlying65 szB rfl (by show Value.slice _ _ _ = Value.slice _ _ _; rw [if_neg (by omega)]) (by rw [Nat.mul_one]; exact (HM.out.row k hlt).drew) HSR.out (fun _ _ => rfl) ?_
                intro w9 hr9 hg9
                rw [Nat.mul_one] at hr9
                have hG9 := (grown_drew wr (some (w7.heap.size + 1 + k))).trans hg9
                refine hK.out _ _ (fun _ _ => KS.out _ hG9) ?_
                clear hK K
                try simp only [Act.put, List.setIfInBounds_toArray, List.set_cons_zero, List.set_cons_succ]
                refine mix_nil ?_
                have hM9 := (HM.out.rowSet (i := k) hlt hr9 hG9).congr (g := (fun i => if i < k + 1 then (fun j => vB ((fun j => G' i (n + j)) j)) else fun _ => .bool false)) fun i j _ _ => by
                  by_cases e : i = k
                  · subst e; simp
                  · by_cases e2 : i < k
                    · simp [e, e2, show i < k + 1 by omega]
                    · simp [e, e2, show ¬ i < k + 1 by omega]
                have hb9 := HB.out.grown hG9 HB.out.size (fun q hq => by injection hq with hq; omega)
                have HM9 := Lib.hid hM9; have HB9 := Lib.hid hb9
                clear KS HM HB HSR hr9 hg9 hG9 hM9 hb9 hs1 hs2 hs3 hs4 hs5
                go_wp2
                go_roundg (n - (k + 1))
                case measure => omega
                case rel => exact ⟨k + 1, by omega, rfl, by go_num, HB9.out, HM9.out⟩
              · have : k = n := by omega
                subst this
                have HMX := Lib.hid (hM.congr (g := (fun i j => vB (G' i (k + j)))) fun i j hi hj => by simp only [hi, if_true])
                have HBX := Lib.hid (HB7.out.trans (hbel.mono HB7.out.size))
                clear hM hbel
                go_wp2
                go_ret2
                exact ⟨0, fun i j => G' i (k + j), some ⟨w7.heap.size, 0, none⟩, k, rfl, .inr (.inr (.inr ⟨HF.out, HC.out, rfl, G', p, HRF.out, fun _ _ => rfl⟩)), HBX.out, HMX.out.rdm⟩
          · have hlt : st < n := by omega
            have HNF : Hid (¬ gB.Free n n G) := fun hf => hfull ((HRR.out.full_iff (by omega)).2 (Fd.free_aug.2 hf))
            clear hM7 hfull
            go_wp2
            go_ret2
            exact ⟨32, fun _ _ => gB.z, none, 0, rfl, .inr (.inr (.inl ⟨HF.out, HC.out, HNF.out, rfl⟩)), HB7.out, RdM.zero _ _ _ _⟩
        · go_wp2_with fail
          refine (identB n _ _ (by omega)).mono ?_
          rintro e w5 ⟨bi, Si, rfl, hMi, hb5⟩
          have hI : MB w5 (some ⟨bi, 0, none⟩) n (fun _ => n) (fun i j => (if i = j then y else gB.z : Fin 2).val) := (hMi.congr (g := fun i j => vB (if i = j then y else gB.z)) fun i j _ _ => by split <;> rfl).rdm
          have HB5 := Lib.hid (hb4.trans (hb5.mono hz4))
          clear hMi hb4 hb5 hz4
          go_wp2_with fail
          refine (besideB_any A (some ⟨bi, 0, none⟩) n c n n n G (fun i j => (if i = j then y else gB.z : Fin 2)) w5 (by omega) (by omega) (by omega) (MB.below HA.out HB5.out) hI).mono ?_
          rintro e w6 ⟨bm, S6, rfl, hM6, hb6⟩
          clear hI
          go_wp2_with fail
          refine (clB_any bm n n (n + n) n w5.heap.size S6 (fun i => bsd n (G i) (fun j => if i = j then y else gB.z)) w6 (by omega) (by omega) (by omega) hM6).mono ?_
          rintro e w7 ⟨Sm, G', st, p, rfl, hM7, hRR, hb7⟩
          have HRR : Hid (gB.RR n (n + n) n (gB.aug n G) G' st p) := Fd.RR.congrG hRR HY.out
          have hb57 : Below w5.heap.size w5 w7 := hb6.trans hb7
          have HB7 := Lib.hid (HB5.out.trans (hb57.mono HB5.out.size))
          have hst := hRR.le
          clear hM6 hRR hb6 hb7 HY hb57
          by_cases hfull : st = n
          · have hge : ¬ st < n := by omega
            have HRF : Hid (gB.RR n (n + n) n (gB.aug n G) G' n p) := by rw [← hfull]; rw [hfull]; rw [hfull] at HRR; exact HRR.out
            clear hfull HRR
            go_wp2_with (go_at_call 80; (with_reducible refine (zerosB n n _ (by omega) (by omega)).mono ?_); rintro e w8 ⟨rfl, hMz, hb8⟩)
            have HM7 := Lib.hid hM7
            clear hM7
            go_loopg [12, 54] n (fun gk _ i wr => ∃ k : Nat, k ≤ n ∧ gk = n - k ∧ i = .int .i64 k ∧ Below w7.heap.size w7 wr ∧ Mx wr w7.heap.size w7.heap.size 65 40 n (fun i => w7.heap.size + 1 + i) n n (fun i => if i < k then (fun j => vB ((fun j => G' i (n + j)) j)) else fun _ => .bool false))
            case atStart => exact ⟨0, Nat.zero_le _, rfl, rfl, hb8, hMz.congr fun i j _ _ => by simp⟩
            case round =>
              clear hMz hb8
              obtain ⟨k, hk, rfl, rfl, hbel, hM⟩ := hrel
              by_cases hlt : k < n
              · exfalso; omega
              · have : k = n := by omega
                subst this
                have HMX := Lib.hid (hM.congr (g := (fun i j => vB (G' i (k + j)))) fun i j hi hj => by simp only [hi, if_true])
                have HBX := Lib.hid (HB7.out.trans (hbel.mono HB7.out.size))
                clear hM hbel
                go_wp2
                go_ret2
                exact ⟨0, fun i j => G' i (k + j), some ⟨w7.heap.size, 0, none⟩, k, rfl, .inr (.inr (.inr ⟨HF.out, HC.out, rfl, G', p, HRF.out, fun _ _ => rfl⟩)), HBX.out, HMX.out.rdm⟩
          · have hlt : st < n := by omega
            have HNF : Hid (¬ gB.Free n n G) := fun hf => hfull ((HRR.out.full_iff (by omega)).2 (Fd.free_aug.2 hf))
            clear hM7 hfull
            go_wp2
            go_ret2
            exact ⟨32, fun _ _ => gB.z, none, 0, rfl, .inr (.inr (.inl ⟨HF.out, HC.out, HNF.out, rfl⟩)), HB7.out, RdM.zero _ _ _ _⟩
    · have HC := Lib.hid hc
      have t1 : ((colsN n L : Int) != (n : Int)) = true := by rw [bne_iff_ne]; omega
      clear hf hc hA hL
      go_enter Try.func60, Try.ntmps60
      go_wp2_with fail
      refine CA.out.mono ?_
      rintro e w1 ⟨rfl, rfl⟩
      go_wp2_with fail
      refine CC.out.mono ?_
      rintro e w1 ⟨rfl, rfl⟩
      clear CA CC
      go_wp2
      go_ret2
      exact ⟨31, fun _ _ => gB.z, none, 0, rfl, .inr (.inl ⟨HF.out, HC.out, rfl⟩), Below.refl _ _, RdM.zero _ _ _ _⟩
  · have HF := Lib.hid hf
    have t1 : (faultE n L != 0) = true := by simpa using hf
    have he : (if faultE n L = 0 then n else 0) = 0 := if_neg hf
    have HE := Lib.hid he
    clear hf hA hL he
    go_enter Try.func60, Try.ntmps60
    go_wp2_with fail
    refine CA.out.mono ?_
    rintro e w1 ⟨rfl, rfl⟩
    clear CA
    go_wp2
    go_ret2
    exact ⟨faultE n L, fun _ _ => gB.z, none, 0, by rw [HE.out]; rfl, .inl ⟨HF.out, rfl⟩, Below.refl _ _, by rw [HE.out]; exact RdM.zero _ _ _ _⟩
set_option maxRecDepth 40000 in
set_option maxHeartbeats 3000000 in
theorem invF_any (A : Option Addr) (n c : Nat) (L : Nat → Nat) (G : Nat → Nat → Fin 4) (w : World) (hn : n ≤ 9223372036854775807) (hL : ∀ i, i < n → L i ≤ 9223372036854775807) (hA : MF w A n L (fun i j => (G i j).val)) :
    Calls Try.prog 61 #[.slice A n c] w fun e w' => ∃ (er : Int) (X : Nat → Nat → Fin 4) (Av : Option Addr) (cv : Nat), e = .returned (.tuple #[.slice Av (if er = 0 then n else 0) cv, .int .i64 er]) ∧ InvP gF n L G er X ∧ Below w.heap.size w w' ∧ MF w' Av (if er = 0 then n else 0) (fun _ => n) (fun i j => (X i j).val) := by
  have CA := Lib.hid (faultF_any A n c L w hn hL hA.top)
  by_cases hf : faultE n L = 0
  · have HF := Lib.hid hf
    rw [hf] at CA
    have CC := Lib.hid (columnsF_any A n c L w hA.top)
    have hn5 := (faultE_ok hf).1
    by_cases hc : colsN n L = n
    · have HC := Lib.hid hc
      have hA' : MF w A n (fun _ => n) (fun i j => (G i j).val) := by
        obtain ⟨SA, KA, h1, h2⟩ := hA
        exact ⟨SA, KA, h1.congr fun i hi => by rw [colsN_len hf i hi, hc], fun i hi => by have := h2 i hi; rw [colsN_len hf i hi, hc] at this; exact this⟩
      have CO := Lib.hid (oneF_any A n c n G w (by omega) (by omega) hA')
      have HA := Lib.hid hA'
      rw [hc] at CC
      clear hf hc hA hA' hL
      go_enter Try.func61, Try.ntmps61
      go_wp2_with fail
      refine CA.out.mono ?_
      rintro e w1 ⟨rfl, rfl⟩
      go_wp2_with fail
      refine CC.out.mono ?_
      rintro e w1 ⟨rfl, rfl⟩
      go_wp2_with fail
      refine CO.out.mono ?_
      rintro e w4 ⟨y, ok, rfl, hone, hb4⟩
      clear CA CC CO
      have HONE := Lib.hid hone; clear hone
      by_cases hbad : ok = false ∧ 0 < n
      · obtain ⟨rfl, hpos⟩ := hbad
        have t1 : decide ((n : Int) > 0) = true := by simp; omega
        go_wp2
        go_ret2
        rcases HONE.out with ⟨h1, _⟩ | ⟨_, _, h2⟩
        · cases h1
        · exact ⟨32, fun _ _ => gF.z, none, 0, rfl, .inr (.inr (.inl ⟨HF.out, HC.out, free_ne h2 hpos, rfl⟩)), hb4.alloc hb4.size _, RdM2.zero _ _ _ _ _⟩
      · have hok : ok = true ∨ n = 0 := by
          cases ok
          · exact .inr (by simp at hbad; omega)
          · exact .inl rfl
        have HY : Hid (∀ i j, i < n → j < n + n → gF.aug n G i j = bsd n (G i) (fun j => if i = j then y else gF.z) j) := fun i j hi _ => by
          rcases HONE.out with ⟨_, h2, _⟩ | ⟨h1, _, _⟩
          · subst h2; rfl
          · rcases hok with h | h
            · rw [h] at h1; cases h1
            · omega
        have HOK := Lib.hid hok
        clear hbad hok HONE
        have key : ok = true ∨ (ok = false ∧ n = 0) := by
          rcases HOK.out with h | h
          · exact .inl h
          · cases ok
            · exact .inr ⟨rfl, h⟩
            · exact .inl rfl
        clear HOK
        have t0 : ok = true ∨ (ok = false ∧ n ≤ 0) := by
          rcases key with h | ⟨h1, h2⟩
          · exact .inl h
          · exact .inr ⟨h1, by omega⟩
        clear key
        have hb4 := hb4.alloc hb4.size (.cells #[.bool (f0 y.val), .bool (f1 y.val)] 47)
        have hz4 := hb4.size
        rcases t0 with rfl | ⟨rfl, t1⟩
        · go_wp2_with fail
          refine (identF n _ _ _ (by omega)).mono ?_
          rintro e w5 ⟨bi, Si, rfl, hMi, hb5⟩
          have hI : MF w5 (some ⟨bi, 0, none⟩) n (fun _ => n) (fun i j => (if i = j then y else gF.z : Fin 4).val) := hMi.rdm2.congr (fun i _ j _ => by
        rw [show j * 2 / 2 = j by omega]; by_cases e : i = j <;> simp [e, fcell, show f0 (gF.z).val = false from rfl]) (fun i _ j _ => by
        rw [show (j * 2 + 1) / 2 = j by omega]; by_cases e : i = j <;> simp [e, fcell, show f1 (gF.z).val = false from rfl])
          have HB5 := Lib.hid (hb4.trans (hb5.mono hz4))
          clear hMi hb4 hb5 hz4
          go_wp2_with fail
          refine (besideF_any A (some ⟨bi, 0, none⟩) n c n n n G (fun i j => (if i = j then y else gF.z : Fin 4)) w5 (by omega) (by omega) (by omega) (MF.below HA.out HB5.out) hI).mono ?_
          rintro e w6 ⟨bm, S6, rfl, hM6, hb6⟩
          clear hI
          go_wp2_with fail
          refine (clF_any bm n n (n + n) n w5.heap.size S6 (fun i => bsd n (G i) (fun j => if i = j then y else gF.z)) w6 (by omega) (by omega) (by omega) hM6).mono ?_
          rintro e w7 ⟨Sm, G', st, p, rfl, hM7, hRR, hb7⟩
          have HRR : Hid (gF.RR n (n + n) n (gF.aug n G) G' st p) := Fd.RR.congrG hRR HY.out
          have hb57 : Below w5.heap.size w5 w7 := hb6.trans hb7
          have HB7 := Lib.hid (HB5.out.trans (hb57.mono HB5.out.size))
          have hst := hRR.le
          clear hM6 hRR hb6 hb7 HY hb57
          by_cases hfull : st = n
          · have hge : ¬ st < n := by omega
            have HRF : Hid (gF.RR n (n + n) n (gF.aug n G) G' n p) := by rw [← hfull]; rw [hfull]; rw [hfull] at HRR; exact HRR.out
            clear hfull HRR
            go_wp2_with (go_at_call 81; (with_reducible refine (zerosF n n _ (by omega) (by omega)).mono ?_); rintro e w8 ⟨rfl, hMz, hb8⟩)
            have HM7 := Lib.hid hM7
            clear hM7
            go_loopg [12, 54] n (fun gk _ i wr => ∃ k : Nat, k ≤ n ∧ gk = n - k ∧ i = .int .i64 k ∧ Below w7.heap.size w7 wr ∧ Mx wr w7.heap.size w7.heap.size 68 47 n (fun i => w7.heap.size + 1 + i) n (n * 2) (fun i => if i < k then (cF ((fun j => G' i (n + j)))) else fun _ => .bool false))
            case atStart => exact ⟨0, Nat.zero_le _, rfl, rfl, hb8, hMz.congr fun i j _ _ => by simp⟩
            case round =>
              clear hMz hb8
              obtain ⟨k, hk, rfl, rfl, hbel, hM⟩ := hrel
              by_cases hlt : k < n
              · have hm7 := HM7.out.keep hbel
                have hto := hM.top.cell hlt
                have htm := hm7.top.cell hlt
                have hlo : w7.heap.size < wr.heap.size := hM.top.lt
                have hlm : bm < wr.heap.size := hm7.top.lt
                have hneo : bm ≠ w7.heap.size + 1 + k := by have := HM7.out.top.lt; omega
                have KS : Hid (∀ w4, wr.grownBy w4 (some (w7.heap.size + 1 + k)) → w4.cell? ⟨w7.heap.size, k, none⟩ = some (.slice (some ⟨w7.heap.size + 1 + k, 0, none⟩) n n) ∧ w4.cell? ⟨bm, k, none⟩ = some (.slice (some ⟨Sm k, 0, none⟩) (n + n) (n + n))) := fun w4 hg => ⟨(grown_cell hg hlo (by simp; omega)).trans hto, (grown_cell hg hlm (by simp; exact hneo)).trans htm⟩
                have HM := Lib.hid hM; have HB := Lib.hid hbel
                have HSR : Hid (Rd wr.drew (some ⟨Sm k, (n * 2), none⟩) (n * 2) (cF ((fun j => G' k (n + j))))) := fun j hj => ⟨Sm k, (n * 2), rfl, (hm7.row k hlt).lt, by
                  have h := (hm7.row k hlt).cell (i := (n * 2) + j) (by omega)
                  have h2 : wr.drew.cell? ⟨Sm k, n * 2 + j, none⟩ = some (cF (G' k) (n * 2 + j)) := h; rw [h2]; unfold cF; rw [show (n * 2 + j) / 2 = n + j / 2 by omega]; unfold pcell; rw [show (n * 2 + j) % 2 = j % 2 by omega]⟩
                have hs1 : (0 : Int) ≤ (n : Int) := by omega
                have hs2 : (n : Int) ≤ (n : Int) + (n : Int) := by omega
                have hs3 : (n : Int) ≤ ((n + n : Nat) : Int) := by omega
                have hs4 : (0 : Int) < (n : Int) := by omega
                clear hM hbel hm7
                go_wp2_with fail
                clear hto htm
                refine wp_region_mix [(true, true, false), (true, true, false), (true, true, false), (true, true, true), (true, true, false), (true, true, false), (true, true, false), (true, true, true), (true, true, false), (true, true, false), (false, false, false)] mixed (by kernel_rfl) (fun w4 => w4.cell? ⟨w7.heap.size, k, none⟩ = some (.slice (some ⟨w7.heap.size + 1 + k, 0, none⟩) n n) ∧ w4.cell? ⟨bm, k, none⟩ = some (.slice (some ⟨Sm k, 0, none⟩) (n + n) (n + n))) (KS.out _ (grown_drew _ _)) ?_
                intro hSw0
                simp only [hdM, tlM, List.cons_append, List.nil_append]
                repeat (first
                  | (refine mix_look hSw0.out ?_ (by rfl) (fun w4 hSw => ?_) ?_; rotate_left; (focus (obtain ⟨s1, s2⟩ := hSw; go_simp; try with_reducible rfl)); simp only [Act.put, List.setIfInBounds_toArray, List.set_cons_zero, List.set_cons_succ])
                  | (refine mix_pure ?_ (by rfl) (fun w4 => ?_) ?_; rotate_left; (focus (go_simp; try with_reducible rfl)); simp only [Act.put, List.setIfInBounds_toArray, List.set_cons_zero, List.set_cons_succ]))
                have hs5 : n + n - n = n := by omega
                refine mix_step (fun K hK => ?_)
                refine step_copyAll rfl (.tmp 60) (.tmp 66) 68 68 rfl 47 2 (w7.heap.size + 1 + k) n n n (some ⟨Sm k, (n * 2), none⟩) 47 (((fun i => if i < k then (cF ((fun j => G' i (n + j)))) else fun _ => .bool false) : Nat → Nat → Value) k) (cF ((fun j => G' k (n + j)))) Try.underlying68 szF rfl (by show Value.slice _ _ _ = Value.slice _ _ _; rw [if_neg (by omega)]) (HM.out.row k hlt).drew HSR.out (fun j _ => by unfold cF pcell; split <;> rfl) ?_
                intro w9 hr9 hg9
                skip
                have hG9 := (grown_drew wr (some (w7.heap.size + 1 + k))).trans hg9
                refine hK.out _ _ (fun _ _ => KS.out _ hG9) ?_
                clear hK K
                try simp only [Act.put, List.setIfInBounds_toArray, List.set_cons_zero, List.set_cons_succ]
                refine mix_nil ?_
                have hM9 := (HM.out.rowSet (i := k) hlt hr9 hG9).congr (g := (fun i => if i < k + 1 then (cF ((fun j => G' i (n + j)))) else fun _ => .bool false)) fun i j _ _ => by
                  by_cases e : i = k
                  · subst e; simp
                  · by_cases e2 : i < k
                    · simp [e, e2, show i < k + 1 by omega]
                    · simp [e, e2, show ¬ i < k + 1 by omega]
                have hb9 := HB.out.grown hG9 HB.out.size (fun q hq => by injection hq with hq; omega)
                have HM9 := Lib.hid hM9; have HB9 := Lib.hid hb9
                clear KS HM HB HSR hr9 hg9 hG9 hM9 hb9 hs1 hs2 hs3 hs4 hs5
                go_wp2
                go_roundg (n - (k + 1))
                case measure => omega
                case rel => exact ⟨k + 1, by omega, rfl, by go_num, HB9.out, HM9.out⟩
              · have : k = n := by omega
                subst this
                have HMX := Lib.hid (hM.congr (g := (fun i => cF (fun j => G' i (k + j)))) fun i j hi hj => by simp only [hi, if_true])
                have HBX := Lib.hid (HB7.out.trans (hbel.mono HB7.out.size))
                clear hM hbel
                go_wp2
                go_ret2
                exact ⟨0, fun i j => G' i (k + j), some ⟨w7.heap.size, 0, none⟩, k, rfl, .inr (.inr (.inr ⟨HF.out, HC.out, rfl, G', p, HRF.out, fun _ _ => rfl⟩)), HBX.out, HMX.out.rdm2.congr (fun i _ j _ => by rw [cF0]) (fun i _ j _ => by rw [cF1])⟩
          · have hlt : st < n := by omega
            have HNF : Hid (¬ gF.Free n n G) := fun hf => hfull ((HRR.out.full_iff (by omega)).2 (Fd.free_aug.2 hf))
            clear hM7 hfull
            go_wp2
            go_ret2
            exact ⟨32, fun _ _ => gF.z, none, 0, rfl, .inr (.inr (.inl ⟨HF.out, HC.out, HNF.out, rfl⟩)), HB7.out, RdM2.zero _ _ _ _ _⟩
        · go_wp2_with fail
          refine (identF n _ _ _ (by omega)).mono ?_
          rintro e w5 ⟨bi, Si, rfl, hMi, hb5⟩
          have hI : MF w5 (some ⟨bi, 0, none⟩) n (fun _ => n) (fun i j => (if i = j then y else gF.z : Fin 4).val) := hMi.rdm2.congr (fun i _ j _ => by
        rw [show j * 2 / 2 = j by omega]; by_cases e : i = j <;> simp [e, fcell, show f0 (gF.z).val = false from rfl]) (fun i _ j _ => by
        rw [show (j * 2 + 1) / 2 = j by omega]; by_cases e : i = j <;> simp [e, fcell, show f1 (gF.z).val = false from rfl])
          have HB5 := Lib.hid (hb4.trans (hb5.mono hz4))
          clear hMi hb4 hb5 hz4
          go_wp2_with fail
          refine (besideF_any A (some ⟨bi, 0, none⟩) n c n n n G (fun i j => (if i = j then y else gF.z : Fin 4)) w5 (by omega) (by omega) (by omega) (MF.below HA.out HB5.out) hI).mono ?_
          rintro e w6 ⟨bm, S6, rfl, hM6, hb6⟩
          clear hI
          go_wp2_with fail
          refine (clF_any bm n n (n + n) n w5.heap.size S6 (fun i => bsd n (G i) (fun j => if i = j then y else gF.z)) w6 (by omega) (by omega) (by omega) hM6).mono ?_
          rintro e w7 ⟨Sm, G', st, p, rfl, hM7, hRR, hb7⟩
          have HRR : Hid (gF.RR n (n + n) n (gF.aug n G) G' st p) := Fd.RR.congrG hRR HY.out
          have hb57 : Below w5.heap.size w5 w7 := hb6.trans hb7
          have HB7 := Lib.hid (HB5.out.trans (hb57.mono HB5.out.size))
          have hst := hRR.le
          clear hM6 hRR hb6 hb7 HY hb57
          by_cases hfull : st = n
          · have hge : ¬ st < n := by omega
            have HRF : Hid (gF.RR n (n + n) n (gF.aug n G) G' n p) := by rw [← hfull]; rw [hfull]; rw [hfull] at HRR; exact HRR.out
            clear hfull HRR
            go_wp2_with (go_at_call 81; (with_reducible refine (zerosF n n _ (by omega) (by omega)).mono ?_); rintro e w8 ⟨rfl, hMz, hb8⟩)
            have HM7 := Lib.hid hM7
            clear hM7
            go_loopg [12, 54] n (fun gk _ i wr => ∃ k : Nat, k ≤ n ∧ gk = n - k ∧ i = .int .i64 k ∧ Below w7.heap.size w7 wr ∧ Mx wr w7.heap.size w7.heap.size 68 47 n (fun i => w7.heap.size + 1 + i) n (n * 2) (fun i => if i < k then (cF ((fun j => G' i (n + j)))) else fun _ => .bool false))
            case atStart => exact ⟨0, Nat.zero_le _, rfl, rfl, hb8, hMz.congr fun i j _ _ => by simp⟩
            case round =>
              clear hMz hb8
              obtain ⟨k, hk, rfl, rfl, hbel, hM⟩ := hrel
              by_cases hlt : k < n
              · exfalso; omega
              · have : k = n := by omega
                subst this
                have HMX := Lib.hid (hM.congr (g := (fun i => cF (fun j => G' i (k + j)))) fun i j hi hj => by simp only [hi, if_true])
                have HBX := Lib.hid (HB7.out.trans (hbel.mono HB7.out.size))
                clear hM hbel
                go_wp2
                go_ret2
                exact ⟨0, fun i j => G' i (k + j), some ⟨w7.heap.size, 0, none⟩, k, rfl, .inr (.inr (.inr ⟨HF.out, HC.out, rfl, G', p, HRF.out, fun _ _ => rfl⟩)), HBX.out, HMX.out.rdm2.congr (fun i _ j _ => by rw [cF0]) (fun i _ j _ => by rw [cF1])⟩
          · have hlt : st < n := by omega
            have HNF : Hid (¬ gF.Free n n G) := fun hf => hfull ((HRR.out.full_iff (by omega)).2 (Fd.free_aug.2 hf))
            clear hM7 hfull
            go_wp2
            go_ret2
            exact ⟨32, fun _ _ => gF.z, none, 0, rfl, .inr (.inr (.inl ⟨HF.out, HC.out, HNF.out, rfl⟩)), HB7.out, RdM2.zero _ _ _ _ _⟩
    · have HC := Lib.hid hc
      have t1 : ((colsN n L : Int) != (n : Int)) = true := by rw [bne_iff_ne]; omega
      clear hf hc hA hL
      go_enter Try.func61, Try.ntmps61
      go_wp2_with fail
      refine CA.out.mono ?_
      rintro e w1 ⟨rfl, rfl⟩
      go_wp2_with fail
      refine CC.out.mono ?_
      rintro e w1 ⟨rfl, rfl⟩
      clear CA CC
      go_wp2
      go_ret2
      exact ⟨31, fun _ _ => gF.z, none, 0, rfl, .inr (.inl ⟨HF.out, HC.out, rfl⟩), Below.refl _ _, RdM2.zero _ _ _ _ _⟩
  · have HF := Lib.hid hf
    have t1 : (faultE n L != 0) = true := by simpa using hf
    have he : (if faultE n L = 0 then n else 0) = 0 := if_neg hf
    have HE := Lib.hid he
    clear hf hA hL he
    go_enter Try.func61, Try.ntmps61
    go_wp2_with fail
    refine CA.out.mono ?_
    rintro e w1 ⟨rfl, rfl⟩
    clear CA
    go_wp2
    go_ret2
    exact ⟨faultE n L, fun _ _ => gF.z, none, 0, by rw [HE.out]; rfl, .inl ⟨HF.out, rfl⟩, Below.refl _ _, by rw [HE.out]; exact RdM2.zero _ _ _ _ _⟩
end Go.Proofs.Ytpocjpodeahanaa
