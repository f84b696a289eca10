/- MatrixTimes: what Times answers in every case; the law's walk. Conditions: none. -/
import Derived.Test.YtpocjpodeahanaaTim2
import Derived.Test.YtpocjpodeahanaaTim3
import Derived.Test.YtpocjpodeahanaaTim4
import Derived.Test.YtpocjpodeahanaaLawId
namespace Go.Proofs.Ytpocjpodeahanaa
open Go.RowKit

theorem Top.below {w w' : World} {A : Option Addr} {n : Nat} {L : Nat → Nat} (h : Top w A n L) (hb : Below w.heap.size w w') : Top w' A n L := by
  obtain ⟨S, C, h1⟩ := h
  exact ⟨S, C, h1.below hb⟩

/-- Times' error. -/
def terr (n m : Nat) (La Lb : Nat → Nat) : Int := if faultE n La = 0 then (if faultE m Lb = 0 then (if colsN n La = m then 0 else 31) else faultE m Lb) else faultE n La
/-- How many rows it gives. -/
def tk (n m : Nat) (La Lb : Nat → Nat) : Nat := if terr n m La Lb = 0 then n else 0
theorem terr_ok {n m : Nat} {La Lb : Nat → Nat} (h : terr n m La Lb = 0) : faultE n La = 0 ∧ faultE m Lb = 0 ∧ colsN n La = m := by
  unfold terr at h
  by_cases h1 : faultE n La = 0
  · rw [if_pos h1] at h
    by_cases h2 : faultE m Lb = 0
    · rw [if_pos h2] at h
      by_cases h3 : colsN n La = m
      · exact ⟨h1, h2, h3⟩
      · rw [if_neg h3] at h; omega
    · rw [if_neg h2] at h; exact absurd h h2
  · rw [if_neg h1] at h; exact absurd h h1
theorem tk_good {n m : Nat} {La Lb : Nat → Nat} {i : Nat} (h : i < tk n m La Lb) : i < n ∧ tk n m La Lb ≤ 255 ∧ colsN m Lb ≤ 255 := by
  unfold tk at h ⊢
  by_cases h0 : terr n m La Lb = 0
  · rw [if_pos h0] at h ⊢
    obtain ⟨h1, h2, _⟩ := terr_ok h0
    exact ⟨h, (faultE_ok h1).1, colsN_le h2⟩
  · rw [if_neg h0] at h; omega
theorem tk_le (n m : Nat) (La Lb : Nat → Nat) : tk n m La Lb ≤ 255 := by
  rcases Nat.eq_zero_or_pos (tk n m La Lb) with h | h
  · omega
  · exact (tk_good h).2.1

set_option maxHeartbeats 800000 in
theorem timE_bad (A Bm : Option Addr) (n m cA cB : Nat) (La Lb : Nat → Nat) (w : World) (hn : n ≤ 9223372036854775807) (hLa : ∀ i, i < n → La i ≤ 9223372036854775807) (hm : m ≤ 9223372036854775807) (hLb : ∀ i, i < m → Lb i ≤ 9223372036854775807)
    (hA : Top w A n La) (hB : Top w Bm m Lb) (h : terr n m La Lb ≠ 0) :
    Calls Try.prog 44 #[.slice A n cA, .slice Bm m cB] w fun e w' => e = .returned (.tuple #[.slice none 0 0, .int .i64 (terr n m La Lb)]) ∧ w = w' := by
  have CA := Lib.hid (faultE_any A n cA La w hn hLa hA)
  have CB := Lib.hid (faultE_any Bm m cB Lb w hm hLb hB)
  have CC := Lib.hid (columnsE_any A n cA La w hA)
  have HE : Hid (terr n m La Lb = if faultE n La = 0 then (if faultE m Lb = 0 then (if colsN n La = m then 0 else 31) else faultE m Lb) else faultE n La) := rfl
  clear hLa hLb hA hB
  generalize terr n m La Lb = E at *
  generalize faultE n La = fa at *
  generalize faultE m Lb = fb at *
  have hcl : colsN n La ≤ 9223372036854775807 ∨ True := .inr trivial
  clear hcl
  generalize colsN n La = ca at *
  by_cases h1 : fa = 0
  · subst h1
    by_cases h2 : fb = 0
    · subst h2
      have h3 : ¬ ca = m := fun e => h (by rw [HE.out]; simp [e])
      have hE : E = 31 := by rw [HE.out]; simp [h3]
      subst hE
      have t1 : ((ca : Int) != (m : Int)) = true := by rw [bne_iff_ne]; omega
      clear h3 h HE
      go_enter Try.func44, Try.ntmps44
      go_wp2_with fail
      refine CA.out.mono ?_
      rintro e w1 ⟨rfl, rfl⟩
      go_wp2_with fail
      refine CB.out.mono ?_
      rintro e w1 ⟨rfl, rfl⟩
      go_wp2_with fail
      refine CC.out.mono ?_
      rintro e w1 ⟨rfl, rfl⟩
      clear CA CB CC
      go_wp2
      go_ret2
      exact ⟨rfl, rfl⟩
    · have hE : E = fb := by rw [HE.out]; simp [h2]
      have t1 : (fb != 0) = true := by simpa using h2
      subst hE
      clear h2 h HE
      go_enter Try.func44, Try.ntmps44
      go_wp2_with fail
      refine CA.out.mono ?_
      rintro e w1 ⟨rfl, rfl⟩
      go_wp2_with fail
      refine CB.out.mono ?_
      rintro e w1 ⟨rfl, rfl⟩
      clear CA CB CC
      go_wp2
      go_ret2
      exact ⟨rfl, rfl⟩
  · have hE : E = fa := by rw [HE.out]; simp [h1]
    have t1 : (fa != 0) = true := by simpa using h1
    subst hE
    clear h1 h HE
    go_enter Try.func44, Try.ntmps44
    go_wp2_with fail
    refine CA.out.mono ?_
    rintro e w1 ⟨rfl, rfl⟩
    clear CA CB CC
    go_wp2
    go_ret2
    exact ⟨rfl, rfl⟩
theorem timE_all (A Bm : Option Addr) (n m cA cB : Nat) (La Lb : Nat → Nat) (ga gb : Nat → Nat → Nat) (w : World) (hn : n ≤ 9223372036854775807) (hLa : ∀ i, i < n → La i ≤ 9223372036854775807) (hm : m ≤ 9223372036854775807) (hLb : ∀ i, i < m → Lb i ≤ 9223372036854775807)
    (hA : ME w A n La ga) (hB : ME w Bm m Lb gb) (hga : ∀ i j, ga i j < 256) (hgb : ∀ i j, gb i j < 256) :
    Calls Try.prog 44 #[.slice A n cA, .slice Bm m cB] w fun e w' => ∃ Av cv, e = .returned (.tuple #[.slice Av (tk n m La Lb) cv, .int .i64 (terr n m La Lb)]) ∧
      ME w' Av (tk n m La Lb) (fun _ => colsN m Lb) (fun i j => dot 256 (ga i) (fun u => gb u j) m) ∧ Below w.heap.size w w' := by
  by_cases h0 : terr n m La Lb = 0
  · obtain ⟨h1, h2, h3⟩ := terr_ok h0
    refine (timE A Bm n m cA cB La Lb ga gb w h1 h2 h3 hA hB hga hgb).mono ?_
    rintro e w' ⟨b, S, he, hM, hb⟩
    rw [h0, show tk n m La Lb = n from if_pos h0]
    exact ⟨_, _, he, hM.rdm, hb⟩
  · refine (timE_bad A Bm n m cA cB La Lb w hn hLa hm hLb hA.top hB.top h0).mono ?_
    rintro e w' ⟨he, rfl⟩
    rw [show tk n m La Lb = 0 from if_neg h0]
    exact ⟨none, 0, he, RdM.zero _ _ _ _, Below.refl _ _⟩
set_option maxHeartbeats 800000 in
theorem timB_bad (A Bm : Option Addr) (n m cA cB : Nat) (La Lb : Nat → Nat) (w : World) (hn : n ≤ 9223372036854775807) (hLa : ∀ i, i < n → La i ≤ 9223372036854775807) (hm : m ≤ 9223372036854775807) (hLb : ∀ i, i < m → Lb i ≤ 9223372036854775807)
    (hA : Top w A n La) (hB : Top w Bm m Lb) (h : terr n m La Lb ≠ 0) :
    Calls Try.prog 45 #[.slice A n cA, .slice Bm m cB] w fun e w' => e = .returned (.tuple #[.slice none 0 0, .int .i64 (terr n m La Lb)]) ∧ w = w' := by
  have CA := Lib.hid (faultB_any A n cA La w hn hLa hA)
  have CB := Lib.hid (faultB_any Bm m cB Lb w hm hLb hB)
  have CC := Lib.hid (columnsB_any A n cA La w hA)
  have HE : Hid (terr n m La Lb = if faultE n La = 0 then (if faultE m Lb = 0 then (if colsN n La = m then 0 else 31) else faultE m Lb) else faultE n La) := rfl
  clear hLa hLb hA hB
  generalize terr n m La Lb = E at *
  generalize faultE n La = fa at *
  generalize faultE m Lb = fb at *
  have hcl : colsN n La ≤ 9223372036854775807 ∨ True := .inr trivial
  clear hcl
  generalize colsN n La = ca at *
  by_cases h1 : fa = 0
  · subst h1
    by_cases h2 : fb = 0
    · subst h2
      have h3 : ¬ ca = m := fun e => h (by rw [HE.out]; simp [e])
      have hE : E = 31 := by rw [HE.out]; simp [h3]
      subst hE
      have t1 : ((ca : Int) != (m : Int)) = true := by rw [bne_iff_ne]; omega
      clear h3 h HE
      go_enter Try.func45, Try.ntmps45
      go_wp2_with fail
      refine CA.out.mono ?_
      rintro e w1 ⟨rfl, rfl⟩
      go_wp2_with fail
      refine CB.out.mono ?_
      rintro e w1 ⟨rfl, rfl⟩
      go_wp2_with fail
      refine CC.out.mono ?_
      rintro e w1 ⟨rfl, rfl⟩
      clear CA CB CC
      go_wp2
      go_ret2
      exact ⟨rfl, rfl⟩
    · have hE : E = fb := by rw [HE.out]; simp [h2]
      have t1 : (fb != 0) = true := by simpa using h2
      subst hE
      clear h2 h HE
      go_enter Try.func45, Try.ntmps45
      go_wp2_with fail
      refine CA.out.mono ?_
      rintro e w1 ⟨rfl, rfl⟩
      go_wp2_with fail
      refine CB.out.mono ?_
      rintro e w1 ⟨rfl, rfl⟩
      clear CA CB CC
      go_wp2
      go_ret2
      exact ⟨rfl, rfl⟩
  · have hE : E = fa := by rw [HE.out]; simp [h1]
    have t1 : (fa != 0) = true := by simpa using h1
    subst hE
    clear h1 h HE
    go_enter Try.func45, Try.ntmps45
    go_wp2_with fail
    refine CA.out.mono ?_
    rintro e w1 ⟨rfl, rfl⟩
    clear CA CB CC
    go_wp2
    go_ret2
    exact ⟨rfl, rfl⟩
theorem timB_all (A Bm : Option Addr) (n m cA cB : Nat) (La Lb : Nat → Nat) (ga gb : Nat → Nat → Nat) (w : World) (hn : n ≤ 9223372036854775807) (hLa : ∀ i, i < n → La i ≤ 9223372036854775807) (hm : m ≤ 9223372036854775807) (hLb : ∀ i, i < m → Lb i ≤ 9223372036854775807)
    (hA : MB w A n La ga) (hB : MB w Bm m Lb gb) (hga : ∀ i j, ga i j < 2) (hgb : ∀ i j, gb i j < 2) :
    Calls Try.prog 45 #[.slice A n cA, .slice Bm m cB] w fun e w' => ∃ Av cv, e = .returned (.tuple #[.slice Av (tk n m La Lb) cv, .int .i64 (terr n m La Lb)]) ∧
      MB w' Av (tk n m La Lb) (fun _ => colsN m Lb) (fun i j => dot 2 (ga i) (fun u => gb u j) m) ∧ Below w.heap.size w w' := by
  by_cases h0 : terr n m La Lb = 0
  · obtain ⟨h1, h2, h3⟩ := terr_ok h0
    refine (timB A Bm n m cA cB La Lb ga gb w h1 h2 h3 hA hB hga hgb).mono ?_
    rintro e w' ⟨b, S, he, hM, hb⟩
    rw [h0, show tk n m La Lb = n from if_pos h0]
    exact ⟨_, _, he, hM.rdm, hb⟩
  · refine (timB_bad A Bm n m cA cB La Lb w hn hLa hm hLb hA.top hB.top h0).mono ?_
    rintro e w' ⟨he, rfl⟩
    rw [show tk n m La Lb = 0 from if_neg h0]
    exact ⟨none, 0, he, RdM.zero _ _ _ _, Below.refl _ _⟩
set_option maxHeartbeats 800000 in
theorem timF_bad (A Bm : Option Addr) (n m cA cB : Nat) (La Lb : Nat → Nat) (w : World) (hn : n ≤ 9223372036854775807) (hLa : ∀ i, i < n → La i ≤ 9223372036854775807) (hm : m ≤ 9223372036854775807) (hLb : ∀ i, i < m → Lb i ≤ 9223372036854775807)
    (hA : Top w A n La) (hB : Top w Bm m Lb) (h : terr n m La Lb ≠ 0) :
    Calls Try.prog 46 #[.slice A n cA, .slice Bm m cB] w fun e w' => e = .returned (.tuple #[.slice none 0 0, .int .i64 (terr n m La Lb)]) ∧ w = w' := by
  have CA := Lib.hid (faultF_any A n cA La w hn hLa hA)
  have CB := Lib.hid (faultF_any Bm m cB Lb w hm hLb hB)
  have CC := Lib.hid (columnsF_any A n cA La w hA)
  have HE : Hid (terr n m La Lb = if faultE n La = 0 then (if faultE m Lb = 0 then (if colsN n La = m then 0 else 31) else faultE m Lb) else faultE n La) := rfl
  clear hLa hLb hA hB
  generalize terr n m La Lb = E at *
  generalize faultE n La = fa at *
  generalize faultE m Lb = fb at *
  have hcl : colsN n La ≤ 9223372036854775807 ∨ True := .inr trivial
  clear hcl
  generalize colsN n La = ca at *
  by_cases h1 : fa = 0
  · subst h1
    by_cases h2 : fb = 0
    · subst h2
      have h3 : ¬ ca = m := fun e => h (by rw [HE.out]; simp [e])
      have hE : E = 31 := by rw [HE.out]; simp [h3]
      subst hE
      have t1 : ((ca : Int) != (m : Int)) = true := by rw [bne_iff_ne]; omega
      clear h3 h HE
      go_enter Try.func46, Try.ntmps46
      go_wp2_with fail
      refine CA.out.mono ?_
      rintro e w1 ⟨rfl, rfl⟩
      go_wp2_with fail
      refine CB.out.mono ?_
      rintro e w1 ⟨rfl, rfl⟩
      go_wp2_with fail
      refine CC.out.mono ?_
      rintro e w1 ⟨rfl, rfl⟩
      clear CA CB CC
      go_wp2
      go_ret2
      exact ⟨rfl, rfl⟩
    · have hE : E = fb := by rw [HE.out]; simp [h2]
      have t1 : (fb != 0) = true := by simpa using h2
      subst hE
      clear h2 h HE
      go_enter Try.func46, Try.ntmps46
      go_wp2_with fail
      refine CA.out.mono ?_
      rintro e w1 ⟨rfl, rfl⟩
      go_wp2_with fail
      refine CB.out.mono ?_
      rintro e w1 ⟨rfl, rfl⟩
      clear CA CB CC
      go_wp2
      go_ret2
      exact ⟨rfl, rfl⟩
  · have hE : E = fa := by rw [HE.out]; simp [h1]
    have t1 : (fa != 0) = true := by simpa using h1
    subst hE
    clear h1 h HE
    go_enter Try.func46, Try.ntmps46
    go_wp2_with fail
    refine CA.out.mono ?_
    rintro e w1 ⟨rfl, rfl⟩
    clear CA CB CC
    go_wp2
    go_ret2
    exact ⟨rfl, rfl⟩
theorem timF_all (A Bm : Option Addr) (n m cA cB : Nat) (La Lb : Nat → Nat) (ga gb : Nat → Nat → Nat) (w : World) (hn : n ≤ 9223372036854775807) (hLa : ∀ i, i < n → La i ≤ 9223372036854775807) (hm : m ≤ 9223372036854775807) (hLb : ∀ i, i < m → Lb i ≤ 9223372036854775807)
    (hA : MF w A n La ga) (hB : MF w Bm m Lb gb) (hga : ∀ i j, ga i j < 4) (hgb : ∀ i j, gb i j < 4) :
    Calls Try.prog 46 #[.slice A n cA, .slice Bm m cB] w fun e w' => ∃ Av cv, e = .returned (.tuple #[.slice Av (tk n m La Lb) cv, .int .i64 (terr n m La Lb)]) ∧
      MF w' Av (tk n m La Lb) (fun _ => colsN m Lb) (fun i j => dot 4 (ga i) (fun u => gb u j) m) ∧ Below w.heap.size w w' := by
  by_cases h0 : terr n m La Lb = 0
  · obtain ⟨h1, h2, h3⟩ := terr_ok h0
    refine (timF A Bm n m cA cB La Lb ga gb w h1 h2 h3 hA hB hga hgb).mono ?_
    rintro e w' ⟨b, S, he, hM, hb⟩
    rw [h0, show tk n m La Lb = n from if_pos h0]
    exact ⟨_, _, he, hM.rdm2.congr (fun i _ j _ => by simp [pcell]) (fun i _ j _ => by simp [pcell, show (j * 2 + 1) / 2 = j by omega]), hb⟩
  · refine (timF_bad A Bm n m cA cB La Lb w hn hLa hm hLb hA.top hB.top h0).mono ?_
    rintro e w' ⟨he, rfl⟩
    rw [show tk n m La Lb = 0 from if_neg h0]
    exact ⟨none, 0, he, RdM2.zero _ _ _ _ _, Below.refl _ _⟩
set_option maxHeartbeats 800000 in
theorem rprod_bad (s : Nat) (A Bm : Option Addr) (n m cA cB : Nat) (La Lb : Nat → Nat) (w : World) (hn : n ≤ 9223372036854775807) (hLa : ∀ i, i < n → La i ≤ 9223372036854775807) (hm : m ≤ 9223372036854775807) (hLb : ∀ i, i < m → Lb i ≤ 9223372036854775807)
    (hA : Top w A n La) (hB : Top w Bm m Lb) (h : terr n m La Lb ≠ 0) :
    Calls Try.prog 43 #[.int .i64 s, .slice A n cA, .slice Bm m cB] w fun e w' => e = .returned (.tuple #[.slice none 0 0, .int .i64 (terr n m La Lb)]) ∧ Below w.heap.size w w' := by
  have CA := Lib.hid (rfault_any A n cA La w hn hLa hA)
  have CB := Lib.hid (fun w1 (hd : Dr w w1) => rfault_any Bm m cB Lb w1 hm hLb (hB.below (hd.below w.heap.size)))
  have CC := Lib.hid (fun w1 (hd : Dr w w1) => rcolumns_any A n cA La w1 (hA.below (hd.below w.heap.size)))
  have HE : Hid (terr n m La Lb = if faultE n La = 0 then (if faultE m Lb = 0 then (if colsN n La = m then 0 else 31) else faultE m Lb) else faultE n La) := rfl
  clear hLa hLb hA hB
  generalize terr n m La Lb = E at *
  generalize faultE n La = fa at *
  generalize faultE m Lb = fb at *
  generalize colsN n La = ca at *
  by_cases h1 : fa = 0
  · subst h1
    by_cases h2 : fb = 0
    · subst h2
      have h3 : ¬ ca = m := fun e => h (by rw [HE.out]; simp [e])
      have hE : E = 31 := by rw [HE.out]; simp [h3]
      subst hE
      have t1 : ((ca : Int) != (m : Int)) = true := by rw [bne_iff_ne]; omega
      clear h3 h HE
      go_enter Try.func43, Try.ntmps43
      go_wp2_with fail
      refine CA.out.mono ?_
      rintro e w1 ⟨rfl, hd1⟩
      go_wp2_with fail
      refine (CB.out w1 hd1).mono ?_
      rintro e w2 ⟨rfl, hd2⟩
      have hd3 := hd1.trans hd2
      go_wp2_with fail
      refine (CC.out w2 hd3).mono ?_
      rintro e w3 ⟨rfl, rfl⟩
      clear CA CB CC hd1 hd2
      have hb := hd3.below w.heap.size
      clear hd3
      go_wp2
      go_ret2
      exact ⟨rfl, hb⟩
    · have hE : E = fb := by rw [HE.out]; simp [h2]
      have t1 : (fb != 0) = true := by simpa using h2
      have t2 : (fb == 0) = false := by simpa using h2
      subst hE
      clear h2 h HE
      go_enter Try.func43, Try.ntmps43
      go_wp2_with fail
      refine CA.out.mono ?_
      rintro e w1 ⟨rfl, hd1⟩
      go_wp2_with fail
      refine (CB.out w1 hd1).mono ?_
      rintro e w2 ⟨rfl, hd2⟩
      have hb := (hd1.trans hd2).below w.heap.size
      clear CA CB CC hd1 hd2
      go_wp2
      go_ret2
      exact ⟨rfl, hb⟩
  · have hE : E = fa := by rw [HE.out]; simp [h1]
    have t1 : (fa != 0) = true := by simpa using h1
    have t2 : (fa == 0) = false := by simpa using h1
    subst hE
    clear h1 h HE
    go_enter Try.func43, Try.ntmps43
    go_wp2_with fail
    refine CA.out.mono ?_
    rintro e w1 ⟨rfl, hd1⟩
    have hb := hd1.below w.heap.size
    clear CA CB CC hd1
    go_wp2
    go_ret2
    exact ⟨rfl, hb⟩
theorem rprod_all (s : Nat) (A Bm : Option Addr) (n m cA cB : Nat) (La Lb : Nat → Nat) (ga gb : Nat → Nat → Nat) (w : World) (hn : n ≤ 9223372036854775807) (hLa : ∀ i, i < n → La i ≤ 9223372036854775807) (hm : m ≤ 9223372036854775807) (hLb : ∀ i, i < m → Lb i ≤ 9223372036854775807)
    (hA : MI w A n La ga) (hB : MI w Bm m Lb gb) (hga : ∀ i j, ga i j < 256) (hgb : ∀ i j, gb i j < 256) (hmu : ∀ i u j, mulR s (ga i u) (gb u j) < 2 ^ 8) :
    Calls Try.prog 43 #[.int .i64 s, .slice A n cA, .slice Bm m cB] w fun e w' => ∃ Av cv, e = .returned (.tuple #[.slice Av (tk n m La Lb) cv, .int .i64 (terr n m La Lb)]) ∧
      MI w' Av (tk n m La Lb) (fun _ => colsN m Lb) (fun i j => dot s (ga i) (fun u => gb u j) m) ∧ Below w.heap.size w w' := by
  by_cases h0 : terr n m La Lb = 0
  · obtain ⟨h1, h2, h3⟩ := terr_ok h0
    refine (rprod s A Bm n m cA cB La Lb ga gb w h1 h2 h3 hA hB hga hgb hmu).mono ?_
    rintro e w' ⟨v, S, K, he, hO, hb⟩
    obtain ⟨Av, cv, rfl, _, _, hR⟩ := hO.rdm
    rw [h0, show tk n m La Lb = n from if_pos h0]
    exact ⟨_, _, he, hR, hb⟩
  · refine (rprod_bad s A Bm n m cA cB La Lb w hn hLa hm hLb hA.top hB.top h0).mono ?_
    rintro e w' ⟨he, hb⟩
    rw [show tk n m La Lb = 0 from if_neg h0]
    exact ⟨none, 0, he, RdM.zero _ _ _ _, hb⟩

set_option maxRecDepth 20000 in
set_option maxHeartbeats 1000000 in
theorem lawTim_E (F : Int) (A B : Option Addr) (n cA m cB : Nat) (L Lb : Nat → Nat) (f g : Nat → Nat → Int) (At V N One : Value) (hAt : At.oneCell' = true) (hV : V.oneCell' = true) (hN : N.oneCell' = true) (hO : One.oneCell' = true) (w : World) (hF : fsz F = 256)
    (hn : n * 24 ≤ 140737488351232) (hL : ∀ i, i < n → L i * 8 ≤ 140737488351232) (hm : m * 24 ≤ 140737488351232) (hLb : ∀ i, i < m → Lb i * 8 ≤ 140737488351232) (hA : RdM w A n L fun i j => .int .i64 (f i j)) (hB : RdM w B m Lb fun i j => .int .i64 (g i j)) :
    Calls Try.prog 6 #[.agg #[.int .i64 F, .slice A n cA, .slice B m cB, At, V, N, One]] w fun e w' => e = .returned (.bool true) ∧ Below w.heap.size w w' := by
  have hoc := And.intro hAt (And.intro hV (And.intro hN hO))
  clear hoc
  have HF := Lib.hid hF; clear hF
  have hla : ∀ i j, lowN 256 (f i j) < 256 := fun i j => by have := lowN_lt (s := 256) (by decide) (f i j); omega
  have hlb : ∀ i j, lowN 256 (g i j) < 256 := fun i j => by have := lowN_lt (s := 256) (by decide) (g i j); omega
  have HMU : Hid (∀ i u j, mulR 256 (lowN 256 (f i u)) (lowN 256 (g u j)) < 2 ^ 8) := fun i u j => mulR_lt256 (hla _ _)
  have hL9 : ∀ i, i < n → L i ≤ 9223372036854775807 := fun i hi => by have := hL i hi; omega
  have hLb9 : ∀ i, i < m → Lb i ≤ 9223372036854775807 := fun i hi => by have := hLb i hi; omega
  have HL := Lib.hid hL; have HLb := Lib.hid hLb; have HL9 := Lib.hid hL9; have HLb9 := Lib.hid hLb9; have HLA := Lib.hid hla; have HLB := Lib.hid hlb; clear hL hLb hL9 hLb9 hla hlb
  have hn9 : n ≤ 9223372036854775807 := by omega
  have hm9 : m ≤ 9223372036854775807 := by omega
  go_enter Try.func6, Try.ntmps6
  go_wp2_with fail
  refine (size_any _ 256 HF.out _).mono ?_
  rintro e w' ⟨rfl, rfl⟩
  have hb0 : Below w.heap.size w (w.alloc (.cells #[.int .i64 F, .slice A n cA, .slice B m cB, At, V, N, One] 25)) := (Below.refl _ _).alloc (Nat.le_refl _) _
  have hA0 := RdM.below hA hb0
  have hB0 := RdM.below hB hb0
  clear hA hB
  go_wp2_with fail
  refine (rows_any 256 A n cA L f _ (by omega) (by omega) hn HL.out hA0).mono ?_
  rintro e w1 ⟨v, S, C, rfl, hO, hb1⟩
  obtain ⟨A1, c1, rfl, _, hR⟩ := hO.rdm
  have hc2 : w1.cell? ⟨w.heap.size, 2, none⟩ = some (.slice B m cB) := by rw [hb1.cell (by simp)]; go_simp
  have hB1 := hB0.below hb1
  have hbb1 : Below w.heap.size w w1 := hb0.trans (hb1.mono (by simp))
  clear hb1 hb0 hA0 hB0 hO
  go_wp2_with fail
  refine (rows_any 256 B m cB Lb g _ (by omega) (by omega) hm HLb.out hB1).mono ?_
  rintro e w2 ⟨v, S', C', rfl, hO, hb2⟩
  obtain ⟨A2, c2, rfl, _, hR2⟩ := hO.rdm
  have hR1 : MI w2 A1 n L (fun i j => lowN 256 (f i j)) := MI.below hR hb2
  have hbb2 := hbb1.trans (hb2.mono hbb1.size)
  clear hb2 hbb1 hR hB1 hO hc2
  go_wp2_with fail
  refine (rprod_all 256 A1 A2 n m c1 c2 L Lb (fun i j => lowN 256 (f i j)) (fun i j => lowN 256 (g i j)) _ hn9 HL9.out hm9 HLb9.out hR1 hR2 (fun i j => Nat.lt_of_lt_of_le (HLA.out i j) (by decide)) (fun i j => Nat.lt_of_lt_of_le (HLB.out i j) (by decide)) HMU.out).mono ?_
  rintro e w3 ⟨A3, c3, rfl, hW, hb3⟩
  have hR1' := MI.below hR1 hb3
  have hR2' : MI w3 A2 m Lb (fun i j => lowN 256 (g i j)) := MI.below hR2 hb3
  have hbb3 := hbb2.trans (hb3.mono hbb2.size)
  clear hb3 hbb2 hR1 hR2
  go_wp2_with fail
  refine (elemss_any A1 n c1 L (fun i j => lowN 256 (f i j)) _ hn HL.out (fun i _ j _ => HLA.out i j) hR1').mono ?_
  rintro e w4 ⟨v4, S4, C4, rfl, hO4, hb4⟩
  obtain ⟨A4, c4, rfl, _, _, hE4⟩ := hO4.rdm
  have hR2 := MI.below hR2' hb4
  have hW4 := MI.below hW hb4
  have hbb4 := hbb3.trans (hb4.mono hbb3.size)
  clear hb4 hbb3 hR1' hR2' hW hO4
  go_wp2_with fail
  refine (elemss_any A2 m c2 Lb (fun i j => lowN 256 (g i j)) _ hm HLb.out (fun i _ j _ => HLB.out i j) hR2).mono ?_
  rintro e w5 ⟨v5, S5, C5, rfl, hO5, hb5⟩
  obtain ⟨A5, c5, rfl, _, _, hE5⟩ := hO5.rdm
  have hE4' : ME w5 A4 n L (fun i j => lowN 256 (f i j)) := ME.below hE4 hb5
  have hW5 := MI.below hW4 hb5
  have hbb5 := hbb4.trans (hb5.mono hbb4.size)
  clear hb5 hbb4 hR2 hW4 hO5 hE4
  go_wp2_with fail
  refine (timE_all A4 A5 n m c4 c5 L Lb (fun i j => lowN 256 (f i j)) (fun i j => lowN 256 (g i j)) _ hn9 HL9.out hm9 HLb9.out hE4' hE5 HLA.out HLB.out).mono ?_
  rintro e w6 ⟨A6, c6, rfl, hM6, hb6⟩
  have q2 := MI.below hW5 hb6
  have hbF := hbb5.trans (hb6.mono hbb5.size)
  have HK : Hid (tk n m L Lb ≤ 1000000000000000) := by have := tk_le n m L Lb; show _ ≤ _; omega
  have HL1 : Hid (∀ i, i < tk n m L Lb → colsN m Lb ≤ 1000000000000000) := fun i hi => by have := (tk_good hi).2.2; omega
  clear hb6 hE4' hE5 hW5 hbb5
  go_wp2_with fail
  refine (likeElemss_any _ _ _ _ _ _ (fun i j => dot 256 (fun u => lowN 256 (f i u)) (fun u => lowN 256 (g u j)) m) _ HK.out HL1.out (fun i hi j _ => dot_lt (e := 8) m fun u _ => mulR_lt256 (HLA.out _ _)) hM6 q2).mono ?_
  rintro e w7 ⟨rfl, hd⟩
  go_wp2
  go_ret
  exact ⟨rfl, hd.below' hbF⟩

set_option maxRecDepth 20000 in
set_option maxHeartbeats 1000000 in
theorem lawTim_B (F : Int) (A B : Option Addr) (n cA m cB : Nat) (L Lb : Nat → Nat) (f g : Nat → Nat → Int) (At V N One : Value) (hAt : At.oneCell' = true) (hV : V.oneCell' = true) (hN : N.oneCell' = true) (hO : One.oneCell' = true) (w : World) (hF : fsz F = 2)
    (hn : n * 24 ≤ 140737488351232) (hL : ∀ i, i < n → L i * 8 ≤ 140737488351232) (hm : m * 24 ≤ 140737488351232) (hLb : ∀ i, i < m → Lb i * 8 ≤ 140737488351232) (hA : RdM w A n L fun i j => .int .i64 (f i j)) (hB : RdM w B m Lb fun i j => .int .i64 (g i j)) :
    Calls Try.prog 6 #[.agg #[.int .i64 F, .slice A n cA, .slice B m cB, At, V, N, One]] w fun e w' => e = .returned (.bool true) ∧ Below w.heap.size w w' := by
  have hoc := And.intro hAt (And.intro hV (And.intro hN hO))
  clear hoc
  have HF := Lib.hid hF; clear hF
  have hla : ∀ i j, lowN 2 (f i j) < 2 := fun i j => by have := lowN_lt (s := 2) (by decide) (f i j); omega
  have hlb : ∀ i j, lowN 2 (g i j) < 2 := fun i j => by have := lowN_lt (s := 2) (by decide) (g i j); omega
  have HMU : Hid (∀ i u j, mulR 2 (lowN 2 (f i u)) (lowN 2 (g u j)) < 2 ^ 8) := fun i u j => Nat.lt_of_lt_of_le (mulR_lt2 (hla _ _) (hlb _ _)) (by decide)
  have hL9 : ∀ i, i < n → L i ≤ 9223372036854775807 := fun i hi => by have := hL i hi; omega
  have hLb9 : ∀ i, i < m → Lb i ≤ 9223372036854775807 := fun i hi => by have := hLb i hi; omega
  have HL := Lib.hid hL; have HLb := Lib.hid hLb; have HL9 := Lib.hid hL9; have HLb9 := Lib.hid hLb9; have HLA := Lib.hid hla; have HLB := Lib.hid hlb; clear hL hLb hL9 hLb9 hla hlb
  have hn9 : n ≤ 9223372036854775807 := by omega
  have hm9 : m ≤ 9223372036854775807 := by omega
  go_enter Try.func6, Try.ntmps6
  go_wp2_with fail
  refine (size_any _ 2 HF.out _).mono ?_
  rintro e w' ⟨rfl, rfl⟩
  have hb0 : Below w.heap.size w (w.alloc (.cells #[.int .i64 F, .slice A n cA, .slice B m cB, At, V, N, One] 25)) := (Below.refl _ _).alloc (Nat.le_refl _) _
  have hA0 := RdM.below hA hb0
  have hB0 := RdM.below hB hb0
  clear hA hB
  go_wp2_with fail
  refine (rows_any 2 A n cA L f _ (by omega) (by omega) hn HL.out hA0).mono ?_
  rintro e w1 ⟨v, S, C, rfl, hO, hb1⟩
  obtain ⟨A1, c1, rfl, _, hR⟩ := hO.rdm
  have hc2 : w1.cell? ⟨w.heap.size, 2, none⟩ = some (.slice B m cB) := by rw [hb1.cell (by simp)]; go_simp
  have hB1 := hB0.below hb1
  have hbb1 : Below w.heap.size w w1 := hb0.trans (hb1.mono (by simp))
  clear hb1 hb0 hA0 hB0 hO
  go_wp2_with fail
  refine (rows_any 2 B m cB Lb g _ (by omega) (by omega) hm HLb.out hB1).mono ?_
  rintro e w2 ⟨v, S', C', rfl, hO, hb2⟩
  obtain ⟨A2, c2, rfl, _, hR2⟩ := hO.rdm
  have hR1 : MI w2 A1 n L (fun i j => lowN 2 (f i j)) := MI.below hR hb2
  have hbb2 := hbb1.trans (hb2.mono hbb1.size)
  clear hb2 hbb1 hR hB1 hO hc2
  go_wp2_with fail
  refine (rprod_all 2 A1 A2 n m c1 c2 L Lb (fun i j => lowN 2 (f i j)) (fun i j => lowN 2 (g i j)) _ hn9 HL9.out hm9 HLb9.out hR1 hR2 (fun i j => Nat.lt_of_lt_of_le (HLA.out i j) (by decide)) (fun i j => Nat.lt_of_lt_of_le (HLB.out i j) (by decide)) HMU.out).mono ?_
  rintro e w3 ⟨A3, c3, rfl, hW, hb3⟩
  have hR1' := MI.below hR1 hb3
  have hR2' : MI w3 A2 m Lb (fun i j => lowN 2 (g i j)) := MI.below hR2 hb3
  have hbb3 := hbb2.trans (hb3.mono hbb2.size)
  clear hb3 hbb2 hR1 hR2
  go_wp2_with fail
  refine (bitss_any A1 n c1 L (fun i j => lowN 2 (f i j)) _ hn HL.out hR1').mono ?_
  rintro e w4 ⟨v4, S4, C4, rfl, hO4, hb4⟩
  obtain ⟨A4, c4, rfl, _, _, hE4⟩ := hO4.rdm
  have hR2 := MI.below hR2' hb4
  have hW4 := MI.below hW hb4
  have hbb4 := hbb3.trans (hb4.mono hbb3.size)
  clear hb4 hbb3 hR1' hR2' hW hO4
  go_wp2_with fail
  refine (bitss_any A2 m c2 Lb (fun i j => lowN 2 (g i j)) _ hm HLb.out hR2).mono ?_
  rintro e w5 ⟨v5, S5, C5, rfl, hO5, hb5⟩
  obtain ⟨A5, c5, rfl, _, _, hE5⟩ := hO5.rdm
  have hE4' : MB w5 A4 n L (fun i j => lowN 2 (f i j)) := MB.below hE4 hb5
  have hW5 := MI.below hW4 hb5
  have hbb5 := hbb4.trans (hb5.mono hbb4.size)
  clear hb5 hbb4 hR2 hW4 hO5 hE4
  go_wp2_with fail
  refine (timB_all A4 A5 n m c4 c5 L Lb (fun i j => lowN 2 (f i j)) (fun i j => lowN 2 (g i j)) _ hn9 HL9.out hm9 HLb9.out hE4' hE5 HLA.out HLB.out).mono ?_
  rintro e w6 ⟨A6, c6, rfl, hM6, hb6⟩
  have q2 := MI.below hW5 hb6
  have hbF := hbb5.trans (hb6.mono hbb5.size)
  have HK : Hid (tk n m L Lb ≤ 1000000000000000) := by have := tk_le n m L Lb; show _ ≤ _; omega
  have HL1 : Hid (∀ i, i < tk n m L Lb → colsN m Lb ≤ 1000000000000000) := fun i hi => by have := (tk_good hi).2.2; omega
  clear hb6 hE4' hE5 hW5 hbb5
  go_wp2_with fail
  refine (likeBitss_any _ _ _ _ _ _ (fun i j => dot 2 (fun u => lowN 2 (f i u)) (fun u => lowN 2 (g u j)) m) _ HK.out HL1.out hM6 q2).mono ?_
  rintro e w7 ⟨rfl, hd⟩
  go_wp2
  go_ret
  exact ⟨rfl, hd.below' hbF⟩

set_option maxRecDepth 20000 in
set_option maxHeartbeats 1000000 in
theorem lawTim_F (F : Int) (A B : Option Addr) (n cA m cB : Nat) (L Lb : Nat → Nat) (f g : Nat → Nat → Int) (At V N One : Value) (hAt : At.oneCell' = true) (hV : V.oneCell' = true) (hN : N.oneCell' = true) (hO : One.oneCell' = true) (w : World) (hF : fsz F = 4)
    (hn : n * 24 ≤ 140737488351232) (hL : ∀ i, i < n → L i * 8 ≤ 140737488351232) (hm : m * 24 ≤ 140737488351232) (hLb : ∀ i, i < m → Lb i * 8 ≤ 140737488351232) (hA : RdM w A n L fun i j => .int .i64 (f i j)) (hB : RdM w B m Lb fun i j => .int .i64 (g i j)) :
    Calls Try.prog 6 #[.agg #[.int .i64 F, .slice A n cA, .slice B m cB, At, V, N, One]] w fun e w' => e = .returned (.bool true) ∧ Below w.heap.size w w' := by
  have hoc := And.intro hAt (And.intro hV (And.intro hN hO))
  clear hoc
  have HF := Lib.hid hF; clear hF
  have hla : ∀ i j, lowN 4 (f i j) < 4 := fun i j => by have := lowN_lt (s := 4) (by decide) (f i j); omega
  have hlb : ∀ i j, lowN 4 (g i j) < 4 := fun i j => by have := lowN_lt (s := 4) (by decide) (g i j); omega
  have HMU : Hid (∀ i u j, mulR 4 (lowN 4 (f i u)) (lowN 4 (g u j)) < 2 ^ 8) := fun i u j => Nat.lt_of_lt_of_le (mul4 (hla _ _) (hlb _ _)).1 (by decide)
  have hL9 : ∀ i, i < n → L i ≤ 9223372036854775807 := fun i hi => by have := hL i hi; omega
  have hLb9 : ∀ i, i < m → Lb i ≤ 9223372036854775807 := fun i hi => by have := hLb i hi; omega
  have HL := Lib.hid hL; have HLb := Lib.hid hLb; have HL9 := Lib.hid hL9; have HLb9 := Lib.hid hLb9; have HLA := Lib.hid hla; have HLB := Lib.hid hlb; clear hL hLb hL9 hLb9 hla hlb
  have hn9 : n ≤ 9223372036854775807 := by omega
  have hm9 : m ≤ 9223372036854775807 := by omega
  go_enter Try.func6, Try.ntmps6
  go_wp2_with fail
  refine (size_any _ 4 HF.out _).mono ?_
  rintro e w' ⟨rfl, rfl⟩
  have hb0 : Below w.heap.size w (w.alloc (.cells #[.int .i64 F, .slice A n cA, .slice B m cB, At, V, N, One] 25)) := (Below.refl _ _).alloc (Nat.le_refl _) _
  have hA0 := RdM.below hA hb0
  have hB0 := RdM.below hB hb0
  clear hA hB
  go_wp2_with fail
  refine (rows_any 4 A n cA L f _ (by omega) (by omega) hn HL.out hA0).mono ?_
  rintro e w1 ⟨v, S, C, rfl, hO, hb1⟩
  obtain ⟨A1, c1, rfl, _, hR⟩ := hO.rdm
  have hc2 : w1.cell? ⟨w.heap.size, 2, none⟩ = some (.slice B m cB) := by rw [hb1.cell (by simp)]; go_simp
  have hB1 := hB0.below hb1
  have hbb1 : Below w.heap.size w w1 := hb0.trans (hb1.mono (by simp))
  clear hb1 hb0 hA0 hB0 hO
  go_wp2_with fail
  refine (rows_any 4 B m cB Lb g _ (by omega) (by omega) hm HLb.out hB1).mono ?_
  rintro e w2 ⟨v, S', C', rfl, hO, hb2⟩
  obtain ⟨A2, c2, rfl, _, hR2⟩ := hO.rdm
  have hR1 : MI w2 A1 n L (fun i j => lowN 4 (f i j)) := MI.below hR hb2
  have hbb2 := hbb1.trans (hb2.mono hbb1.size)
  clear hb2 hbb1 hR hB1 hO hc2
  go_wp2_with fail
  refine (rprod_all 4 A1 A2 n m c1 c2 L Lb (fun i j => lowN 4 (f i j)) (fun i j => lowN 4 (g i j)) _ hn9 HL9.out hm9 HLb9.out hR1 hR2 (fun i j => Nat.lt_of_lt_of_le (HLA.out i j) (by decide)) (fun i j => Nat.lt_of_lt_of_le (HLB.out i j) (by decide)) HMU.out).mono ?_
  rintro e w3 ⟨A3, c3, rfl, hW, hb3⟩
  have hR1' := MI.below hR1 hb3
  have hR2' : MI w3 A2 m Lb (fun i j => lowN 4 (g i j)) := MI.below hR2 hb3
  have hbb3 := hbb2.trans (hb3.mono hbb2.size)
  clear hb3 hbb2 hR1 hR2
  go_wp2_with fail
  refine (fourss_any A1 n c1 L (fun i j => lowN 4 (f i j)) _ hn HL.out hR1').mono ?_
  rintro e w4 ⟨v4, S4, C4, rfl, hO4, hb4⟩
  obtain ⟨A4, c4, rfl, _, _, hE4⟩ := hO4.rdm2
  have hR2 := MI.below hR2' hb4
  have hW4 := MI.below hW hb4
  have hbb4 := hbb3.trans (hb4.mono hbb3.size)
  clear hb4 hbb3 hR1' hR2' hW hO4
  go_wp2_with fail
  refine (fourss_any A2 m c2 Lb (fun i j => lowN 4 (g i j)) _ hm HLb.out hR2).mono ?_
  rintro e w5 ⟨v5, S5, C5, rfl, hO5, hb5⟩
  obtain ⟨A5, c5, rfl, _, _, hE5⟩ := hO5.rdm2
  have hE4' : MF w5 A4 n L (fun i j => lowN 4 (f i j)) := MF.below hE4 hb5
  have hW5 := MI.below hW4 hb5
  have hbb5 := hbb4.trans (hb5.mono hbb4.size)
  clear hb5 hbb4 hR2 hW4 hO5 hE4
  go_wp2_with fail
  refine (timF_all A4 A5 n m c4 c5 L Lb (fun i j => lowN 4 (f i j)) (fun i j => lowN 4 (g i j)) _ hn9 HL9.out hm9 HLb9.out hE4' hE5 HLA.out HLB.out).mono ?_
  rintro e w6 ⟨A6, c6, rfl, hM6, hb6⟩
  have q2 := MI.below hW5 hb6
  have hbF := hbb5.trans (hb6.mono hbb5.size)
  have HK : Hid (tk n m L Lb ≤ 1000000000000000) := by have := tk_le n m L Lb; show _ ≤ _; omega
  have HL1 : Hid (∀ i, i < tk n m L Lb → colsN m Lb ≤ 1000000000000000) := fun i hi => by have := (tk_good hi).2.2; omega
  clear hb6 hE4' hE5 hW5 hbb5
  go_wp2_with fail
  refine (likeFourss_any _ _ _ _ _ _ (fun i j => dot 4 (fun u => lowN 4 (f i u)) (fun u => lowN 4 (g u j)) m) _ HK.out HL1.out hM6 q2).mono ?_
  rintro e w7 ⟨rfl, hd⟩
  go_wp2
  go_ret
  exact ⟨rfl, hbF.trans (hd.mono hbF.size)⟩

theorem lawTim (F : Int) (A B : Option Addr) (n cA m cB : Nat) (L Lb : Nat → Nat) (f g : Nat → Nat → Int) (At V N One : Value) (hAt : At.oneCell' = true) (hV : V.oneCell' = true) (hN : N.oneCell' = true) (hO : One.oneCell' = true) (w : World)
    (hn : n * 24 ≤ 140737488351232) (hL : ∀ i, i < n → L i * 8 ≤ 140737488351232) (hm : m * 24 ≤ 140737488351232) (hLb : ∀ i, i < m → Lb i * 8 ≤ 140737488351232) (hA : RdM w A n L fun i j => .int .i64 (f i j)) (hB : RdM w B m Lb fun i j => .int .i64 (g i j)) :
    Calls Try.prog 6 #[.agg #[.int .i64 F, .slice A n cA, .slice B m cB, At, V, N, One]] w fun e w' => e = .returned (.bool true) ∧ Below w.heap.size w w' := by
  rcases fsz_cases F with e | e | e
  · exact lawTim_E F A B n cA m cB L Lb f g At V N One hAt hV hN hO w e hn hL hm hLb hA hB
  · exact lawTim_B F A B n cA m cB L Lb f g At V N One hAt hV hN hO w e hn hL hm hLb hA hB
  · exact lawTim_F F A B n cA m cB L Lb f g At V N One hAt hV hN hO w e hn hL hm hLb hA hB
end Go.Proofs.Ytpocjpodeahanaa
