/- Matrices that were answered: owned, their rows apart. Conditions: as the theorems have them. -/
import Derived.Test.YtpocjpodeahanaaOwn3
import Derived.Test.YtpocjpodeahanaaLawTim
import Derived.Test.YtpocjpodeahanaaLawRows
import Derived.Test.YtpocjpodeahanaaRmr
namespace Go.Proofs.Ytpocjpodeahanaa
open Go.RowKit

/-- The matrix Av: k rows, owned, in blocks that are new since w, no two in one block. -/
def OM (w w' : World) (Av : Option Addr) (cv k : Nat) : Prop :=
  ∃ R : List Rw, R.length = k ∧ OwnR w' w.heap.size 62 (.slice Av R.length cv) R ∧ AR w' w.heap.size 34 (fun q => w.heap.size ≤ q ∧ q < w'.heap.size) R ∧ ∀ r ∈ R, r.n ≤ 255
theorem OM.nil (w w' : World) : OM w w' none 0 0 := ⟨[], rfl, OwnR.nil _ _ _, AR.nil _ _ _ _, fun r hr => by (cases hr)⟩
theorem Mx.om {w w' : World} {B b n c : Nat} {S : Nat → Nat} {f : Nat → Nat → Value} (h : Mx w' B b 62 34 n S c c f) (hB : w.heap.size ≤ B) (hn : n ≤ 255) (hc : c ≤ 255) : OM w w' (some ⟨b, 0, none⟩) n n := by
  obtain ⟨R, h1, h2, h3, h4⟩ := h.ar (by unfold maxLen; omega) (by unfold maxLen; omega)
  refine ⟨R, h1, ?_, (h3.monoB hB).mono fun k hk => ⟨Nat.le_trans hB hk.1, hk.2⟩, fun r hr => by rw [h4 r hr]; exact hc⟩
  have h5 := h2.mono hB
  rw [h1] at h5 ⊢
  exact h5
set_option maxHeartbeats 400000 in
theorem timE_own (A Bm : Option Addr) (n m cA cB : Nat) (La Lb : Nat → Nat) (ga gb : Nat → Nat → Nat) (w : World) (hn : n ≤ 9223372036854775807) (hLa : ∀ i, i < n → La i ≤ 9223372036854775807) (hm : m ≤ 9223372036854775807) (hLb : ∀ i, i < m → Lb i ≤ 9223372036854775807)
    (hA : ME w A n La ga) (hB : ME w Bm m Lb gb) (hga : ∀ i j, ga i j < 256) (hgb : ∀ i j, gb i j < 256) :
    Calls Try.prog 44 #[.slice A n cA, .slice Bm m cB] w fun e w' => ∃ Av cv, e = .returned (.tuple #[.slice Av (tk n m La Lb) cv, .int .i64 (terr n m La Lb)]) ∧ OM w w' Av cv (tk n m La Lb) ∧
      ME w' Av (tk n m La Lb) (fun _ => colsN m Lb) (fun i j => dot 256 (ga i) (fun u => gb u j) m) ∧ Below w.heap.size w w' := by
  by_cases h : terr n m La Lb = 0
  · obtain ⟨hfa, hfb, hc⟩ := terr_ok h
    have hk : tk n m La Lb = n := by unfold tk; rw [if_pos h]
    refine (timE A Bm n m cA cB La Lb ga gb w hfa hfb hc hA hB hga hgb).mono ?_
    rintro e w' ⟨b, S, rfl, hM, hb⟩
    rw [h, hk]
    exact ⟨some ⟨b, 0, none⟩, n, rfl, hM.om (Nat.le_refl _) (faultE_ok hfa).1 (colsN_le hfb), hM.rdm, hb⟩
  · have hk : tk n m La Lb = 0 := by unfold tk; rw [if_neg h]
    refine (timE_bad A Bm n m cA cB La Lb w hn hLa hm hLb hA.top hB.top h).mono ?_
    rintro e w' ⟨rfl, rfl⟩
    rw [hk]
    exact ⟨none, 0, rfl, OM.nil _ _, RdM.zero _ _ _ _, Below.refl _ _⟩
theorem identE_own (w : World) : Calls Try.prog 18 #[.int .i64 3, .int .u8 1] w fun e w' => ∃ Av, e = .returned (.tuple #[.slice Av 3 3, .int .i64 0]) ∧ OM w w' Av 3 3 ∧ ME w' Av 3 (fun _ => 3) (fun i j => if i = j then 1 else 0) ∧ Below w.heap.size w w' := by
  refine (identE 3 1 w (by decide)).mono ?_
  rintro e w' ⟨b, S, rfl, hM, hb⟩
  exact ⟨some ⟨b, 0, none⟩, rfl, hM.om (Nat.le_refl _) (by decide) (by decide), (hM.congr (g := fun i j => .int .u8 (((if i = j then 1 else 0) : Nat) : Int)) fun i j _ _ => by split <;> rfl).rdm, hb⟩
theorem powE3_own (A : Option Addr) (c : Nat) (g : Nat → Nat) (w : World) (hg : ∀ i, i < 3 → g i < 256) (hA : Rd w A 3 fun i => .int .u8 (g i)) :
    Calls Try.prog 37 #[.slice A 3 c, .int .i64 3, .int .u8 1] w fun e w' => ∃ Av, e = .returned (.tuple #[.slice Av 3 3, .int .i64 0]) ∧ OM w w' Av 3 3 ∧ ME w' Av 3 (fun _ => 3) (fun i j => pw 256 1 (g i) j) ∧ Below w.heap.size w w' := by
  refine (powE A 3 c 3 1 g w (by decide) (by decide) (by decide) hg hA).mono ?_
  rintro e w' ⟨b, S, rfl, hM, hb⟩
  exact ⟨some ⟨b, 0, none⟩, rfl, hM.om (Nat.le_refl _) (by decide) (by decide), hM.rdm, hb⟩
end Go.Proofs.Ytpocjpodeahanaa

/- Rows of the program, with whose memory the answer is. Conditions: as the theorems have them. -/
namespace Go.Proofs.Ytpocjpodeahanaa
open Go.RowKit

/-- No two of the first k rows lie in one block. -/
def ApQ (S : Nat → Option Addr) (C L : Nat → Nat) (k : Nat) : Prop := ∀ a b, a < b → b < k → ∀ s, (Value.slice (S a) (L a) (C a)).ownBlock = some s → (Value.slice (S b) (L b) (C b)).ownBlock ≠ some s
theorem ApQ.next {S : Nat → Option Addr} {C L : Nat → Nat} {k b c : Nat} (h : ApQ S C L k) (hlt : ∀ a, a < k → ∀ s, (Value.slice (S a) (L a) (C a)).ownBlock = some s → s < b) : ApQ (upd S k (some ⟨b, 0, none⟩)) (upd C k c) L (k + 1) := fun a q haq hq s hs e => by
  rw [upd_ne _ _ _ (by omega), upd_ne _ _ _ (by omega)] at hs
  by_cases e1 : q = k
  · subst e1
    rw [upd_at, upd_at] at e
    have e2 : some b = some s := e
    injection e2 with e2
    have := hlt a haq s hs
    omega
  · rw [upd_ne _ _ _ e1, upd_ne _ _ _ e1] at e
    exact h a q haq (by omega) s hs e
def RowsOutO (B tR e sz n m p : Nat) (t : Nat → Int) (L : Nat → Nat) (f : Nat → Nat → List Value) (w : World) (x : Ending) (w' : World) : Prop :=
  (p = m → ∃ v S C, x = .returned (.tuple #[v, .int .i64 0]) ∧ OwnQ w' B tR e sz v m S C (fun i => L (t i).toNat) (fun i j => f (t i).toNat j) ∧ ApQ S C (fun i => L (t i).toNat) m) ∧ (p < m → x = .returned (.tuple #[.slice none 0 0, .int .i64 2])) ∧ Below B w w'
set_option maxRecDepth 20000 in
set_option maxHeartbeats 1000000 in
theorem rowsEo (A At : Option Addr) (n m p cA cAt : Nat) (L : Nat → Nat) (g : Nat → Nat → Nat) (t : Nat → Int) (w : World) (hf : faultE n L = 0) (hm : m ≤ 255) (hp : p ≤ m) (hA : ME w A n L g) (hAt : Rd w At m (fun i => .int .i64 (t i)))
    (hgood : ∀ i, i < p → 0 ≤ t i ∧ t i < n) (hbad : p < m → t p < 0 ∨ n ≤ t p) :
    Calls Try.prog 29 #[.slice A n cA, .slice At m cAt] w (RowsOutO w.heap.size 62 34 1 n m p t L (fun i j => [.int .u8 (g i j)]) w) := by
  obtain ⟨hn, hl, -⟩ := faultE_ok hf
  have HB := Lib.hid hbad; clear hbad
  have HG := Lib.hid hgood; clear hgood
  have HL := Lib.hid hl; clear hl
  have HT := Lib.hid hA.top
  obtain ⟨SA, CA, hA1, hA2⟩ := hA
  have HF := Lib.hid hf; clear hf
  obtain ⟨i0, hi0, hz0, hz1, hz2⟩ := info_parts elemsInfo
  go_enter Try.func29, Try.ntmps29
  go_wp2_with fail
  refine (faultE_any A n cA L _ (by omega) (fun i hi => by have := HL.out i hi; omega) HT.out).mono ?_
  rintro e w1 ⟨rfl, rfl⟩
  have HF2 : faultE n L = 0 := HF.out
  rw [HF2]; clear HF2
  go_wp2_with (at_make; refine wpList_make_own _ rfl _ _ 31 rfl w.heap.size 62 i0 (.slice none 0 0) 1 Try.underlying31 hi0 hz0 hz1 .i64 .i64 _ m rfl rfl (by omega) (by rw [hz2]; omega) (by unfold maxLen; omega) (Nat.le_refl _) ?_)
  intro w2 hown2 hgr2
  have hb2 : Below w.heap.size w w2 := (Below.refl _ _).grown hgr2 (Nat.le_refl _) (by simp)
  clear hgr2 hi0 hz0 hz1 hz2
  go_wp2
  go_loopg [7, 9, 10, 24] m (fun gk v _ _ i wr => ∃ (k : Nat) (S : Nat → Option Addr) (C : Nat → Nat), k ≤ p ∧ gk = m - k ∧ i = .int .i64 k ∧ OwnQ wr w.heap.size 62 34 1 v k S C (fun i => L (t i).toNat) (fun i j => (fun i j => [.int .u8 (g i j)]) (t i).toNat j) ∧ Below w.heap.size w wr ∧ ApQ S C (fun i => L (t i).toNat) k)
  case atStart => exact ⟨0, fun _ => none, fun _ => 0, Nat.zero_le _, rfl, rfl, ⟨hown2, fun i hi => absurd hi (by omega)⟩, hb2, fun a b _ hb => absurd hb (Nat.not_lt_zero _)⟩
  case round =>
    obtain ⟨k, S, C, hk, rfl, rfl, hown, hbel, hap⟩ := hrel
    have HAP := Lib.hid hap
    clear hap
    have hsz := hbel.size
    by_cases hlt : k < p
    · obtain ⟨b, o, rfl, hb, hc⟩ := hAt k (by omega)
      have hc' : wr.cell? ⟨b, o + k, none⟩ = some (.int .i64 (t k)) := (hbel.cell hb).trans hc
      obtain ⟨hg0, hg1⟩ := HG.out k hlt
      obtain ⟨q, hq⟩ := Int.eq_ofNat_of_zero_le hg0
      rw [hq] at hc' hg1
      have hqn : q < n := by omega
      have hqt : (t k).toNat = q := by omega
      have HQ := Lib.hid hqt; clear hqt
      clear hg0 hg1 hq hc hAt
      obtain ⟨b2, o2, rfl, hb2, hc2⟩ := hA1 q hqn
      have hc2' : wr.cell? ⟨b2, o2 + q, none⟩ = some (.slice (SA q) (L q) (CA q)) := (hbel.cell hb2).trans hc2
      have hc2n : ∀ o, (wr.alloc o).cell? ⟨b2, o2 + q, none⟩ = some (.slice (SA q) (L q) (CA q)) := fun o => by rw [← hc2']; exact (((Below.refl wr.heap.size wr).alloc (Nat.le_refl _) o).cell (by have := hb2; simp; omega))
      have hrow := (hA2 q hqn).below hbel
      have hLq := HL.out q hqn
      have hqlt : (q : Int) < n := by omega
      clear hc2 hA2
      have hmk := run_make_row' (P := Try.prog) 62 34 (.int .u8 0) 1 Try.underlying62 elemInfo rfl .i64 .i64 (L q) (by omega) (by omega)
      have hkm : k < m := by omega
      have HLT := Lib.hid hlt; clear hlt
      go_wp2_with (refine wpList_copyAll rfl (.tmp 42) (.tmp 46) 62 62 rfl 34 1 wr.heap.size (L q) (L q) (CA q) (SA q) 34 (fun _ => (.int .u8 0)) (fun j => .int .u8 (g q j)) Try.underlying62 (elemSZ) rfl rfl (by rw [Nat.mul_one]; exact World.rowIs_made _ _ _ _) (by rw [Nat.mul_one]; exact hrow.below (((Below.refl _ _).alloc (Nat.le_refl _) _))) (fun _ _ => rfl) ?_)
      intro w3 hrow3 hgr3
      have hbel3 : Below wr.heap.size wr w3 := ((Below.refl _ _).alloc (Nat.le_refl _) _).grown hgr3 (by simp) (by intro k hk; cases hk; exact Nat.le_refl _)
      have HAP2 := Lib.hid (HAP.out.next (c := L q) (fun a ha s hs => ((hown.2 a ha).lt s hs).2))
      have hownB := (hown.kept hbel3).next (some ⟨wr.heap.size, 0, none⟩) (L q)
      have hown1' : Own w3 w.heap.size 34 1 (.slice (upd S k (some ⟨wr.heap.size, 0, none⟩) k) (L (t k).toNat) (upd C k (L q) k)) (L (t k).toNat) (fun j => (fun i j => [.int .u8 (g i j)]) (t k).toNat j) := by
        rw [upd_at, upd_at, HQ.out]; exact own_of_rowN (n := L q) (sz := 1) (f := fun j => .int .u8 (g q j)) (by rw [Nat.mul_one]; exact hrow3) (by rw [Nat.mul_one]; exact flat1 _ _) hsz (by unfold maxLen; omega)
      have hu : Hid ((#[Value.slice (some ⟨wr.heap.size, 0, none⟩) (L q) (L q)] : Array Value).toList = [.slice (upd S k (some ⟨wr.heap.size, 0, none⟩) k) (L (t k).toNat) (upd C k (L q) k)]) := by rw [upd_at, upd_at, HQ.out]; rfl
      have hbel3' := hbel.trans (hbel3.mono hsz)
      have hsz3 := hbel3'.size
      clear hown hbel3 hbel hc' hc2' hc2n hrow hrow3 hgr3 hmk
      go_wp2_with (at_builtin; refine wpList_push _ rfl (.tmp 48) (.tmp 50) 31 rfl w.heap.size 62 1 24 (.slice none 0 0) #[.slice (some ⟨wr.heap.size, 0, none⟩) (L q) (L q)] Try.underlying31 elemsInfo rfl (by decide) _ k _ rfl hownB.1 hsz3 _ rfl rfl hu.out rfl rfl (by omega) (by omega) ?_)
      intro v' w4 hown4 hbel4 hg4 _
      have hO := hownB.push (by decide) hown1' hown4 hg4
      have hbelF := hbel3'.trans hbel4
      clear hownB hown1' hown4 hg4 hbel4 hbel3'
      go_wp2
      go_roundg (m - (k + 1))
      case measure => omega
      case rel => exact ⟨k + 1, _, _, Nat.succ_le_of_lt HLT.out, rfl, by go_num, hO, hbelF, HAP2.out⟩
    · have : k = p := by omega
      subst this
      by_cases hkm : k < m
      · obtain ⟨b, o, rfl, hb, hc⟩ := hAt k hkm
        have hc' : wr.cell? ⟨b, o + k, none⟩ = some (.int .i64 (t k)) := (hbel.cell hb).trans hc
        have hcon : RowsOutO w.heap.size 62 34 1 n m k t L (fun i j => [.int .u8 (g i j)]) w (.returned (.tuple #[.slice none 0 0, .int .i64 2])) wr := ⟨fun h => absurd h (by omega), fun _ => rfl, hbel⟩
        have htk : t k < 0 ∨ n ≤ t k := HB.out hkm
        clear hc hlt hown
        rcases htk with h0 | h0
        · go_wp2
          go_ret2
          exact hcon
        · have h1 : ¬ t k < 0 := by omega
          have h2 : ¬ t k < n := by omega
          go_wp2
          go_ret2
          exact hcon
      · have : k = m := by omega
        subst this
        go_wp2
        go_ret2
        exact ⟨fun _ => ⟨_, _, _, rfl, hown, HAP.out⟩, fun h => absurd h (by omega), hbel⟩
theorem OwnQ.om {w w' : World} {k cv : Nat} {Av : Option Addr} {S : Nat → Option Addr} {C L : Nat → Nat} {g : Nat → Nat → Value} (h : OwnQ w' w.heap.size 62 34 1 (.slice Av k cv) k S C L (fun i j => [g i j])) (hA : ApQ S C L k) (hL : ∀ i, i < k → L i ≤ 255) : OM w w' Av cv k := by
  have hlen : ((List.range k).map fun i => (⟨S i, L i, C i, g i⟩ : Rw)).length = k := by simp
  refine ⟨(List.range k).map fun i => ⟨S i, L i, C i, g i⟩, hlen, OwnR.of ?_, ⟨fun r hr => ?_, ?_, fun r hr q hq => ?_⟩, fun r hr => ?_⟩
  · rw [hlen]
    exact h.1.congr fun i hi => by rw [getD_mapR hi]
  · obtain ⟨i, hi, rfl⟩ := List.mem_map.1 hr
    exact h.2 i (List.mem_range.1 hi)
  · rw [List.pairwise_map]
    exact List.pairwise_iff_getElem.2 fun i j hi hj hij q hq => by
      rw [List.getElem_range] at hq ⊢
      exact hA i j hij (by simpa using hj) q hq
  · obtain ⟨i, hi, rfl⟩ := List.mem_map.1 hr
    exact (h.2 i (List.mem_range.1 hi)).lt q hq
  · obtain ⟨i, hi, rfl⟩ := List.mem_map.1 hr
    exact hL i (List.mem_range.1 hi)
theorem rowsO_all (A At : Option Addr) (n m cA cAt : Nat) (L : Nat → Nat) (g : Nat → Nat → Nat) (t : Nat → Int) (w : World) (hn : n ≤ 9223372036854775807) (hL : ∀ i, i < n → L i ≤ 9223372036854775807) (hA : ME w A n L g) (hAt : Rd w At m (fun i => .int .i64 (t i))) :
    Calls Try.prog 29 #[.slice A n cA, .slice At m cAt] w fun e w' => ∃ Av c, e = .returned (.tuple #[.slice Av (rk n m L t) c, .int .i64 (rerr n m L t)]) ∧ OM w w' Av c (rk n m L t) ∧ ME w' Av (rk n m L t) (fun i => L (t i).toNat) (fun i j => g (t i).toNat j) ∧ Below w.heap.size w w' := by
  by_cases hf : faultE n L = 0
  · by_cases hm : 255 < m
    · refine (rowsE_big A At n m cA cAt L w hn hL hA.top hf hm).mono ?_
      rintro e w' ⟨he, hb⟩
      rw [(rerr_big hf hm).1, (rerr_big hf hm).2]
      exact ⟨none, 0, he, OM.nil _ _, RdM.zero _ _ _ _, hb⟩
    · obtain ⟨p, hp, hg, hbad⟩ := first_bad n t m
      refine (rowsEo A At n m p cA cAt L g t w hf (by omega) hp hA hAt hg hbad).mono ?_
      rintro e w' ⟨h1, h2, hb⟩
      rcases Nat.lt_or_ge p m with hlt | hge
      · rw [(rerr_bad hf hm hlt (hbad hlt)).1, (rerr_bad hf hm hlt (hbad hlt)).2]
        exact ⟨none, 0, h2 hlt, OM.nil _ _, RdM.zero _ _ _ _, hb⟩
      · have hpm : p = m := by omega
        subst hpm
        rw [(rerr_good hf hm hg).1, (rerr_good hf hm hg).2]
        obtain ⟨v, S, C, he, hO, hAp⟩ := h1 rfl
        obtain ⟨Av, c, rfl, _, _, hR⟩ := hO.rdm
        exact ⟨Av, c, he, OwnQ.om (g := fun i j => .int .u8 (g (t i).toNat j)) hO hAp (fun i hi => (faultE_ok hf).2.1 _ (by have := hg i hi; omega)), hR, hb⟩
  · refine (rowsE_fault A At n m cA cAt L w hn hL hA.top hf).mono ?_
    rintro e w' ⟨he, hb⟩
    rw [(rerr_fault hf).1, (rerr_fault hf).2]
    exact ⟨none, 0, he, OM.nil _ _, RdM.zero _ _ _ _, hb⟩
end Go.Proofs.Ytpocjpodeahanaa

/- Inverse of the program, with whose memory the answer is. Conditions: as the theorems have them. -/
namespace Go.Proofs.Ytpocjpodeahanaa
open Go.RowKit

set_option maxRecDepth 40000 in
set_option maxHeartbeats 3000000 in
theorem invO_any (A : Option Addr) (n c : Nat) (L : Nat → Nat) (G : Nat → Nat → Fin 256) (w : World) (hn : n ≤ 9223372036854775807) (hL : ∀ i, i < n → L i ≤ 9223372036854775807) (hA : ME w A n L (fun i j => (G i j).val)) :
    Calls Try.prog 59 #[.slice A n c] w fun e w' => ∃ (er : Int) (X : Nat → Nat → Fin 256) (Av : Option Addr) (cv : Nat), e = .returned (.tuple #[.slice Av (if er = 0 then n else 0) cv, .int .i64 er]) ∧ InvP gE n L G er X ∧ Below w.heap.size w w' ∧ OM w w' Av cv (if er = 0 then n else 0) ∧ ME w' Av (if er = 0 then n else 0) (fun _ => n) (fun i j => (X i j).val) := by
  have CA := Lib.hid (faultE_any A n c L w hn hL hA.top)
  by_cases hf : faultE n L = 0
  · have HF := Lib.hid hf
    rw [hf] at CA
    have CC := Lib.hid (columnsE_any A n c L w hA.top)
    have hn5 := (faultE_ok hf).1
    by_cases hc : colsN n L = n
    · have HC := Lib.hid hc
      have hA' : ME w A n (fun _ => n) (fun i j => (G i j).val) := by
        obtain ⟨SA, KA, h1, h2⟩ := hA
        exact ⟨SA, KA, h1.congr fun i hi => by rw [colsN_len hf i hi, hc], fun i hi => by have := h2 i hi; rw [colsN_len hf i hi, hc] at this; exact this⟩
      have CO := Lib.hid (oneE_any A n c n G w (by omega) (by omega) hA')
      have HA := Lib.hid hA'
      rw [hc] at CC
      clear hf hc hA hA' hL
      go_enter Try.func59, Try.ntmps59
      go_wp2_with fail
      refine CA.out.mono ?_
      rintro e w1 ⟨rfl, rfl⟩
      go_wp2_with fail
      refine CC.out.mono ?_
      rintro e w1 ⟨rfl, rfl⟩
      go_wp2_with fail
      refine CO.out.mono ?_
      rintro e w4 ⟨y, ok, rfl, hone, hb4⟩
      clear CA CC CO
      have HONE := Lib.hid hone; clear hone
      by_cases hbad : ok = false ∧ 0 < n
      · obtain ⟨rfl, hpos⟩ := hbad
        have t1 : decide ((n : Int) > 0) = true := by simp; omega
        go_wp2
        go_ret2
        rcases HONE.out with ⟨h1, _⟩ | ⟨_, _, h2⟩
        · cases h1
        · exact ⟨32, fun _ _ => gE.z, none, 0, rfl, .inr (.inr (.inl ⟨HF.out, HC.out, free_ne h2 hpos, rfl⟩)), hb4, OM.nil _ _, RdM.zero _ _ _ _⟩
      · have hok : ok = true ∨ n = 0 := by
          cases ok
          · exact .inr (by simp at hbad; omega)
          · exact .inl rfl
        have HY : Hid (∀ i j, i < n → j < n + n → gE.aug n G i j = bsd n (G i) (fun j => if i = j then y else gE.z) j) := fun i j hi _ => by
          rcases HONE.out with ⟨_, h2, _⟩ | ⟨h1, _, _⟩
          · subst h2; rfl
          · rcases hok with h | h
            · rw [h] at h1; cases h1
            · omega
        have HOK := Lib.hid hok
        clear hbad hok HONE
        have key : ok = true ∨ (ok = false ∧ n = 0) := by
          rcases HOK.out with h | h
          · exact .inl h
          · cases ok
            · exact .inr ⟨rfl, h⟩
            · exact .inl rfl
        clear HOK
        have t0 : ok = true ∨ (ok = false ∧ n ≤ 0) := by
          rcases key with h | ⟨h1, h2⟩
          · exact .inl h
          · exact .inr ⟨h1, by omega⟩
        clear key
        skip
        have hz4 := hb4.size
        rcases t0 with rfl | ⟨rfl, t1⟩
        · go_wp2_with fail
          refine (identE n _ _ (by omega)).mono ?_
          rintro e w5 ⟨bi, Si, rfl, hMi, hb5⟩
          have hI : ME w5 (some ⟨bi, 0, none⟩) n (fun _ => n) (fun i j => (if i = j then y else gE.z : Fin 256).val) := (hMi.congr (g := fun i j => vE (if i = j then y else gE.z)) fun i j _ _ => by split <;> rfl).rdm
          have HB5 := Lib.hid (hb4.trans (hb5.mono hz4))
          clear hMi hb4 hb5 hz4
          go_wp2_with fail
          refine (besideE_any A (some ⟨bi, 0, none⟩) n c n n n G (fun i j => (if i = j then y else gE.z : Fin 256)) w5 (by omega) (by omega) (by omega) (ME.below HA.out HB5.out) hI).mono ?_
          rintro e w6 ⟨bm, S6, rfl, hM6, hb6⟩
          clear hI
          go_wp2_with fail
          refine (clE_any bm n n (n + n) n w5.heap.size S6 (fun i => bsd n (G i) (fun j => if i = j then y else gE.z)) w6 (by omega) (by omega) (by omega) hM6).mono ?_
          rintro e w7 ⟨Sm, G', st, p, rfl, hM7, hRR, hb7⟩
          have HRR : Hid (gE.RR n (n + n) n (gE.aug n G) G' st p) := Fd.RR.congrG hRR HY.out
          have hb57 : Below w5.heap.size w5 w7 := hb6.trans hb7
          have HB7 := Lib.hid (HB5.out.trans (hb57.mono HB5.out.size))
          have hst := hRR.le
          clear hM6 hRR hb6 hb7 HY hb57
          by_cases hfull : st = n
          · have hge : ¬ st < n := by omega
            have HRF : Hid (gE.RR n (n + n) n (gE.aug n G) G' n p) := by rw [← hfull]; rw [hfull]; rw [hfull] at HRR; exact HRR.out
            clear hfull HRR
            go_wp2_with (go_at_call 79; (with_reducible refine (zerosE n n _ (by omega) (by omega)).mono ?_); rintro e w8 ⟨rfl, hMz, hb8⟩)
            have HM7 := Lib.hid hM7
            clear hM7
            go_loopg [12, 54] n (fun gk _ i wr => ∃ k : Nat, k ≤ n ∧ gk = n - k ∧ i = .int .i64 k ∧ Below w7.heap.size w7 wr ∧ Mx wr w7.heap.size w7.heap.size 62 34 n (fun i => w7.heap.size + 1 + i) n n (fun i => if i < k then (fun j => vE ((fun j => G' i (n + j)) j)) else fun _ => .int .u8 0))
            case atStart => exact ⟨0, Nat.zero_le _, rfl, rfl, hb8, hMz.congr fun i j _ _ => by simp⟩
            case round =>
              clear hMz hb8
              obtain ⟨k, hk, rfl, rfl, hbel, hM⟩ := hrel
              by_cases hlt : k < n
              · have hm7 := HM7.out.keep hbel
                have hto := hM.top.cell hlt
                have htm := hm7.top.cell hlt
                have hlo : w7.heap.size < wr.heap.size := hM.top.lt
                have hlm : bm < wr.heap.size := hm7.top.lt
                have hneo : bm ≠ w7.heap.size + 1 + k := by have := HM7.out.top.lt; omega
                have KS : Hid (∀ w4, wr.grownBy w4 (some (w7.heap.size + 1 + k)) → w4.cell? ⟨w7.heap.size, k, none⟩ = some (.slice (some ⟨w7.heap.size + 1 + k, 0, none⟩) n n) ∧ w4.cell? ⟨bm, k, none⟩ = some (.slice (some ⟨Sm k, 0, none⟩) (n + n) (n + n))) := fun w4 hg => ⟨(grown_cell hg hlo (by simp; omega)).trans hto, (grown_cell hg hlm (by simp; exact hneo)).trans htm⟩
                have HM := Lib.hid hM; have HB := Lib.hid hbel
                have HSR : Hid (Rd wr.drew (some ⟨Sm k, n, none⟩) (n * 1) (fun j => vE ((fun j => G' k (n + j)) j))) := fun j hj => ⟨Sm k, n, rfl, (hm7.row k hlt).lt, by
                  have h := (hm7.row k hlt).cell (i := n + j) (by omega)
                  exact h⟩
                have hs1 : (0 : Int) ≤ (n : Int) := by omega
                have hs2 : (n : Int) ≤ (n : Int) + (n : Int) := by omega
                have hs3 : (n : Int) ≤ ((n + n : Nat) : Int) := by omega
                have hs4 : (0 : Int) < (n : Int) := by omega
                clear hM hbel hm7
                go_wp2_with fail
                clear hto htm
                refine wp_region_mix [(true, true, false), (true, true, false), (true, true, false), (true, true, true), (true, true, false), (true, true, false), (true, true, false), (true, true, true), (true, true, false), (true, true, false), (false, false, false)] mixed (by kernel_rfl) (fun w4 => w4.cell? ⟨w7.heap.size, k, none⟩ = some (.slice (some ⟨w7.heap.size + 1 + k, 0, none⟩) n n) ∧ w4.cell? ⟨bm, k, none⟩ = some (.slice (some ⟨Sm k, 0, none⟩) (n + n) (n + n))) (KS.out _ (grown_drew _ _)) ?_
                intro hSw0
                simp only [hdM, tlM, List.cons_append, List.nil_append]
                repeat (first
                  | (refine mix_look hSw0.out ?_ (by rfl) (fun w4 hSw => ?_) ?_; rotate_left; (focus (obtain ⟨s1, s2⟩ := hSw; go_simp; try with_reducible rfl)); simp only [Act.put, List.setIfInBounds_toArray, List.set_cons_zero, List.set_cons_succ])
                  | (refine mix_pure ?_ (by rfl) (fun w4 => ?_) ?_; rotate_left; (focus (go_simp; try with_reducible rfl)); simp only [Act.put, List.setIfInBounds_toArray, List.set_cons_zero, List.set_cons_succ]))
                have hs5 : n + n - n = n := by omega
                refine mix_step (fun K hK => ?_)
                refine step_copyAll rfl (.tmp 60) (.tmp 66) 62 62 rfl 34 1 (w7.heap.size + 1 + k) n n n (some ⟨Sm k, n, none⟩) 34 (((fun i => if i < k then (fun j => vE ((fun j => G' i (n + j)) j)) else fun _ => .int .u8 0) : Nat → Nat → Value) k) (fun j => vE ((fun j => G' k (n + j)) j)) Try.underlying62 szE rfl (by show Value.slice _ _ _ = Value.slice _ _ _; rw [if_neg (by omega)]) (by rw [Nat.mul_one]; exact (HM.out.row k hlt).drew) HSR.out (fun _ _ => rfl) ?_
                intro w9 hr9 hg9
                rw [Nat.mul_one] at hr9
                have hG9 := (grown_drew wr (some (w7.heap.size + 1 + k))).trans hg9
                refine hK.out _ _ (fun _ _ => KS.out _ hG9) ?_
                clear hK K
                try simp only [Act.put, List.setIfInBounds_toArray, List.set_cons_zero, List.set_cons_succ]
                refine mix_nil ?_
                have hM9 := (HM.out.rowSet (i := k) hlt hr9 hG9).congr (g := (fun i => if i < k + 1 then (fun j => vE ((fun j => G' i (n + j)) j)) else fun _ => .int .u8 0)) fun i j _ _ => by
                  by_cases e : i = k
                  · subst e; simp
                  · by_cases e2 : i < k
                    · simp [e, e2, show i < k + 1 by omega]
                    · simp [e, e2, show ¬ i < k + 1 by omega]
                have hb9 := HB.out.grown hG9 HB.out.size (fun q hq => by injection hq with hq; omega)
                have HM9 := Lib.hid hM9; have HB9 := Lib.hid hb9
                clear KS HM HB HSR hr9 hg9 hG9 hM9 hb9 hs1 hs2 hs3 hs4 hs5
                go_wp2
                go_roundg (n - (k + 1))
                case measure => omega
                case rel => exact ⟨k + 1, by omega, rfl, by go_num, HB9.out, HM9.out⟩
              · have : k = n := by omega
                subst this
                have HMX := Lib.hid (hM.congr (g := (fun i j => vE (G' i (k + j)))) fun i j hi hj => by simp only [hi, if_true])
                have HBX := Lib.hid (HB7.out.trans (hbel.mono HB7.out.size))
                clear hM hbel
                go_wp2
                go_ret2
                exact ⟨0, fun i j => G' i (k + j), some ⟨w7.heap.size, 0, none⟩, k, rfl, .inr (.inr (.inr ⟨HF.out, HC.out, rfl, G', p, HRF.out, fun _ _ => rfl⟩)), HBX.out, HMX.out.om HB7.out.size (by omega) (by omega), HMX.out.rdm⟩
          · have hlt : st < n := by omega
            have HNF : Hid (¬ gE.Free n n G) := fun hf => hfull ((HRR.out.full_iff (by omega)).2 (Fd.free_aug.2 hf))
            clear hM7 hfull
            go_wp2
            go_ret2
            exact ⟨32, fun _ _ => gE.z, none, 0, rfl, .inr (.inr (.inl ⟨HF.out, HC.out, HNF.out, rfl⟩)), HB7.out, OM.nil _ _, RdM.zero _ _ _ _⟩
        · go_wp2_with fail
          refine (identE n _ _ (by omega)).mono ?_
          rintro e w5 ⟨bi, Si, rfl, hMi, hb5⟩
          have hI : ME w5 (some ⟨bi, 0, none⟩) n (fun _ => n) (fun i j => (if i = j then y else gE.z : Fin 256).val) := (hMi.congr (g := fun i j => vE (if i = j then y else gE.z)) fun i j _ _ => by split <;> rfl).rdm
          have HB5 := Lib.hid (hb4.trans (hb5.mono hz4))
          clear hMi hb4 hb5 hz4
          go_wp2_with fail
          refine (besideE_any A (some ⟨bi, 0, none⟩) n c n n n G (fun i j => (if i = j then y else gE.z : Fin 256)) w5 (by omega) (by omega) (by omega) (ME.below HA.out HB5.out) hI).mono ?_
          rintro e w6 ⟨bm, S6, rfl, hM6, hb6⟩
          clear hI
          go_wp2_with fail
          refine (clE_any bm n n (n + n) n w5.heap.size S6 (fun i => bsd n (G i) (fun j => if i = j then y else gE.z)) w6 (by omega) (by omega) (by omega) hM6).mono ?_
          rintro e w7 ⟨Sm, G', st, p, rfl, hM7, hRR, hb7⟩
          have HRR : Hid (gE.RR n (n + n) n (gE.aug n G) G' st p) := Fd.RR.congrG hRR HY.out
          have hb57 : Below w5.heap.size w5 w7 := hb6.trans hb7
          have HB7 := Lib.hid (HB5.out.trans (hb57.mono HB5.out.size))
          have hst := hRR.le
          clear hM6 hRR hb6 hb7 HY hb57
          by_cases hfull : st = n
          · have hge : ¬ st < n := by omega
            have HRF : Hid (gE.RR n (n + n) n (gE.aug n G) G' n p) := by rw [← hfull]; rw [hfull]; rw [hfull] at HRR; exact HRR.out
            clear hfull HRR
            go_wp2_with (go_at_call 79; (with_reducible refine (zerosE n n _ (by omega) (by omega)).mono ?_); rintro e w8 ⟨rfl, hMz, hb8⟩)
            have HM7 := Lib.hid hM7
            clear hM7
            go_loopg [12, 54] n (fun gk _ i wr => ∃ k : Nat, k ≤ n ∧ gk = n - k ∧ i = .int .i64 k ∧ Below w7.heap.size w7 wr ∧ Mx wr w7.heap.size w7.heap.size 62 34 n (fun i => w7.heap.size + 1 + i) n n (fun i => if i < k then (fun j => vE ((fun j => G' i (n + j)) j)) else fun _ => .int .u8 0))
            case atStart => exact ⟨0, Nat.zero_le _, rfl, rfl, hb8, hMz.congr fun i j _ _ => by simp⟩
            case round =>
              clear hMz hb8
              obtain ⟨k, hk, rfl, rfl, hbel, hM⟩ := hrel
              by_cases hlt : k < n
              · exfalso; omega
              · have : k = n := by omega
                subst this
                have HMX := Lib.hid (hM.congr (g := (fun i j => vE (G' i (k + j)))) fun i j hi hj => by simp only [hi, if_true])
                have HBX := Lib.hid (HB7.out.trans (hbel.mono HB7.out.size))
                clear hM hbel
                go_wp2
                go_ret2
                exact ⟨0, fun i j => G' i (k + j), some ⟨w7.heap.size, 0, none⟩, k, rfl, .inr (.inr (.inr ⟨HF.out, HC.out, rfl, G', p, HRF.out, fun _ _ => rfl⟩)), HBX.out, HMX.out.om HB7.out.size (by omega) (by omega), HMX.out.rdm⟩
          · have hlt : st < n := by omega
            have HNF : Hid (¬ gE.Free n n G) := fun hf => hfull ((HRR.out.full_iff (by omega)).2 (Fd.free_aug.2 hf))
            clear hM7 hfull
            go_wp2
            go_ret2
            exact ⟨32, fun _ _ => gE.z, none, 0, rfl, .inr (.inr (.inl ⟨HF.out, HC.out, HNF.out, rfl⟩)), HB7.out, OM.nil _ _, RdM.zero _ _ _ _⟩
    · have HC := Lib.hid hc
      have t1 : ((colsN n L : Int) != (n : Int)) = true := by rw [bne_iff_ne]; omega
      clear hf hc hA hL
      go_enter Try.func59, Try.ntmps59
      go_wp2_with fail
      refine CA.out.mono ?_
      rintro e w1 ⟨rfl, rfl⟩
      go_wp2_with fail
      refine CC.out.mono ?_
      rintro e w1 ⟨rfl, rfl⟩
      clear CA CC
      go_wp2
      go_ret2
      exact ⟨31, fun _ _ => gE.z, none, 0, rfl, .inr (.inl ⟨HF.out, HC.out, rfl⟩), Below.refl _ _, OM.nil _ _, RdM.zero _ _ _ _⟩
  · have HF := Lib.hid hf
    have t1 : (faultE n L != 0) = true := by simpa using hf
    have he : (if faultE n L = 0 then n else 0) = 0 := if_neg hf
    have HE := Lib.hid he
    clear hf hA hL he
    go_enter Try.func59, Try.ntmps59
    go_wp2_with fail
    refine CA.out.mono ?_
    rintro e w1 ⟨rfl, rfl⟩
    clear CA
    go_wp2
    go_ret2
    exact ⟨faultE n L, fun _ _ => gE.z, none, 0, by rw [HE.out]; rfl, .inl ⟨HF.out, rfl⟩, Below.refl _ _, by rw [HE.out]; exact OM.nil _ _, by rw [HE.out]; exact RdM.zero _ _ _ _⟩
end Go.Proofs.Ytpocjpodeahanaa

/- Several owned matrices, each in an interval of blocks of its own: apart says yes. Conditions: at most 100 matrices of at most 255 rows. -/
namespace Go.Proofs.Ytpocjpodeahanaa
open Go.RowKit

theorem Own.only {w w' : World} {B e sz n : Nat} {v : Value} {f : Nat → List Value} {X : Nat → Prop} (h : Own w B e sz v n f) (ho : Only X w w') (hX : ∀ k, X k → k < B) : Own w' B e sz v n f :=
  ho.own h fun k hk hx => by have := hX k hx; have := (h.lt k hk).1; omega
theorem AR.only {w w' : World} {B e : Nat} {U X : Nat → Prop} {R : List Rw} (h : AR w B e U R) (ho : Only X w w') (hX : ∀ k, X k → k < B) : AR w' B e U R := ⟨fun r hr => (h.row r hr).only ho hX, h.apart, h.inU⟩
theorem OwnR.only {w w' : World} {B e : Nat} {v : Value} {X : Nat → Prop} {R : List Rw} (h : OwnR w B e v R) (ho : Only X w w') (hX : ∀ k, X k → k < B) : OwnR w' B e v R := OwnR.of (h.own.only ho hX)
theorem Rmy.far {w3 w w' : World} {B P n cM cR : Nat} {AM AQ : Option Addr} {S C L : Nat → Nat} {g g0 : Nat → Nat → Nat} (h0 : Rmy w3 B n AM AQ cM cR S C L g0) (h : Rmy w B n AM AQ cM cR S C L g) (hb : Below P w w') (hP : w3.heap.size ≤ P) : Rmy w' B n AM AQ cM cR S C L g :=
  ⟨h.mtop.blkX fun k hk => hb.block k (Nat.lt_of_lt_of_le (h0.mtop.lt k hk).2 hP), h.rtop.blkX fun k hk => hb.block k (Nat.lt_of_lt_of_le (h0.rtop.lt k hk).2 hP), fun i hi => (h.row i hi).blkX fun k hk => hb.block k (Nat.lt_of_lt_of_le ((h0.row i hi).lt k hk).2 hP), h.mark.blkX fun k hk => hb.block k (Nat.lt_of_lt_of_le (h0.mark.lt k hk).2 hP), h.inj, h.len⟩
theorem Rmy.only {w w' : World} {B n cM cR : Nat} {AM AQ : Option Addr} {S C L : Nat → Nat} {g : Nat → Nat → Nat} {X : Nat → Prop} (h : Rmy w B n AM AQ cM cR S C L g) (ho : Only X w w') (hX : ∀ k, X k → k < B) : Rmy w' B n AM AQ cM cR S C L g :=
  ⟨h.mtop.only ho hX, h.rtop.only ho hX, fun i hi => (h.row i hi).only ho hX, h.mark.only ho hX, h.inj, h.len⟩
/-- The matrix Av: the rows R, owned, all its blocks in lo ≤ q < hi. -/
def OMa (W : World) (lo hi : Nat) (Av : Option Addr) (cv k : Nat) (R : List Rw) : Prop :=
  R.length = k ∧ OwnR W lo 62 (.slice Av R.length cv) R ∧ AR W lo 34 (fun q => lo ≤ q ∧ q < hi) R ∧ (∀ r ∈ R, r.n ≤ 255) ∧ ∀ b o, Av = some ⟨b, o, none⟩ → lo ≤ b ∧ b < hi
theorem OM.a {w w' : World} {Av : Option Addr} {cv k : Nat} (h : OM w w' Av cv k) : ∃ R, OMa w' w.heap.size w'.heap.size Av cv k R := by
  obtain ⟨R, h1, h2, h3, h4⟩ := h
  refine ⟨R, h1, h2, h3, h4, fun b o e => ?_⟩
  have h5 := h2.own
  rw [e] at h5
  exact h5.lt b ((h5.off rfl).2)
theorem OMa.kept {W W' : World} {lo hi cv k : Nat} {Av : Option Addr} {R : List Rw} (h : OMa W lo hi Av cv k R) (hb : Below W.heap.size W W') : OMa W' lo hi Av cv k R := ⟨h.1, h.2.1.kept hb, h.2.2.1.kept hb, h.2.2.2.1, h.2.2.2.2⟩
theorem OMa.only {W W' : World} {lo hi cv k : Nat} {Av : Option Addr} {R : List Rw} {X : Nat → Prop} (h : OMa W lo hi Av cv k R) (ho : Only X W W') (hX : ∀ k, X k → k < lo) : OMa W' lo hi Av cv k R := ⟨h.1, h.2.1.only ho hX, h.2.2.1.only ho hX, h.2.2.2.1, h.2.2.2.2⟩
theorem steps_lt {N : Nat} {lo hi : Nat → Nat} (hlh : ∀ i, i < N → lo i ≤ hi i) (hs : ∀ i, i + 1 < N → hi i ≤ lo (i + 1)) : ∀ j i, i < j → j < N → hi i ≤ lo j
  | 0, i, h, _ => by omega
  | j + 1, i, h, hj => by
    by_cases e : i = j
    · subst e; exact hs i hj
    · have h1 := steps_lt hlh hs j i (by omega) (by omega)
      have h2 := hlh j (by omega)
      have h3 := hs j hj
      omega
theorem OMa.flat {W : World} {N B : Nat} {lo hi CM KM : Nat → Nat} {SM : Nat → Option Addr} {RLs : Nat → List Rw} (h : ∀ i, i < N → OMa W (lo i) (hi i) (SM i) (CM i) (KM i) (RLs i)) (hB : ∀ i, i < N → B ≤ lo i) (hd : ∀ j i, i < j → j < N → hi i ≤ lo j) :
    ∀ k, k ≤ N → AR W B 34 (fun q => ∃ i, i < k ∧ lo i ≤ q ∧ q < hi i) (flR RLs k)
  | 0, _ => AR.nil _ _ _ _
  | k + 1, hk => by
    rw [flR_next]
    refine (OMa.flat h hB hd k (by omega)).app ((h k (by omega)).2.2.1.monoB (hB k (by omega))) (fun q ⟨i, h1, h2, h3⟩ h4 => ?_) (fun q ⟨i, h1, h2, h3⟩ => ⟨i, by omega, h2, h3⟩) (fun q h1 => ⟨k, by omega, h1.1, h1.2⟩)
    have := hd k i h1 (by omega)
    omega
theorem flR_len {N : Nat} {RLs : Nat → List Rw} (h : ∀ i, i < N → (RLs i).length ≤ 255) : ∀ k, k ≤ N → (flR RLs k).length ≤ k * 255
  | 0, _ => by show List.length [] ≤ _; simp
  | k + 1, hk => by
    rw [flR_next, List.length_append]
    have h1 := flR_len h k (by omega)
    have h2 := h k (by omega)
    omega
theorem flR_mem {N : Nat} {RLs : Nat → List Rw} {r : Rw} (h : r ∈ flR RLs N) : ∃ i, i < N ∧ r ∈ RLs i := by
  unfold flR at h
  obtain ⟨i, hi, hr⟩ := List.mem_flatMap.1 h
  exact ⟨i, List.mem_range.1 hi, hr⟩
set_option maxHeartbeats 1000000 in
theorem apartO (w : World) (N B : Nat) (lo hi CM KM : Nat → Nat) (SM : Nat → Option Addr) (RLs : Nat → List Rw) (C : Array Value) (hN : N ≤ 100) (h : ∀ i, i < N → OMa w (lo i) (hi i) (SM i) (CM i) (KM i) (RLs i)) (hK : ∀ i, i < N → KM i ≤ 255)
    (hB : ∀ i, i < N → B ≤ lo i) (hlh : ∀ i, i < N → lo i ≤ hi i) (hs : ∀ i, i + 1 < N → hi i ≤ lo (i + 1)) (hH : ∀ i, i < N → hi i ≤ w.heap.size) (hBw : B ≤ w.heap.size) (hC : C.toList = (List.range N).map fun i => .slice (SM i) (KM i) (CM i)) :
    Calls Try.prog 66 #[.slice (some ⟨w.heap.size, 0, none⟩) N N] (w.alloc (.cells C 31)) fun e w' => e = .returned (.bool true) ∧ Only (fun k => B ≤ k) w w' := by
  have hd := steps_lt hlh hs
  have hlen : ∀ i, i < N → (RLs i).length ≤ 255 := fun i hi => by rw [(h i hi).1]; exact hK i hi
  have hblk : ∀ i, i < N → ∀ k o, SM i = some ⟨k, o, none⟩ → lo i ≤ k ∧ k < hi i := fun i hi k o e => (h i hi).2.2.2.2 k o e
  have hal : Below w.heap.size w (w.alloc (.cells C 31)) := (Below.refl _ _).alloc (Nat.le_refl _) _
  have hsz : (w.alloc (.cells C 31)).heap.size = w.heap.size + 1 := by simp
  have hL1 : ((List.range N).map fun i => (⟨SM i, KM i, CM i, fun _ => undef⟩ : Rw)).length = N := by simp
  have hT := (OwnR.made w 31 C N ((List.range N).map fun i => ⟨SM i, KM i, CM i, fun _ => undef⟩) (by rw [hC, List.map_map]; rfl) hL1.symm (by rw [hL1]; unfold maxLen; omega)).own
  rw [hL1] at hT
  have hT2 : Own (w.alloc (.cells C 31)) w.heap.size 31 1 (.slice (some ⟨w.heap.size, 0, none⟩) N N) N (fun i => [.slice (SM i) (RLs i).length (CM i)]) := hT.congr fun i hi => by
    rw [getD_mapR hi, (h i hi).1]
  have hM : ∀ i, i < N → Own (w.alloc (.cells C 31)) B 62 1 (.slice (SM i) (RLs i).length (CM i)) (RLs i).length (fun j => [((RLs i).getD j rw0).v]) := fun i hi => ((h i hi).2.1.own.kept hal).mono (hB i hi)
  refine (apart3_any (some ⟨w.heap.size, 0, none⟩) N N SM CM RLs (fun q => ∃ i, i < N ∧ lo i ≤ q ∧ q < hi i) w.heap.size B B (w.alloc (.cells C 31)) hN (fun i hi => by have := hlen i hi; omega) (by have := flR_len hlen N (Nat.le_refl _); omega)
    (fun r hr => by obtain ⟨i, hi, hr⟩ := flR_mem hr; have := (h i hi).2.2.2.1 r hr; omega) hT2 hM ?_ ((OMa.flat h hB hd N (Nat.le_refl _)).kept hal) (by omega) (by omega) (fun k ⟨i, h1, _, h3⟩ => by have := hH i h1; omega)).mono ?_
  · intro s t hs' ht k o o' es et
    have h1 := hblk s hs' k o es
    have h2 := hblk t ht k o' et
    rcases Nat.lt_trichotomy s t with h3 | h3 | h3
    · have := hd t s h3 ht; omega
    · exact h3
    · have := hd s t h3 hs'; omega
  · rintro e w' ⟨rfl, ho⟩
    refine ⟨rfl, ((Only.refl _ w).below hal).trans' ho fun k hk => ?_⟩
    rcases hk with ⟨i, h1, h2, _⟩ | ⟨t, o, ht, es⟩
    · have := hB i h1; omega
    · have := hB t ht; have := (hblk t ht k o es).1; omega
end Go.Proofs.Ytpocjpodeahanaa
