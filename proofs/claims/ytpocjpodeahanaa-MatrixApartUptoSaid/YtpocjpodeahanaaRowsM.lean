/- Rows of a matrix: the three of matrix and the reference's. Conditions: the matrix and the indices lie in memory. -/
import Derived.Test.YtpocjpodeahanaaMat2
import Derived.Test.YtpocjpodeahanaaZid
import Derived.OwnWalk
namespace Go.Proofs.Ytpocjpodeahanaa
open Go.RowKit

section
variable {P : Program}
theorem run_nil_nil (w : World) (t ty e : TypeId) (i : TypeInfo) (ht : P.underlying t = some (.slice e)) (hi : P.info? e = some i) (c : Nat) :
    (Builtin.append_ #[t, t] ty #[.slice none 0 0, .slice none 0 c]).run P w = .ok (.slice none 0 0) w := by
  simp [Builtin.append_, run_underlying ht, sizeOf, typeInfo, hi, Builtin.lenOf, Builtin.firstCells]
/-- 'append(nil, row...)', elements of one cell, the row read. -/
theorem wpList_appendRd {w : World} {ops : Array Oper} {rest : List Oper} {o : Oper} {a : Act} {Q : Exit → Act → World → Prop} (hgd : o.guard = none) (s x : Operand) (t : TypeId)
    (ho : o.op = .call { callee := .builtin .append, args := #[s, x], argTypes := #[t, t] }) (B e bytes : Nat) (z : Value) (ht : P.underlying t = some (.slice e))
    (hinfo : (P.info? e).map (fun i => (i.zero, i.size, i.bytes)) = some (some z, 1, bytes)) (hzs : z.cells.size = 1) (hs : a.eval s = .slice none 0 0) (hB : B ≤ w.heap.size) (A : Option Addr) (m c : Nat) (f : Nat → Value)
    (hx : a.eval x = .slice A m c) (hr : Rd w A m f) (h1 : ∀ j, j < m → (f j).oneCell' = true) (hm : m ≤ 1000000000000000000) (hbytes : m * bytes ≤ 140737488355328)
    (h : ∀ v' w', Own w' B e 1 v' m (fun j => [f j]) → Below B w w' → wpList P ops Q rest (a.put o.dst v') w') : wpList P ops Q (o :: rest) a w := by
  obtain ⟨i0, hi, hz0, hz1, hz2⟩ := info_parts hinfo
  have hfl : ∀ (n : Nat), ((List.range n).flatMap fun j => [f j]) = (List.range n).map f := fun n => flat1 n f
  rcases A with _ | ad
  · have hm0 : m = 0 := by
      rcases Nat.eq_zero_or_pos m with h0 | h0
      · exact h0
      · obtain ⟨b, o, e1, _⟩ := hr 0 h0; cases e1
    subst hm0
    refine wpList_plain hgd fun K hK => ?_
    have hrun := run_nil_nil (P := P) w t o.type e i0 ht hi c
    unfold Oper.wp
    simp [execOp, ho, resolve, invoke, builtin, hs, hx, hrun, Result.andThen]
    exact hK _ _ (h _ w (Own.nil _ _ _ _ _) (Below.refl _ _))
  · refine wpList_append_own w hgd s x t ho B e i0 z 1 bytes ht hi hz0 hz1 hz2 hzs (by omega) (.slice none 0 0) 0 [] hs ⟨by simp, .inl ⟨rfl, rfl⟩⟩ ad m c ((List.range m).map f) hx (by simp) ?_ ?_ (by simp only [maxLen]; omega) (by rw [Nat.zero_add]; exact hbytes) hB ?_
    · intro j u hu
      have hlt : j < m := by have := (List.getElem?_eq_some_iff.1 hu).1; simpa using this
      obtain ⟨b', o', e1, _, hc⟩ := hr j hlt
      injection e1 with e1; subst e1
      have hadd : (⟨b', o', none⟩ : Addr).add j = ⟨b', o' + j, none⟩ := by unfold Addr.add; split <;> simp_all
      rw [hadd, hc]; simpa [hlt] using hu
    · intro u hu
      obtain ⟨j, hj, rfl⟩ := List.mem_map.1 hu
      exact h1 j (List.mem_range.1 hj)
    · intro v' w' hown hg _
      refine h v' w' ?_ ((Below.refl _ _).grown hg hB (by simp [Value.ownBlock]))
      unfold Own; rw [hfl]; simpa using hown
end

theorem elemSZ : (Try.prog.info? 34).map (·.size) = some 1 := by kernel_rfl
theorem bitSZ : (Try.prog.info? 40).map (·.size) = some 1 := by kernel_rfl
theorem fourSZ : (Try.prog.info? 47).map (·.size) = some 2 := by kernel_rfl
/-- What Rows answers, p of the m indices good. -/
def RowsOut (B tR e sz n m p : Nat) (t : Nat → Int) (L : Nat → Nat) (f : Nat → Nat → List Value) (w : World) (x : Ending) (w' : World) : Prop :=
  (p = m → ∃ v S C, x = .returned (.tuple #[v, .int .i64 0]) ∧ OwnQ w' B tR e sz v m S C (fun i => L (t i).toNat) (fun i j => f (t i).toNat j)) ∧ (p < m → x = .returned (.tuple #[.slice none 0 0, .int .i64 2])) ∧ Below B w w'

set_option maxRecDepth 20000 in
set_option maxHeartbeats 1000000 in
theorem rowsE (A At : Option Addr) (n m p cA cAt : Nat) (L : Nat → Nat) (g : Nat → Nat → Nat) (t : Nat → Int) (w : World) (hf : faultE n L = 0) (hm : m ≤ 255) (hp : p ≤ m) (hA : ME w A n L g) (hAt : Rd w At m (fun i => .int .i64 (t i)))
    (hgood : ∀ i, i < p → 0 ≤ t i ∧ t i < n) (hbad : p < m → t p < 0 ∨ n ≤ t p) :
    Calls Try.prog 29 #[.slice A n cA, .slice At m cAt] w (RowsOut w.heap.size 62 34 1 n m p t L (fun i j => [.int .u8 (g i j)]) w) := by
  obtain ⟨hn, hl, -⟩ := faultE_ok hf
  have HB := Lib.hid hbad; clear hbad
  have HG := Lib.hid hgood; clear hgood
  have HL := Lib.hid hl; clear hl
  have HT := Lib.hid hA.top
  obtain ⟨SA, CA, hA1, hA2⟩ := hA
  have HF := Lib.hid hf; clear hf
  obtain ⟨i0, hi0, hz0, hz1, hz2⟩ := info_parts elemsInfo
  go_enter Try.func29, Try.ntmps29
  go_wp2_with fail
  refine (faultE_any A n cA L _ (by omega) (fun i hi => by have := HL.out i hi; omega) HT.out).mono ?_
  rintro e w1 ⟨rfl, rfl⟩
  have HF2 : faultE n L = 0 := HF.out
  rw [HF2]; clear HF2
  go_wp2_with (at_make; refine wpList_make_own _ rfl _ _ 31 rfl w.heap.size 62 i0 (.slice none 0 0) 1 Try.underlying31 hi0 hz0 hz1 .i64 .i64 _ m rfl rfl (by omega) (by rw [hz2]; omega) (by unfold maxLen; omega) (Nat.le_refl _) ?_)
  intro w2 hown2 hgr2
  have hb2 : Below w.heap.size w w2 := (Below.refl _ _).grown hgr2 (Nat.le_refl _) (by simp)
  clear hgr2 hi0 hz0 hz1 hz2
  go_wp2
  go_loopg [7, 9, 10, 24] m (fun gk v _ _ i wr => ∃ (k : Nat) (S : Nat → Option Addr) (C : Nat → Nat), k ≤ p ∧ gk = m - k ∧ i = .int .i64 k ∧ OwnQ wr w.heap.size 62 34 1 v k S C (fun i => L (t i).toNat) (fun i j => (fun i j => [.int .u8 (g i j)]) (t i).toNat j) ∧ Below w.heap.size w wr)
  case atStart => exact ⟨0, fun _ => none, fun _ => 0, Nat.zero_le _, rfl, rfl, ⟨hown2, fun i hi => absurd hi (by omega)⟩, hb2⟩
  case round =>
    obtain ⟨k, S, C, hk, rfl, rfl, hown, hbel⟩ := hrel
    have hsz := hbel.size
    by_cases hlt : k < p
    · obtain ⟨b, o, rfl, hb, hc⟩ := hAt k (by omega)
      have hc' : wr.cell? ⟨b, o + k, none⟩ = some (.int .i64 (t k)) := (hbel.cell hb).trans hc
      obtain ⟨hg0, hg1⟩ := HG.out k hlt
      obtain ⟨q, hq⟩ := Int.eq_ofNat_of_zero_le hg0
      rw [hq] at hc' hg1
      have hqn : q < n := by omega
      have hqt : (t k).toNat = q := by omega
      have HQ := Lib.hid hqt; clear hqt
      clear hg0 hg1 hq hc hAt
      obtain ⟨b2, o2, rfl, hb2, hc2⟩ := hA1 q hqn
      have hc2' : wr.cell? ⟨b2, o2 + q, none⟩ = some (.slice (SA q) (L q) (CA q)) := (hbel.cell hb2).trans hc2
      have hc2n : ∀ o, (wr.alloc o).cell? ⟨b2, o2 + q, none⟩ = some (.slice (SA q) (L q) (CA q)) := fun o => by rw [← hc2']; exact (((Below.refl wr.heap.size wr).alloc (Nat.le_refl _) o).cell (by have := hb2; simp; omega))
      have hrow := (hA2 q hqn).below hbel
      have hLq := HL.out q hqn
      have hqlt : (q : Int) < n := by omega
      clear hc2 hA2
      have hmk := run_make_row' (P := Try.prog) 62 34 (.int .u8 0) 1 Try.underlying62 elemInfo rfl .i64 .i64 (L q) (by omega) (by omega)
      have hkm : k < m := by omega
      have HLT := Lib.hid hlt; clear hlt
      go_wp2_with (refine wpList_copyAll rfl (.tmp 42) (.tmp 46) 62 62 rfl 34 1 wr.heap.size (L q) (L q) (CA q) (SA q) 34 (fun _ => (.int .u8 0)) (fun j => .int .u8 (g q j)) Try.underlying62 (elemSZ) rfl rfl (by rw [Nat.mul_one]; exact World.rowIs_made _ _ _ _) (by rw [Nat.mul_one]; exact hrow.below (((Below.refl _ _).alloc (Nat.le_refl _) _))) (fun _ _ => rfl) ?_)
      intro w3 hrow3 hgr3
      have hbel3 : Below wr.heap.size wr w3 := ((Below.refl _ _).alloc (Nat.le_refl _) _).grown hgr3 (by simp) (by intro k hk; cases hk; exact Nat.le_refl _)
      have hownB := (hown.kept hbel3).next (some ⟨wr.heap.size, 0, none⟩) (L q)
      have hown1' : Own w3 w.heap.size 34 1 (.slice (upd S k (some ⟨wr.heap.size, 0, none⟩) k) (L (t k).toNat) (upd C k (L q) k)) (L (t k).toNat) (fun j => (fun i j => [.int .u8 (g i j)]) (t k).toNat j) := by
        rw [upd_at, upd_at, HQ.out]; exact own_of_rowN (n := L q) (sz := 1) (f := fun j => .int .u8 (g q j)) (by rw [Nat.mul_one]; exact hrow3) (by rw [Nat.mul_one]; exact flat1 _ _) hsz (by unfold maxLen; omega)
      have hu : Hid ((#[Value.slice (some ⟨wr.heap.size, 0, none⟩) (L q) (L q)] : Array Value).toList = [.slice (upd S k (some ⟨wr.heap.size, 0, none⟩) k) (L (t k).toNat) (upd C k (L q) k)]) := by rw [upd_at, upd_at, HQ.out]; rfl
      have hbel3' := hbel.trans (hbel3.mono hsz)
      have hsz3 := hbel3'.size
      clear hown hbel3 hbel hc' hc2' hc2n hrow hrow3 hgr3 hmk
      go_wp2_with (at_builtin; refine wpList_push _ rfl (.tmp 48) (.tmp 50) 31 rfl w.heap.size 62 1 24 (.slice none 0 0) #[.slice (some ⟨wr.heap.size, 0, none⟩) (L q) (L q)] Try.underlying31 elemsInfo rfl (by decide) _ k _ rfl hownB.1 hsz3 _ rfl rfl hu.out rfl rfl (by omega) (by omega) ?_)
      intro v' w4 hown4 hbel4 hg4 _
      have hO := hownB.push (by decide) hown1' hown4 hg4
      have hbelF := hbel3'.trans hbel4
      clear hownB hown1' hown4 hg4 hbel4 hbel3'
      go_wp2
      go_roundg (m - (k + 1))
      case measure => omega
      case rel => exact ⟨k + 1, _, _, Nat.succ_le_of_lt HLT.out, rfl, by go_num, hO, hbelF⟩
    · have : k = p := by omega
      subst this
      by_cases hkm : k < m
      · obtain ⟨b, o, rfl, hb, hc⟩ := hAt k hkm
        have hc' : wr.cell? ⟨b, o + k, none⟩ = some (.int .i64 (t k)) := (hbel.cell hb).trans hc
        have hcon : RowsOut w.heap.size 62 34 1 n m k t L (fun i j => [.int .u8 (g i j)]) w (.returned (.tuple #[.slice none 0 0, .int .i64 2])) wr := ⟨fun h => absurd h (by omega), fun _ => rfl, hbel⟩
        have htk : t k < 0 ∨ n ≤ t k := HB.out hkm
        clear hc hlt hown
        rcases htk with h0 | h0
        · go_wp2
          go_ret2
          exact hcon
        · have h1 : ¬ t k < 0 := by omega
          have h2 : ¬ t k < n := by omega
          go_wp2
          go_ret2
          exact hcon
      · have : k = m := by omega
        subst this
        go_wp2
        go_ret2
        exact ⟨fun _ => ⟨_, _, _, rfl, hown⟩, fun h => absurd h (by omega), hbel⟩

theorem rowsE_fault (A At : Option Addr) (n m cA cAt : Nat) (L : Nat → Nat) (w : World) (hn : n ≤ 9223372036854775807) (hL : ∀ i, i < n → L i ≤ 9223372036854775807) (hT : Top w A n L) (hf : faultE n L ≠ 0) :
    Calls Try.prog 29 #[.slice A n cA, .slice At m cAt] w fun e w' => e = .returned (.tuple #[.slice none 0 0, .int .i64 (faultE n L)]) ∧ Below w.heap.size w w' := by
  have hcon := faultE_any A n cA L w hn hL hT
  generalize faultE n L = F at *
  have h0 : (F != 0) = true := by simpa using hf
  clear hf hT hL
  have HC := Lib.hid hcon; clear hcon
  go_enter Try.func29, Try.ntmps29
  go_wp2_with fail
  refine HC.out.mono ?_
  rintro e w1 ⟨rfl, rfl⟩
  go_wp2
  go_ret2
  exact ⟨rfl, Below.refl _ _⟩
theorem rowsE_big (A At : Option Addr) (n m cA cAt : Nat) (L : Nat → Nat) (w : World) (hn : n ≤ 9223372036854775807) (hL : ∀ i, i < n → L i ≤ 9223372036854775807) (hT : Top w A n L) (hf : faultE n L = 0) (hm : 255 < m) :
    Calls Try.prog 29 #[.slice A n cA, .slice At m cAt] w fun e w' => e = .returned (.tuple #[.slice none 0 0, .int .i64 3]) ∧ Below w.heap.size w w' := by
  go_enter Try.func29, Try.ntmps29
  go_wp2_with fail
  refine (faultE_any A n cA L _ hn hL hT).mono ?_
  rintro e w1 ⟨rfl, rfl⟩
  rw [hf]
  clear hf
  go_wp2
  go_ret2
  exact ⟨rfl, Below.refl _ _⟩

set_option maxRecDepth 20000 in
set_option maxHeartbeats 1000000 in
theorem rowsB (A At : Option Addr) (n m p cA cAt : Nat) (L : Nat → Nat) (g : Nat → Nat → Nat) (t : Nat → Int) (w : World) (hf : faultE n L = 0) (hm : m ≤ 255) (hp : p ≤ m) (hA : MB w A n L g) (hAt : Rd w At m (fun i => .int .i64 (t i)))
    (hgood : ∀ i, i < p → 0 ≤ t i ∧ t i < n) (hbad : p < m → t p < 0 ∨ n ≤ t p) :
    Calls Try.prog 31 #[.slice A n cA, .slice At m cAt] w (RowsOut w.heap.size 65 40 1 n m p t L (fun i j => [.bool (bB (g i j))]) w) := by
  obtain ⟨hn, hl, -⟩ := faultE_ok hf
  have HB := Lib.hid hbad; clear hbad
  have HG := Lib.hid hgood; clear hgood
  have HL := Lib.hid hl; clear hl
  have HT := Lib.hid hA.top
  obtain ⟨SA, CA, hA1, hA2⟩ := hA
  have HF := Lib.hid hf; clear hf
  obtain ⟨i0, hi0, hz0, hz1, hz2⟩ := info_parts bitsInfo
  go_enter Try.func31, Try.ntmps31
  go_wp2_with fail
  refine (faultB_any A n cA L _ (by omega) (fun i hi => by have := HL.out i hi; omega) HT.out).mono ?_
  rintro e w1 ⟨rfl, rfl⟩
  have HF2 : faultE n L = 0 := HF.out
  rw [HF2]; clear HF2
  go_wp2_with (at_make; refine wpList_make_own _ rfl _ _ 37 rfl w.heap.size 65 i0 (.slice none 0 0) 1 Try.underlying37 hi0 hz0 hz1 .i64 .i64 _ m rfl rfl (by omega) (by rw [hz2]; omega) (by unfold maxLen; omega) (Nat.le_refl _) ?_)
  intro w2 hown2 hgr2
  have hb2 : Below w.heap.size w w2 := (Below.refl _ _).grown hgr2 (Nat.le_refl _) (by simp)
  clear hgr2 hi0 hz0 hz1 hz2
  go_wp2
  go_loopg [7, 9, 10, 24] m (fun gk v _ _ i wr => ∃ (k : Nat) (S : Nat → Option Addr) (C : Nat → Nat), k ≤ p ∧ gk = m - k ∧ i = .int .i64 k ∧ OwnQ wr w.heap.size 65 40 1 v k S C (fun i => L (t i).toNat) (fun i j => (fun i j => [.bool (bB (g i j))]) (t i).toNat j) ∧ Below w.heap.size w wr)
  case atStart => exact ⟨0, fun _ => none, fun _ => 0, Nat.zero_le _, rfl, rfl, ⟨hown2, fun i hi => absurd hi (by omega)⟩, hb2⟩
  case round =>
    obtain ⟨k, S, C, hk, rfl, rfl, hown, hbel⟩ := hrel
    have hsz := hbel.size
    by_cases hlt : k < p
    · obtain ⟨b, o, rfl, hb, hc⟩ := hAt k (by omega)
      have hc' : wr.cell? ⟨b, o + k, none⟩ = some (.int .i64 (t k)) := (hbel.cell hb).trans hc
      obtain ⟨hg0, hg1⟩ := HG.out k hlt
      obtain ⟨q, hq⟩ := Int.eq_ofNat_of_zero_le hg0
      rw [hq] at hc' hg1
      have hqn : q < n := by omega
      have hqt : (t k).toNat = q := by omega
      have HQ := Lib.hid hqt; clear hqt
      clear hg0 hg1 hq hc hAt
      obtain ⟨b2, o2, rfl, hb2, hc2⟩ := hA1 q hqn
      have hc2' : wr.cell? ⟨b2, o2 + q, none⟩ = some (.slice (SA q) (L q) (CA q)) := (hbel.cell hb2).trans hc2
      have hc2n : ∀ o, (wr.alloc o).cell? ⟨b2, o2 + q, none⟩ = some (.slice (SA q) (L q) (CA q)) := fun o => by rw [← hc2']; exact (((Below.refl wr.heap.size wr).alloc (Nat.le_refl _) o).cell (by have := hb2; simp; omega))
      have hrow := (hA2 q hqn).below hbel
      have hLq := HL.out q hqn
      have hqlt : (q : Int) < n := by omega
      clear hc2 hA2
      have hmk := run_make_row' (P := Try.prog) 65 40 (.bool false) 1 Try.underlying65 bitInfo rfl .i64 .i64 (L q) (by omega) (by omega)
      have hkm : k < m := by omega
      have HLT := Lib.hid hlt; clear hlt
      go_wp2_with (refine wpList_copyAll rfl (.tmp 42) (.tmp 46) 65 65 rfl 40 1 wr.heap.size (L q) (L q) (CA q) (SA q) 40 (fun _ => (.bool false)) (fun j => .bool (bB (g q j))) Try.underlying65 (bitSZ) rfl rfl (by rw [Nat.mul_one]; exact World.rowIs_made _ _ _ _) (by rw [Nat.mul_one]; exact hrow.below (((Below.refl _ _).alloc (Nat.le_refl _) _))) (fun _ _ => rfl) ?_)
      intro w3 hrow3 hgr3
      have hbel3 : Below wr.heap.size wr w3 := ((Below.refl _ _).alloc (Nat.le_refl _) _).grown hgr3 (by simp) (by intro k hk; cases hk; exact Nat.le_refl _)
      have hownB := (hown.kept hbel3).next (some ⟨wr.heap.size, 0, none⟩) (L q)
      have hown1' : Own w3 w.heap.size 40 1 (.slice (upd S k (some ⟨wr.heap.size, 0, none⟩) k) (L (t k).toNat) (upd C k (L q) k)) (L (t k).toNat) (fun j => (fun i j => [.bool (bB (g i j))]) (t k).toNat j) := by
        rw [upd_at, upd_at, HQ.out]; exact own_of_rowN (n := L q) (sz := 1) (f := fun j => .bool (bB (g q j))) (by rw [Nat.mul_one]; exact hrow3) (by rw [Nat.mul_one]; exact flat1 _ _) hsz (by unfold maxLen; omega)
      have hu : Hid ((#[Value.slice (some ⟨wr.heap.size, 0, none⟩) (L q) (L q)] : Array Value).toList = [.slice (upd S k (some ⟨wr.heap.size, 0, none⟩) k) (L (t k).toNat) (upd C k (L q) k)]) := by rw [upd_at, upd_at, HQ.out]; rfl
      have hbel3' := hbel.trans (hbel3.mono hsz)
      have hsz3 := hbel3'.size
      clear hown hbel3 hbel hc' hc2' hc2n hrow hrow3 hgr3 hmk
      go_wp2_with (at_builtin; refine wpList_push _ rfl (.tmp 48) (.tmp 50) 37 rfl w.heap.size 65 1 24 (.slice none 0 0) #[.slice (some ⟨wr.heap.size, 0, none⟩) (L q) (L q)] Try.underlying37 bitsInfo rfl (by decide) _ k _ rfl hownB.1 hsz3 _ rfl rfl hu.out rfl rfl (by omega) (by omega) ?_)
      intro v' w4 hown4 hbel4 hg4 _
      have hO := hownB.push (by decide) hown1' hown4 hg4
      have hbelF := hbel3'.trans hbel4
      clear hownB hown1' hown4 hg4 hbel4 hbel3'
      go_wp2
      go_roundg (m - (k + 1))
      case measure => omega
      case rel => exact ⟨k + 1, _, _, Nat.succ_le_of_lt HLT.out, rfl, by go_num, hO, hbelF⟩
    · have : k = p := by omega
      subst this
      by_cases hkm : k < m
      · obtain ⟨b, o, rfl, hb, hc⟩ := hAt k hkm
        have hc' : wr.cell? ⟨b, o + k, none⟩ = some (.int .i64 (t k)) := (hbel.cell hb).trans hc
        have hcon : RowsOut w.heap.size 65 40 1 n m k t L (fun i j => [.bool (bB (g i j))]) w (.returned (.tuple #[.slice none 0 0, .int .i64 2])) wr := ⟨fun h => absurd h (by omega), fun _ => rfl, hbel⟩
        have htk : t k < 0 ∨ n ≤ t k := HB.out hkm
        clear hc hlt hown
        rcases htk with h0 | h0
        · go_wp2
          go_ret2
          exact hcon
        · have h1 : ¬ t k < 0 := by omega
          have h2 : ¬ t k < n := by omega
          go_wp2
          go_ret2
          exact hcon
      · have : k = m := by omega
        subst this
        go_wp2
        go_ret2
        exact ⟨fun _ => ⟨_, _, _, rfl, hown⟩, fun h => absurd h (by omega), hbel⟩

theorem rowsB_fault (A At : Option Addr) (n m cA cAt : Nat) (L : Nat → Nat) (w : World) (hn : n ≤ 9223372036854775807) (hL : ∀ i, i < n → L i ≤ 9223372036854775807) (hT : Top w A n L) (hf : faultE n L ≠ 0) :
    Calls Try.prog 31 #[.slice A n cA, .slice At m cAt] w fun e w' => e = .returned (.tuple #[.slice none 0 0, .int .i64 (faultE n L)]) ∧ Below w.heap.size w w' := by
  have hcon := faultB_any A n cA L w hn hL hT
  generalize faultE n L = F at *
  have h0 : (F != 0) = true := by simpa using hf
  clear hf hT hL
  have HC := Lib.hid hcon; clear hcon
  go_enter Try.func31, Try.ntmps31
  go_wp2_with fail
  refine HC.out.mono ?_
  rintro e w1 ⟨rfl, rfl⟩
  go_wp2
  go_ret2
  exact ⟨rfl, Below.refl _ _⟩
theorem rowsB_big (A At : Option Addr) (n m cA cAt : Nat) (L : Nat → Nat) (w : World) (hn : n ≤ 9223372036854775807) (hL : ∀ i, i < n → L i ≤ 9223372036854775807) (hT : Top w A n L) (hf : faultE n L = 0) (hm : 255 < m) :
    Calls Try.prog 31 #[.slice A n cA, .slice At m cAt] w fun e w' => e = .returned (.tuple #[.slice none 0 0, .int .i64 3]) ∧ Below w.heap.size w w' := by
  go_enter Try.func31, Try.ntmps31
  go_wp2_with fail
  refine (faultB_any A n cA L _ hn hL hT).mono ?_
  rintro e w1 ⟨rfl, rfl⟩
  rw [hf]
  clear hf
  go_wp2
  go_ret2
  exact ⟨rfl, Below.refl _ _⟩

set_option maxRecDepth 20000 in
set_option maxHeartbeats 1000000 in
theorem rowsF (A At : Option Addr) (n m p cA cAt : Nat) (L : Nat → Nat) (g : Nat → Nat → Nat) (t : Nat → Int) (w : World) (hf : faultE n L = 0) (hm : m ≤ 255) (hp : p ≤ m) (hA : MF w A n L g) (hAt : Rd w At m (fun i => .int .i64 (t i)))
    (hgood : ∀ i, i < p → 0 ≤ t i ∧ t i < n) (hbad : p < m → t p < 0 ∨ n ≤ t p) :
    Calls Try.prog 33 #[.slice A n cA, .slice At m cAt] w (RowsOut w.heap.size 68 47 2 n m p t L (fun i j => [.bool (f0 (g i j)), .bool (f1 (g i j))]) w) := by
  obtain ⟨hn, hl, -⟩ := faultE_ok hf
  have HB := Lib.hid hbad; clear hbad
  have HG := Lib.hid hgood; clear hgood
  have HL := Lib.hid hl; clear hl
  have HT := Lib.hid hA.top
  obtain ⟨SA, CA, hA1, hA2⟩ := hA
  have HF := Lib.hid hf; clear hf
  obtain ⟨i0, hi0, hz0, hz1, hz2⟩ := info_parts foursInfo
  go_enter Try.func33, Try.ntmps33
  go_wp2_with fail
  refine (faultF_any A n cA L _ (by omega) (fun i hi => by have := HL.out i hi; omega) HT.out).mono ?_
  rintro e w1 ⟨rfl, rfl⟩
  have HF2 : faultE n L = 0 := HF.out
  rw [HF2]; clear HF2
  go_wp2_with (at_make; refine wpList_make_own _ rfl _ _ 43 rfl w.heap.size 68 i0 (.slice none 0 0) 1 Try.underlying43 hi0 hz0 hz1 .i64 .i64 _ m rfl rfl (by omega) (by rw [hz2]; omega) (by unfold maxLen; omega) (Nat.le_refl _) ?_)
  intro w2 hown2 hgr2
  have hb2 : Below w.heap.size w w2 := (Below.refl _ _).grown hgr2 (Nat.le_refl _) (by simp)
  clear hgr2 hi0 hz0 hz1 hz2
  go_wp2
  go_loopg [7, 9, 10, 24] m (fun gk v _ _ i wr => ∃ (k : Nat) (S : Nat → Option Addr) (C : Nat → Nat), k ≤ p ∧ gk = m - k ∧ i = .int .i64 k ∧ OwnQ wr w.heap.size 68 47 2 v k S C (fun i => L (t i).toNat) (fun i j => (fun i j => [.bool (f0 (g i j)), .bool (f1 (g i j))]) (t i).toNat j) ∧ Below w.heap.size w wr)
  case atStart => exact ⟨0, fun _ => none, fun _ => 0, Nat.zero_le _, rfl, rfl, ⟨hown2, fun i hi => absurd hi (by omega)⟩, hb2⟩
  case round =>
    obtain ⟨k, S, C, hk, rfl, rfl, hown, hbel⟩ := hrel
    have hsz := hbel.size
    by_cases hlt : k < p
    · obtain ⟨b, o, rfl, hb, hc⟩ := hAt k (by omega)
      have hc' : wr.cell? ⟨b, o + k, none⟩ = some (.int .i64 (t k)) := (hbel.cell hb).trans hc
      obtain ⟨hg0, hg1⟩ := HG.out k hlt
      obtain ⟨q, hq⟩ := Int.eq_ofNat_of_zero_le hg0
      rw [hq] at hc' hg1
      have hqn : q < n := by omega
      have hqt : (t k).toNat = q := by omega
      have HQ := Lib.hid hqt; clear hqt
      clear hg0 hg1 hq hc hAt
      obtain ⟨b2, o2, rfl, hb2, hc2⟩ := hA1 q hqn
      have hc2' : wr.cell? ⟨b2, o2 + q, none⟩ = some (.slice (SA q) (L q) (CA q)) := (hbel.cell hb2).trans hc2
      have hc2n : ∀ o, (wr.alloc o).cell? ⟨b2, o2 + q, none⟩ = some (.slice (SA q) (L q) (CA q)) := fun o => by rw [← hc2']; exact (((Below.refl wr.heap.size wr).alloc (Nat.le_refl _) o).cell (by have := hb2; simp; omega))
      have hrow := (hA2 q hqn).below hbel
      have hLq := HL.out q hqn
      have hqlt : (q : Int) < n := by omega
      clear hc2 hA2
      have hmk := run_make_rowM (P := Try.prog) 68 47 (.agg #[.bool false, .bool false]) 2 2 Try.underlying68 fourInfo .i64 .i64 (L q) (by omega) (by omega)
      have hkm : k < m := by omega
      have HLT := Lib.hid hlt; clear hlt
      go_wp2_with (refine wpList_copyAll rfl (.tmp 42) (.tmp 46) 68 68 rfl 47 2 wr.heap.size (L q) (L q) (CA q) (SA q) 47 (fun _ => .bool false) (two (fun j => .bool (f0 (g q j))) (fun j => .bool (f1 (g q j)))) Try.underlying68 (fourSZ) rfl rfl (by exact rowIs_made2 _ _ _) (by exact hrow.cells.below (((Below.refl _ _).alloc (Nat.le_refl _) _))) (fun j _ => by unfold two; split <;> rfl) ?_)
      intro w3 hrow3 hgr3
      have hbel3 : Below wr.heap.size wr w3 := ((Below.refl _ _).alloc (Nat.le_refl _) _).grown hgr3 (by simp) (by intro k hk; cases hk; exact Nat.le_refl _)
      have hownB := (hown.kept hbel3).next (some ⟨wr.heap.size, 0, none⟩) (L q)
      have hown1' : Own w3 w.heap.size 47 2 (.slice (upd S k (some ⟨wr.heap.size, 0, none⟩) k) (L (t k).toNat) (upd C k (L q) k)) (L (t k).toNat) (fun j => (fun i j => [.bool (f0 (g i j)), .bool (f1 (g i j))]) (t k).toNat j) := by
        rw [upd_at, upd_at, HQ.out]; exact own_of_rowN hrow3 (flat2 _ _ _) hsz (by unfold maxLen; omega)
      have hu : Hid ((#[Value.slice (some ⟨wr.heap.size, 0, none⟩) (L q) (L q)] : Array Value).toList = [.slice (upd S k (some ⟨wr.heap.size, 0, none⟩) k) (L (t k).toNat) (upd C k (L q) k)]) := by rw [upd_at, upd_at, HQ.out]; rfl
      have hbel3' := hbel.trans (hbel3.mono hsz)
      have hsz3 := hbel3'.size
      clear hown hbel3 hbel hc' hc2' hc2n hrow hrow3 hgr3 hmk
      go_wp2_with (at_builtin; refine wpList_push _ rfl (.tmp 48) (.tmp 50) 43 rfl w.heap.size 68 1 24 (.slice none 0 0) #[.slice (some ⟨wr.heap.size, 0, none⟩) (L q) (L q)] Try.underlying43 foursInfo rfl (by decide) _ k _ rfl hownB.1 hsz3 _ rfl rfl hu.out rfl rfl (by omega) (by omega) ?_)
      intro v' w4 hown4 hbel4 hg4 _
      have hO := hownB.push (by decide) hown1' hown4 hg4
      have hbelF := hbel3'.trans hbel4
      clear hownB hown1' hown4 hg4 hbel4 hbel3'
      go_wp2
      go_roundg (m - (k + 1))
      case measure => omega
      case rel => exact ⟨k + 1, _, _, Nat.succ_le_of_lt HLT.out, rfl, by go_num, hO, hbelF⟩
    · have : k = p := by omega
      subst this
      by_cases hkm : k < m
      · obtain ⟨b, o, rfl, hb, hc⟩ := hAt k hkm
        have hc' : wr.cell? ⟨b, o + k, none⟩ = some (.int .i64 (t k)) := (hbel.cell hb).trans hc
        have hcon : RowsOut w.heap.size 68 47 2 n m k t L (fun i j => [.bool (f0 (g i j)), .bool (f1 (g i j))]) w (.returned (.tuple #[.slice none 0 0, .int .i64 2])) wr := ⟨fun h => absurd h (by omega), fun _ => rfl, hbel⟩
        have htk : t k < 0 ∨ n ≤ t k := HB.out hkm
        clear hc hlt hown
        rcases htk with h0 | h0
        · go_wp2
          go_ret2
          exact hcon
        · have h1 : ¬ t k < 0 := by omega
          have h2 : ¬ t k < n := by omega
          go_wp2
          go_ret2
          exact hcon
      · have : k = m := by omega
        subst this
        go_wp2
        go_ret2
        exact ⟨fun _ => ⟨_, _, _, rfl, hown⟩, fun h => absurd h (by omega), hbel⟩

theorem rowsF_fault (A At : Option Addr) (n m cA cAt : Nat) (L : Nat → Nat) (w : World) (hn : n ≤ 9223372036854775807) (hL : ∀ i, i < n → L i ≤ 9223372036854775807) (hT : Top w A n L) (hf : faultE n L ≠ 0) :
    Calls Try.prog 33 #[.slice A n cA, .slice At m cAt] w fun e w' => e = .returned (.tuple #[.slice none 0 0, .int .i64 (faultE n L)]) ∧ Below w.heap.size w w' := by
  have hcon := faultF_any A n cA L w hn hL hT
  generalize faultE n L = F at *
  have h0 : (F != 0) = true := by simpa using hf
  clear hf hT hL
  have HC := Lib.hid hcon; clear hcon
  go_enter Try.func33, Try.ntmps33
  go_wp2_with fail
  refine HC.out.mono ?_
  rintro e w1 ⟨rfl, rfl⟩
  go_wp2
  go_ret2
  exact ⟨rfl, Below.refl _ _⟩
theorem rowsF_big (A At : Option Addr) (n m cA cAt : Nat) (L : Nat → Nat) (w : World) (hn : n ≤ 9223372036854775807) (hL : ∀ i, i < n → L i ≤ 9223372036854775807) (hT : Top w A n L) (hf : faultE n L = 0) (hm : 255 < m) :
    Calls Try.prog 33 #[.slice A n cA, .slice At m cAt] w fun e w' => e = .returned (.tuple #[.slice none 0 0, .int .i64 3]) ∧ Below w.heap.size w w' := by
  go_enter Try.func33, Try.ntmps33
  go_wp2_with fail
  refine (faultF_any A n cA L _ hn hL hT).mono ?_
  rintro e w1 ⟨rfl, rfl⟩
  rw [hf]
  clear hf
  go_wp2
  go_ret2
  exact ⟨rfl, Below.refl _ _⟩

set_option maxRecDepth 20000 in
set_option maxHeartbeats 1000000 in
theorem rrows (A At : Option Addr) (n m p cA cAt : Nat) (L : Nat → Nat) (g : Nat → Nat → Nat) (t : Nat → Int) (w : World) (hf : faultE n L = 0) (hm : m ≤ 255) (hp : p ≤ m) (hA : MI w A n L g) (hAt : Rd w At m (fun i => .int .i64 (t i)))
    (hgood : ∀ i, i < p → 0 ≤ t i ∧ t i < n) (hbad : p < m → t p < 0 ∨ n ≤ t p) :
    Calls Try.prog 28 #[.slice A n cA, .slice At m cAt] w (RowsOut w.heap.size 23 3 1 n m p t L (fun i j => [.int .i64 (g i j)]) w) := by
  obtain ⟨hn, hl, -⟩ := faultE_ok hf
  have HB := Lib.hid hbad; clear hbad
  have HG := Lib.hid hgood; clear hgood
  have HL := Lib.hid hl; clear hl
  have HT := Lib.hid hA.top
  obtain ⟨SA, CA, hA1, hA2⟩ := hA
  have HF := Lib.hid hf; clear hf
  go_enter Try.func28, Try.ntmps28
  go_wp2_with fail
  refine (rfault_any A n cA L _ (by omega) (fun i hi => by have := HL.out i hi; omega) HT.out).mono ?_
  rintro e w1 ⟨rfl, hd⟩
  have hb1 : Below w.heap.size w w1 := hd.below _
  clear hd
  have HF2 : faultE n L = 0 := HF.out
  rw [HF2]; clear HF2
  go_wp2
  go_loopg [7, 8, 9] m (fun gk v i _ wr => ∃ (k : Nat) (S : Nat → Option Addr) (C : Nat → Nat), k ≤ p ∧ gk = m - k ∧ i = .int .i64 k ∧ OwnQ wr w.heap.size 23 3 1 v k S C (fun i => L (t i).toNat) (fun i j => (fun i j => [.int .i64 (g i j)]) (t i).toNat j) ∧ Below w.heap.size w wr)
  case atStart => exact ⟨0, fun _ => none, fun _ => 0, Nat.zero_le _, rfl, rfl, OwnQ.nil _ _ _ _ _ _ _ _ _, hb1⟩
  case round =>
    obtain ⟨k, S, C, hk, rfl, rfl, hown, hbel⟩ := hrel
    have hsz := hbel.size
    by_cases hlt : k < p
    · obtain ⟨b, o, rfl, hb, hc⟩ := hAt k (by omega)
      have hc' : wr.cell? ⟨b, o + k, none⟩ = some (.int .i64 (t k)) := (hbel.cell hb).trans hc
      obtain ⟨hg0, hg1⟩ := HG.out k hlt
      obtain ⟨q, hq⟩ := Int.eq_ofNat_of_zero_le hg0
      rw [hq] at hc' hg1
      have hqn : q < n := by omega
      have hqt : (t k).toNat = q := by omega
      have HQ := Lib.hid hqt; clear hqt
      clear hg0 hg1 hq hc hAt
      obtain ⟨b2, o2, rfl, hb2, hc2⟩ := hA1 q hqn
      have hc2' : wr.cell? ⟨b2, o2 + q, none⟩ = some (.slice (SA q) (L q) (CA q)) := (hbel.cell hb2).trans hc2
      have hrow := (hA2 q hqn).below hbel
      have hLq := HL.out q hqn
      have hqlt : (q : Int) < n := by omega
      clear hc2 hA2
      have hkm : k < m := by omega
      have HLT := Lib.hid hlt; clear hlt
      go_wp2_with (at_builtin; refine wpList_appendRd rfl (.tmp 38) (.tmp 45) 23 rfl wr.heap.size 3 8 (.int .i64 0) Try.underlying23 intInfo rfl rfl (Nat.le_refl _) (SA q) (L q) (CA q) (fun j => .int .i64 (g q j)) rfl hrow (fun _ _ => rfl) (by omega) (by omega) ?_)
      intro v1 w3 hown1 hbel3
      obtain ⟨A1, c1, rfl, _, _, _, _⟩ := hown1.rd
      have hownB := (hown.kept hbel3).next A1 c1
      have hown1' : Own w3 w.heap.size 3 1 (.slice (upd S k A1 k) (L (t k).toNat) (upd C k c1 k)) (L (t k).toNat) (fun j => (fun i j => [.int .i64 (g i j)]) (t k).toNat j) := by
        rw [upd_at, upd_at, HQ.out]; exact hown1.mono hsz
      have hu : Hid ((#[Value.slice A1 (L q) c1] : Array Value).toList = [.slice (upd S k A1 k) (L (t k).toNat) (upd C k c1 k)]) := by rw [upd_at, upd_at, HQ.out]; rfl
      have hbel3' := hbel.trans (hbel3.mono hsz)
      have hsz3 := hbel3'.size
      clear hown hown1 hbel3 hbel hc' hc2' hrow
      go_wp2_with (at_builtin; refine wpList_push _ rfl (.tmp 47) (.tmp 49) 22 rfl w.heap.size 23 1 24 (.slice none 0 0) #[.slice A1 (L q) c1] Try.underlying22 intsInfo rfl (by decide) _ k _ rfl hownB.1 hsz3 _ rfl rfl hu.out rfl rfl (by omega) (by omega) ?_)
      intro v' w4 hown4 hbel4 hg4 _
      have hO := hownB.push (by decide) hown1' hown4 hg4
      have hbelF := hbel3'.trans hbel4
      clear hownB hown1' hown4 hg4 hbel4 hbel3'
      go_wp2
      go_roundg (m - (k + 1))
      case measure => omega
      case rel => exact ⟨k + 1, _, _, Nat.succ_le_of_lt HLT.out, rfl, by go_num, hO, hbelF⟩
    · have : k = p := by omega
      subst this
      by_cases hkm : k < m
      · obtain ⟨b, o, rfl, hb, hc⟩ := hAt k hkm
        have hc' : wr.cell? ⟨b, o + k, none⟩ = some (.int .i64 (t k)) := (hbel.cell hb).trans hc
        have hcon : RowsOut w.heap.size 23 3 1 n m k t L (fun i j => [.int .i64 (g i j)]) w (.returned (.tuple #[.slice none 0 0, .int .i64 2])) wr := ⟨fun h => absurd h (by omega), fun _ => rfl, hbel⟩
        have htk : t k < 0 ∨ n ≤ t k := HB.out hkm
        clear hc hlt hown
        rcases htk with h0 | h0
        · go_wp2
          go_ret2
          exact hcon
        · have h1 : ¬ t k < 0 := by omega
          have h2 : ¬ t k < n := by omega
          go_wp2
          go_ret2
          exact hcon
      · have : k = m := by omega
        subst this
        go_wp2
        go_ret2
        exact ⟨fun _ => ⟨_, _, _, rfl, hown⟩, fun h => absurd h (by omega), hbel⟩

theorem rrows_fault (A At : Option Addr) (n m cA cAt : Nat) (L : Nat → Nat) (w : World) (hn : n ≤ 9223372036854775807) (hL : ∀ i, i < n → L i ≤ 9223372036854775807) (hT : Top w A n L) (hf : faultE n L ≠ 0) :
    Calls Try.prog 28 #[.slice A n cA, .slice At m cAt] w fun e w' => e = .returned (.tuple #[.slice none 0 0, .int .i64 (faultE n L)]) ∧ Below w.heap.size w w' := by
  have hcon := rfault_any A n cA L w hn hL hT
  generalize faultE n L = F at *
  have h0 : (F != 0) = true := by simpa using hf
  clear hf hT hL
  have HC := Lib.hid hcon; clear hcon
  go_enter Try.func28, Try.ntmps28
  go_wp2_with fail
  refine HC.out.mono ?_
  rintro e w1 ⟨rfl, hd⟩
  have hb := hd.below w.heap.size
  go_wp2
  go_ret2
  exact ⟨rfl, hb⟩
theorem rrows_big (A At : Option Addr) (n m cA cAt : Nat) (L : Nat → Nat) (w : World) (hn : n ≤ 9223372036854775807) (hL : ∀ i, i < n → L i ≤ 9223372036854775807) (hT : Top w A n L) (hf : faultE n L = 0) (hm : 255 < m) :
    Calls Try.prog 28 #[.slice A n cA, .slice At m cAt] w fun e w' => e = .returned (.tuple #[.slice none 0 0, .int .i64 3]) ∧ Below w.heap.size w w' := by
  go_enter Try.func28, Try.ntmps28
  go_wp2_with fail
  refine (rfault_any A n cA L _ hn hL hT).mono ?_
  rintro e w1 ⟨rfl, hd⟩
  have hb := hd.below w.heap.size
  rw [hf]
  clear hf
  go_wp2
  go_ret2
  exact ⟨rfl, hb⟩
end Go.Proofs.Ytpocjpodeahanaa
