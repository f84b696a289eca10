/- append(nil, row...): the law. Conditions: none of any program. -/
import Derived.Test.YtjaaldandgfkgaaMem2
import Derived.OwnWalk
import Derived.Laws.BitsAllLaws
namespace Go.Proofs.Ytjaaldandgfkgaa
open Go.RowKit

section
variable {P : Program}
theorem run_nil_nil (w : World) (t ty e : TypeId) (i : TypeInfo) (ht : P.underlying t = some (.slice e)) (hi : P.info? e = some i) (c : Nat) :
    (Builtin.append_ #[t, t] ty #[.slice none 0 0, .slice none 0 c]).run P w = .ok (.slice none 0 0) w := by
  simp [Builtin.append_, run_underlying ht, sizeOf, typeInfo, hi, Builtin.lenOf, Builtin.firstCells]
/-- 'append(nil, row...)', elements of one cell, the row read. -/
theorem wpList_appendRd {w : World} {ops : Array Oper} {rest : List Oper} {o : Oper} {a : Act} {Q : Exit → Act → World → Prop} (hgd : o.guard = none) (s x : Operand) (t : TypeId)
    (ho : o.op = .call { callee := .builtin .append, args := #[s, x], argTypes := #[t, t] }) (B e bytes : Nat) (z : Value) (ht : P.underlying t = some (.slice e))
    (hinfo : (P.info? e).map (fun i => (i.zero, i.size, i.bytes)) = some (some z, 1, bytes)) (hzs : z.cells.size = 1) (hs : a.eval s = .slice none 0 0) (hB : B ≤ w.heap.size) (A : Option Addr) (m c : Nat) (f : Nat → Value)
    (hx : a.eval x = .slice A m c) (hr : Rd w A m f) (h1 : ∀ j, j < m → (f j).oneCell' = true) (hm : m ≤ 1000000000000000000) (hbytes : m * bytes ≤ 140737488355328)
    (h : ∀ v' w', Own w' B e 1 v' m (fun j => [f j]) → Below B w w' → wpList P ops Q rest (a.put o.dst v') w') : wpList P ops Q (o :: rest) a w := by
  obtain ⟨i0, hi, hz0, hz1, hz2⟩ := info_parts hinfo
  have hfl : ∀ (n : Nat), ((List.range n).flatMap fun j => [f j]) = (List.range n).map f := fun n => flat1 n f
  rcases A with _ | ad
  · have hm0 : m = 0 := by
      rcases Nat.eq_zero_or_pos m with h0 | h0
      · exact h0
      · obtain ⟨b, o, e1, _⟩ := hr 0 h0; cases e1
    subst hm0
    refine wpList_plain hgd fun K hK => ?_
    have hrun := run_nil_nil (P := P) w t o.type e i0 ht hi c
    unfold Oper.wp
    simp [execOp, ho, resolve, invoke, builtin, hs, hx, hrun, Result.andThen]
    exact hK _ _ (h _ w (Own.nil _ _ _ _ _) (Below.refl _ _))
  · refine wpList_append_own w hgd s x t ho B e i0 z 1 bytes ht hi hz0 hz1 hz2 hzs (by omega) (.slice none 0 0) 0 [] hs ⟨by simp, .inl ⟨rfl, rfl⟩⟩ ad m c ((List.range m).map f) hx (by simp) ?_ ?_ (by simp only [maxLen]; omega) (by rw [Nat.zero_add]; exact hbytes) hB ?_
    · intro j u hu
      have hlt : j < m := by have := (List.getElem?_eq_some_iff.1 hu).1; simpa using this
      obtain ⟨b', o', e1, _, hc⟩ := hr j hlt
      injection e1 with e1; subst e1
      have hadd : (⟨b', o', none⟩ : Addr).add j = ⟨b', o' + j, none⟩ := by unfold Addr.add; split <;> simp_all
      rw [hadd, hc]; simpa [hlt] using hu
    · intro u hu
      obtain ⟨j, hj, rfl⟩ := List.mem_map.1 hu
      exact h1 j (List.mem_range.1 hj)
    · intro v' w' hown hg _
      refine h v' w' ?_ ((Below.refl _ _).grown hg hB (by simp [Value.ownBlock]))
      unfold Own; rw [hfl]; simpa using hown
end
end Go.Proofs.Ytjaaldandgfkgaa

/- Times in the field of 256. Conditions: none. -/
namespace Go.Proofs.Ytjaaldandgfkgaa
open Go.RowKit

theorem i64_small (n : Int) (h0 : 0 ≤ n) (h1 : n < 2 ^ 62) : IntKind.i64.wrap n = n := by rw [IntKind.wrap_i64]; omega
theorem i64_xor_nat (a b : Nat) (ha : a < 2 ^ 62) (hb : b < 2 ^ 62) : bits .xor .i64 (a : Int) (b : Int) = ((a ^^^ b : Nat) : Int) := by
  have hlt : a ^^^ b < 2 ^ 62 := Nat.xor_lt_two_pow ha hb
  have h1 := ofInt_u64 a (by omega)
  have h2 := ofInt_u64 b (by omega)
  show IntKind.i64.wrap ((BitVec.ofInt 64 (a : Int) ^^^ BitVec.ofInt 64 (b : Int)).toNat : Int) = _
  rw [BitVec.toNat_xor, h1, h2]
  exact i64_small _ (Int.natCast_nonneg _) (by omega)

/-- One doubling. -/
def stepx (x : Nat) : Nat := if 255 < x * 2 then (x * 2) ^^^ 285 else x * 2
def xE (a : Nat) : Nat → Nat
  | 0 => a
  | k + 1 => stepx (xE a k)
def pE (a b : Nat) : Nat → Nat
  | 0 => 0
  | k + 1 => if b / 2 ^ k % 2 = 1 then pE a b k ^^^ xE a k else pE a b k
/-- The product in the field of 256. -/
def timesE (a b : Nat) : Nat := pE a b 8
theorem stepx_lt {x : Nat} (h : x < 256) : stepx x < 256 := by
  have hall : (List.range 256).all (fun x => decide (stepx x < 256)) = true := by decide +kernel
  simpa using List.all_eq_true.1 hall x (List.mem_range.2 h)
theorem xE_lt {a : Nat} (h : a < 256) : ∀ k, xE a k < 256
  | 0 => h
  | k + 1 => stepx_lt (xE_lt h k)
theorem pE_lt {a b : Nat} (h : a < 256) : ∀ k, pE a b k < 256
  | 0 => by unfold pE; decide
  | k + 1 => by
    unfold pE
    split
    · exact Nat.xor_lt_two_pow (n := 8) (pE_lt h k) (xE_lt h k)
    · exact pE_lt h k
theorem timesE_lt {a b : Nat} (h : a < 256) : timesE a b < 256 := pE_lt h 8
theorem and_bit (b k : Nat) (h : b < 256) : bits .and .u8 ((b : Int) / 2 ^ k) 1 = ((b / 2 ^ k % 2 : Nat) : Int) := by
  have e : ((b : Int) / 2 ^ k) = ((b / 2 ^ k : Nat) : Int) := by norm_cast
  have hl : b / 2 ^ k < 256 := Nat.lt_of_le_of_lt (Nat.div_le_self _ _) h
  rw [e, show (1 : Int) = ((1 : Nat) : Int) from rfl, u8_and_nat _ 1 hl (by decide), nat_mask1]
theorem bit_true {b k : Nat} (h : b < 256) (ht : (bits .and .u8 ((b : Int) / 2 ^ k) 1 == 1) = true) : b / 2 ^ k % 2 = 1 := by
  rw [and_bit b k h] at ht
  generalize b / 2 ^ k = z at *
  have := eq_of_beq ht
  omega
theorem bit_false {b k : Nat} (h : b < 256) (ht : (bits .and .u8 ((b : Int) / 2 ^ k) 1 == 1) = false) : ¬ b / 2 ^ k % 2 = 1 := by
  rw [and_bit b k h] at ht
  generalize b / 2 ^ k = z at *
  intro e
  rw [e] at ht
  exact absurd ht (by decide)
theorem x_cast {x : Nat} : ((x : Int) * 2) = ((x * 2 : Nat) : Int) := by omega

set_option maxHeartbeats 800000 in
theorem timesE_any (a b : Nat) (w : World) (ha : a < 256) (hb : b < 256) :
    Calls Try.prog 104 #[.int .u8 a, .int .u8 b] w fun e w' => e = .returned (.int .u8 (timesE a b)) ∧ w = w' := by
  go_enter Try.func104, Try.ntmps104
  go_wp2
  go_loopg [5, 6, 7, 10] 8 (fun g p x _ i wr => wr = w ∧ ∃ k : Nat, k ≤ 8 ∧ g = 8 - k ∧ i = .int .i64 k ∧ p = .int .i64 (pE a b k) ∧ x = .int .i64 (xE a k))
  case atStart => exact ⟨rfl, 0, by omega, rfl, rfl, rfl, rfl⟩
  case round =>
    obtain ⟨rfl, k, hk, rfl, rfl, rfl, rfl⟩ := hrel
    have HP := Lib.hid (pE_lt (b := b) ha k)
    have HX := Lib.hid (xE_lt ha k)
    have hpe : pE a b (k + 1) = if b / 2 ^ k % 2 = 1 then pE a b k ^^^ xE a k else pE a b k := rfl
    have hxe : xE a (k + 1) = if 255 < xE a k * 2 then (xE a k * 2) ^^^ 285 else xE a k * 2 := rfl
    have HPE := Lib.hid hpe; have HXE := Lib.hid hxe; clear hpe hxe
    have hx0 : xE a k < 256 := HX.out
    have hp0 : pE a b k < 256 := HP.out
    generalize hpg : pE a b k = p0 at *
    generalize hxg : xE a k = x0 at *
    have HG1 := Lib.hid hpg; have HG2 := Lib.hid hxg; clear hpg hxg
    by_cases hlt : k < 8
    · by_cases hbt : (bits .and .u8 ((b : Int) / 2 ^ k) 1 == 1) = true
      · have HB := Lib.hid (bit_true hb hbt)
        have hxor := Lib.hid (i64_xor_nat p0 x0 (by omega) (by omega))
        by_cases hbig : 255 < (x0 : Int) * 2
        · have hx2 := Lib.hid (i64_xor_nat (x0 * 2) 285 (by omega) (by omega))
          go_wp2
          go_roundg (8 - (k + 1))
          case measure => omega
          case rel => exact ⟨rfl, k + 1, by omega, rfl, by go_num, by rw [HPE.out, if_pos HB.out, ← hxor.out], by rw [HXE.out, if_pos (by omega), ← hx2.out]; rfl⟩
        · go_wp2
          go_roundg (8 - (k + 1))
          case measure => omega
          case rel => exact ⟨rfl, k + 1, by omega, rfl, by go_num, by rw [HPE.out, if_pos HB.out, ← hxor.out], by rw [HXE.out, if_neg (by omega)]; rfl⟩
      · have hbf : (bits .and .u8 ((b : Int) / 2 ^ k) 1 == 1) = false := by simpa using hbt
        have HB := Lib.hid (bit_false hb hbf)
        clear hbt
        by_cases hbig : 255 < (x0 : Int) * 2
        · have hx2 := Lib.hid (i64_xor_nat (x0 * 2) 285 (by omega) (by omega))
          go_wp2
          go_roundg (8 - (k + 1))
          case measure => omega
          case rel => exact ⟨rfl, k + 1, by omega, rfl, by go_num, by rw [HPE.out, if_neg HB.out], by rw [HXE.out, if_pos (by omega), ← hx2.out]; rfl⟩
        · go_wp2
          go_roundg (8 - (k + 1))
          case measure => omega
          case rel => exact ⟨rfl, k + 1, by omega, rfl, by go_num, by rw [HPE.out, if_neg HB.out], by rw [HXE.out, if_neg (by omega)]; rfl⟩
    · have : k = 8 := by omega
      subst this
      go_wp2
      go_ret
      exact ⟨by unfold timesE; rw [HG1.out]; rfl, rfl⟩
end Go.Proofs.Ytjaaldandgfkgaa
