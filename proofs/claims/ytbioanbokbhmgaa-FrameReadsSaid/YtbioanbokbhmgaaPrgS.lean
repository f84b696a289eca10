/- Stream.Write, Sum, own, mark, first: the walks of the program. Conditions: bytes, lengths that memory bears. -/
import Derived.Test.YtbioanbokbhmgaaRefC
namespace Go.Proofs.Ytbioanbokbhmgaa
open Go.RowKit

theorem put32_int (A : Option Addr) (c : Nat) (l : List Nat) (v : Int) (w : World) (h0 : 0 ≤ v) (hv : v < 4294967296) (hn : l.length ≤ 140737488351000) (hA : RL w A l) :
    Calls Try.prog 52 #[.slice A l.length c, .int .u32 v] w fun e w' => ∃ o, e = .returned o ∧ OwnB w' w.heap.size o (l ++ le 4 v.toNat) ∧ Below w.heap.size w w' := by
  obtain ⟨v', rfl⟩ := Int.eq_ofNat_of_zero_le h0
  exact put32_any A c l v' w (by omega) hn hA
theorem put32_nil (c : Nat) (v : Int) (w : World) (h0 : 0 ≤ v) (hv : v < 4294967296) :
    Calls Try.prog 52 #[.slice none 0 c, .int .u32 v] w fun e w' => ∃ o, e = .returned o ∧ OwnB w' w.heap.size o (le 4 v.toNat) ∧ Below w.heap.size w w' :=
  (put32_int none c [] v w h0 hv (by decide) (RL.nil _ _)).mono fun e w' ⟨o, h1, h2, h3⟩ => ⟨o, h1, by simpa using h2, h3⟩
theorem byte_two {x y : Int} {a b : Nat} (h : (a : Int) = x) (h' : (b : Int) = y) : (#[Value.int .u8 x, Value.int .u8 y] : Array Value).toList = [a, b].map bv := by rw [← h, ← h']; rfl
/-- A stream stands in block p. -/
def StAt (w : World) (p s : Nat) : Prop := ∃ x : Int, w.heap[p]? = some (.cells #[.int .u32 (s : Int), .int .u64 x] 114 (0, 0))
theorem StAt.below {w w' : World} {p s : Nat} (h : StAt w p s) (hb : Below w.heap.size w w') : StAt w' p s := by
  obtain ⟨x, h⟩ := h
  exact ⟨x, by rw [hb.block p (Array.getElem?_eq_some_iff.1 h).1]; exact h⟩
theorem StAt.facts {w : World} {p s : Nat} (h : StAt w p s) : ∃ x : Int, w.cell? ⟨p, 0, none⟩ = some (.int .u32 (s : Int)) ∧ w.cell? ⟨p, 1, none⟩ = some (.int .u64 x) ∧ w.frozen? ⟨p, 0, none⟩ = false ∧ w.frozen? ⟨p, 1, none⟩ = false ∧ p < w.heap.size := by
  obtain ⟨x, h⟩ := h
  exact ⟨x, by simp [World.cell?, h], by simp [World.cell?, h], by simp [World.frozen?, h], by simp [World.frozen?, h], (Array.getElem?_eq_some_iff.1 h).1⟩
theorem StAt.set0 {w : World} {p s : Nat} (h : StAt w p s) (s' : Nat) : StAt (w.setCell ⟨p, 0, none⟩ (.int .u32 (s' : Int))) p s' := by
  obtain ⟨x, h⟩ := h
  exact ⟨x, by simp [World.setCell, h, Array.getElem?_modify]⟩
theorem StAt.set1 {w : World} {p s : Nat} (h : StAt w p s) (y : Int) : StAt (w.setCell ⟨p, 1, none⟩ (.int .u64 y)) p s := by
  obtain ⟨x, h⟩ := h
  exact ⟨y, by simp [World.setCell, h, Array.getElem?_modify]⟩
set_option maxRecDepth 20000 in
set_option maxHeartbeats 1000000 in
theorem write_any (p s : Nat) (A : Option Addr) (c : Nat) (l : List Nat) (w : World) (hs : s < 4294967296) (hl : ∀ x ∈ l, x < 256) (hn : l.length ≤ 140737488355328) (hA : RL w A l) (hp : StAt w p s) :
    Calls Try.prog 70 #[.pointer (some ⟨p, 0, none⟩), .slice A l.length c] w fun e w' => e = .returned (.tuple #[]) ∧ StAt w' p (crm s l) ∧ Below p w w' := by
  have CM := Lib.hid (more_any s A c l w hs hl hn hA)
  have HP := Lib.hid hp
  obtain ⟨x, p0, p1, z0, z1, hlt⟩ := hp.facts
  clear hp hl hA
  generalize crm s l = m at *
  go_enter Try.func70, Try.ntmps70
  go_wp2_with fail
  refine CM.out.mono ?_
  rintro e w1 ⟨rfl, hb1⟩
  clear p0 p1 z0 z1
  have H0 := Lib.hid ((HP.out.below hb1).set0 m)
  obtain ⟨_, k0, k1, y0, y1, hlt1⟩ := (HP.out.below hb1).facts
  obtain ⟨x1, p0, p1, z0, z1, hlt2⟩ := H0.out.facts
  have HB := Lib.hid (hb1.mono (Nat.le_of_lt hlt))
  clear hb1
  go_wp2
  go_end0
  exact ⟨rfl, H0.out.set1 _, (HB.out.setCell (Nat.le_refl _) _).setCell (Nat.le_refl _) _⟩
theorem ssum_any (p s : Nat) (w : World) (hp : StAt w p s) : Calls Try.prog 71 #[.pointer (some ⟨p, 0, none⟩)] w fun e w' => e = .returned (.int .u32 (s : Int)) ∧ w = w' := by
  obtain ⟨x, p0, p1, z0, z1, hlt⟩ := hp.facts
  clear hp
  go_enter Try.func71, Try.ntmps71
  go_wp2
  go_ret
  exact ⟨rfl, rfl⟩
set_option maxRecDepth 20000 in
set_option maxHeartbeats 1000000 in
theorem own_any (s j : Nat) (A : Option Addr) (c : Nat) (l : List Nat) (w : World) (hs : s < 4294967296) (hj : j < 4294967296) (hl : ∀ x ∈ l, x < 256) (hn : l.length ≤ 140737488350000) (hA : RL w A l) :
    Calls Try.prog 53 #[.int .u32 (s : Int), .int .i64 (j : Int), .slice A l.length c] w fun e w' => e = .returned (.int .u32 (sumB s j l : Nat)) ∧ Below w.heap.size w w' := by
  have hst : StAt (w.alloc (.cells #[.int .u32 0, .int .u64 0] 114)) w.heap.size 0 := ⟨0, by rw [heap_alloc_new]; rfl⟩
  have HST := Lib.hid hst
  have HB0 := Lib.hid ((Below.refl w.heap.size w).alloc (Nat.le_refl _) (.cells #[.int .u32 0, .int .u64 0] 114))
  have hcj : IntKind.u32.wrap (j : Int) = (j : Int) := u32_lo (by omega) (by omega)
  have HF := Lib.hid (show crm (crm 0 (le 4 s ++ le 4 j)) l = sumB s j l by rw [crm_app]; rfl)
  have hpl : (le 4 s ++ le 4 j).length ≤ 8 := by simp [le_length]
  have hpx : ∀ x ∈ le 4 s ++ le 4 j, x < 256 := fun x hx => (List.mem_append.1 hx).elim le_lt le_lt
  have hc1 : crm 0 (le 4 s ++ le 4 j) < 4294967296 := crm_lt (by decide) hpx
  have HPX := Lib.hid hpx; have HL := Lib.hid hl; have HA := Lib.hid hA
  have HPP : Hid (∀ v : Value, ∀ w', OwnB w' w.heap.size v (le 4 s ++ le 4 j) → OwnB w' w.heap.size v (le 4 s ++ le 4 j)) := fun _ _ h => h
  clear hst hpx hl hA HPP
  obtain ⟨pj, hpj⟩ : ∃ pj, pj = le 4 s ++ le 4 j := ⟨_, rfl⟩
  rw [← hpj] at HF hpl hc1 HPX
  go_enter Try.func53, Try.ntmps53
  have hz0 : (w.alloc (.cells #[.int .u32 0, .int .u64 0] 114)).heap.size = w.heap.size + 1 := by simp
  have HZ0 := Lib.hid hz0
  clear hz0
  go_wp2_with fail
  refine (put32_nil 0 (s : Int) _ (by omega) (by omega)).mono ?_
  rintro e w1 ⟨o1, rfl, hO1, hb1⟩
  rw [show (s : Int).toNat = s from rfl] at hO1
  have hst1 := HST.out.below hb1
  obtain ⟨A1, q1, e1, _, _, r1, _⟩ := hO1.rd
  subst e1
  have HB1 := Lib.hid (HB0.out.trans (hb1.mono HB0.out.size))
  have HR1 := Lib.hid r1; have HST1 := Lib.hid hst1
  clear hO1 hb1 r1 hst1 HST HB0
  go_wp2_with fail
  refine (put32_int A1 q1 (le 4 s) (j : Int) w1 (by omega) (by omega) (by rw [le_length]; decide) HR1.out).mono ?_
  rintro e w2 ⟨o2, rfl, hO2, hb2⟩
  rw [show (j : Int).toNat = j from rfl, ← hpj] at hO2
  have HST2 := Lib.hid (HST1.out.below hb2)
  obtain ⟨A2, q2, e2, _, _, r2, _⟩ := hO2.rd
  subst e2
  have HB2 := Lib.hid (HB1.out.trans (hb2.mono HB1.out.size))
  have HR2 := Lib.hid r2
  clear hO2 hb2 r2 HST1 HB1 hcj hpj
  go_wp2_with fail
  refine (write_any w.heap.size 0 A2 q2 pj w2 (by decide) HPX.out (by omega) HR2.out HST2.out).mono ?_
  rintro e w3 ⟨rfl, hst3, hb3⟩
  have HST3 := Lib.hid hst3
  have HB3 := Lib.hid (HB2.out.trans hb3)
  clear hst3 hb3 HST2 HR2 HB2
  go_wp2_with fail
  refine (write_any w.heap.size _ A c l w3 hc1 HL.out (by omega) (HA.out.below HB3.out) HST3.out).mono ?_
  rintro e w4 ⟨rfl, hst4, hb4⟩
  rw [HF.out] at hst4
  have HST4 := Lib.hid hst4
  have HB4 := Lib.hid (HB3.out.trans hb4)
  clear hst4 hb4 HST3 HB3
  go_wp2_with fail
  refine (ssum_any w.heap.size _ w4 HST4.out).mono ?_
  rintro e w5 ⟨rfl, rfl⟩
  go_wp2
  go_ret
  exact ⟨rfl, HB4.out⟩
end Go.Proofs.Ytbioanbokbhmgaa
