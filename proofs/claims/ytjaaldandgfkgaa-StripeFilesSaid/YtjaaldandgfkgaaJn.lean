/- bytes.Join of rows of bytes, nothing between them: out of the kit's contract. Conditions: lengths that memory bears. -/
import Derived.Test.YtjaaldandgfkgaaStP
import Derived.Shelf.Bytes.SlJoin
namespace Go.Proofs.Ytjaaldandgfkgaa
open Go.RowKit

/-- The kit's numbers, as this program has them. -/
def renJ : Go.Shelf.Ren := ⟨fun x => if x = 14 then 63 else if x = 15 then 90 else x, fun x => if x = 22 then 43 else if x = 26 then 67 else x, fun x => x⟩
theorem laysJ : SlLaysJ.n14 Try.prog renJ where
  mixed := by kernel_rfl
  f14 := by kernel_rfl
  f15 := by kernel_rfl
  t0 := by kernel_rfl
  a0 := fun _ => by kernel_rfl
  z0 := fun _ => by kernel_rfl
  v0 := fun _ => by kernel_rfl
  t3 := by kernel_rfl
  a3 := fun _ => by kernel_rfl
  z3 := fun _ => by kernel_rfl
  v3 := fun _ => by kernel_rfl
  t4 := by kernel_rfl
  a4 := fun _ => by kernel_rfl
  z4 := fun _ => by kernel_rfl
  v4 := fun _ => by kernel_rfl
  t9 := by kernel_rfl
  a9 := fun _ => by kernel_rfl
  z9 := fun _ => by kernel_rfl
  v9 := fun _ => by kernel_rfl
  t20 := by kernel_rfl
  a20 := fun _ => by kernel_rfl
  z20 := fun _ => by kernel_rfl
  v20 := fun _ => by kernel_rfl
  t22 := by kernel_rfl
  a22 := fun _ => by kernel_rfl
  z22 := fun _ => by kernel_rfl
  v22 := fun _ => by kernel_rfl
  t26 := by kernel_rfl
  a26 := fun _ => by kernel_rfl
  z26 := fun _ => by kernel_rfl
  v26 := fun _ => by kernel_rfl
  t5 := by kernel_rfl
  z5 := fun _ => by kernel_rfl
  i5 := by kernel_rfl

def u8L (l : List Nat) : List UInt8 := l.map UInt8.ofNat
theorem u8n {n : Nat} (h : n < 256) : (UInt8.ofNat n).toNat = n := by simp; omega
theorem join_flat (xs : List (List UInt8)) : Lib.join xs [] = xs.flatten := by
  cases xs with
  | nil => rfl
  | cons x r => rw [Lib.join_cons]; simp [Lib.joinTail]
theorem flat_u8 (LL : List (List Nat)) : (LL.map u8L).flatten = u8L LL.flatten := by
  unfold u8L; rw [List.map_flatten]
theorem lens_flat (LL : List (List Nat)) : Lib.lens (LL.map u8L) = LL.flatten.length := by
  unfold Lib.lens
  rw [List.length_flatten, List.map_map]
  congr 1
  apply List.map_congr_left
  intro l _
  simp [u8L]
theorem holds_rl {w : World} {A : Option Addr} {l : List Nat} (c : Nat) (h : RL w A l) (hx : ∀ x ∈ l, x < 256) : Lib.HoldsBytes w (.slice A l.length c) (u8L l) := by
  refine ⟨A, c, by simp [u8L], fun e => ?_, fun a ha i x hi => ?_⟩
  · rcases Nat.eq_zero_or_pos l.length with h0 | h0
    · rw [List.eq_nil_of_length_eq_zero h0]; rfl
    · obtain ⟨b, o, e2, _⟩ := h 0 h0
      rw [e] at e2; cases e2
  · have hil : i < l.length := by
      have := (List.getElem?_eq_some_iff.1 hi).1
      simpa [u8L] using this
    obtain ⟨b, o, e2, _, hc⟩ := h i hil
    rw [ha] at e2
    injection e2 with e2
    subst e2
    rw [Lib.add_plain2, hc]
    unfold u8L at hi
    rw [List.getElem?_map, List.getElem?_eq_getElem hil] at hi
    simp only [Option.map_some, Option.some.injEq] at hi
    subst hi
    have := hx _ (List.getElem_mem hil)
    show some (Value.int .u8 ((l.getD i 0 : Nat) : Int)) = some (Value.int .u8 (((UInt8.ofNat l[i]).toNat : Nat) : Int))
    rw [getD_in hil, u8n this]
theorem parts_rll {w : World} {b o : Nat} {LL : List (List Nat)} (h : RLL w (some ⟨b, o, none⟩) LL) (hx : ∀ l ∈ LL, ∀ x ∈ l, x < 256) : ∃ vs, Lib.PartsAt w ⟨b, o, none⟩ vs (LL.map u8L) := by
  obtain ⟨S, C, h1, h2⟩ := h
  refine ⟨(List.range LL.length).map fun i => .slice (S i) (LL.getD i []).length (C i), by simp, fun i v hv => ?_, fun i v l hv hl => ?_⟩
  · have hi : i < LL.length := by
      have := (List.getElem?_eq_some_iff.1 hv).1
      simpa using this
    obtain ⟨b', o', e, _, hc⟩ := h1 i hi
    injection e with e
    injection e with e1 e2
    subst e1 e2
    rw [Lib.add_plain2, hc]
    simpa [hi] using hv
  · have hi : i < LL.length := by
      have := (List.getElem?_eq_some_iff.1 hv).1
      simpa using this
    have hv' : v = .slice (S i) (LL.getD i []).length (C i) := by simpa [hi] using hv.symm
    have hl' : l = u8L (LL.getD i []) := by
      rw [List.getElem?_map, List.getElem?_eq_getElem hi] at hl
      simp only [Option.map_some, Option.some.injEq] at hl
      rw [← hl, List.getD_eq_getElem?_getD, List.getElem?_eq_getElem hi]; rfl
    rw [hv', hl']
    exact holds_rl (C i) (h2 i hi) (hx _ (by rw [List.getD_eq_getElem?_getD, List.getElem?_eq_getElem hi]; exact List.getElem_mem hi))
theorem fresh_rl {B : Nat} {w' : World} {v : Value} {l : List Nat} (h : Lib.FreshBytes B w' v (u8L l)) (hx : ∀ x ∈ l, x < 256) : ∃ A c, v = .slice A l.length c ∧ l.length ≤ c ∧ c ≤ maxLen ∧ (∀ b o, A = some ⟨b, o, none⟩ → B ≤ b) ∧ RL w' A l := by
  obtain ⟨g, cap, zs, hv, hBg, hlc, hcm, hz, hzx, hb, hc, _⟩ := h
  have hlen : (u8L l).length = l.length := by simp [u8L]
  rw [hlen] at hv hlc hb
  refine ⟨_, cap, hv, hlc, hcm, fun b o e => by injection e with e; injection e with e _ _; omega, fun i hi => ?_⟩
  have hic : i < cap := by omega
  have h1 := hc i hic
  refine ⟨g, 0, rfl, ?_, ?_⟩
  · exact World.block_lt_of_cell? w' ⟨g, i, none⟩ h1
  · rw [Nat.zero_add, h1]
    have h2 : (Lib.bytesOf (zs.take l.length))[i]? = some (UInt8.ofNat l[i]) := by rw [hb]; unfold u8L; simp [hi]
    unfold Lib.bytesOf at h2
    rw [List.getElem?_map, List.getElem?_take, if_pos hi, List.getElem?_eq_getElem (by omega)] at h2
    simp only [Option.map_some, Option.some.injEq] at h2
    have h3 := congrArg UInt8.toNat h2
    have h4 := hzx _ (List.getElem_mem (show i < zs.length by omega))
    have h5 := hx _ (List.getElem_mem hi)
    rw [u8n (show zs[i].toNat < 256 by omega), u8n h5] at h3
    show _ = some (Value.int .u8 ((l.getD i 0 : Nat) : Int))
    rw [getD_in hi, ← h3]
    have h6 : zs.getD i 0 = zs[i] := by rw [List.getD_eq_getElem?_getD, List.getElem?_eq_getElem (by omega)]; rfl
    rw [h6]
    congr 2
    omega
theorem bjoin_any (A : Option Addr) (LL : List (List Nat)) (c : Nat) (w : World) (hx : ∀ l ∈ LL, ∀ x ∈ l, x < 256) (hs : LL.flatten.length ≤ 140737488355328) (hn : LL.length ≤ 140737488355328) (hc : LL.length ≤ c) (hA : RLL w A LL) :
    Calls Try.prog 63 #[.slice A LL.length c, .slice none 0 0] w fun e w' => ∃ A' c', e = .returned (.slice A' LL.flatten.length c') ∧ RL w' A' LL.flatten ∧ Below w.heap.size w w' ∧ ∀ b o, A' = some ⟨b, o, none⟩ → w.heap.size ≤ b := by
  have hfx : ∀ x ∈ LL.flatten, x < 256 := fun x hx' => by
    obtain ⟨l, hl, hxl⟩ := List.mem_flatten.1 hx'
    exact hx l hl x hxl
  rcases Nat.lt_or_ge 1 LL.length with h2 | h2
  · obtain ⟨b, o, rfl, _⟩ : ∃ b o, A = some ⟨b, o, none⟩ ∧ True := by
      obtain ⟨S, C, h1, _⟩ := hA
      obtain ⟨b, o, e, _⟩ := h1 0 (by omega)
      exact ⟨b, o, e, trivial⟩
    obtain ⟨vs, hP⟩ := parts_rll hA hx
    refine (Any.bytes_Join_many laysJ b o LL.length c vs (LL.map u8L) (.slice none 0 0) [] w (by simp) h2 hP hc ⟨none, 0, rfl, fun _ => rfl, fun a e => by cases e⟩ hn (by rw [lens_flat]; simpa using hs)).mono ?_
    rintro e w' ⟨v, rfl, hf, hb⟩
    rw [join_flat, flat_u8] at hf
    obtain ⟨A', c', rfl, _, _, hlo, hr⟩ := fresh_rl hf hfx
    exact ⟨A', c', rfl, hr, hb, hlo⟩
  · rcases Nat.eq_zero_or_pos LL.length with h0 | h0
    · obtain rfl := List.eq_nil_of_length_eq_zero h0
      refine (Any.bytes_Join_none laysJ A c (.slice none 0 0) w).mono ?_
      rintro e w' ⟨rfl, rfl⟩
      exact ⟨_, 0, rfl, RL.nil _ _, (Below.refl _ _).alloc (Nat.le_refl _) _, fun b o e => by injection e with e; injection e with e _ _; omega⟩
    · obtain ⟨l, rfl⟩ : ∃ l, LL = [l] := by
        match LL, h0, h2 with
        | [l], _, _ => exact ⟨l, rfl⟩
        | _ :: _ :: _, _, h => simp at h
      obtain ⟨S, C, h1, h3⟩ := id hA
      obtain ⟨b, o, rfl, hb, hcell⟩ := h1 0 h0
      replace hcell : w.cell? ⟨b, o, none⟩ = some (.slice (S 0) l.length (C 0)) := hcell
      have hl := h3 0 h0
      replace hl : RL w (S 0) l := hl
      have hfl : ([l] : List (List Nat)).flatten = l := by simp
      rw [hfl] at hfx hs ⊢
      rcases Nat.eq_zero_or_pos l.length with e0 | e0
      · obtain rfl := List.eq_nil_of_length_eq_zero e0
        refine (Any.bytes_Join_one_empty laysJ b o c (S 0) (C 0) (.slice none 0 0) w hcell).mono ?_
        rintro e w' ⟨rfl, rfl⟩
        exact ⟨none, 0, rfl, RL.nil _ _, Below.refl _ _, fun b o e => by cases e⟩
      · obtain ⟨b1, o1, e1, _, _⟩ := hl 0 e0
        have hll : (u8L l).length = l.length := by simp [u8L]
        obtain ⟨p, cap, hp, _, hcl⟩ := holds_rl (C 0) hl hfx
        injection hp with hp _ _
        refine (Any.bytes_Join_one laysJ b o c ⟨b1, o1, none⟩ (C 0) (u8L l) (.slice none 0 0) w (by rw [hll, ← e1]; exact hcell) (hcl _ (by rw [← hp, e1])) (by omega) (by omega)).mono ?_
        rintro e w' ⟨v, rfl, hf, hb⟩
        obtain ⟨A', c', rfl, _, _, hlo, hr⟩ := fresh_rl hf hfx
        exact ⟨A', c', rfl, hr, hb, hlo⟩
end Go.Proofs.Ytjaaldandgfkgaa
