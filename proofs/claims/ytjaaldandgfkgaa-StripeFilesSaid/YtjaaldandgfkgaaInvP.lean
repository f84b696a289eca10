/- Fields in which a thing and itself make zero; sums; spans of rows; that more rows than a span has are bound to one another. Plain. Conditions: none. -/

namespace Go.Proofs.Ytjaaldandgfkgaa

/-- A field of characteristic two. z, u: zero and one; a, m: sum and product; v: the inverse (of zero: zero). -/
structure Fd (α : Type) where
 z : α
 u : α
 a : α → α → α
 m : α → α → α
 v : α → α
 a_comm : ∀ x y, a x y = a y x
 a_assoc : ∀ x y w, a (a x y) w = a x (a y w)
 z_a : ∀ x, a z x = x
 a_self : ∀ x, a x x = z
 m_comm : ∀ x y, m x y = m y x
 m_assoc : ∀ x y w, m (m x y) w = m x (m y w)
 u_m : ∀ x, m u x = x
 dist : ∀ x y w, m x (a y w) = a (m x y) (m x w)
 z_m : ∀ x, m z x = z
 m_v : ∀ x, x ≠ z → m x (v x) = u
 v_z : v z = z
 u_z : u ≠ z

namespace Fd
variable {α : Type} (F : Fd α)
theorem a_z (x : α) : F.a x F.z = x := by rw [F.a_comm, F.z_a]
theorem m_u (x : α) : F.m x F.u = x := by rw [F.m_comm, F.u_m]
theorem m_z (x : α) : F.m x F.z = F.z := by rw [F.m_comm, F.z_m]
theorem dist' (x y w : α) : F.m (F.a x y) w = F.a (F.m x w) (F.m y w) := by rw [F.m_comm, F.dist, F.m_comm w x, F.m_comm w y]
theorem a_left (x y w : α) : F.a x (F.a y w) = F.a y (F.a x w) := by rw [← F.a_assoc, F.a_comm x y, F.a_assoc]
theorem m_left (x y w : α) : F.m x (F.m y w) = F.m y (F.m x w) := by rw [← F.m_assoc, F.m_comm x y, F.m_assoc]
theorem a_can (x y : α) : F.a x (F.a x y) = y := by rw [← F.a_assoc, F.a_self, F.z_a]
theorem eq_of_a {x y : α} (h : F.a x y = F.z) : x = y := by
 have := F.a_can x y
 rw [h, F.a_z] at this
 exact this
theorem a_eq_z {x y : α} : F.a x y = F.z ↔ x = y := ⟨F.eq_of_a, fun h => by rw [h, F.a_self]⟩
theorem m_ne {x y : α} (hx : x ≠ F.z) (hy : y ≠ F.z) : F.m x y ≠ F.z := fun h => by
 have : F.m (F.v x) (F.m x y) = y := by rw [← F.m_assoc, F.m_comm (F.v x), F.m_v x hx, F.u_m]
 rw [h, F.m_z] at this
 exact hy this.symm
theorem m_eq_z {x y : α} (h : F.m x y = F.z) : x = F.z ∨ y = F.z := by
 by_cases hx : x = F.z
 · exact .inl hx
 · by_cases hy : y = F.z
   · exact .inr hy
   · exact absurd h (F.m_ne hx hy)
theorem v_ne {x : α} (hx : x ≠ F.z) : F.v x ≠ F.z := fun h => by
 have := F.m_v x hx
 rw [h, F.m_z] at this
 exact F.u_z this.symm
theorem m_can {x y w : α} (hx : x ≠ F.z) (h : F.m x y = F.m x w) : y = w := by
 have h2 : F.m (F.v x) (F.m x y) = F.m (F.v x) (F.m x w) := by rw [h]
 rwa [← F.m_assoc, ← F.m_assoc, F.m_comm (F.v x), F.m_v x hx, F.u_m, F.u_m] at h2
theorem v_uniq {x y : α} (h : F.m x y = F.u) : y = F.v x := by
 have hx : x ≠ F.z := fun e => by rw [e, F.z_m] at h; exact F.u_z h.symm
 exact F.m_can hx (by rw [h, F.m_v x hx])

/-- The sum of the first n. -/
def s : Nat → (Nat → α) → α
 | 0, _ => F.z
 | n + 1, f => F.a (s n f) (f n)
theorem s_succ (n : Nat) (f : Nat → α) : F.s (n + 1) f = F.a (F.s n f) (f n) := rfl
theorem s_congr {n : Nat} {f g : Nat → α} (h : ∀ i, i < n → f i = g i) : F.s n f = F.s n g := by
 induction n with
 | zero => rfl
 | succ n ih => unfold s; rw [ih fun i hi => h i (by omega), h n (by omega)]
theorem s_zero {n : Nat} {f : Nat → α} (h : ∀ i, i < n → f i = F.z) : F.s n f = F.z := by
 induction n with
 | zero => rfl
 | succ n ih => unfold s; rw [ih fun i hi => h i (by omega), h n (by omega), F.z_a]
theorem s_a (n : Nat) (f g : Nat → α) : F.s n (fun i => F.a (f i) (g i)) = F.a (F.s n f) (F.s n g) := by
 induction n with
 | zero => exact (F.z_a _).symm
 | succ n ih => unfold s; rw [ih, F.a_assoc, F.a_assoc, F.a_left (F.s n g)]
theorem s_m (x : α) (n : Nat) (f : Nat → α) : F.m x (F.s n f) = F.s n fun i => F.m x (f i) := by
 induction n with
 | zero => exact F.m_z x
 | succ n ih => unfold s; rw [F.dist, ih]
theorem s_m' (x : α) (n : Nat) (f : Nat → α) : F.m (F.s n f) x = F.s n fun i => F.m (f i) x := by
 rw [F.m_comm, s_m]; exact F.s_congr fun i _ => F.m_comm _ _
theorem s_swap (n m : Nat) (f : Nat → Nat → α) : F.s n (fun i => F.s m (f i)) = F.s m fun j => F.s n fun i => f i j := by
 induction n with
 | zero => exact (F.s_zero fun _ _ => rfl).symm
 | succ n ih => rw [s_succ, ih, ← F.s_a]; rfl
theorem s_one {n k : Nat} (hk : k < n) {f : Nat → α} (h : ∀ i, i < n → i ≠ k → f i = F.z) : F.s n f = f k := by
 induction n with
 | zero => omega
 | succ n ih =>
  unfold s
  by_cases e : k = n
  · subst e
    rw [F.s_zero fun i hi => h i (by omega) (by omega), F.z_a]
  · rw [ih (by omega) fun i hi => h i (by omega), h n (by omega) (fun e' => e e'.symm), F.a_z]
theorem s_split (n k : Nat) (f : Nat → α) : F.s (n + k) f = F.a (F.s n f) (F.s k fun i => f (n + i)) := by
 induction k with
 | zero => exact (F.a_z _).symm
 | succ k ih => rw [← Nat.add_assoc, s_succ, s_succ, ih, F.a_assoc]
/-- One term is taken out. -/
theorem s_out {n k : Nat} (hk : k < n) (f : Nat → α) : F.s n f = F.a (f k) (F.s n fun i => if i = k then F.z else f i) := by
 have h1 : F.s n f = F.s n fun i => F.a (if i = k then f k else F.z) (if i = k then F.z else f i) := F.s_congr fun i _ => by
  by_cases e : i = k
  · subst e; simp [F.a_z]
  · simp [e, F.z_a]
 rw [h1, F.s_a]
 congr 1
 rw [F.s_one hk (f := fun i => if i = k then f k else F.z) fun i _ hne => by simp [hne]]
 simp
/-- A place is left out: k itself is jumped over. -/
def jump (k i : Nat) : Nat := if i < k then i else i + 1
theorem s_jump {n k : Nat} (hk : k < n + 1) (f : Nat → α) : F.s (n + 1) f = F.a (f k) (F.s n fun i => f (jump k i)) := by
 obtain ⟨d, rfl⟩ : ∃ d, n = k + d := ⟨n - k, by omega⟩
 rw [show k + d + 1 = k + (d + 1) by omega, F.s_split k (d + 1), F.s_split k d]
 have h1 : F.s k (fun i => f (jump k i)) = F.s k f := F.s_congr fun i hi => by unfold jump; rw [if_pos hi]
 have h2 : F.s (d + 1) (fun i => f (k + i)) = F.a (f k) (F.s d fun i => f (jump k (k + i))) := by
  rw [show d + 1 = 1 + d by omega, F.s_split 1 d]
  congr 1
  · show F.a F.z (f (k + 0)) = f k
    rw [F.z_a]; rfl
  · exact F.s_congr fun i _ => by unfold jump; rw [if_neg (by omega)]; congr 1; omega
 rw [h1, h2, F.a_left]

/-! ### Spans -/
/-- x, over L places, is a sum of multiples of the r rows of B. -/
def In (r L : Nat) (B : Nat → Nat → α) (x : Nat → α) : Prop := ∃ c : Nat → α, ∀ j, j < L → x j = F.s r fun i => F.m (c i) (B i j)
theorem In.row {r L : Nat} (B : Nat → Nat → α) {k : Nat} (hk : k < r) : F.In r L B (B k) :=
 ⟨fun i => if i = k then F.u else F.z, fun j _ => by
  rw [F.s_one hk fun i _ h => by simp [h, F.z_m]]
  simp [F.u_m]⟩
variable {F}
theorem In.congr {r L : Nat} {B : Nat → Nat → α} {x y : Nat → α} (h : F.In r L B x) (e : ∀ j, j < L → y j = x j) : F.In r L B y := by
 obtain ⟨c, hc⟩ := h
 exact ⟨c, fun j hj => (e j hj).trans (hc j hj)⟩
theorem In.congrB {r L : Nat} {B C : Nat → Nat → α} {x : Nat → α} (h : F.In r L B x) (e : ∀ i j, i < r → j < L → C i j = B i j) : F.In r L C x := by
 obtain ⟨c, hc⟩ := h
 exact ⟨c, fun j hj => (hc j hj).trans (F.s_congr fun i hi => by rw [e i j hi hj])⟩
theorem In.zero {r L : Nat} {B : Nat → Nat → α} {x : Nat → α} (e : ∀ j, j < L → x j = F.z) : F.In r L B x :=
 ⟨fun _ => F.z, fun j hj => by rw [e j hj, F.s_zero fun i _ => F.z_m _]⟩
theorem In.add {r L : Nat} {B : Nat → Nat → α} {x y : Nat → α} (hx : F.In r L B x) (hy : F.In r L B y) : F.In r L B fun j => F.a (x j) (y j) := by
 obtain ⟨c, hc⟩ := hx
 obtain ⟨d, hd⟩ := hy
 refine ⟨fun i => F.a (c i) (d i), fun j hj => ?_⟩
 show F.a (x j) (y j) = _
 rw [hc j hj, hd j hj, ← F.s_a]
 exact F.s_congr fun i _ => (F.dist' _ _ _).symm
theorem In.mul {r L : Nat} {B : Nat → Nat → α} {x : Nat → α} (k : α) (hx : F.In r L B x) : F.In r L B fun j => F.m k (x j) := by
 obtain ⟨c, hc⟩ := hx
 refine ⟨fun i => F.m k (c i), fun j hj => ?_⟩
 show F.m k (x j) = _
 rw [hc j hj, F.s_m]
 exact F.s_congr fun i _ => (F.m_assoc _ _ _).symm
theorem In.sum {r L n : Nat} {B : Nat → Nat → α} (c : Nat → α) {X : Nat → Nat → α} (h : ∀ i, i < n → F.In r L B (X i)) : F.In r L B fun j => F.s n fun i => F.m (c i) (X i j) := by
 induction n with
 | zero => exact In.zero fun j _ => rfl
 | succ n ih => exact (ih fun i hi => h i (by omega)).add ((h n (by omega)).mul (c n))
theorem In.trans {r t L : Nat} {B C : Nat → Nat → α} {x : Nat → α} (h : F.In r L B x) (hB : ∀ i, i < r → F.In t L C (B i)) : F.In t L C x := by
 obtain ⟨c, hc⟩ := h
 exact (In.sum c hB).congr hc
theorem In.more {r t L : Nat} {B : Nat → Nat → α} {x : Nat → α} (h : F.In r L B x) (ht : r ≤ t) : F.In t L B x := h.trans fun i hi => In.row F B (by omega)
theorem In.less {r L L' : Nat} {B : Nat → Nat → α} {x : Nat → α} (h : F.In r L B x) (hl : L' ≤ L) : F.In r L' B x := by
 obtain ⟨c, hc⟩ := h
 exact ⟨c, fun j hj => hc j (by omega)⟩
variable (F)
/-- Two lists of rows with one span. -/
def Same (n r L : Nat) (A B : Nat → Nat → α) : Prop := (∀ i, i < n → F.In r L B (A i)) ∧ ∀ i, i < r → F.In n L A (B i)
variable {F}
theorem Same.refl (n L : Nat) (A : Nat → Nat → α) : F.Same n n L A A := ⟨fun _ h => In.row F A h, fun _ h => In.row F A h⟩
theorem Same.symm {n r L : Nat} {A B : Nat → Nat → α} (h : F.Same n r L A B) : F.Same r n L B A := ⟨h.2, h.1⟩
theorem Same.trans {n r t L : Nat} {A B C : Nat → Nat → α} (h : F.Same n r L A B) (k : F.Same r t L B C) : F.Same n t L A C :=
 ⟨fun i hi => (h.1 i hi).trans k.1, fun i hi => (k.2 i hi).trans h.2⟩
theorem Same.of_eq {n L : Nat} {A B : Nat → Nat → α} (h : ∀ i j, i < n → j < L → A i j = B i j) : F.Same n n L A B :=
 ⟨fun i hi => (In.row F B hi).congr fun j hj => h i j hi hj, fun i hi => (In.row F A hi).congr fun j hj => (h i j hi hj).symm⟩
theorem Same.less {n r L L' : Nat} {A B : Nat → Nat → α} (h : F.Same n r L A B) (hl : L' ≤ L) : F.Same n r L' A B := ⟨fun i hi => (h.1 i hi).less hl, fun i hi => (h.2 i hi).less hl⟩
variable (F)
/-- More rows than places: they are bound. -/
theorem bound : ∀ (t r : Nat) (V : Nat → Nat → α), t < r → ∃ c : Nat → α, (∃ k, k < r ∧ c k ≠ F.z) ∧ ∀ j, j < t → F.s r (fun i => F.m (c i) (V i j)) = F.z := by
 intro t
 induction t with
 | zero => intro r V h; exact ⟨fun _ => F.u, ⟨0, h, F.u_z⟩, fun j hj => absurd hj (by omega)⟩
 | succ t ih =>
  intro r V h
  by_cases hz : ∃ p, p < r ∧ V p t ≠ F.z
  · obtain ⟨p, hp, hv⟩ := hz
    obtain ⟨r', rfl⟩ : ∃ r', r = r' + 1 := ⟨r - 1, by omega⟩
    obtain ⟨d, ⟨k, hk, hd⟩, hs⟩ := ih r' (fun i j => F.a (V (jump p i) j) (F.m (F.m (V (jump p i) t) (F.v (V p t))) (V p j))) (by omega)
    let q : α := F.s r' fun i => F.m (d i) (F.m (V (jump p i) t) (F.v (V p t)))
    let c : Nat → α := fun i => if i = p then q else if i < p then d i else d (i - 1)
    have hcp : c p = q := by simp [c]
    have hcj : ∀ i, c (jump p i) = d i := fun i => by
     unfold jump
     by_cases h1 : i < p
     · rw [if_pos h1]; simp [c, h1, show i ≠ p by omega]
     · rw [if_neg h1]; simp [c, show i + 1 ≠ p by omega, show ¬ i + 1 < p by omega]
    have key : ∀ j, F.s (r' + 1) (fun i => F.m (c i) (V i j)) = F.s r' fun i => F.m (d i) (F.a (V (jump p i) j) (F.m (F.m (V (jump p i) t) (F.v (V p t))) (V p j))) := fun j => by
     rw [F.s_jump hp, hcp, F.s_m', F.a_comm, ← F.s_a]
     exact F.s_congr fun i _ => by rw [hcj, F.dist, F.m_assoc (d i)]
    refine ⟨c, ⟨jump p k, by unfold jump; split <;> omega, by rw [hcj]; exact hd⟩, fun j hj => ?_⟩
    rw [key]
    by_cases e : j = t
    · subst e
      exact F.s_zero fun i _ => by rw [F.m_assoc (V (jump p i) j), F.m_comm (F.v _), F.m_v _ hv, F.m_u, F.a_self, F.m_z]
    · exact hs j (by omega)
  · obtain ⟨c, hk, hs⟩ := ih r V (by omega)
    refine ⟨c, hk, fun j hj => ?_⟩
    by_cases e : j = t
    · subst e
      refine F.s_zero fun i hi => ?_
      have : V i j = F.z := Classical.byContradiction fun h => hz ⟨i, hi, h⟩
      rw [this, F.m_z]
    · exact hs j (by omega)
/-- r rows in a span of fewer are bound. -/
theorem bound_in {r t L : Nat} {A B : Nat → Nat → α} (h : ∀ i, i < r → F.In t L B (A i)) (ht : t < r) : ∃ c : Nat → α, (∃ k, k < r ∧ c k ≠ F.z) ∧ ∀ j, j < L → F.s r (fun i => F.m (c i) (A i j)) = F.z := by
 have hC : ∃ C : Nat → Nat → α, ∀ i, i < r → ∀ j, j < L → A i j = F.s t fun k => F.m (C i k) (B k j) := by
  refine ⟨fun i => if hi : i < r then Classical.choose (h i hi) else fun _ => F.z, fun i hi => ?_⟩
  simp only [dif_pos hi]
  exact Classical.choose_spec (h i hi)
 obtain ⟨C, hC⟩ := hC
 obtain ⟨c, hk, hs⟩ := F.bound t r C ht
 refine ⟨c, hk, fun j hj => ?_⟩
 have e1 : F.s r (fun i => F.m (c i) (A i j)) = F.s r fun i => F.s t fun k => F.m (F.m (c i) (C i k)) (B k j) := F.s_congr fun i hi => by
  rw [hC i hi j hj, F.s_m]; exact F.s_congr fun k _ => (F.m_assoc _ _ _).symm
 rw [e1, F.s_swap]
 refine F.s_zero fun k hk' => ?_
 rw [← F.s_m', hs k hk', F.z_m]
/-- The rows are free: no sum of multiples is zero but that of none. -/
def Free (r L : Nat) (A : Nat → Nat → α) : Prop := ∀ c : Nat → α, (∀ j, j < L → F.s r (fun i => F.m (c i) (A i j)) = F.z) → ∀ i, i < r → c i = F.z
theorem free_le {r t L : Nat} {A B : Nat → Nat → α} (hf : F.Free r L A) (h : ∀ i, i < r → F.In t L B (A i)) : r ≤ t := by
 rcases Nat.lt_or_ge t r with ht | ht
 · obtain ⟨c, ⟨k, hk, hne⟩, hs⟩ := F.bound_in h ht
   exact absurd (hf c hs k hk) hne
 · exact ht
/-- Rows with a one at a place of their own, where all others have zero. -/
def Red (r L : Nat) (B : Nat → Nat → α) (p : Nat → Nat) : Prop := ∀ i, i < r → p i < L ∧ B i (p i) = F.u ∧ ∀ k, k < r → k ≠ i → B k (p i) = F.z
variable {F}
theorem Red.at {r L : Nat} {B : Nat → Nat → α} {p : Nat → Nat} (h : F.Red r L B p) (c : Nat → α) {k : Nat} (hk : k < r) : F.s r (fun i => F.m (c i) (B i (p k))) = c k := by
 obtain ⟨_, h1, h2⟩ := h k hk
 rw [F.s_one hk fun i hi hne => by rw [h2 i hi hne, F.m_z], h1, F.m_u]
theorem Red.free {r L : Nat} {B : Nat → Nat → α} {p : Nat → Nat} (h : F.Red r L B p) : F.Free r L B := fun c hc i hi => by
 rw [← h.at c hi]; exact hc _ (h i hi).1
/-- What lies in the span is told by its numbers at the pivots. -/
theorem Red.told {r L : Nat} {B : Nat → Nat → α} {p : Nat → Nat} (h : F.Red r L B p) {x : Nat → α} (hx : F.In r L B x) : ∀ j, j < L → x j = F.s r fun i => F.m (x (p i)) (B i j) := by
 obtain ⟨c, hc⟩ := hx
 intro j hj
 rw [hc j hj]
 exact F.s_congr fun i hi => by rw [hc (p i) (h i hi).1, h.at c hi]
theorem Red.inj {r L : Nat} {B : Nat → Nat → α} {p : Nat → Nat} (h : F.Red r L B p) {i k : Nat} (hi : i < r) (hk : k < r) (e : p i = p k) : i = k := Classical.byContradiction fun hne => by
 have h1 := (h i hi).2.1
 rw [e] at h1
 rw [(h k hk).2.2 i hi hne] at h1
 exact F.u_z h1.symm
theorem red_len {n r t L : Nat} {A B C : Nat → Nat → α} {p q : Nat → Nat} (hB : F.Red r L B p) (hC : F.Red t L C q) (h1 : F.Same n r L A B) (h2 : F.Same n t L A C) : r = t :=
 Nat.le_antisymm (F.free_le hB.free (h1.symm.trans h2).1) (F.free_le hC.free (h2.symm.trans h1).1)
end Fd
end Go.Proofs.Ytjaaldandgfkgaa

/- Elimination: what it leaves, step by step; what the staircase says of ranks, inverses, solutions. Plain. Conditions: none. -/
namespace Go.Proofs.Ytjaaldandgfkgaa
namespace Fd
variable {α : Type} (F : Fd α)

/-- G' has G's span; its first st rows have a one, alone in its column, at rising columns below c; the others are zero there. -/
structure RR (n L c : Nat) (G G' : Nat → Nat → α) (st : Nat) (p : Nat → Nat) : Prop where
 same : F.Same n n L G G'
 le : st ≤ n
 piv : ∀ i, i < st → p i < c ∧ G' i (p i) = F.u ∧ ∀ k, k < n → k ≠ i → G' k (p i) = F.z
 up : ∀ i k, i < k → k < st → p i < p k
 zero : ∀ i, st ≤ i → i < n → ∀ j, j < c → G' i j = F.z
/-- Rows r and t change places. -/
def swp (r t i : Nat) : Nat := if i = t then r else if i = r then t else i
theorem swp_lt {r t i n : Nat} (hr : r < n) (ht : t < n) (hi : i < n) : swp r t i < n := by unfold swp; split <;> (try split) <;> omega
theorem swp_swp (r t i : Nat) : swp r t (swp r t i) = i := by
 unfold swp
 by_cases h1 : i = t
 · subst h1
   simp only [if_true]
   by_cases h2 : r = i
   · rw [if_pos h2]; exact h2
   · rw [if_neg h2]
 · rw [if_neg h1]
   by_cases h2 : i = r
   · subst h2; simp
   · simp [h1, h2]
/-- The rows when t's has been scaled. -/
def scl (x : α) (t : Nat) (R : Nat → Nat → α) (i j : Nat) : α := if i = t then F.m (R t j) x else R i j
/-- The rows when t's has been taken from those before e, as often as column c says. -/
def elm (c t e : Nat) (R : Nat → Nat → α) (i j : Nat) : α := if i < e ∧ i ≠ t then F.a (R i j) (F.m (R t j) (R i c)) else R i j
variable {F}
theorem RR.start (n L : Nat) (G : Nat → Nat → α) (p : Nat → Nat) : F.RR n L 0 G G 0 p :=
 ⟨Same.refl n L G, Nat.zero_le _, fun i hi => absurd hi (by omega), fun i k _ hk => absurd hk (by omega), fun i _ _ j hj => absurd hj (by omega)⟩
theorem RR.skip {n L c : Nat} {G G' : Nat → Nat → α} {st : Nat} {p : Nat → Nat} (h : F.RR n L c G G' st p) (hz : ∀ i, st ≤ i → i < n → G' i c = F.z) : F.RR n L (c + 1) G G' st p :=
 ⟨h.same, h.le, fun i hi => ⟨by have := (h.piv i hi).1; omega, (h.piv i hi).2⟩, h.up, fun i h1 h2 j hj => by
  by_cases e : j = c
  · subst e; exact hz i h1 h2
  · exact h.zero i h1 h2 j (by omega)⟩
theorem same_swp {n L r t : Nat} (hr : r < n) (ht : t < n) (G : Nat → Nat → α) : F.Same n n L G (fun i => G (swp r t i)) :=
 ⟨fun i hi => (In.row F (fun i => G (swp r t i)) (swp_lt hr ht hi)).congr fun j _ => by rw [swp_swp], fun i hi => In.row F G (swp_lt hr ht hi)⟩
theorem same_scl {n L t : Nat} (ht : t < n) {x : α} (hx : x ≠ F.z) (R : Nat → Nat → α) : F.Same n n L R (F.scl x t R) := by
 refine ⟨fun i hi => ?_, fun i hi => ?_⟩
 · by_cases e : i = t
   · subst e
     refine ((In.row F (F.scl x i R) ht).mul (F.v x)).congr fun j _ => ?_
     unfold scl
     rw [if_pos rfl, F.m_left, F.m_comm (F.v x), F.m_v x hx, F.m_u]
   · exact (In.row F (F.scl x t R) hi).congr fun j _ => by unfold scl; rw [if_neg e]
 · by_cases e : i = t
   · subst e
     exact ((In.row F R ht).mul x).congr fun j _ => by unfold scl; rw [if_pos rfl, F.m_comm]
   · exact (In.row F R hi).congr fun j _ => by unfold scl; rw [if_neg e]
theorem same_elm {n L c t : Nat} (ht : t < n) (R : Nat → Nat → α) : F.Same n n L R (F.elm c t n R) := by
 have ht' : ∀ j, F.elm c t n R t j = R t j := fun j => by unfold elm; rw [if_neg fun h => h.2 rfl]
 refine ⟨fun i hi => ?_, fun i hi => ?_⟩
 · by_cases e : i = t
   · subst e
     exact (In.row F (F.elm c i n R) ht).congr fun j _ => (ht' j).symm
   · refine ((In.row F (F.elm c t n R) hi).add ((In.row F (F.elm c t n R) ht).mul (R i c))).congr fun j _ => ?_
     rw [ht' j]
     unfold elm
     rw [if_pos ⟨hi, e⟩, F.m_comm (R i c), F.a_assoc, F.a_self, F.a_z]
 · by_cases e : i = t
   · subst e
     exact (In.row F R ht).congr fun j _ => ht' j
   · refine ((In.row F R hi).add ((In.row F R ht).mul (R i c))).congr fun j _ => ?_
     unfold elm
     rw [if_pos ⟨hi, e⟩, F.m_comm (R i c)]
theorem RR.pivot {n L c r : Nat} {G G' : Nat → Nat → α} {st : Nat} {p : Nat → Nat} (h : F.RR n L c G G' st p) (h1 : st ≤ r) (hr : r < n) (hne : G' r c ≠ F.z) :
 F.RR n L (c + 1) G (F.elm c st n (F.scl (F.v (G' r c)) st fun i => G' (swp r st i))) (st + 1) (fun i => if i = st then c else p i) := by
 have hst : st < n := by omega
 have hx := F.v_ne hne
 have hS : ∀ i j, i < n → j < L → True := fun _ _ _ _ => trivial
 clear hS
 let R : Nat → Nat → α := fun i => G' (swp r st i)
 let N := F.elm c st n (F.scl (F.v (G' r c)) st R)
 have hRst : ∀ j, R st j = G' r j := fun j => by show G' (swp r st st) j = _; unfold swp; rw [if_pos rfl]
 have hRlo : ∀ i, i < st → ∀ j, R i j = G' i j := fun i hi j => by show G' (swp r st i) j = _; unfold swp; rw [if_neg (by omega), if_neg (by omega)]
 have hRz : ∀ i, st ≤ i → i < n → ∀ j, j < c → R i j = F.z := fun i hi hin j hj => by
  show G' (swp r st i) j = _
  unfold swp
  split
  · exact h.zero r h1 hr j hj
  · split
    · exact h.zero st (Nat.le_refl _) hst j hj
    · exact h.zero i hi hin j hj
 have hN0 : ∀ j, N st j = F.m (G' r j) (F.v (G' r c)) := fun j => by
  show F.elm _ _ _ _ _ _ = _
  unfold elm scl
  rw [if_neg (fun h => h.2 rfl), if_pos rfl, hRst]
 have hN1 : ∀ i, i < n → i ≠ st → ∀ j, N i j = F.a (R i j) (F.m (N st j) (R i c)) := fun i hi hne j => by
  rw [hN0]
  show F.elm _ _ _ _ _ _ = _
  unfold elm scl
  rw [if_pos ⟨hi, hne⟩, if_neg hne, if_pos rfl, if_neg hne, hRst]
 have hNc : N st c = F.u := by rw [hN0, F.m_v _ hne]
 have hNz : ∀ i, i < n → i ≠ st → N i c = F.z := fun i hi hne => by rw [hN1 i hi hne, hNc, F.u_m, F.a_self]
 have hNp : ∀ i, i < st → N st (p i) = F.z := fun i hi => by
  rw [hN0, (h.piv i hi).2.2 r hr (by omega), F.z_m]
 refine ⟨h.same.trans ((same_swp hr hst G').trans ((same_scl hst hx R).trans (same_elm hst _))), by omega, fun i hi => ?_, fun i k hik hk => ?_, fun i hi hin j hj => ?_⟩
 · by_cases e : i = st
   · subst e
     rw [if_pos rfl]
     exact ⟨by omega, hNc, fun k hk hki => hNz k hk hki⟩
   · obtain ⟨h2, h3, h4⟩ := h.piv i (by omega)
     rw [if_neg e]
     refine ⟨by omega, ?_, fun k hk hki => ?_⟩
     · show N i (p i) = _
       rw [hN1 i (by omega) e, hNp i (by omega), F.z_m, F.a_z, hRlo i (by omega), h3]
     · show N k (p i) = _
       by_cases e2 : k = st
       · subst e2; exact hNp i (by omega)
       · rw [hN1 k hk e2, hNp i (by omega), F.z_m, F.a_z]
         show G' (swp r st k) (p i) = _
         exact h4 _ (swp_lt hr hst hk) (by unfold swp; split <;> (try split) <;> omega)
 · by_cases e : k = st
   · subst e
     rw [if_pos rfl, if_neg (by omega)]
     exact (h.piv i hik).1
   · rw [if_neg (by omega), if_neg e]
     exact h.up i k hik (by omega)
 · show N i j = _
   by_cases e : j = c
   · subst e; exact hNz i hin (by omega)
   · rw [hN1 i hin (by omega), hRz i (by omega) hin j (by omega), hN0, h.zero r h1 hr j (by omega), F.z_m, F.z_m, F.a_z]
/-- The staircase's first rows, as rows with pivots. -/
theorem RR.red {n L c : Nat} {G G' : Nat → Nat → α} {st : Nat} {p : Nat → Nat} (h : F.RR n L c G G' st p) (hc : c ≤ L) : F.Red st L G' p := fun i hi =>
 ⟨by have := (h.piv i hi).1; omega, (h.piv i hi).2.1, fun k hk hne => (h.piv i hi).2.2 k (by have := h.le; omega) hne⟩
/-- All columns gone through: the first rows have the span. -/
theorem RR.span {n L : Nat} {G G' : Nat → Nat → α} {st : Nat} {p : Nat → Nat} (h : F.RR n L L G G' st p) : F.Same n st L G G' := by
 refine ⟨fun i hi => (h.same.1 i hi).trans fun k hk => ?_, fun i hi => h.same.2 i (by have := h.le; omega)⟩
 by_cases e : k < st
 · exact In.row F G' e
 · exact In.zero fun j hj => h.zero k (by omega) hk j hj
end Fd
end Go.Proofs.Ytjaaldandgfkgaa

/- Ranks, inverses and solutions: what the program's staircase and the document's basis have in common. Plain. Conditions: none. -/
namespace Go.Proofs.Ytjaaldandgfkgaa
namespace Fd
variable {α : Type} {F : Fd α}

/-- n free rows in the span of n others: those are free, too. -/
theorem free_of_span {n L : Nat} {X Y : Nat → Nat → α} (hX : F.Free n L X) (h : ∀ i, i < n → F.In n L Y (X i)) : F.Free n L Y := fun c hc i hi => Classical.byContradiction fun hne => by
 obtain ⟨n', rfl⟩ : ∃ n', n = n' + 1 := ⟨n - 1, by omega⟩
 have hY : ∀ k, k < n' + 1 → F.In n' L (fun k => Y (jump i k)) (Y k) := fun k hk => by
  by_cases e : k = i
  · subst e
    refine ⟨fun t => F.m (F.v (c k)) (c (jump k t)), fun j hj => ?_⟩
    have h1 := hc j hj
    rw [F.s_jump hk] at h1
    have h2 := F.eq_of_a h1
    have h3 : F.m (F.v (c k)) (F.m (c k) (Y k j)) = Y k j := by rw [← F.m_assoc, F.m_comm (F.v _), F.m_v _ hne, F.u_m]
    rw [← h3, h2, F.s_m]
    exact F.s_congr fun t _ => (F.m_assoc _ _ _).symm
  · rcases Nat.lt_or_ge k i with h1 | h1
    · exact (In.row F (fun k => Y (jump i k)) (show k < n' by omega)).congr fun j _ => by show Y k j = Y (jump i k) j; unfold jump; rw [if_pos h1]
    · exact (In.row F (fun k => Y (jump i k)) (show k - 1 < n' by omega)).congr fun j _ => by show Y k j = Y (jump i (k - 1)) j; unfold jump; rw [if_neg (by omega), show k - 1 + 1 = k by omega]
 have := F.free_le hX fun k hk => (h k hk).trans hY
 omega
theorem Free.more {n L L' : Nat} {A : Nat → Nat → α} (h : F.Free n L A) (hl : L ≤ L') : F.Free n L' A := fun c hc => h c fun j hj => hc j (by omega)
/-- As many steps as rows just if the rows are free over the first columns. -/
theorem RR.full_iff {n L c : Nat} {G G' : Nat → Nat → α} {st : Nat} {p : Nat → Nat} (h : F.RR n L c G G' st p) (hc : c ≤ L) : st = n ↔ F.Free n c G := by
 have hs := h.same.less hc
 constructor
 · intro e
   subst e
   have hr : F.Red st c G' p := fun i hi => ⟨(h.piv i hi).1, (h.piv i hi).2.1, (h.piv i hi).2.2⟩
   exact free_of_span hr.free hs.2
 · intro hf
   have := F.free_le hf (t := st) (B := G') fun i hi => (hs.1 i hi).trans fun k hk => by
    by_cases e : k < st
    · exact In.row F G' e
    · exact In.zero fun j hj => h.zero k (by omega) hk j hj
   have := h.le
   omega
theorem rising {n : Nat} {p : Nat → Nat} (h1 : ∀ i k, i < k → k < n → p i < p k) (h2 : ∀ i, i < n → p i < n) : ∀ i, i < n → p i = i := by
 have lo : ∀ i, i < n → i ≤ p i := by
  intro i
  induction i with
  | zero => intro _; omega
  | succ i ih => intro hi; have := ih (by omega); have := h1 i (i + 1) (by omega) hi; omega
 have hi : ∀ d i, n - i = d → i < n → p i ≤ i := by
  intro d
  induction d with
  | zero => intro i hd hi; omega
  | succ d ih =>
   intro i hd hi
   by_cases e : i + 1 < n
   · have := ih (i + 1) (by omega) e; have := h1 i (i + 1) (by omega) e; omega
   · have := h2 i hi; omega
 intro i hlt
 have := lo i hlt
 have := hi _ i rfl hlt
 omega
/-- A full staircase: the i-th row is one at i, zero at the other first columns. -/
theorem RR.unit {n L : Nat} {G G' : Nat → Nat → α} {p : Nat → Nat} (h : F.RR n L n G G' n p) : ∀ i, i < n → p i = i :=
 rising h.up fun i hi => (h.piv i hi).1
theorem RR.full_red {n L : Nat} {G G' : Nat → Nat → α} {p : Nat → Nat} (h : F.RR n L n G G' n p) (hL : n ≤ L) : F.Red n L G' (fun i => i) := fun i hi => by
 have := h.red hL i hi
 rwa [h.unit i hi] at this

/-! ### The document's basis -/
/-- Rows R, each with a one at its pivot below n and zeros there in the others, with the span of A's first k rows. -/
structure BS (F : Fd α) (k r W n : Nat) (A R : Nat → Nat → α) (p : Nat → Nat) : Prop where
 same : F.Same k r W A R
 piv : ∀ i, i < r → p i < n ∧ R i (p i) = F.u ∧ ∀ t, t < r → t ≠ i → R t (p i) = F.z
theorem BS.start (W n : Nat) (A R : Nat → Nat → α) (p : Nat → Nat) : F.BS 0 0 W n A R p := ⟨⟨fun i hi => absurd hi (by omega), fun i hi => absurd hi (by omega)⟩, fun i hi => absurd hi (by omega)⟩
theorem BS.red {k r W n : Nat} {A R : Nat → Nat → α} {p : Nat → Nat} (h : F.BS k r W n A R p) (hn : n ≤ W) : F.Red r W R p := fun i hi => ⟨by have := (h.piv i hi).1; omega, (h.piv i hi).2⟩
theorem BS.red' {k r W n : Nat} {A R : Nat → Nat → α} {p : Nat → Nat} (h : F.BS k r W n A R p) : F.Red r n R p := fun i hi => h.piv i hi
variable (F)
/-- A row less its parts in the first k rows of a basis, one after the other. -/
def lss (R : Nat → Nat → α) (p : Nat → Nat) (x : Nat → α) : Nat → Nat → α
 | 0 => x
 | k + 1 => fun j => F.a (lss R p x k j) (F.m (lss R p x k (p k)) (R k j))
variable {F}
theorem lss_in {r W : Nat} (R : Nat → Nat → α) (p : Nat → Nat) (x : Nat → α) : ∀ k, k ≤ r → F.In r W R (fun j => F.a (x j) (F.lss R p x k j))
 | 0, _ => In.zero fun j _ => F.a_self _
 | k + 1, hk => ((lss_in R p x k (by omega)).add ((In.row F R (show k < r by omega)).mul (F.lss R p x k (p k)))).congr fun j _ => by
  show F.a (x j) (F.a _ _) = F.a (F.a (x j) _) _
  rw [F.a_assoc]
theorem lss_z {r n : Nat} {R : Nat → Nat → α} {p : Nat → Nat} (h : F.Red r n R p) (x : Nat → α) : ∀ k, k ≤ r → ∀ i, i < k → F.lss R p x k (p i) = F.z
 | 0, _, i, hi => absurd hi (by omega)
 | k + 1, hk, i, hi => by
  show F.a (F.lss R p x k (p i)) (F.m _ (R k (p i))) = _
  by_cases e : i = k
  · subst e
    rw [(h i (by omega)).2.1, F.m_u, F.a_self]
  · rw [lss_z h x k (by omega) i (by omega), (h i (by omega)).2.2 k (by omega) (fun e' => e e'.symm), F.m_z, F.a_z]
/-- Nothing is left of the row. -/
theorem BS.skip {k r W : Nat} {A R : Nat → Nat → α} {p : Nat → Nat} (h : F.BS k r W W A R p) (hz : ∀ j, j < W → F.lss R p (A k) r j = F.z) : F.BS (k + 1) r W W A R p :=
 ⟨⟨fun i hi => by
  by_cases e : i = k
  · subst e
    exact (lss_in R p (A i) r (Nat.le_refl _)).congr fun j hj => by rw [hz j hj, F.a_z]
  · exact h.same.1 i (by omega), fun i hi => (h.same.2 i hi).more (by omega)⟩, h.piv⟩
/-- The basis with one row more. -/
def nrow (F : Fd α) (R : Nat → Nat → α) (p : Nat → Nat) (x : Nat → α) (r q : Nat) (j : Nat) : α := F.a F.z (F.m (F.v (F.lss R p x r q)) (F.lss R p x r j))
def nbas (F : Fd α) (R : Nat → Nat → α) (p : Nat → Nat) (x : Nat → α) (r q : Nat) (i j : Nat) : α := if i < r then F.a (R i j) (F.m (R i q) (F.nrow R p x r q j)) else F.nrow R p x r q j
theorem BS.next {k r W n : Nat} {A R : Nat → Nat → α} {p : Nat → Nat} (h : F.BS k r W n A R p) {q : Nat} (hq : q < n) (hne : F.lss R p (A k) r q ≠ F.z) :
 F.BS (k + 1) (r + 1) W n A (F.nbas R p (A k) r q) (fun i => if i < r then p i else q) := by
 have hred := h.red'
 have hv : ∀ j, F.nrow R p (A k) r q j = F.m (F.v (F.lss R p (A k) r q)) (F.lss R p (A k) r j) := fun j => F.z_a _
 have hvq : F.nrow R p (A k) r q q = F.u := by rw [hv, F.m_comm, F.m_v _ hne]
 have hvp : ∀ i, i < r → F.nrow R p (A k) r q (p i) = F.z := fun i hi => by rw [hv, lss_z hred (A k) r (Nat.le_refl _) i hi, F.m_z]
 have hnb : ∀ i, i < r → ∀ j, F.nbas R p (A k) r q i j = F.a (R i j) (F.m (R i q) (F.nrow R p (A k) r q j)) := fun i hi j => by unfold nbas; rw [if_pos hi]
 have hnr : ∀ j, F.nbas R p (A k) r q r j = F.nrow R p (A k) r q j := fun j => by unfold nbas; rw [if_neg (by omega)]
 -- the old rows in the new span
 have hlast : F.In (r + 1) W (F.nbas R p (A k) r q) (F.nrow R p (A k) r q) := (In.row F (F.nbas R p (A k) r q) (show r < r + 1 by omega)).congr fun j _ => (hnr j).symm
 have hold : ∀ i, i < r → F.In (r + 1) W (F.nbas R p (A k) r q) (R i) := fun i hi =>
  ((In.row F (F.nbas R p (A k) r q) (show i < r + 1 by omega)).add (hlast.mul (R i q))).congr fun j _ => by rw [hnb i hi, F.a_assoc, F.a_self, F.a_z]
 have hl : F.In (r + 1) W (F.nbas R p (A k) r q) (F.lss R p (A k) r) := (hlast.mul (F.lss R p (A k) r q)).congr fun j _ => by
  rw [hv, ← F.m_assoc, F.m_v _ hne, F.u_m]
 -- the new row in the span of the first k + 1
 have hAk : F.In (k + 1) W A (F.lss R p (A k) r) := by
  refine ((In.row F A (show k < k + 1 by omega)).add (((lss_in (W := W) R p (A k) r (Nat.le_refl _)).trans h.same.2).more (show k ≤ k + 1 by omega))).congr fun j _ => ?_
  rw [F.a_can]
 have hrow : F.In (k + 1) W A (F.nrow R p (A k) r q) := (hAk.mul (F.v (F.lss R p (A k) r q))).congr fun j _ => hv j
 refine ⟨⟨fun i hi => ?_, fun i hi => ?_⟩, fun i hi => ?_⟩
 · by_cases e : i = k
   · subst e
     have h1 := ((lss_in (W := W) R p (A i) r (Nat.le_refl _)).trans hold).add hl
     exact h1.congr fun j _ => by rw [F.a_assoc, F.a_self, F.a_z]
   · exact (h.same.1 i (by omega)).trans hold
 · by_cases e : i < r
   · exact (((h.same.2 i e).more (show k ≤ k + 1 by omega)).add (hrow.mul (R i q))).congr fun j _ => hnb i e j
   · have : i = r := by omega
     subst this
     exact hrow.congr fun j _ => hnr j
 · by_cases e : i < r
   · obtain ⟨h1, h2, h3⟩ := h.piv i e
     rw [if_pos e]
     refine ⟨h1, by rw [hnb i e, hvp i e, F.m_z, F.a_z, h2], fun t ht hti => ?_⟩
     by_cases e2 : t < r
     · rw [hnb t e2, hvp i e, F.m_z, F.a_z, h3 t e2 hti]
     · have : t = r := by omega
       subst this
       rw [hnr, hvp i e]
   · have : i = r := by omega
     subst this
     rw [if_neg (by omega)]
     refine ⟨hq, by rw [hnr, hvq], fun t ht hti => ?_⟩
     rw [hnb t (by omega), hvq, F.m_u, F.a_self]
/-- Nothing is left of a row over the first columns: the rows are not free there. -/
theorem BS.bound {k r W n m : Nat} {A R : Nat → Nat → α} {p : Nat → Nat} (h : F.BS k r W n A R p) (hn : n ≤ W) (hk : k < m) (hz : ∀ j, j < n → F.lss R p (A k) r j = F.z) : ¬ F.Free m n A := fun hf => by
 obtain ⟨c, hc⟩ := ((lss_in (W := W) R p (A k) r (Nat.le_refl _)).trans h.same.2)
 let d : Nat → α := fun i => if i < k then c i else if i = k then F.u else F.z
 have h1 := hf d (fun j hj => by
  have h2 : F.s m (fun i => F.m (d i) (A i j)) = F.a (F.s k fun i => F.m (c i) (A i j)) (A k j) := by
   obtain ⟨e, rfl⟩ : ∃ e, m = k + (1 + e) := ⟨m - k - 1, by omega⟩
   rw [F.s_split, F.s_split]
   have e1 : F.s k (fun i => F.m (d i) (A i j)) = F.s k fun i => F.m (c i) (A i j) := F.s_congr fun i hi => by simp [d, hi]
   have e2 : F.s 1 (fun i => F.m (d (k + i)) (A (k + i) j)) = A k j := by
    show F.a F.z (F.m (d (k + 0)) (A (k + 0) j)) = _
    rw [F.z_a]; simp [d, F.u_m]
   have e3 : F.s e (fun i => F.m (d (k + (1 + i))) (A (k + (1 + i)) j)) = F.z := F.s_zero fun i _ => by
    simp [d, show ¬ k + (1 + i) < k by omega, F.z_m]
   rw [e1, e2, e3, F.a_z]
  have h3 : F.a (A k j) (F.lss R p (A k) r j) = F.s k fun i => F.m (c i) (A i j) := hc j (by omega)
  rw [h2, ← h3, hz j hj, F.a_z, F.a_self]) k hk
 simp [d] at h1
 exact F.u_z h1
/-- All rows taken in: they are free over the first columns. -/
theorem BS.free {W n : Nat} {A R : Nat → Nat → α} {p : Nat → Nat} (h : F.BS n n W n A R p) (hn : n ≤ W) : F.Free n n A := free_of_span h.red'.free (h.same.less hn).2
/-- The rank: of the program, of the document. -/
theorem rank_eq {n L r st : Nat} {A G' R : Nat → Nat → α} {p q : Nat → Nat} (h : F.RR n L L A G' st p) (hB : F.BS n r L L A R q) : st = r :=
 red_len (h.red (Nat.le_refl _)) (hB.red (Nat.le_refl _)) h.span hB.same
/-- The inverse's rows: the basis' row with pivot i is the staircase's row i. -/
theorem row_eq {n L : Nat} {A G' R : Nat → Nat → α} {p q : Nat → Nat} (h : F.RR n L n A G' n p) (hL : n ≤ L) (hB : F.BS n n L n A R q) {t : Nat} (ht : t < n) : ∀ j, j < L → R t j = G' (q t) j := by
 have hr := h.full_red hL
 intro j hj
 have h1 := hr.told ((hB.same.2 t ht).trans h.same.1) j hj
 rw [h1, F.s_one (k := q t) (hB.piv t ht).1, (hB.piv t ht).2.1, F.u_m]
 intro i hi hne
 -- the basis' row is zero at i: i is another's pivot
 obtain ⟨u, hu⟩ : ∃ u, u < n ∧ q u = i := Classical.byContradiction fun hno => by
  have h2 := (hB.red hL).told ((h.same.2 i hi).trans hB.same.1) i (by omega)
  rw [F.s_zero] at h2
  · rw [(hr i hi).2.1] at h2; exact F.u_z h2
  · intro u hu
    have h3 := (hr (q u) (hB.piv u hu).1).2.2 i hi (fun e => hno ⟨u, hu, e.symm⟩)
    rw [h3, F.z_m]
 have hut : u ≠ t := fun e => hne (by rw [← hu.2, e])
 rw [← hu.2, (hB.piv u hu.1).2.2 t ht (fun e => hut e.symm), F.z_m]
theorem piv_all {n L : Nat} {A G' R : Nat → Nat → α} {p q : Nat → Nat} (h : F.RR n L n A G' n p) (hL : n ≤ L) (hB : F.BS n n L n A R q) {i : Nat} (hi : i < n) : ∃ u, u < n ∧ q u = i := Classical.byContradiction fun hno => by
 have hr := h.full_red hL
 have h2 := (hB.red hL).told ((h.same.2 i hi).trans hB.same.1) i (by omega)
 rw [F.s_zero] at h2
 · rw [(hr i hi).2.1] at h2; exact F.u_z h2
 · intro u hu
   have h3 := (hr (q u) (hB.piv u hu).1).2.2 i hi (fun e => hno ⟨u, hu, e.symm⟩)
   rw [h3, F.z_m]
end Fd
end Go.Proofs.Ytjaaldandgfkgaa

/- Inverses and solutions, in plain: the program's and the document's are one. Conditions: none. -/
namespace Go.Proofs.Ytjaaldandgfkgaa
/-- A row and another behind it. -/
def bsd {α : Type} (C : Nat) (g h : Nat → α) (j : Nat) : α := if j < C then g j else h (j - C)
namespace Fd
variable {α : Type} {F : Fd α}
/-- Every place is a pivot. -/
theorem red_surj {n : Nat} {R : Nat → Nat → α} {q : Nat → Nat} (h : F.Red n n R q) {i : Nat} (hi : i < n) : ∃ t, t < n ∧ q t = i := Classical.byContradiction fun hno => by
 obtain ⟨c, ⟨k, hk, hne⟩, hs⟩ := F.bound n (n + 1) (fun t j => if t = n then (if j = i then F.u else F.z) else R t j) (Nat.lt_succ_self n)
 have hrow : ∀ j, F.s n (fun t => F.m (c t) (if t = n then (if j = i then F.u else F.z) else R t j)) = F.s n fun t => F.m (c t) (R t j) := fun j => F.s_congr fun t ht => by rw [if_neg (by omega)]
 have hp : ∀ t, t < n → c t = F.z := fun t ht => by
  have h1 := hs (q t) (h t ht).1
  rw [F.s_succ, hrow, h.at c ht, if_pos rfl, if_neg (fun e => hno ⟨t, ht, e⟩), F.m_z, F.a_z] at h1
  exact h1
 have hn : c n = F.z := by
  have h1 := hs i hi
  rw [F.s_succ, hrow, F.s_zero (fun t ht => by rw [hp t ht, F.z_m]), F.z_a, if_pos rfl, if_pos rfl, F.m_u] at h1
  exact h1
 rcases Nat.lt_or_ge k n with h1 | h1
 · exact hne (hp k h1)
 · exact hne (by rw [show k = n by omega]; exact hn)
variable (F)
/-- The identity. -/
def idm (i j : Nat) : α := if i = j then F.u else F.z
/-- A square matrix with the identity behind it. -/
def aug (n : Nat) (G : Nat → Nat → α) (i : Nat) : Nat → α := bsd n (G i) (F.idm i)
variable {F}
theorem aug_lo {n : Nat} {G : Nat → Nat → α} {i j : Nat} (h : j < n) : F.aug n G i j = G i j := if_pos h
theorem free_aug {n : Nat} {G : Nat → Nat → α} : F.Free n n (F.aug n G) ↔ F.Free n n G := by
 have e : ∀ c : Nat → α, ∀ j, j < n → F.s n (fun i => F.m (c i) (F.aug n G i j)) = F.s n fun i => F.m (c i) (G i j) := fun c j hj => F.s_congr fun i _ => by rw [aug_lo hj]
 exact ⟨fun h c hc => h c fun j hj => by rw [e c j hj]; exact hc j hj, fun h c hc => h c fun j hj => by rw [← e c j hj]; exact hc j hj⟩
/-- A row of the full staircase of (A | I): what makes it of A's rows stands behind. -/
theorem inv_row {n : Nat} {G G' : Nat → Nat → α} {p : Nat → Nat} (h : F.RR n (n + n) n (F.aug n G) G' n p) {i : Nat} (hi : i < n) : ∀ j, j < n → F.s n (fun t => F.m (G' i (n + t)) (G t j)) = F.idm i j := by
 obtain ⟨c, hc⟩ := h.same.2 i hi
 have h1 : ∀ t, t < n → G' i (n + t) = c t := fun t ht => by
  rw [hc (n + t) (by omega), F.s_one (k := t) ht]
  · show F.m (c t) (bsd n (G t) (F.idm t) (n + t)) = _
    unfold bsd idm
    rw [if_neg (by omega), if_pos (by omega), F.m_u]
  · intro k _ hne
    show F.m (c k) (bsd n (G k) (F.idm k) (n + t)) = _
    unfold bsd idm
    rw [if_neg (by omega), if_neg (by omega), F.m_z]
 intro j hj
 have hr := h.full_red (by omega)
 have h2 : G' i j = F.idm i j := by
  unfold idm
  by_cases e : i = j
  · subst e; rw [if_pos rfl]; exact (hr i hi).2.1
  · rw [if_neg e]; exact (hr j hj).2.2 i hi e
 rw [← h2, hc j (by omega)]
 exact F.s_congr fun t ht => by rw [h1 t ht, aug_lo hj]
/-- The other way round: the matrix times the staircase's hind part is the identity. -/
theorem inv_right {n : Nat} {G G' : Nat → Nat → α} {p : Nat → Nat} (h : F.RR n (n + n) n (F.aug n G) G' n p) {i : Nat} (hi : i < n) : ∀ j, j < n → F.s n (fun t => F.m (G i t) (G' t (n + j))) = F.idm i j := by
 intro j hj
 have hr := h.full_red (show n ≤ n + n by omega)
 have h1 := hr.told (h.same.1 i hi) (n + j) (by omega)
 have h2 : F.aug n G i (n + j) = F.idm i j := by
  show bsd n (G i) (F.idm i) (n + j) = _
  unfold bsd
  rw [if_neg (by omega)]
  congr 1
  omega
 rw [← h2, h1]
 exact F.s_congr fun t ht => by rw [aug_lo ht]
/-- The solution out of the staircase of (A | v) is the inverse's row times v. -/
theorem solve_row {n : Nat} {G G' N : Nat → Nat → α} {p r : Nat → Nat} {v : Nat → α} (h : F.RR n (n + n) n (F.aug n G) G' n p) (hN : F.RR n (n + 1) n (fun i => bsd n (G i) (fun _ => v i)) N n r) {i : Nat} (hi : i < n) :
 N i n = F.s n fun t => F.m (G' i (n + t)) (v t) := by
 have hr := hN.full_red (show n ≤ n + 1 by omega)
 -- the row that the inverse makes of (A | v)
 let y : Nat → α := fun j => F.s n fun t => F.m (G' i (n + t)) (bsd n (G t) (fun _ => v t) j)
 have hy : F.In n (n + 1) N y := (In.sum (fun t => G' i (n + t)) fun t ht => In.row F (fun i => bsd n (G i) (fun _ => v i)) ht).trans hN.same.1
 have hlo : ∀ j, j < n → y j = F.idm i j := fun j hj => by
  rw [← inv_row h hi j hj]
  exact F.s_congr fun t _ => by unfold bsd; rw [if_pos hj]
 have h1 := hr.told hy n (by omega)
 have h2 : y n = F.s n fun t => F.m (G' i (n + t)) (v t) := F.s_congr fun t _ => by unfold bsd; rw [if_neg (by omega)]
 rw [← h2, h1, F.s_one (k := i) hi]
 · rw [hlo i hi]; unfold idm; rw [if_pos rfl, F.u_m]
 · intro k hk hne
   rw [hlo k hk]; unfold idm; rw [if_neg (fun e => hne e.symm), F.z_m]
end Fd
end Go.Proofs.Ytjaaldandgfkgaa
