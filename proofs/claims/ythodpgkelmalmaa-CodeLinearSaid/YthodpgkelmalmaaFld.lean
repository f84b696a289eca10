/- Fields in which a thing and itself make zero; sums; spans of rows; that more rows than a span has are bound to one another. Plain. Conditions: none. -/
namespace Go.Proofs.Ythodpgkelmalmaa

/-- A field of characteristic two. z, u: zero and one; a, m: sum and product; v: the inverse (of zero: zero). -/
structure Fd (α : Type) where
  z : α
  u : α
  a : α → α → α
  m : α → α → α
  v : α → α
  a_comm : ∀ x y, a x y = a y x
  a_assoc : ∀ x y w, a (a x y) w = a x (a y w)
  z_a : ∀ x, a z x = x
  a_self : ∀ x, a x x = z
  m_comm : ∀ x y, m x y = m y x
  m_assoc : ∀ x y w, m (m x y) w = m x (m y w)
  u_m : ∀ x, m u x = x
  dist : ∀ x y w, m x (a y w) = a (m x y) (m x w)
  z_m : ∀ x, m z x = z
  m_v : ∀ x, x ≠ z → m x (v x) = u
  v_z : v z = z
  u_z : u ≠ z

namespace Fd
variable {α : Type} (F : Fd α)
theorem a_z (x : α) : F.a x F.z = x := by rw [F.a_comm, F.z_a]
theorem m_u (x : α) : F.m x F.u = x := by rw [F.m_comm, F.u_m]
theorem m_z (x : α) : F.m x F.z = F.z := by rw [F.m_comm, F.z_m]
theorem dist' (x y w : α) : F.m (F.a x y) w = F.a (F.m x w) (F.m y w) := by rw [F.m_comm, F.dist, F.m_comm w x, F.m_comm w y]
theorem a_left (x y w : α) : F.a x (F.a y w) = F.a y (F.a x w) := by rw [← F.a_assoc, F.a_comm x y, F.a_assoc]
theorem m_left (x y w : α) : F.m x (F.m y w) = F.m y (F.m x w) := by rw [← F.m_assoc, F.m_comm x y, F.m_assoc]
theorem a_can (x y : α) : F.a x (F.a x y) = y := by rw [← F.a_assoc, F.a_self, F.z_a]
theorem eq_of_a {x y : α} (h : F.a x y = F.z) : x = y := by
  have := F.a_can x y
  rw [h, F.a_z] at this
  exact this
theorem a_eq_z {x y : α} : F.a x y = F.z ↔ x = y := ⟨F.eq_of_a, fun h => by rw [h, F.a_self]⟩
theorem m_ne {x y : α} (hx : x ≠ F.z) (hy : y ≠ F.z) : F.m x y ≠ F.z := fun h => by
  have : F.m (F.v x) (F.m x y) = y := by rw [← F.m_assoc, F.m_comm (F.v x), F.m_v x hx, F.u_m]
  rw [h, F.m_z] at this
  exact hy this.symm
theorem m_eq_z {x y : α} (h : F.m x y = F.z) : x = F.z ∨ y = F.z := by
  by_cases hx : x = F.z
  · exact .inl hx
  · by_cases hy : y = F.z
    · exact .inr hy
    · exact absurd h (F.m_ne hx hy)
theorem v_ne {x : α} (hx : x ≠ F.z) : F.v x ≠ F.z := fun h => by
  have := F.m_v x hx
  rw [h, F.m_z] at this
  exact F.u_z this.symm
theorem m_can {x y w : α} (hx : x ≠ F.z) (h : F.m x y = F.m x w) : y = w := by
  have h2 : F.m (F.v x) (F.m x y) = F.m (F.v x) (F.m x w) := by rw [h]
  rwa [← F.m_assoc, ← F.m_assoc, F.m_comm (F.v x), F.m_v x hx, F.u_m, F.u_m] at h2
theorem v_uniq {x y : α} (h : F.m x y = F.u) : y = F.v x := by
  have hx : x ≠ F.z := fun e => by rw [e, F.z_m] at h; exact F.u_z h.symm
  exact F.m_can hx (by rw [h, F.m_v x hx])

/-- The sum of the first n. -/
def s : Nat → (Nat → α) → α
  | 0, _ => F.z
  | n + 1, f => F.a (s n f) (f n)
theorem s_succ (n : Nat) (f : Nat → α) : F.s (n + 1) f = F.a (F.s n f) (f n) := rfl
theorem s_congr {n : Nat} {f g : Nat → α} (h : ∀ i, i < n → f i = g i) : F.s n f = F.s n g := by
  induction n with
  | zero => rfl
  | succ n ih => unfold s; rw [ih fun i hi => h i (by omega), h n (by omega)]
theorem s_zero {n : Nat} {f : Nat → α} (h : ∀ i, i < n → f i = F.z) : F.s n f = F.z := by
  induction n with
  | zero => rfl
  | succ n ih => unfold s; rw [ih fun i hi => h i (by omega), h n (by omega), F.z_a]
theorem s_a (n : Nat) (f g : Nat → α) : F.s n (fun i => F.a (f i) (g i)) = F.a (F.s n f) (F.s n g) := by
  induction n with
  | zero => exact (F.z_a _).symm
  | succ n ih => unfold s; rw [ih, F.a_assoc, F.a_assoc, F.a_left (F.s n g)]
theorem s_m (x : α) (n : Nat) (f : Nat → α) : F.m x (F.s n f) = F.s n fun i => F.m x (f i) := by
  induction n with
  | zero => exact F.m_z x
  | succ n ih => unfold s; rw [F.dist, ih]
theorem s_m' (x : α) (n : Nat) (f : Nat → α) : F.m (F.s n f) x = F.s n fun i => F.m (f i) x := by
  rw [F.m_comm, s_m]; exact F.s_congr fun i _ => F.m_comm _ _
theorem s_swap (n m : Nat) (f : Nat → Nat → α) : F.s n (fun i => F.s m (f i)) = F.s m fun j => F.s n fun i => f i j := by
  induction n with
  | zero => exact (F.s_zero fun _ _ => rfl).symm
  | succ n ih => rw [s_succ, ih, ← F.s_a]; rfl
theorem s_one {n k : Nat} (hk : k < n) {f : Nat → α} (h : ∀ i, i < n → i ≠ k → f i = F.z) : F.s n f = f k := by
  induction n with
  | zero => omega
  | succ n ih =>
    unfold s
    by_cases e : k = n
    · subst e
      rw [F.s_zero fun i hi => h i (by omega) (by omega), F.z_a]
    · rw [ih (by omega) fun i hi => h i (by omega), h n (by omega) (fun e' => e e'.symm), F.a_z]
theorem s_split (n k : Nat) (f : Nat → α) : F.s (n + k) f = F.a (F.s n f) (F.s k fun i => f (n + i)) := by
  induction k with
  | zero => exact (F.a_z _).symm
  | succ k ih => rw [← Nat.add_assoc, s_succ, s_succ, ih, F.a_assoc]
/-- One term is taken out. -/
theorem s_out {n k : Nat} (hk : k < n) (f : Nat → α) : F.s n f = F.a (f k) (F.s n fun i => if i = k then F.z else f i) := by
  have h1 : F.s n f = F.s n fun i => F.a (if i = k then f k else F.z) (if i = k then F.z else f i) := F.s_congr fun i _ => by
    by_cases e : i = k
    · subst e; simp [F.a_z]
    · simp [e, F.z_a]
  rw [h1, F.s_a]
  congr 1
  rw [F.s_one hk (f := fun i => if i = k then f k else F.z) fun i _ hne => by simp [hne]]
  simp
/-- A place is left out: k itself is jumped over. -/
def jump (k i : Nat) : Nat := if i < k then i else i + 1
theorem s_jump {n k : Nat} (hk : k < n + 1) (f : Nat → α) : F.s (n + 1) f = F.a (f k) (F.s n fun i => f (jump k i)) := by
  obtain ⟨d, rfl⟩ : ∃ d, n = k + d := ⟨n - k, by omega⟩
  rw [show k + d + 1 = k + (d + 1) by omega, F.s_split k (d + 1), F.s_split k d]
  have h1 : F.s k (fun i => f (jump k i)) = F.s k f := F.s_congr fun i hi => by unfold jump; rw [if_pos hi]
  have h2 : F.s (d + 1) (fun i => f (k + i)) = F.a (f k) (F.s d fun i => f (jump k (k + i))) := by
    rw [show d + 1 = 1 + d by omega, F.s_split 1 d]
    congr 1
    · show F.a F.z (f (k + 0)) = f k
      rw [F.z_a]; rfl
    · exact F.s_congr fun i _ => by unfold jump; rw [if_neg (by omega)]; congr 1; omega
  rw [h1, h2, F.a_left]

/-! ### Spans -/
/-- x, over L places, is a sum of multiples of the r rows of B. -/
def In (r L : Nat) (B : Nat → Nat → α) (x : Nat → α) : Prop := ∃ c : Nat → α, ∀ j, j < L → x j = F.s r fun i => F.m (c i) (B i j)
theorem In.row {r L : Nat} (B : Nat → Nat → α) {k : Nat} (hk : k < r) : F.In r L B (B k) :=
  ⟨fun i => if i = k then F.u else F.z, fun j _ => by
    rw [F.s_one hk fun i _ h => by simp [h, F.z_m]]
    simp [F.u_m]⟩
variable {F}
theorem In.congr {r L : Nat} {B : Nat → Nat → α} {x y : Nat → α} (h : F.In r L B x) (e : ∀ j, j < L → y j = x j) : F.In r L B y := by
  obtain ⟨c, hc⟩ := h
  exact ⟨c, fun j hj => (e j hj).trans (hc j hj)⟩
theorem In.congrB {r L : Nat} {B C : Nat → Nat → α} {x : Nat → α} (h : F.In r L B x) (e : ∀ i j, i < r → j < L → C i j = B i j) : F.In r L C x := by
  obtain ⟨c, hc⟩ := h
  exact ⟨c, fun j hj => (hc j hj).trans (F.s_congr fun i hi => by rw [e i j hi hj])⟩
theorem In.zero {r L : Nat} {B : Nat → Nat → α} {x : Nat → α} (e : ∀ j, j < L → x j = F.z) : F.In r L B x :=
  ⟨fun _ => F.z, fun j hj => by rw [e j hj, F.s_zero fun i _ => F.z_m _]⟩
theorem In.add {r L : Nat} {B : Nat → Nat → α} {x y : Nat → α} (hx : F.In r L B x) (hy : F.In r L B y) : F.In r L B fun j => F.a (x j) (y j) := by
  obtain ⟨c, hc⟩ := hx
  obtain ⟨d, hd⟩ := hy
  refine ⟨fun i => F.a (c i) (d i), fun j hj => ?_⟩
  show F.a (x j) (y j) = _
  rw [hc j hj, hd j hj, ← F.s_a]
  exact F.s_congr fun i _ => (F.dist' _ _ _).symm
theorem In.mul {r L : Nat} {B : Nat → Nat → α} {x : Nat → α} (k : α) (hx : F.In r L B x) : F.In r L B fun j => F.m k (x j) := by
  obtain ⟨c, hc⟩ := hx
  refine ⟨fun i => F.m k (c i), fun j hj => ?_⟩
  show F.m k (x j) = _
  rw [hc j hj, F.s_m]
  exact F.s_congr fun i _ => (F.m_assoc _ _ _).symm
theorem In.sum {r L n : Nat} {B : Nat → Nat → α} (c : Nat → α) {X : Nat → Nat → α} (h : ∀ i, i < n → F.In r L B (X i)) : F.In r L B fun j => F.s n fun i => F.m (c i) (X i j) := by
  induction n with
  | zero => exact In.zero fun j _ => rfl
  | succ n ih => exact (ih fun i hi => h i (by omega)).add ((h n (by omega)).mul (c n))
theorem In.trans {r t L : Nat} {B C : Nat → Nat → α} {x : Nat → α} (h : F.In r L B x) (hB : ∀ i, i < r → F.In t L C (B i)) : F.In t L C x := by
  obtain ⟨c, hc⟩ := h
  exact (In.sum c hB).congr hc
theorem In.more {r t L : Nat} {B : Nat → Nat → α} {x : Nat → α} (h : F.In r L B x) (ht : r ≤ t) : F.In t L B x := h.trans fun i hi => In.row F B (by omega)
theorem In.less {r L L' : Nat} {B : Nat → Nat → α} {x : Nat → α} (h : F.In r L B x) (hl : L' ≤ L) : F.In r L' B x := by
  obtain ⟨c, hc⟩ := h
  exact ⟨c, fun j hj => hc j (by omega)⟩
variable (F)
/-- Two lists of rows with one span. -/
def Same (n r L : Nat) (A B : Nat → Nat → α) : Prop := (∀ i, i < n → F.In r L B (A i)) ∧ ∀ i, i < r → F.In n L A (B i)
variable {F}
theorem Same.refl (n L : Nat) (A : Nat → Nat → α) : F.Same n n L A A := ⟨fun _ h => In.row F A h, fun _ h => In.row F A h⟩
theorem Same.symm {n r L : Nat} {A B : Nat → Nat → α} (h : F.Same n r L A B) : F.Same r n L B A := ⟨h.2, h.1⟩
theorem Same.trans {n r t L : Nat} {A B C : Nat → Nat → α} (h : F.Same n r L A B) (k : F.Same r t L B C) : F.Same n t L A C :=
  ⟨fun i hi => (h.1 i hi).trans k.1, fun i hi => (k.2 i hi).trans h.2⟩
theorem Same.of_eq {n L : Nat} {A B : Nat → Nat → α} (h : ∀ i j, i < n → j < L → A i j = B i j) : F.Same n n L A B :=
  ⟨fun i hi => (In.row F B hi).congr fun j hj => h i j hi hj, fun i hi => (In.row F A hi).congr fun j hj => (h i j hi hj).symm⟩
theorem Same.less {n r L L' : Nat} {A B : Nat → Nat → α} (h : F.Same n r L A B) (hl : L' ≤ L) : F.Same n r L' A B := ⟨fun i hi => (h.1 i hi).less hl, fun i hi => (h.2 i hi).less hl⟩
variable (F)
/-- More rows than places: they are bound. -/
theorem bound : ∀ (t r : Nat) (V : Nat → Nat → α), t < r → ∃ c : Nat → α, (∃ k, k < r ∧ c k ≠ F.z) ∧ ∀ j, j < t → F.s r (fun i => F.m (c i) (V i j)) = F.z := by
  intro t
  induction t with
  | zero => intro r V h; exact ⟨fun _ => F.u, ⟨0, h, F.u_z⟩, fun j hj => absurd hj (by omega)⟩
  | succ t ih =>
    intro r V h
    by_cases hz : ∃ p, p < r ∧ V p t ≠ F.z
    · obtain ⟨p, hp, hv⟩ := hz
      obtain ⟨r', rfl⟩ : ∃ r', r = r' + 1 := ⟨r - 1, by omega⟩
      obtain ⟨d, ⟨k, hk, hd⟩, hs⟩ := ih r' (fun i j => F.a (V (jump p i) j) (F.m (F.m (V (jump p i) t) (F.v (V p t))) (V p j))) (by omega)
      let q : α := F.s r' fun i => F.m (d i) (F.m (V (jump p i) t) (F.v (V p t)))
      let c : Nat → α := fun i => if i = p then q else if i < p then d i else d (i - 1)
      have hcp : c p = q := by simp [c]
      have hcj : ∀ i, c (jump p i) = d i := fun i => by
        unfold jump
        by_cases h1 : i < p
        · rw [if_pos h1]; simp [c, h1, show i ≠ p by omega]
        · rw [if_neg h1]; simp [c, show i + 1 ≠ p by omega, show ¬ i + 1 < p by omega]
      have key : ∀ j, F.s (r' + 1) (fun i => F.m (c i) (V i j)) = F.s r' fun i => F.m (d i) (F.a (V (jump p i) j) (F.m (F.m (V (jump p i) t) (F.v (V p t))) (V p j))) := fun j => by
        rw [F.s_jump hp, hcp, F.s_m', F.a_comm, ← F.s_a]
        exact F.s_congr fun i _ => by rw [hcj, F.dist, F.m_assoc (d i)]
      refine ⟨c, ⟨jump p k, by unfold jump; split <;> omega, by rw [hcj]; exact hd⟩, fun j hj => ?_⟩
      rw [key]
      by_cases e : j = t
      · subst e
        exact F.s_zero fun i _ => by rw [F.m_assoc (V (jump p i) j), F.m_comm (F.v _), F.m_v _ hv, F.m_u, F.a_self, F.m_z]
      · exact hs j (by omega)
    · obtain ⟨c, hk, hs⟩ := ih r V (by omega)
      refine ⟨c, hk, fun j hj => ?_⟩
      by_cases e : j = t
      · subst e
        refine F.s_zero fun i hi => ?_
        have : V i j = F.z := Classical.byContradiction fun h => hz ⟨i, hi, h⟩
        rw [this, F.m_z]
      · exact hs j (by omega)
/-- r rows in a span of fewer are bound. -/
theorem bound_in {r t L : Nat} {A B : Nat → Nat → α} (h : ∀ i, i < r → F.In t L B (A i)) (ht : t < r) : ∃ c : Nat → α, (∃ k, k < r ∧ c k ≠ F.z) ∧ ∀ j, j < L → F.s r (fun i => F.m (c i) (A i j)) = F.z := by
  have hC : ∃ C : Nat → Nat → α, ∀ i, i < r → ∀ j, j < L → A i j = F.s t fun k => F.m (C i k) (B k j) := by
    refine ⟨fun i => if hi : i < r then Classical.choose (h i hi) else fun _ => F.z, fun i hi => ?_⟩
    simp only [dif_pos hi]
    exact Classical.choose_spec (h i hi)
  obtain ⟨C, hC⟩ := hC
  obtain ⟨c, hk, hs⟩ := F.bound t r C ht
  refine ⟨c, hk, fun j hj => ?_⟩
  have e1 : F.s r (fun i => F.m (c i) (A i j)) = F.s r fun i => F.s t fun k => F.m (F.m (c i) (C i k)) (B k j) := F.s_congr fun i hi => by
    rw [hC i hi j hj, F.s_m]; exact F.s_congr fun k _ => (F.m_assoc _ _ _).symm
  rw [e1, F.s_swap]
  refine F.s_zero fun k hk' => ?_
  rw [← F.s_m', hs k hk', F.z_m]
/-- The rows are free: no sum of multiples is zero but that of none. -/
def Free (r L : Nat) (A : Nat → Nat → α) : Prop := ∀ c : Nat → α, (∀ j, j < L → F.s r (fun i => F.m (c i) (A i j)) = F.z) → ∀ i, i < r → c i = F.z
theorem free_le {r t L : Nat} {A B : Nat → Nat → α} (hf : F.Free r L A) (h : ∀ i, i < r → F.In t L B (A i)) : r ≤ t := by
  rcases Nat.lt_or_ge t r with ht | ht
  · obtain ⟨c, ⟨k, hk, hne⟩, hs⟩ := F.bound_in h ht
    exact absurd (hf c hs k hk) hne
  · exact ht
/-- Rows with a one at a place of their own, where all others have zero. -/
def Red (r L : Nat) (B : Nat → Nat → α) (p : Nat → Nat) : Prop := ∀ i, i < r → p i < L ∧ B i (p i) = F.u ∧ ∀ k, k < r → k ≠ i → B k (p i) = F.z
variable {F}
theorem Red.at {r L : Nat} {B : Nat → Nat → α} {p : Nat → Nat} (h : F.Red r L B p) (c : Nat → α) {k : Nat} (hk : k < r) : F.s r (fun i => F.m (c i) (B i (p k))) = c k := by
  obtain ⟨_, h1, h2⟩ := h k hk
  rw [F.s_one hk fun i hi hne => by rw [h2 i hi hne, F.m_z], h1, F.m_u]
theorem Red.free {r L : Nat} {B : Nat → Nat → α} {p : Nat → Nat} (h : F.Red r L B p) : F.Free r L B := fun c hc i hi => by
  rw [← h.at c hi]; exact hc _ (h i hi).1
/-- What lies in the span is told by its numbers at the pivots. -/
theorem Red.told {r L : Nat} {B : Nat → Nat → α} {p : Nat → Nat} (h : F.Red r L B p) {x : Nat → α} (hx : F.In r L B x) : ∀ j, j < L → x j = F.s r fun i => F.m (x (p i)) (B i j) := by
  obtain ⟨c, hc⟩ := hx
  intro j hj
  rw [hc j hj]
  exact F.s_congr fun i hi => by rw [hc (p i) (h i hi).1, h.at c hi]
theorem Red.inj {r L : Nat} {B : Nat → Nat → α} {p : Nat → Nat} (h : F.Red r L B p) {i k : Nat} (hi : i < r) (hk : k < r) (e : p i = p k) : i = k := Classical.byContradiction fun hne => by
  have h1 := (h i hi).2.1
  rw [e] at h1
  rw [(h k hk).2.2 i hi hne] at h1
  exact F.u_z h1.symm
theorem red_len {n r t L : Nat} {A B C : Nat → Nat → α} {p q : Nat → Nat} (hB : F.Red r L B p) (hC : F.Red t L C q) (h1 : F.Same n r L A B) (h2 : F.Same n t L A C) : r = t :=
  Nat.le_antisymm (F.free_le hB.free (h1.symm.trans h2).1) (F.free_le hC.free (h2.symm.trans h1).1)
end Fd
end Go.Proofs.Ythodpgkelmalmaa
