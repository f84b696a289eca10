/- The document's product and the field's are one. Conditions: none. -/
import Derived.Test.YtjaaldandgfkgaaMulE
import Derived.Test.YtjaaldandgfkgaaInvP
namespace Go.Proofs.Ytjaaldandgfkgaa

/-- The document's product before it is brought down. -/
def pR (a b : Nat) : Nat → Nat
  | 0 => 0
  | k + 1 => if b / 2 ^ k % 2 = 1 then pR a b k ^^^ (a * 2 ^ k) else pR a b k
def rstep (c j p : Nat) : Nat := if p / 2 ^ j % 2 = 1 then p ^^^ c else p
/-- Brought down by m, of degree d. -/
def rR (d m p : Nat) : Nat → Nat
  | 0 => p
  | t + 1 => rstep (m * 2 ^ (15 - t - d)) (15 - t) (rR d m p t)
def degD (s : Nat) : Nat := if s = 256 then 8 else if s = 4 then 2 else 1
def degM (s : Nat) : Nat := if s = 256 then 285 else if s = 4 then 7 else 2
def mulR (s a b : Nat) : Nat := rR (degD s) (degM s) (pR a b 8) (16 - degD s)

theorem bit_xor (p q j : Nat) : (p ^^^ q) / 2 ^ j % 2 = (p / 2 ^ j % 2 + q / 2 ^ j % 2) % 2 := by
  have h := Nat.testBit_xor p q j
  rw [Nat.testBit_eq_decide_div_mod_eq, Nat.testBit_eq_decide_div_mod_eq, Nat.testBit_eq_decide_div_mod_eq] at h
  generalize (p ^^^ q) / 2 ^ j = x at *
  generalize p / 2 ^ j = y at *
  generalize q / 2 ^ j = z at *
  rcases Nat.mod_two_eq_zero_or_one x with hx | hx <;> rcases Nat.mod_two_eq_zero_or_one y with hy | hy <;> rcases Nat.mod_two_eq_zero_or_one z with hz | hz <;> simp [hx, hy, hz] at h ⊢
theorem rstep_xor (c j p q : Nat) : rstep c j (p ^^^ q) = rstep c j p ^^^ rstep c j q := by
  unfold rstep
  have h := bit_xor p q j
  rcases Nat.mod_two_eq_zero_or_one (p / 2 ^ j) with hy | hy <;> rcases Nat.mod_two_eq_zero_or_one (q / 2 ^ j) with hz | hz <;> rw [h, hy, hz] <;> simp
  · rw [Nat.xor_assoc]
  · rw [Nat.xor_assoc, Nat.xor_assoc, Nat.xor_comm q c]
  · rw [Nat.xor_assoc p c, Nat.xor_comm q c, ← Nat.xor_assoc c c q, Nat.xor_self, Nat.zero_xor]
theorem rR_xor (d m p q : Nat) : ∀ t, rR d m (p ^^^ q) t = rR d m p t ^^^ rR d m q t
  | 0 => rfl
  | t + 1 => by unfold rR; rw [rR_xor d m p q t, rstep_xor]
theorem rR_zero (d m : Nat) : ∀ t, rR d m 0 t = 0
  | 0 => rfl
  | t + 1 => by unfold rR; rw [rR_zero d m t]; unfold rstep; simp
def rowOk (a : Nat) : Bool := (List.range 8).all fun i => rR 8 285 (a * 2 ^ i) 8 == xE a i
set_option maxRecDepth 100000 in
theorem rows_ok1 : (List.range 256).all rowOk = true := by decide +kernel
theorem mul256 {a b : Nat} (ha : a < 256) : mulR 256 a b = timesE a b := by
  have hx : ∀ i, i < 8 → rR 8 285 (a * 2 ^ i) 8 = xE a i := fun i hi => eq_of_beq (List.all_eq_true.1 (List.all_eq_true.1 rows_ok1 a (List.mem_range.2 ha)) i (List.mem_range.2 hi))
  have key : ∀ k, k ≤ 8 → rR 8 285 (pR a b k) 8 = pE a b k := by
    intro k
    induction k with
    | zero => intro _; exact rR_zero _ _ _
    | succ k ih =>
      intro hk
      unfold pR pE
      by_cases h : b / 2 ^ k % 2 = 1
      · rw [if_pos h, if_pos h, rR_xor, ih (by omega), hx k (by omega)]
      · rw [if_neg h, if_neg h, ih (by omega)]
  exact key 8 (Nat.le_refl _)
end Go.Proofs.Ytjaaldandgfkgaa

/- The fields of 256, of four and of two elements are fields. Plain. Conditions: none. -/
namespace Go.Proofs.Ytjaaldandgfkgaa

/-! ### Additive functions are told by their values at the powers of two -/
theorem split_bit (k x : Nat) (h : x < 2 ^ (k + 1)) : x = x % 2 ^ k ^^^ (x / 2 ^ k * 2 ^ k) ∧ x % 2 ^ k < 2 ^ k ∧ (x / 2 ^ k = 0 ∨ x / 2 ^ k = 1) := by
  have hp : 0 < 2 ^ k := Nat.two_pow_pos k
  have h1 : x / 2 ^ k < 2 := by rw [Nat.div_lt_iff_lt_mul hp]; rw [Nat.pow_succ] at h; omega
  refine ⟨?_, Nat.mod_lt _ hp, by generalize x / 2 ^ k = y at *; omega⟩
  have h2 := Nat.div_add_mod x (2 ^ k)
  have h3 : x % 2 ^ k ^^^ (x / 2 ^ k * 2 ^ k) = 2 ^ k * (x / 2 ^ k) + x % 2 ^ k := by
    rw [Nat.xor_comm, Nat.mul_comm (x / 2 ^ k)]
    have := Nat.two_pow_add_eq_or_of_lt (Nat.mod_lt x hp) (x / 2 ^ k)
    rw [this]
    apply Nat.eq_of_testBit_eq
    intro i
    rw [Nat.testBit_xor, Nat.testBit_or]
    by_cases hi : i < k
    · have : (2 ^ k * (x / 2 ^ k)).testBit i = false := by rw [Nat.testBit_two_pow_mul]; simp; omega
      rw [this]; simp
    · have : (x % 2 ^ k).testBit i = false := Nat.testBit_lt_two_pow (Nat.lt_of_lt_of_le (Nat.mod_lt x hp) (Nat.pow_le_pow_right (by decide) (by omega)))
      rw [this]; simp
  rw [h3, h2]
theorem add_told {f g : Nat → Nat} (hf : ∀ x y, f (x ^^^ y) = f x ^^^ f y) (hg : ∀ x y, g (x ^^^ y) = g x ^^^ g y) : ∀ k, (∀ i, i < k → f (2 ^ i) = g (2 ^ i)) → ∀ x, x < 2 ^ k → f x = g x
  | 0, _, x, hx => by
    have : x = 0 ^^^ 0 := by rw [Nat.xor_self]; simpa using hx
    have h0 : f 0 = 0 := by have := hf 0 0; rw [Nat.xor_self, Nat.xor_self] at this; exact this
    have h1 : g 0 = 0 := by have := hg 0 0; rw [Nat.xor_self, Nat.xor_self] at this; exact this
    rw [this, Nat.xor_self, h0, h1]
  | k + 1, h, x, hx => by
    obtain ⟨h1, h2, h3⟩ := split_bit k x hx
    have h0 : f 0 = g 0 := by
      have a := hf 0 0; rw [Nat.xor_self, Nat.xor_self] at a
      have b := hg 0 0; rw [Nat.xor_self, Nat.xor_self] at b
      rw [a, b]
    rw [h1, hf, hg, add_told hf hg k (fun i hi => h i (by omega)) _ h2]
    congr 1
    rcases h3 with h3 | h3
    · rw [h3, Nat.zero_mul, h0]
    · rw [h3, Nat.one_mul]; exact h k (by omega)

/-! ### The document's product is additive on both sides -/
theorem pR_xor_left (a a' b : Nat) : ∀ k, pR (a ^^^ a') b k = pR a b k ^^^ pR a' b k
  | 0 => by unfold pR; rw [Nat.xor_self]
  | k + 1 => by
    unfold pR
    rw [pR_xor_left a a' b k]
    split
    · have : (a ^^^ a') * 2 ^ k = a * 2 ^ k ^^^ a' * 2 ^ k := by
        rw [← Nat.shiftLeft_eq, ← Nat.shiftLeft_eq, ← Nat.shiftLeft_eq, Nat.shiftLeft_xor_distrib]
      rw [this]
      generalize pR a b k = p
      generalize pR a' b k = q
      generalize a * 2 ^ k = r
      generalize a' * 2 ^ k = t
      rw [Nat.xor_assoc, Nat.xor_assoc, ← Nat.xor_assoc q, Nat.xor_comm q r, Nat.xor_assoc]
    · rfl
theorem pR_xor_right (a b b' : Nat) : ∀ k, pR a (b ^^^ b') k = pR a b k ^^^ pR a b' k
  | 0 => by unfold pR; rw [Nat.xor_self]
  | k + 1 => by
    unfold pR
    rw [pR_xor_right a b b' k, bit_xor]
    generalize pR a b k = p
    generalize pR a b' k = q
    generalize a * 2 ^ k = r
    rcases Nat.mod_two_eq_zero_or_one (b / 2 ^ k) with h1 | h1 <;> rcases Nat.mod_two_eq_zero_or_one (b' / 2 ^ k) with h2 | h2 <;> rw [h1, h2] <;> simp
    · rw [Nat.xor_assoc]
    · rw [Nat.xor_assoc, Nat.xor_comm q r, ← Nat.xor_assoc]
    · rw [Nat.xor_assoc p r, Nat.xor_comm q r, ← Nat.xor_assoc r r q, Nat.xor_self, Nat.zero_xor]
theorem mulR_xor_left (s a a' b : Nat) : mulR s (a ^^^ a') b = mulR s a b ^^^ mulR s a' b := by unfold mulR; rw [pR_xor_left, rR_xor]
theorem mulR_xor_right (s a b b' : Nat) : mulR s a (b ^^^ b') = mulR s a b ^^^ mulR s a b' := by unfold mulR; rw [pR_xor_right, rR_xor]
theorem mulR_zero_left (s b : Nat) : mulR s 0 b = 0 := by have := mulR_xor_left s 0 0 b; rw [Nat.xor_self, Nat.xor_self] at this; exact this

/-! ### 256 -/
def commOk : Bool := (List.range 8).all fun i => (List.range 8).all fun j => mulR 256 (2 ^ i) (2 ^ j) == mulR 256 (2 ^ j) (2 ^ i)
def assocOk : Bool := (List.range 8).all fun i => (List.range 8).all fun j => (List.range 8).all fun k => mulR 256 (mulR 256 (2 ^ i) (2 ^ j)) (2 ^ k) == mulR 256 (2 ^ i) (mulR 256 (2 ^ j) (2 ^ k))
theorem comm_ok : commOk = true := by decide +kernel
theorem assoc_ok : assocOk = true := by decide +kernel
theorem mulR_lt_256 {a b : Nat} (ha : a < 256) : mulR 256 a b < 256 := by rw [mul256 ha]; exact timesE_lt ha
theorem mulR_comm256 {a b : Nat} (ha : a < 256) (hb : b < 256) : mulR 256 a b = mulR 256 b a := by
  refine add_told (f := fun a => mulR 256 a b) (g := fun a => mulR 256 b a) (fun x y => mulR_xor_left _ _ _ _) (fun x y => mulR_xor_right _ _ _ _) 8 (fun i hi => ?_) a ha
  refine add_told (f := fun b => mulR 256 (2 ^ i) b) (g := fun b => mulR 256 b (2 ^ i)) (fun x y => mulR_xor_right _ _ _ _) (fun x y => mulR_xor_left _ _ _ _) 8 (fun j hj => ?_) b hb
  exact eq_of_beq (List.all_eq_true.1 (List.all_eq_true.1 comm_ok i (List.mem_range.2 hi)) j (List.mem_range.2 hj))
theorem mulR_assoc256 {a b c : Nat} (ha : a < 256) (hb : b < 256) (hc : c < 256) : mulR 256 (mulR 256 a b) c = mulR 256 a (mulR 256 b c) := by
  refine add_told (f := fun a => mulR 256 (mulR 256 a b) c) (g := fun a => mulR 256 a (mulR 256 b c)) (fun x y => by simp only [mulR_xor_left]) (fun x y => mulR_xor_left _ _ _ _) 8 (fun i hi => ?_) a ha
  refine add_told (f := fun b => mulR 256 (mulR 256 (2 ^ i) b) c) (g := fun b => mulR 256 (2 ^ i) (mulR 256 b c)) (fun x y => by simp only [mulR_xor_right, mulR_xor_left]) (fun x y => by simp only [mulR_xor_left, mulR_xor_right]) 8 (fun j hj => ?_) b hb
  refine add_told (f := fun c => mulR 256 (mulR 256 (2 ^ i) (2 ^ j)) c) (g := fun c => mulR 256 (2 ^ i) (mulR 256 (2 ^ j) c)) (fun x y => mulR_xor_right _ _ _ _) (fun x y => by simp only [mulR_xor_right]) 8 (fun k hk => ?_) c hc
  exact eq_of_beq (List.all_eq_true.1 (List.all_eq_true.1 (List.all_eq_true.1 assoc_ok i (List.mem_range.2 hi)) j (List.mem_range.2 hj)) k (List.mem_range.2 hk))
/-- The powers as the program makes them: after t rounds of n = 254. -/
def pwA (a : Nat) : Nat → Nat
  | 0 => a
  | t + 1 => timesE (pwA a t) (pwA a t)
def pwP (a : Nat) : Nat → Nat
  | 0 => 1
  | t + 1 => if 254 / 2 ^ t % 2 = 1 then timesE (pwP a t) (pwA a t) else pwP a t
theorem pwA_lt {a : Nat} (h : a < 256) : ∀ t, pwA a t < 256
  | 0 => h
  | t + 1 => timesE_lt (pwA_lt h t)
theorem pwP_lt {a : Nat} : ∀ t, pwP a t < 256
  | 0 => by unfold pwP; decide
  | t + 1 => by
    unfold pwP
    split
    · exact timesE_lt (pwP_lt t)
    · exact pwP_lt t
/-- The inverse in the field of 256; of zero: zero. -/
def invE (a : Nat) : Nat := if a = 0 then 0 else pwP a 8
theorem invE_lt (a : Nat) : invE a < 256 := by
  unfold invE
  split
  · decide
  · exact pwP_lt 8
def sq (x : Nat) : Nat := timesE x x
def inv2 (x : Nat) : Nat := let a1 := sq x; let a2 := sq a1; let a3 := sq a2; let a4 := sq a3; let a5 := sq a4; let a6 := sq a5; let a7 := sq a6; timesE (timesE (timesE (timesE (timesE (timesE (timesE 1 a1) a2) a3) a4) a5) a6) a7
theorem inv2_eq (x : Nat) : pwP x 8 = inv2 x := by simp [pwP, pwA, inv2, sq]
def invOk (n : Nat) : Bool := (List.range 16).all fun i => (n * 16 + i == 0) || (timesE (n * 16 + i) (inv2 (n * 16 + i)) == 1)
theorem inv_ok0 : (List.range 16).all invOk = true := by decide +kernel
theorem inv256 {a : Nat} (ha : a < 256) (h0 : a ≠ 0) : mulR 256 a (invE a) = 1 := by
  rw [mul256 ha]
  unfold invE
  rw [if_neg h0, inv2_eq]
  have h := List.all_eq_true.1 (List.all_eq_true.1 inv_ok0 (a / 16) (List.mem_range.2 (by omega))) (a % 16) (List.mem_range.2 (by omega))
  rw [show a / 16 * 16 + a % 16 = a by omega] at h
  simpa [h0] using h
def oneOk : Bool := (List.range 8).all fun i => mulR 256 1 (2 ^ i) == 2 ^ i
theorem one_ok : oneOk = true := by decide +kernel
theorem one256 {a : Nat} (ha : a < 256) : mulR 256 1 a = a :=
  add_told (f := fun a => mulR 256 1 a) (g := fun a => a) (fun _ _ => mulR_xor_right _ _ _ _) (fun _ _ => rfl) 8 (fun i hi => eq_of_beq (List.all_eq_true.1 one_ok i (List.mem_range.2 hi))) a ha
theorem xor_lt256 {a b : Nat} (ha : a < 256) (hb : b < 256) : a ^^^ b < 256 := Nat.xor_lt_two_pow (n := 8) ha hb
/-- The field of 256. -/
def gE : Fd (Fin 256) where
  z := ⟨0, by decide⟩
  u := ⟨1, by decide⟩
  a x y := ⟨x.val ^^^ y.val, xor_lt256 x.isLt y.isLt⟩
  m x y := ⟨mulR 256 x.val y.val, mulR_lt_256 x.isLt⟩
  v x := ⟨invE x.val, invE_lt _⟩
  a_comm x y := Fin.ext (Nat.xor_comm _ _)
  a_assoc x y w := Fin.ext (Nat.xor_assoc _ _ _)
  z_a x := Fin.ext (Nat.zero_xor _)
  a_self x := Fin.ext (Nat.xor_self _)
  m_comm x y := Fin.ext (mulR_comm256 x.isLt y.isLt)
  m_assoc x y w := Fin.ext (mulR_assoc256 x.isLt y.isLt w.isLt)
  u_m x := Fin.ext (one256 x.isLt)
  dist x y w := Fin.ext (mulR_xor_right _ _ _ _)
  z_m x := Fin.ext (mulR_zero_left _ _)
  m_v x h := Fin.ext (inv256 x.isLt fun e => h (Fin.ext e))
  v_z := rfl
  u_z h := absurd (congrArg Fin.val h) (by decide)

/-! ### Two and four -/
def lt2 : Bool := (List.range 2).all fun a => (List.range 2).all fun b => decide (mulR 2 a b < 2)
theorem mulR_lt_2 {a b : Nat} (ha : a < 2) (hb : b < 2) : mulR 2 a b < 2 := by
  have h : lt2 = true := by decide +kernel
  simpa using List.all_eq_true.1 (List.all_eq_true.1 h a (List.mem_range.2 ha)) b (List.mem_range.2 hb)
def lt4 : Bool := (List.range 4).all fun a => (List.range 4).all fun b => decide (mulR 4 a b < 4)
theorem mulR_lt_4 {a b : Nat} (ha : a < 4) (hb : b < 4) : mulR 4 a b < 4 := by
  have h : lt4 = true := by decide +kernel
  simpa using List.all_eq_true.1 (List.all_eq_true.1 h a (List.mem_range.2 ha)) b (List.mem_range.2 hb)
def three2 : Bool := (List.range 2).all fun a => (mulR 2 1 a == a) && (a == 0 || mulR 2 a a == 1) && (List.range 2).all fun b => (mulR 2 a b == mulR 2 b a) && (List.range 2).all fun c => mulR 2 (mulR 2 a b) c == mulR 2 a (mulR 2 b c)
theorem three_2 : three2 = true := by decide +kernel
def inv4 (a : Nat) : Nat := if a = 2 then 3 else if a = 3 then 2 else a
theorem inv4_lt {a : Nat} (h : a < 4) : inv4 a < 4 := by unfold inv4; split <;> (try split) <;> omega
def three4 : Bool := (List.range 4).all fun a => (mulR 4 1 a == a) && (a == 0 || mulR 4 a (inv4 a) == 1) && (List.range 4).all fun b => (mulR 4 a b == mulR 4 b a) && (List.range 4).all fun c => mulR 4 (mulR 4 a b) c == mulR 4 a (mulR 4 b c)
theorem three_4 : three4 = true := by decide +kernel
theorem laws2 {a : Nat} (ha : a < 2) : mulR 2 1 a = a ∧ (a ≠ 0 → mulR 2 a a = 1) ∧ ∀ b, b < 2 → mulR 2 a b = mulR 2 b a ∧ ∀ c, c < 2 → mulR 2 (mulR 2 a b) c = mulR 2 a (mulR 2 b c) := by
  have h := List.all_eq_true.1 three_2 a (List.mem_range.2 ha)
  simp only [Bool.and_eq_true, Bool.or_eq_true, beq_iff_eq] at h
  refine ⟨h.1.1, fun h0 => h.1.2.resolve_left h0, fun b hb => ?_⟩
  have h2 := List.all_eq_true.1 h.2 b (List.mem_range.2 hb)
  simp only [Bool.and_eq_true, beq_iff_eq] at h2
  exact ⟨h2.1, fun c hc => by simpa using List.all_eq_true.1 h2.2 c (List.mem_range.2 hc)⟩
theorem laws4 {a : Nat} (ha : a < 4) : mulR 4 1 a = a ∧ (a ≠ 0 → mulR 4 a (inv4 a) = 1) ∧ ∀ b, b < 4 → mulR 4 a b = mulR 4 b a ∧ ∀ c, c < 4 → mulR 4 (mulR 4 a b) c = mulR 4 a (mulR 4 b c) := by
  have h := List.all_eq_true.1 three_4 a (List.mem_range.2 ha)
  simp only [Bool.and_eq_true, Bool.or_eq_true, beq_iff_eq] at h
  refine ⟨h.1.1, fun h0 => h.1.2.resolve_left h0, fun b hb => ?_⟩
  have h2 := List.all_eq_true.1 h.2 b (List.mem_range.2 hb)
  simp only [Bool.and_eq_true, beq_iff_eq] at h2
  exact ⟨h2.1, fun c hc => by simpa using List.all_eq_true.1 h2.2 c (List.mem_range.2 hc)⟩
/-- The field of two. -/
def gB : Fd (Fin 2) where
  z := ⟨0, by decide⟩
  u := ⟨1, by decide⟩
  a x y := ⟨x.val ^^^ y.val, Nat.xor_lt_two_pow (n := 1) x.isLt y.isLt⟩
  m x y := ⟨mulR 2 x.val y.val, mulR_lt_2 x.isLt y.isLt⟩
  v x := x
  a_comm x y := Fin.ext (Nat.xor_comm _ _)
  a_assoc x y w := Fin.ext (Nat.xor_assoc _ _ _)
  z_a x := Fin.ext (Nat.zero_xor _)
  a_self x := Fin.ext (Nat.xor_self _)
  m_comm x y := Fin.ext ((laws2 x.isLt).2.2 y.val y.isLt).1
  m_assoc x y w := Fin.ext (((laws2 x.isLt).2.2 y.val y.isLt).2 w.val w.isLt)
  u_m x := Fin.ext (laws2 x.isLt).1
  dist x y w := Fin.ext (mulR_xor_right _ _ _ _)
  z_m x := Fin.ext (mulR_zero_left _ _)
  m_v x h := Fin.ext ((laws2 x.isLt).2.1 fun e => h (Fin.ext e))
  v_z := rfl
  u_z h := absurd (congrArg Fin.val h) (by decide)
/-- The field of four. -/
def gF : Fd (Fin 4) where
  z := ⟨0, by decide⟩
  u := ⟨1, by decide⟩
  a x y := ⟨x.val ^^^ y.val, Nat.xor_lt_two_pow (n := 2) x.isLt y.isLt⟩
  m x y := ⟨mulR 4 x.val y.val, mulR_lt_4 x.isLt y.isLt⟩
  v x := ⟨inv4 x.val, inv4_lt x.isLt⟩
  a_comm x y := Fin.ext (Nat.xor_comm _ _)
  a_assoc x y w := Fin.ext (Nat.xor_assoc _ _ _)
  z_a x := Fin.ext (Nat.zero_xor _)
  a_self x := Fin.ext (Nat.xor_self _)
  m_comm x y := Fin.ext ((laws4 x.isLt).2.2 y.val y.isLt).1
  m_assoc x y w := Fin.ext (((laws4 x.isLt).2.2 y.val y.isLt).2 w.val w.isLt)
  u_m x := Fin.ext (laws4 x.isLt).1
  dist x y w := Fin.ext (mulR_xor_right _ _ _ _)
  z_m x := Fin.ext (mulR_zero_left _ _)
  m_v x h := Fin.ext ((laws4 x.isLt).2.1 fun e => h (Fin.ext e))
  v_z := rfl
  u_z h := absurd (congrArg Fin.val h) (by decide)
end Go.Proofs.Ytjaaldandgfkgaa
