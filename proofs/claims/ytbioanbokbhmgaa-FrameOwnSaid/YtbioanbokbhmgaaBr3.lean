/- Bits turned within 32 that follow one another, in plain: the sums tell them. Conditions: bytes, a pattern of 32 bits. -/
import Derived.Test.YtbioanbokbhmgaaPrsR
namespace Go.Proofs.Ytbioanbokbhmgaa

/-- What a pattern that begins at a bit turns in the byte at p. -/
def patB (pat bit p : Nat) : Nat := pat * 2 ^ bit / 256 ^ p % 256
/-- The bytes with the pattern's bits turned. -/
def burst (b : List Nat) (pat bit : Nat) : List Nat := (List.range b.length).map fun p => b.getD p 0 ^^^ patB pat bit p
/-- No bit of the n bytes at f is turned. -/
def still (pat bit f n : Nat) : Prop := pat * 2 ^ bit / 256 ^ f % 256 ^ n = 0
instance (pat bit f n : Nat) : Decidable (still pat bit f n) := inferInstanceAs (Decidable (_ = _))

theorem burst_length (b : List Nat) (pat bit : Nat) : (burst b pat bit).length = b.length := by simp [burst]
theorem burst_get {b : List Nat} {pat bit p : Nat} (h : p < b.length) : (burst b pat bit).getD p 0 = b.getD p 0 ^^^ patB pat bit p := by
  unfold burst
  rw [List.getD_eq_getElem?_getD, List.getElem?_map, List.getElem?_range h]; rfl
theorem patB_lt (pat bit p : Nat) : patB pat bit p < 256 := Nat.mod_lt _ (by decide)
theorem burst_lt {b : List Nat} {pat bit : Nat} (hb : ∀ x ∈ b, x < 256) : ∀ x ∈ burst b pat bit, x < 256 := by
  intro x hx
  unfold burst at hx
  obtain ⟨p, hp, rfl⟩ := List.mem_map.1 hx
  exact Nat.xor_lt_two_pow (n := 8) (getD_256 hb p) (patB_lt _ _ _)
theorem pow256 (n : Nat) : 256 ^ n = 2 ^ (8 * n) := by rw [Nat.pow_mul]
theorem crx_get : ∀ {a b : List Nat} {i : Nat}, a.length = b.length → (crx a b).getD i 0 = a.getD i 0 ^^^ b.getD i 0
  | [], [], _, _ => by simp [crx]
  | x :: a, y :: b, 0, _ => by simp [crx]
  | x :: a, y :: b, i + 1, h => by
    have := crx_get (a := a) (b := b) (i := i) (by simpa using h)
    simpa [crx] using this
theorem crx_length {a b : List Nat} (h : a.length = b.length) : (crx a b).length = a.length := by simp [crx, h]
theorem list_getD_ext {a b : List Nat} (hl : a.length = b.length) (h : ∀ i, i < a.length → a.getD i 0 = b.getD i 0) : a = b := by
  apply List.ext_getElem hl
  intro i h1 h2
  have := h i h1
  rwa [getD_in h1, getD_in h2] at this
theorem sl_burst {b : List Nat} {pat bit f n : Nat} (h : f + n ≤ b.length) : sl (burst b pat bit) f n = crx (sl b f n) (le n (pat * 2 ^ bit / 256 ^ f)) := by
  have l1 : (sl b f n).length = n := sl_length h
  apply list_getD_ext
  · rw [sl_length (by rw [burst_length]; exact h), crx_length (by rw [l1, le_length]), l1]
  · intro i hi
    rw [sl_length (by rw [burst_length]; exact h)] at hi
    rw [sl_get hi, burst_get (by omega), crx_get (by rw [l1, le_length]), sl_get hi, le_get _ _ _ hi]
    unfold patB
    rw [Nat.div_div_eq_div_mul, Nat.pow_add]
theorem le_mod : ∀ (n v : Nat), le n (v % 256 ^ n) = le n v
  | 0, _ => rfl
  | n + 1, v => by
    show v % 256 ^ (n + 1) % 256 :: le n (v % 256 ^ (n + 1) / 256) = v % 256 :: le n (v / 256)
    rw [Nat.pow_succ, Nat.mul_comm (256 ^ n) 256, Nat.mod_mul_right_div_self, le_mod n, Nat.mod_mul_right_mod]
theorem crg_still {pat bit f n : Nat} (hp : pat < 4294967296) : crg 0 (le n (pat * 2 ^ bit / 256 ^ f)) = 0 ↔ still pat bit f n := by
  have h0 : crg 0 (le n (pat * 2 ^ bit / 256 ^ f)) = csN (8 * n) (pat * 2 ^ bit / 256 ^ f % 256 ^ n) := by
    rw [← le_mod, crg_le _ _ _ (Nat.mod_lt _ (Nat.pow_pos (by decide))), Nat.zero_xor]
  rw [h0]
  unfold still
  constructor
  · intro e
    by_cases hk : bit < 8 * f
    · apply csN_zero_of _ e
      refine Nat.lt_of_le_of_lt (Nat.mod_le _ _) ?_
      have h1 : pat * 2 ^ bit / 256 ^ f ≤ pat := by
        rw [pow256]
        have h2 : 2 ^ (8 * f) = 2 ^ (8 * f - bit) * 2 ^ bit := by rw [← Nat.pow_add]; congr 1; omega
        rw [h2, Nat.mul_div_mul_right _ _ (Nat.pow_pos (by decide))]
        exact Nat.div_le_self _ _
      omega
    · have h1 : pat * 2 ^ bit / 256 ^ f = 2 ^ (bit - 8 * f) * pat := by
        have h2 : 2 ^ bit = 2 ^ (bit - 8 * f) * 256 ^ f := by rw [pow256, ← Nat.pow_add]; congr 1; omega
        rw [h2, ← Nat.mul_assoc, Nat.mul_div_cancel _ (Nat.pow_pos (by decide)), Nat.mul_comm]
      rw [h1] at e ⊢
      by_cases hn : 8 * n ≤ bit - 8 * f
      · rw [pow256]
        have h3 : 2 ^ (bit - 8 * f) = 2 ^ (8 * n) * 2 ^ (bit - 8 * f - 8 * n) := by rw [← Nat.pow_add]; congr 1; omega
        rw [h3, Nat.mul_assoc]
        exact Nat.mul_mod_right _ _
      · have h3 : 2 ^ (bit - 8 * f) * pat % 256 ^ n = 2 ^ (bit - 8 * f) * (pat % 2 ^ (8 * n - (bit - 8 * f))) := by
          have h4 : 256 ^ n = 2 ^ (bit - 8 * f) * 2 ^ (8 * n - (bit - 8 * f)) := by rw [pow256, ← Nat.pow_add]; congr 1; omega
          rw [h4, Nat.mul_mod_mul_left]
        rw [h3] at e ⊢
        rw [show 8 * n = (bit - 8 * f) + (8 * n - (bit - 8 * f)) by omega, csN_add, csN_even] at e
        rw [show (bit - 8 * f) + (8 * n - (bit - 8 * f)) - (bit - 8 * f) = 8 * n - (bit - 8 * f) by omega] at e
        have := csN_zero_of (Nat.lt_of_le_of_lt (Nat.mod_le _ _) hp) e
        rw [this, Nat.mul_zero]
  · intro e; rw [e, csN_zero]
/-- A sum as a word of the code. -/
theorem crc_word {l : List Nat} {v : Nat} (hl : ∀ x ∈ l, x < 256) (hv : v < 4294967296) : v = crc l ↔ crg c32 (l ++ le 4 v) = csN 32 c32 := by
  have hR : crg c32 l < 4294967296 := crg_lt (by decide) hl
  have hc : crc l = crg c32 l ^^^ c32 := by unfold crc crm; rw [Nat.zero_xor]
  rw [crg_app, crg_le 4 _ _ (by omega), hc]
  constructor
  · intro e
    subst e
    rw [← Nat.xor_assoc, Nat.xor_self, Nat.zero_xor]
  · intro e
    have e2 : csN 32 ((crg c32 l ^^^ v) ^^^ c32) = 0 := by
      rw [csN_xor]
      show csN (8 * 4) _ ^^^ _ = 0
      rw [e, Nat.xor_self]
    have e3 := xor_nil (csN_zero_of (Nat.xor_lt_two_pow (n := 32) (Nat.xor_lt_two_pow (n := 32) hR hv) (by decide)) e2)
    have h4 := congrArg (crg c32 l ^^^ ·) e3
    simp only [← Nat.xor_assoc, Nat.xor_self, Nat.zero_xor] at h4
    exact h4
/-- A word of n bytes and its sum, bits turned in it: the sum is right just where none is. -/
theorem burst_chk {P b : List Nat} {pat bit f m : Nat} (hP : ∀ x ∈ P, x < 256) (hb : ∀ x ∈ b, x < 256) (hp : pat < 4294967296) (hfm : f + m + 4 ≤ b.length) (ok : num b (f + m) 4 = crc (P ++ sl b f m)) :
    num (burst b pat bit) (f + m) 4 = crc (P ++ sl (burst b pat bit) f m) ↔ still pat bit f (m + 4) := by
  have hb' := burst_lt (pat := pat) (bit := bit) hb
  have hl' := burst_length b pat bit
  have w1 := (crc_word (l := P ++ sl b f m) (v := num b (f + m) 4) (le_app_lt hP fun x hx => hb x (sl_mem hx)) (num_four hb hfm)).1 ok
  rw [crc_word (le_app_lt hP fun x hx => hb' x (sl_mem hx)) (num_four hb' (by rw [hl']; exact hfm)), le_num hb' (by rw [hl']; exact hfm), List.append_assoc, ← sl_split]
  rw [le_num hb hfm, List.append_assoc, ← sl_split] at w1
  rw [← w1, crg_app, crg_app]
  have hx := crg_xor (sl (burst b pat bit) f (m + 4)) (sl b f (m + 4)) (crg c32 P) (crg c32 P) (by rw [sl_length (by rw [hl']; omega), sl_length (by omega)])
  rw [Nat.xor_self, sl_burst (by omega)] at hx
  have hz : crx (crx (sl b f (m + 4)) (le (m + 4) (pat * 2 ^ bit / 256 ^ f))) (sl b f (m + 4)) = le (m + 4) (pat * 2 ^ bit / 256 ^ f) := by
    have l1 : (sl b f (m + 4)).length = m + 4 := sl_length (by omega)
    have l2 : (crx (sl b f (m + 4)) (le (m + 4) (pat * 2 ^ bit / 256 ^ f))).length = m + 4 := by rw [crx_length (by rw [l1, le_length]), l1]
    apply list_getD_ext
    · rw [crx_length (by rw [l1, l2]), l2, le_length]
    · intro i _
      rw [crx_get (by rw [l1, l2]), crx_get (by rw [l1, le_length]), Nat.xor_comm (List.getD (sl b f (m + 4)) i 0), Nat.xor_assoc, Nat.xor_self, Nat.xor_zero]
  rw [hz] at hx
  rw [sl_burst (by omega), ← crg_still hp, ← hx]
  constructor
  · intro e; rw [e, Nat.xor_self]
  · intro e; exact xor_nil e
/-- What no bit turns is as it was. -/
theorem still_sl {b : List Nat} {pat bit f n : Nat} (h : f + n ≤ b.length) (hs : still pat bit f n) : sl (burst b pat bit) f n = sl b f n := by
  rw [sl_burst h, ← le_mod, show pat * 2 ^ bit / 256 ^ f % 256 ^ n = 0 from hs]
  have l1 : (sl b f n).length = n := sl_length h
  apply list_getD_ext
  · rw [crx_length (by rw [l1, le_length])]
  · intro i hi
    rw [crx_length (by rw [l1, le_length]), l1] at hi
    rw [crx_get (by rw [l1, le_length]), le_get _ _ _ hi]
    simp
theorem still_cut {pat bit f n m : Nat} (h : still pat bit f (n + m)) : still pat bit f n := by
  unfold still at h ⊢
  rw [Nat.pow_add] at h
  have := congrArg (· % 256 ^ n) h
  simpa [Nat.mod_mul_right_mod] using this
theorem still_join {pat bit f n m : Nat} : still pat bit f (n + m) ↔ still pat bit f n ∧ still pat bit (f + n) m := by
  unfold still
  rw [Nat.pow_add, Nat.mod_mul, Nat.div_div_eq_div_mul, ← Nat.pow_add]
  have : 0 < 256 ^ n := Nat.pow_pos (by decide)
  constructor
  · intro h
    have h1 : pat * 2 ^ bit / 256 ^ f % 256 ^ n = 0 := by omega
    rw [h1] at h
    refine ⟨h1, ?_⟩
    rcases Nat.mul_eq_zero.1 (by omega : 256 ^ n * (pat * 2 ^ bit / 256 ^ (f + n) % 256 ^ m) = 0) with h2 | h2
    · omega
    · exact h2
  · rintro ⟨h1, h2⟩
    rw [h1, h2]; rfl
end Go.Proofs.Ytbioanbokbhmgaa

/- What the sums tell, in plain: bits turned, frames that change places, frames of another head; unlike shards have unlike bytes. Conditions: bytes, heads that may be. -/
namespace Go.Proofs.Ytbioanbokbhmgaa

theorem offF_up (h : Hd) : ∀ (n j : Nat), j ≤ n → offF h j ≤ offF h n
  | 0, j, hj => by have : j = 0 := by omega
                   subst this; exact Nat.le_refl _
  | n + 1, j, hj => by
    rcases Nat.lt_or_ge n j with h1 | h1
    · have : j = n + 1 := by omega
      subst this; exact Nat.le_refl _
    · have := offF_up h n j h1
      have := offF_next h n
      omega
theorem head_of_sl {h : Hd} {b : List Nat} (e : sl b 0 (offF h 0) = headL h) : ∃ t, b = headL h ++ t := by
  refine ⟨b.drop (offF h 0), ?_⟩
  rw [← e]
  show b = b.take (offF h 0) ++ _
  rw [List.take_append_drop]
theorem off_zero (h : Hd) : offF h 0 = 40 + h.key.size := rfl
theorem form_head_sl (h : Hd) (BL : List (List Nat)) : sl (formL h BL) 0 (offF h 0) = headL h := by
  have : formL h BL = [] ++ headL h ++ framesL (sum2 h) 0 BL := rfl
  rw [this]; exact sl_mid' rfl (by rw [headL_length, off_zero])
theorem form_off {h : Hd} {BL : List (List Nat)} (HE : checkE h = 0) (hf : fitsB h BL) : (formL h BL).length = offF h BL.length := by
  rw [form_len HE hf, lenE_off HE, hf.1]
theorem off_in {h : Hd} {BL : List (List Nat)} (HE : checkE h = 0) (hf : fitsB h BL) {j : Nat} (hj : j < BL.length) : offF h j + lenF h j + 4 ≤ (formL h BL).length := by
  rw [form_off HE hf, ← offF_next]
  exact offF_up h _ _ (by omega)
theorem form_sl {h : Hd} {BL : List (List Nat)} (hf : fitsB h BL) {j : Nat} (hj : j < BL.length) : sl (formL h BL) (offF h j) (lenF h j + 4) = frameL (sum2 h) j (BL.getD j []) := by
  have e := form_split hj (h := h) []
  rw [List.append_nil] at e
  rw [e]
  exact sl_mid' (off_len hf j (by omega)).symm (by rw [frameL_length, hf.2 j hj]; rfl)
/-! ### bits turned -/
theorem burst_head {h : Hd} {BL : List (List Nat)} {pat bit : Nat} (hB : HdB h) (HE : checkE h = 0) (hx : ∀ l ∈ BL, ∀ x ∈ l, x < 256) (hp : pat < 4294967296) (hs : ¬ still pat bit 0 (offF h 0)) : headE (burst (formL h BL) pat bit) ≠ 0 := by
  intro h0
  apply hs
  have hb := formL_lt hB hx
  have he := headE_head (b := formL h BL) hB HE rfl
  have hd := hdOf_head (b := formL h BL) hB HE rfl
  obtain ⟨a1, _, a3, a4, a5, _⟩ := headE_facts he
  obtain ⟨_, _, b3, _, b5, _⟩ := headE_facts h0
  have h31 : (formL h BL).getD 31 0 = h.key.size := by
    have : (hdOf (formL h BL)).key.size = (formL h BL).getD 31 0 := strN_size _ _
    rw [← this, hd]
  have s1 := (burst_chk (P := []) (f := 0) (m := 32) (bit := bit) (by simp) hb hp (by omega) (by simpa [take_sl] using a3)).1 (by simpa [take_sl] using b3)
  have e1 : sl (burst (formL h BL) pat bit) 0 36 = sl (formL h BL) 0 36 := still_sl (by omega) s1
  have g1 : (burst (formL h BL) pat bit).getD 31 0 = (formL h BL).getD 31 0 := by
    have := congrArg (fun l => List.getD l 31 0) e1
    rwa [sl_get (by omega), sl_get (by omega)] at this
  have t1 : (burst (formL h BL) pat bit).take 32 = (formL h BL).take 32 := by
    have := congrArg (List.take 32) e1
    simpa [sl, List.take_take] using this
  unfold keyL at a5 b5
  rw [g1, t1] at b5
  have s2 := (burst_chk (P := (formL h BL).take 32) (f := 36) (m := (formL h BL).getD 31 0) (bit := bit) (fun x hx => hb x (List.mem_of_mem_take hx)) hb hp (by omega) a5).1 b5
  have s3 := still_join.2 ⟨s1, s2⟩
  rw [h31] at s3
  rw [off_zero]
  rwa [show 36 + (h.key.size + 4) = 40 + h.key.size by omega] at s3
theorem burst_rest {h : Hd} {BL : List (List Nat)} {pat bit : Nat} (hB : HdB h) (HE : checkE h = 0) (hs : still pat bit 0 (offF h 0)) : hdOf (burst (formL h BL) pat bit) = h ∧ headE (burst (formL h BL) pat bit) = 0 := by
  have e : sl (burst (formL h BL) pat bit) 0 (offF h 0) = headL h := by
    rw [still_sl (by rw [off_zero, Nat.zero_add]; unfold formL; rw [List.length_append, headL_length]; omega) hs, form_head_sl]
  obtain ⟨t, e⟩ := head_of_sl e
  exact ⟨hdOf_head hB HE e, headE_head hB HE e⟩
theorem burst_bad {h : Hd} {BL : List (List Nat)} {pat bit j : Nat} (hB : HdB h) (HE : checkE h = 0) (hf : fitsB h BL) (hx : ∀ l ∈ BL, ∀ x ∈ l, x < 256) (hp : pat < 4294967296) (hs : still pat bit 0 (offF h 0)) (hj : j < BL.length) :
    badF (burst (formL h BL) pat bit) j = decide (¬ still pat bit (offF h j) (lenF h j + 4)) := by
  have hb := formL_lt hB hx
  obtain ⟨hd, _⟩ := burst_rest (BL := BL) hB HE hs
  have hin := off_in HE hf hj
  have g := form_good (t := []) hB HE hf hx hj
  rw [List.append_nil] at g
  have hd0 := hdOf_head (b := formL h BL) hB HE rfl
  unfold badF at g ⊢
  rw [hd0] at g
  rw [hd, burst_length]
  simp only [Bool.or_eq_false_iff, decide_eq_false_iff_not, Decidable.not_not] at g
  have := burst_chk (P := le 4 (sum2 h) ++ le 4 j) (f := offF h j) (m := lenF h j) (bit := bit) (le_app_lt (fun _ => le_lt) fun _ => le_lt) hb hp hin (by have := g.2; simpa [sumB] using this)
  have hn : ¬ (formL h BL).length < offF h j + lenF h j + 4 := by omega
  simp only [hn, decide_false, Bool.false_or]
  unfold sumB
  simp only [this]
theorem burst_none {h : Hd} {BL : List (List Nat)} {pat bit : Nat} (hB : HdB h) (HE : checkE h = 0) (hf : fitsB h BL) (hx : ∀ l ∈ BL, ∀ x ∈ l, x < 256) (hp : pat < 4294967296) (h0 : still pat bit 0 (offF h 0)) (h1 : badL (burst (formL h BL) pat bit) (sizeN h.K h.M h.B h.size) = []) : still pat bit 0 (formL h BL).length := by
  rw [form_off HE hf]
  have hn := (badL_nil _ _).1 h1
  rw [← hf.1] at hn
  have : ∀ n, n ≤ BL.length → still pat bit 0 (offF h n) := by
    intro n
    induction n with
    | zero => intro _; exact h0
    | succ n ih =>
      intro hle
      rw [offF_next, Nat.add_assoc]
      refine still_join.2 ⟨ih (by omega), ?_⟩
      have := hn n (by omega)
      rw [burst_bad hB HE hf hx hp h0 (by omega)] at this
      rw [Nat.zero_add]
      simpa using this
  exact this _ (Nat.le_refl _)
theorem burst_prs {h : Hd} {BL : List (List Nat)} {pat bit : Nat} (hB : HdB h) (HE : checkE h = 0) (hf : fitsB h BL) (hx : ∀ l ∈ BL, ∀ x ∈ l, x < 256) (hp : pat < 4294967296) (ha : ¬ still pat bit 0 (formL h BL).length) :
    (¬ still pat bit 0 (offF h 0) → headE (burst (formL h BL) pat bit) ≠ 0 ∧ prsE (burst (formL h BL) pat bit) ≠ 0) ∧ (still pat bit 0 (offF h 0) → headE (burst (formL h BL) pat bit) = 0 ∧ prsE (burst (formL h BL) pat bit) = 82 ∧ hdOf (burst (formL h BL) pat bit) = h) := by
  constructor
  · intro hs
    have := burst_head (BL := BL) hB HE hx hp hs
    refine ⟨this, ?_⟩
    unfold prsE
    rw [if_pos this]; exact this
  · intro hs
    obtain ⟨hd, he⟩ := burst_rest (BL := BL) hB HE hs
    exact ⟨he, prs_bad hd he (by rw [burst_length, form_len HE hf]) fun h1 => ha (burst_none hB HE hf hx hp hs h1), hd⟩
/-! ### frames that change places; frames of another head -/
/-- Where frames hold what they held, the verdict is the same. -/
theorem badF_same {b c : List Nat} {h : Hd} {i : Nat} (hb : hdOf b = h) (hc : hdOf c = h) (hl : c.length = b.length) (e : sl c (offF h i) (lenF h i + 4) = sl b (offF h i) (lenF h i + 4)) : badF c i = badF b i := by
  have e1 : sl c (offF h i) (lenF h i) = sl b (offF h i) (lenF h i) := by
    have := congrArg (List.take (lenF h i)) e
    simpa [sl, List.take_take] using this
  have e2 : sl c (offF h i + lenF h i) 4 = sl b (offF h i + lenF h i) 4 := by
    have := congrArg (List.drop (lenF h i)) e
    simpa [sl, List.drop_take, List.drop_drop] using this
  unfold badF num
  rw [hb, hc, hl, e1, e2]
theorem bad_two {b : List Nat} {j k : Nat} (hjk : j < k) : ∀ n, (∀ i, i < n → badF b i = decide (i = j ∨ i = k)) → badL b n = (if j < n then [j] else []) ++ (if k < n then [k] else [])
  | 0, _ => by simp [badL]
  | n + 1, h => by
    have ih := bad_two hjk n (fun i hi => h i (by omega))
    have hn := h n (by omega)
    unfold badL
    rw [hn, ih]
    by_cases h1 : n = j
    · subst h1
      have : ¬ k < n := by omega
      have : ¬ k < n + 1 := by omega
      simp [*]
    · by_cases h2 : n = k
      · subst h2
        have : j < n + 1 := by omega
        simp [hjk, this]
      · have e1 : (j < n + 1) = (j < n) := by simp; omega
        have e2 : (k < n + 1) = (k < n) := by simp; omega
        simp [h1, h2, e1, e2]
theorem bad_one {b : List Nat} {j : Nat} : ∀ n, (∀ i, i < n → badF b i = decide (i = j)) → badL b n = if j < n then [j] else []
  | 0, _ => by simp [badL]
  | n + 1, h => by
    have ih := bad_one n (fun i hi => h i (by omega))
    have hn := h n (by omega)
    unfold badL
    rw [hn, ih]
    by_cases h1 : n = j
    · subst h1; simp
    · have e1 : (j < n + 1) = (j < n) := by simp; omega
      simp [h1, e1]
/-- n bytes at p and n at q change places. -/
def swapL (b : List Nat) (p q n : Nat) : List Nat := (List.range b.length).map fun i => if p ≤ i ∧ i < p + n then b.getD (q + (i - p)) 0 else if q ≤ i ∧ i < q + n then b.getD (p + (i - q)) 0 else b.getD i 0
/-- n bytes at p out of other bytes. -/
def putL (b c : List Nat) (p n : Nat) : List Nat := (List.range b.length).map fun i => if p ≤ i ∧ i < p + n then c.getD i 0 else b.getD i 0
theorem swapL_length (b : List Nat) (p q n : Nat) : (swapL b p q n).length = b.length := by simp [swapL]
theorem putL_length (b c : List Nat) (p n : Nat) : (putL b c p n).length = b.length := by simp [putL]
theorem swapL_get {b : List Nat} {p q n i : Nat} (h : i < b.length) : (swapL b p q n).getD i 0 = if p ≤ i ∧ i < p + n then b.getD (q + (i - p)) 0 else if q ≤ i ∧ i < q + n then b.getD (p + (i - q)) 0 else b.getD i 0 := by
  unfold swapL
  rw [List.getD_eq_getElem?_getD, List.getElem?_map, List.getElem?_range h]; rfl
theorem putL_get {b c : List Nat} {p n i : Nat} (h : i < b.length) : (putL b c p n).getD i 0 = if p ≤ i ∧ i < p + n then c.getD i 0 else b.getD i 0 := by
  unfold putL
  rw [List.getD_eq_getElem?_getD, List.getElem?_map, List.getElem?_range h]; rfl
theorem swapL_lt {b : List Nat} {p q n : Nat} (hb : ∀ x ∈ b, x < 256) : ∀ x ∈ swapL b p q n, x < 256 := by
  intro x hx
  unfold swapL at hx
  obtain ⟨i, _, rfl⟩ := List.mem_map.1 hx
  split
  · exact getD_256 hb _
  · split <;> exact getD_256 hb _
theorem putL_lt {b c : List Nat} {p n : Nat} (hb : ∀ x ∈ b, x < 256) (hc : ∀ x ∈ c, x < 256) : ∀ x ∈ putL b c p n, x < 256 := by
  intro x hx
  unfold putL at hx
  obtain ⟨i, _, rfl⟩ := List.mem_map.1 hx
  split
  · exact getD_256 hc _
  · exact getD_256 hb _
theorem sl_ext {a b : List Nat} {p q n : Nat} (ha : p + n ≤ a.length) (hb : q + n ≤ b.length) (h : ∀ i, i < n → a.getD (p + i) 0 = b.getD (q + i) 0) : sl a p n = sl b q n := by
  apply list_getD_ext
  · rw [sl_length ha, sl_length hb]
  · intro i hi
    rw [sl_length ha] at hi
    rw [sl_get hi, sl_get hi]; exact h i hi
theorem lenF_eq_off (h : Hd) {i j : Nat} (hij : i < j) : offF h i + lenF h i + 4 ≤ offF h j := by
  rw [← offF_next]; exact offF_up h j (i + 1) hij
set_option maxHeartbeats 4000000 in
theorem swap_law {h : Hd} {BL : List (List Nat)} {j k : Nat} (hB : HdB h) (HE : checkE h = 0) (hf : fitsB h BL) (hx : ∀ l ∈ BL, ∀ x ∈ l, x < 256) (hjk : j < k) (hk : k < BL.length) (hl : lenF h j = lenF h k) :
    headE (swapL (formL h BL) (offF h j) (offF h k) (lenF h j + 4)) = 0 ∧ hdOf (swapL (formL h BL) (offF h j) (offF h k) (lenF h j + 4)) = h ∧ badL (swapL (formL h BL) (offF h j) (offF h k) (lenF h j + 4)) (sizeN h.K h.M h.B h.size) = [j, k] ∧ prsE (swapL (formL h BL) (offF h j) (offF h k) (lenF h j + 4)) = 82 := by
  have hb := formL_lt hB hx
  have hsz := (fits_len HE hf).1
  have o0 := offF_up h j 0 (by omega)
  have o1 := lenF_eq_off h hjk
  have i1 := off_in HE hf (show j < BL.length by omega)
  have i2 := off_in HE hf hk
  have hlen := swapL_length (formL h BL) (offF h j) (offF h k) (lenF h j + 4)
  generalize hc : swapL (formL h BL) (offF h j) (offF h k) (lenF h j + 4) = c at *
  have hg := fun (i : Nat) (hi : i < (formL h BL).length) => (show c.getD i 0 = (swapL (formL h BL) (offF h j) (offF h k) (lenF h j + 4)).getD i 0 by rw [hc]).trans (swapL_get hi)
  have e0 : sl c 0 (offF h 0) = headL h := by
    rw [← form_head_sl h BL]
    refine sl_ext (by omega) (by omega) fun i hi => ?_
    rw [hg _ (by omega), if_neg (by omega), if_neg (by omega)]
  obtain ⟨t, e⟩ := head_of_sl e0
  have hd := hdOf_head hB HE e
  have he := headE_head hB HE e
  have hd0 := hdOf_head (b := formL h BL) hB HE rfl
  have ht := sum_lt hB
  have hbad : ∀ i, i < BL.length → badF c i = decide (i = j ∨ i = k) := by
    intro i hi
    have i3 := off_in HE hf hi
    by_cases hj' : i = j
    · subst hj'
      have s1 : sl c (offF h i) (lenF h i + 4) = BL.getD k [] ++ le 4 (sumB (sum2 h) k (BL.getD k [])) := by
        have := form_sl hf hk
        unfold frameL at this
        rw [← this, ← hl]
        refine sl_ext (by omega) (by omega) fun z hz => ?_
        rw [hg _ (by omega), if_pos (by omega)]; exact congrArg (fun z => List.getD (formL h BL) z 0) (by omega)
      rw [badF_at hd (sumB_small (hx _ (getD_mem' hk))) (by rw [hf.2 k hk]; exact hl.symm) (by omega) s1]
      have : ¬ sumB (sum2 h) k (BL.getD k []) = sumB (sum2 h) i (BL.getD k []) := fun e => by
        have := sumB_num (hx _ (getD_mem' hk)) (by omega) (by omega) e; omega
      rw [decide_eq_true this]; simp
    · by_cases hk' : i = k
      · subst hk'
        have hj'' : j < BL.length := by omega
        have s1 : sl c (offF h i) (lenF h i + 4) = BL.getD j [] ++ le 4 (sumB (sum2 h) j (BL.getD j [])) := by
          have := form_sl hf hj''
          unfold frameL at this
          rw [← this, ← hl]
          refine sl_ext (by omega) (by omega) fun z hz => ?_
          rw [hg _ (by omega), if_neg (by omega), if_pos (by omega)]; exact congrArg (fun z => List.getD (formL h BL) z 0) (by omega)
        rw [badF_at hd (sumB_small (hx _ (getD_mem' hj''))) (by rw [hf.2 j hj'']; exact hl) (by omega) s1]
        have : ¬ sumB (sum2 h) j (BL.getD j []) = sumB (sum2 h) i (BL.getD j []) := fun e => by
          have := sumB_num (hx _ (getD_mem' hj'')) (by omega) (by omega) e; omega
        rw [decide_eq_true this]; simp
      · have g := form_good (t := []) hB HE hf hx hi
        rw [List.append_nil] at g
        rw [badF_same hd0 hd hlen, g]
        · simp [hj', hk']
        · refine sl_ext (by omega) (by omega) fun z hz => ?_
          have q1 : offF h i + lenF h i + 4 ≤ offF h j ∨ offF h j + lenF h j + 4 ≤ offF h i := by
            rcases Nat.lt_or_ge i j with q | q
            · exact .inl (lenF_eq_off h q)
            · exact .inr (lenF_eq_off h (by omega))
          have q2 : offF h i + lenF h i + 4 ≤ offF h k ∨ offF h k + lenF h k + 4 ≤ offF h i := by
            rcases Nat.lt_or_ge i k with q | q
            · exact .inl (lenF_eq_off h q)
            · exact .inr (lenF_eq_off h (by omega))
          rw [hg _ (by omega), if_neg (by omega), if_neg (by omega)]
  have hL : badL c (sizeN h.K h.M h.B h.size) = [j, k] := by
    rw [← hf.1, bad_two hjk _ hbad, if_pos (by omega), if_pos hk]; rfl
  exact ⟨he, hd, hL, prs_bad hd he (by rw [hlen, form_len HE hf]) (by rw [hL]; simp)⟩
/-- One head is another's but for one number. -/
def fore (h g : Hd) : Prop := ∃ x, g = { h with M := x } ∨ g = { h with idx := x } ∨ g = { h with ep := x } ∨ g = { h with ct := x }
theorem crc_at {l l' : List Nat} (p : Nat) (hl : ∀ x ∈ l, x < 256) (hl' : ∀ x ∈ l', x < 256) (n : p + 4 ≤ l.length) (n' : p + 4 ≤ l'.length) (h1 : l.take p = l'.take p) (h2 : l.drop (p + 4) = l'.drop (p + 4)) (e : crc l = crc l') : sl l p 4 = sl l' p 4 := by
  have s : ∀ k : List Nat, k = k.take p ++ sl k p 4 ++ k.drop (p + 4) := fun k => by
    rw [List.append_assoc]
    conv => lhs; rw [← List.take_append_drop p k]
    congr 1
    unfold sl
    rw [Nat.add_comm p 4, ← List.drop_drop, List.drop_drop, Nat.add_comm 4 p, ← List.drop_drop, List.take_append_drop]
  have e' : crm 0 (l.take p ++ sl l p 4 ++ l.drop (p + 4)) = crm 0 (l.take p ++ sl l' p 4 ++ l.drop (p + 4)) := by
    rw [← s l]
    conv => rhs; rw [h1, h2, ← s l']
    exact e
  exact crm_four (s := 0) (by decide) (fun x hx => hl x (List.mem_of_mem_take hx)) (fun x hx => hl x (sl_mem hx)) (fun x hx => hl' x (sl_mem hx)) (fun x hx => hl x (List.mem_of_mem_drop hx)) (sl_length n) (sl_length n') e'
set_option maxHeartbeats 4000000 in
theorem fore_sum {h g : Hd} (hB : HdB h) (HE : checkE h = 0) (GE : checkE g = 0) (hF : fore h g) (e : sum2 g = sum2 h) : g = h := by
  obtain ⟨⟨m1, m2, m3, m4, m5, m6⟩, k0, k1, hE, i0, i1, e0, e1, t0, t1⟩ := check_facts HE
  obtain ⟨⟨m1', m2', m3', m4', m5', m6'⟩, k0', k1', hE', i0', i1', e0', e1', t0', t1'⟩ := check_facts GE
  have hall : ∀ x ∈ fixL h ++ bl h.key, x < 256 := le_app_lt (fixL_lt hB) (bl_lt _)
  have hB' : HdB g := by obtain ⟨x, hx | hx | hx | hx⟩ := hF <;> subst hx <;> exact hB
  have hall' : ∀ x ∈ fixL g ++ bl g.key, x < 256 := le_app_lt (fixL_lt hB') (bl_lt _)
  have n1 : (fixL h ++ bl h.key).length = 32 + h.key.size := by rw [List.length_append, fixL_length, bl_length]
  have n2 : (fixL g ++ bl g.key).length = 32 + g.key.size := by rw [List.length_append, fixL_length, bl_length]
  unfold sum2 at e
  obtain ⟨x, hx | hx | hx | hx⟩ := hF
  · subst hx
    have q : [h.K.toNat % 256, x.toNat % 256, h.B.toNat % 256, h.B.toNat / 256 % 256] = [h.K.toNat % 256, h.M.toNat % 256, h.B.toNat % 256, h.B.toNat / 256 % 256] := crc_at 12 hall' hall (by omega) (by omega) rfl rfl e
    injection q with q1 q; injection q with q2 q
    dsimp only at m1' m2' m3' m4'
    have : x = h.M := by omega
    rw [this]
  · subst hx
    have q : [x.toNat % 256, h.ep.toNat % 256, h.ep.toNat / 256 % 256, h.ep.toNat / 256 / 256 % 256] = [h.idx.toNat % 256, h.ep.toNat % 256, h.ep.toNat / 256 % 256, h.ep.toNat / 256 / 256 % 256] := crc_at 22 hall' hall (by omega) (by omega) rfl rfl e
    simp at q
    dsimp only at i0' i1'
    have : x = h.idx := by omega
    rw [this]
  · subst hx
    have q : [x.toNat % 256, x.toNat / 256 % 256, x.toNat / 256 / 256 % 256, x.toNat / 256 / 256 / 256 % 256] = [h.ep.toNat % 256, h.ep.toNat / 256 % 256, h.ep.toNat / 256 / 256 % 256, h.ep.toNat / 256 / 256 / 256 % 256] := crc_at 23 hall' hall (by omega) (by omega) rfl rfl e
    injection q with q1 q; injection q with q2 q; injection q with q3 q; injection q with q4 q
    dsimp only at e0' e1'
    have : x = h.ep := by omega
    rw [this]
  · subst hx
    have q : [x.toNat % 256, x.toNat / 256 % 256, x.toNat / 256 / 256 % 256, x.toNat / 256 / 256 / 256 % 256] = [h.ct.toNat % 256, h.ct.toNat / 256 % 256, h.ct.toNat / 256 / 256 % 256, h.ct.toNat / 256 / 256 / 256 % 256] := crc_at 27 hall' hall (by omega) (by omega) rfl rfl e
    injection q with q1 q; injection q with q2 q; injection q with q3 q; injection q with q4 q
    dsimp only at t0' t1'
    have : x = h.ct := by omega
    rw [this]
theorem fore_off {h g : Hd} (hF : fore h g) : (∀ j, offF g j = offF h j) ∧ (∀ j, lenF g j = lenF h j) ∧ g.size = h.size ∧ g.K = h.K ∧ g.B = h.B ∧ g.key = h.key := by
  obtain ⟨x, hx | hx | hx | hx⟩ := hF <;> subst hx <;> exact ⟨fun _ => rfl, fun _ => rfl, rfl, rfl, rfl, rfl⟩
theorem fore_bytes {h g : Hd} (hF : fore h g) (hB : HdB h) : HdB g := by
  obtain ⟨x, hx | hx | hx | hx⟩ := hF <;> subst hx <;> exact hB
set_option maxHeartbeats 4000000 in
theorem foreign_law {h g : Hd} {TL VL : List (List Nat)} {j : Nat} (hB : HdB h) (HE : checkE h = 0) (GE : checkE g = 0) (hF : fore h g) (hne : ¬ g = h) (hf : fitsB h TL) (gf : fitsB g VL) (hx : ∀ l ∈ TL, ∀ x ∈ l, x < 256) (hv : ∀ l ∈ VL, ∀ x ∈ l, x < 256) (hj : j < TL.length) (hjv : j < VL.length) :
    headE (putL (formL h TL) (formL g VL) (offF h j) (lenF h j + 4)) = 0 ∧ hdOf (putL (formL h TL) (formL g VL) (offF h j) (lenF h j + 4)) = h ∧ badL (putL (formL h TL) (formL g VL) (offF h j) (lenF h j + 4)) (sizeN h.K h.M h.B h.size) = [j] ∧ prsE (putL (formL h TL) (formL g VL) (offF h j) (lenF h j + 4)) = 82 := by
  obtain ⟨fo, fl, -⟩ := fore_off hF
  have gB := fore_bytes hF hB
  have o0 := offF_up h j 0 (by omega)
  have i1 := off_in HE hf hj
  have i2 := off_in GE gf hjv
  rw [fo, fl] at i2
  have hlen := putL_length (formL h TL) (formL g VL) (offF h j) (lenF h j + 4)
  generalize hc : putL (formL h TL) (formL g VL) (offF h j) (lenF h j + 4) = c at *
  have hg := fun (i : Nat) (hi : i < (formL h TL).length) => (show c.getD i 0 = (putL (formL h TL) (formL g VL) (offF h j) (lenF h j + 4)).getD i 0 by rw [hc]).trans (putL_get hi)
  have e0 : sl c 0 (offF h 0) = headL h := by
    rw [← form_head_sl h TL]
    refine sl_ext (by omega) (by omega) fun i hi => ?_
    rw [hg _ (by omega), if_neg (by omega)]
  obtain ⟨t, e⟩ := head_of_sl e0
  have hd := hdOf_head hB HE e
  have he := headE_head hB HE e
  have hd0 := hdOf_head (b := formL h TL) hB HE rfl
  have hbad : ∀ i, i < TL.length → badF c i = decide (i = j) := by
    intro i hi
    have i3 := off_in HE hf hi
    by_cases hj' : i = j
    · subst hj'
      have s1 : sl c (offF h i) (lenF h i + 4) = VL.getD i [] ++ le 4 (sumB (sum2 g) i (VL.getD i [])) := by
        have := form_sl gf hjv
        unfold frameL at this
        rw [← this, fo, fl]
        refine sl_ext (by omega) (by omega) fun z hz => ?_
        rw [hg _ (by omega), if_pos (by omega)]
      rw [badF_at hd (sumB_small (hv _ (getD_mem' hjv))) (by rw [gf.2 i hjv]; exact fl i) (by omega) s1]
      have : ¬ sumB (sum2 g) i (VL.getD i []) = sumB (sum2 h) i (VL.getD i []) := fun e =>
        hne (fore_sum hB HE GE hF (sumB_head (hv _ (getD_mem' hjv)) (sum_lt gB).2 (sum_lt hB).2 e))
      rw [decide_eq_true this]; simp
    · have q := form_good (t := []) hB HE hf hx hi
      rw [List.append_nil] at q
      rw [badF_same hd0 hd hlen, q]
      · simp [hj']
      · refine sl_ext (by omega) (by omega) fun z hz => ?_
        have q1 : offF h i + lenF h i + 4 ≤ offF h j ∨ offF h j + lenF h j + 4 ≤ offF h i := by
          rcases Nat.lt_or_ge i j with q | q
          · exact .inl (lenF_eq_off h q)
          · exact .inr (lenF_eq_off h (by omega))
        rw [hg _ (by omega), if_neg (by omega)]
  have hL : badL c (sizeN h.K h.M h.B h.size) = [j] := by
    rw [← hf.1, bad_one _ hbad, if_pos hj]
  exact ⟨he, hd, hL, prs_bad hd he (by rw [hlen, form_len HE hf]) (by rw [hL]; simp)⟩
/-- Unlike shards have unlike bytes. -/
theorem form_inj {h g : Hd} {L1 L2 : List (List Nat)} (hB : HdB h) (gB : HdB g) (HE : checkE h = 0) (GE : checkE g = 0) (hf : fitsB h L1) (gf : fitsB g L2) (e : formL h L1 = formL g L2) : h = g ∧ L1 = L2 := by
  have d1 := hdOf_head (b := formL h L1) hB HE rfl
  have d2 := hdOf_head (b := formL g L2) gB GE rfl
  have hg : h = g := by rw [← d1, e, d2]
  subst hg
  refine ⟨rfl, ?_⟩
  have b1 := blks_form hB HE hf L1.length (Nat.le_refl _)
  have b2 := blks_form hB GE gf L1.length (by rw [hf.1, gf.1]; exact Nat.le_refl _)
  rw [List.take_length] at b1
  rw [← b1, e, b2, show L1.length = L2.length by rw [hf.1, gf.1], List.take_length]
end Go.Proofs.Ytbioanbokbhmgaa
