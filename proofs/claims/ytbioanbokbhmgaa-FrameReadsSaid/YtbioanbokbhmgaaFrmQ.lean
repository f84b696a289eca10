/- Forms of shards in plain: lengths, rows of a form, what Encode answers. Conditions: none. -/
import Derived.Test.YtbioanbokbhmgaaFrmP
namespace Go.Proofs.Ytbioanbokbhmgaa

theorem getD_mem' {α : Type} {l : List α} {i : Nat} {d : α} (h : i < l.length) : l.getD i d ∈ l := by
  rw [List.getD_eq_getElem?_getD, List.getElem?_eq_getElem h]
  exact List.getElem_mem h
theorem take_nextL {BL : List (List Nat)} {k : Nat} (h : k < BL.length) : BL.take (k + 1) = BL.take k ++ [BL.getD k []] := by
  rw [List.getD_eq_getElem?_getD, List.getElem?_eq_getElem h]
  exact (List.take_append_getElem h).symm
theorem framesL_next (s : Nat) {BL : List (List Nat)} {k : Nat} (h : k < BL.length) : framesL s 0 (BL.take (k + 1)) = framesL s 0 (BL.take k) ++ frameL s k (BL.getD k []) := by
  rw [take_nextL h, framesL_app]
  have : (BL.take k).length = k := by rw [List.length_take]; omega
  rw [this, Nat.zero_add]
  simp [framesL]
/-- The rows that the document joins. -/
def rowsF (h : Hd) (BL : List (List Nat)) : Nat → List (List Nat)
  | 0 => [headL h]
  | k + 1 => rowsF h BL k ++ [frameL (sum2 h) k (BL.getD k [])]
theorem rowsF_length (h : Hd) (BL : List (List Nat)) : ∀ k, (rowsF h BL k).length = k + 1
  | 0 => rfl
  | k + 1 => by simp [rowsF, rowsF_length h BL k]
theorem rowsF_flat (h : Hd) (BL : List (List Nat)) : ∀ k, k ≤ BL.length → (rowsF h BL k).flatten = headL h ++ framesL (sum2 h) 0 (BL.take k)
  | 0, _ => by simp [rowsF, framesL]
  | k + 1, hk => by
    show (rowsF h BL k ++ [_]).flatten = _
    rw [List.flatten_append, rowsF_flat h BL k (by omega), framesL_next _ (show k < BL.length by omega), ← List.append_assoc]
    simp
theorem rowsF_all (h : Hd) (BL : List (List Nat)) : (rowsF h BL BL.length).flatten = formL h BL := by
  rw [rowsF_flat h BL _ (Nat.le_refl _), List.take_length]; rfl
theorem framesL_le (s b : Nat) : ∀ (BL : List (List Nat)) (j : Nat), (∀ l ∈ BL, l.length ≤ b) → (framesL s j BL).length ≤ BL.length * (b + 4)
  | [], _, _ => by simp [framesL]
  | x :: l, j, h => by
    have h1 := framesL_le s b l (j + 1) fun y hy => h y (by simp [hy])
    have h2 := h x (by simp)
    show (frameL s j x ++ framesL s (j + 1) l).length ≤ (l.length + 1) * (b + 4)
    rw [List.length_append, frameL_length, Nat.add_mul]
    omega
/-- Blocks of the lengths that the head wants. -/
def fitsB (h : Hd) (BL : List (List Nat)) : Prop := BL.length = sizeN h.K h.M h.B h.size ∧ ∀ j, j < BL.length → (BL.getD j []).length = blen h.K.toNat h.B.toNat h.size.toNat j
theorem fits_len {h : Hd} {BL : List (List Nat)} (HE : checkE h = 0) (hf : fitsB h BL) : BL.length ≤ 4096 ∧ ∀ l ∈ BL, l.length ≤ 65536 := by
  obtain ⟨⟨m1, m2, m3, m4, m5, m6⟩, _⟩ := check_facts HE
  have hn := sizeN_le h.K h.M h.B h.size
  refine ⟨by rw [hf.1]; exact hn, fun l hl => ?_⟩
  obtain ⟨j, hj, rfl⟩ := List.mem_iff_getElem.1 hl
  have h1 := hf.2 j hj
  have h2 : BL.getD j [] = BL[j] := by simp [List.getD, hj]
  rw [h2] at h1
  have := blen_le (K := h.K.toNat) (B := h.B.toNat) (s := h.size.toNat) (j := j) (by omega)
  omega
theorem form_le {h : Hd} {BL : List (List Nat)} (HE : checkE h = 0) (hf : fitsB h BL) : (formL h BL).length ≤ 300000000 := by
  obtain ⟨h1, h2⟩ := fits_len HE hf
  obtain ⟨_, _, k1, _⟩ := check_facts HE
  have h3 := framesL_le (sum2 h) 65536 BL 0 h2
  have h4 : BL.length * (65536 + 4) ≤ 4096 * 65540 := Nat.mul_le_mul_right _ h1
  unfold formL
  rw [List.length_append, headL_length]
  omega
/-- What Encode answers. -/
def EncP (h : Hd) (BL : List (List Nat)) (er : Int) (l : List Nat) : Prop :=
  (¬ checkE h = 0 ∧ er = checkE h ∧ l = []) ∨ (checkE h = 0 ∧ ¬ fitsB h BL ∧ er = 81 ∧ l = []) ∨ (checkE h = 0 ∧ fitsB h BL ∧ er = 0 ∧ l = formL h BL)
theorem EncP.uniq {h : Hd} {BL : List (List Nat)} {er er' : Int} {l l' : List Nat} (a : EncP h BL er l) (b : EncP h BL er' l') : er = er' ∧ l = l' := by
  rcases a with ⟨a1, rfl, rfl⟩ | ⟨a1, a2, rfl, rfl⟩ | ⟨a1, a2, rfl, rfl⟩ <;> rcases b with ⟨b1, rfl, rfl⟩ | ⟨b1, b2, rfl, rfl⟩ | ⟨b1, b2, rfl, rfl⟩ <;> first | exact ⟨rfl, rfl⟩ | exact absurd b1 a1 | exact absurd a1 b1 | exact absurd b2 a2 | exact absurd a2 b2
theorem le_app_lt {a b : List Nat} (ha : ∀ x ∈ a, x < 256) (hb : ∀ x ∈ b, x < 256) : ∀ x ∈ a ++ b, x < 256 := fun x hx => (List.mem_append.1 hx).elim (ha x) (hb x)
theorem headL_lt {h : Hd} (hB : HdB h) : ∀ x ∈ headL h, x < 256 := le_app_lt (le_app_lt (le_app_lt (fixL_lt hB) fun _ => le_lt) (bl_lt _)) fun _ => le_lt
theorem frameL_lt {s j : Nat} {l : List Nat} (hl : ∀ x ∈ l, x < 256) : ∀ x ∈ frameL s j l, x < 256 := le_app_lt hl fun _ => le_lt
theorem framesL_lt (s : Nat) : ∀ (BL : List (List Nat)) (j : Nat), (∀ l ∈ BL, ∀ x ∈ l, x < 256) → ∀ x ∈ framesL s j BL, x < 256
  | [], _, _, x, hx => by simp [framesL] at hx
  | y :: l, j, h, x, hx => le_app_lt (frameL_lt (h y (by simp))) (framesL_lt s l (j + 1) fun z hz => h z (by simp [hz])) x hx
theorem formL_lt {h : Hd} {BL : List (List Nat)} (hB : HdB h) (hl : ∀ l ∈ BL, ∀ x ∈ l, x < 256) : ∀ x ∈ formL h BL, x < 256 := le_app_lt (headL_lt hB) (framesL_lt _ _ _ hl)
theorem EncP.lt {h : Hd} {BL : List (List Nat)} {er : Int} {l : List Nat} (a : EncP h BL er l) (hB : HdB h) (hl : ∀ l ∈ BL, ∀ x ∈ l, x < 256) : ∀ x ∈ l, x < 256 := by
  rcases a with ⟨_, _, rfl⟩ | ⟨_, _, _, rfl⟩ | ⟨_, _, _, rfl⟩
  · simp
  · simp
  · exact formL_lt hB hl
theorem EncP.len {h : Hd} {BL : List (List Nat)} {er : Int} {l : List Nat} (a : EncP h BL er l) : l.length ≤ 300000000 := by
  rcases a with ⟨_, _, rfl⟩ | ⟨_, _, _, rfl⟩ | ⟨a1, a2, _, rfl⟩
  · simp
  · simp
  · exact form_le a1 a2
end Go.Proofs.Ytbioanbokbhmgaa
