/- Forms cut short, forms with more behind them, frames in other places: what is read of them. Conditions: bytes, a head that may be. -/
import Derived.Test.YtbioanbokbhmgaaPrsQ
import Derived.Test.YtbioanbokbhmgaaCrcQ
namespace Go.Proofs.Ytbioanbokbhmgaa

theorem form_pos {h : Hd} {BL : List (List Nat)} (_HE : checkE h = 0) (_hf : fitsB h BL) : 40 + h.key.size ≤ (formL h BL).length := by
  unfold formL; rw [List.length_append, headL_length]; omega
/-- No beginning is read. -/
theorem prs_cut {h : Hd} {BL : List (List Nat)} {c : Nat} (hB : HdB h) (HE : checkE h = 0) (hf : fitsB h BL) (hc : c < (formL h BL).length) : prsE ((formL h BL).take c) = 70 := by
  obtain ⟨_, k0, k1, _⟩ := check_facts HE
  have hlen : ((formL h BL).take c).length = c := by rw [List.length_take]; omega
  have hpos := form_pos HE hf
  by_cases h1 : c < 36
  · have : headE ((formL h BL).take c) = 70 := by unfold headE; rw [if_pos (by omega)]
    unfold prsE; rw [this]; rfl
  by_cases h2 : c < 40 + h.key.size
  · have hb : formL h BL = fixL h ++ (le 4 (sum1 h) ++ bl h.key ++ le 4 (sum2 h) ++ framesL (sum2 h) 0 BL) := by unfold formL headL; simp only [List.append_assoc]
    have ht : ∀ n, n ≤ c → ((formL h BL).take c).take n = (formL h BL).take n := fun n hn => by rw [List.take_take, Nat.min_eq_left hn]
    have hg : ∀ i, i < c → ((formL h BL).take c).getD i 0 = (formL h BL).getD i 0 := fun i hi => by
      rw [List.getD_eq_getElem?_getD, List.getElem?_take, if_pos hi, ← List.getD_eq_getElem?_getD]
    have he := headE_head (b := formL h BL) hB HE rfl
    have hd := hdOf_head (b := formL h BL) hB HE rfl
    obtain ⟨_, f2, f3, _⟩ := headE_facts he
    have h31 : (formL h BL).getD 31 0 = h.key.size := by
      have : (hdOf (formL h BL)).key.size = (formL h BL).getD 31 0 := strN_size _ _
      rw [← this, hd]
    have hn : num ((formL h BL).take c) 32 4 = num (formL h BL) 32 4 := by
      unfold num
      have : formL h BL = (formL h BL).take c ++ (formL h BL).drop c := (List.take_append_drop _ _).symm
      conv => rhs; rw [this]
      rw [sl_app_left (by omega)]
    have : headE ((formL h BL).take c) = 70 := by
      unfold headE
      rw [if_neg (by omega), ht 4 (by omega), if_neg (by simpa using f2), hn, ht 32 (by omega), if_neg (by simpa using f3), hg 31 (by omega), h31, if_pos (by omega)]
    unfold prsE; rw [this]; rfl
  · have hb : (formL h BL).take c = headL h ++ (framesL (sum2 h) 0 BL).take (c - (headL h).length) := by
      unfold formL
      rw [List.take_append, List.take_of_length_le (by rw [headL_length]; omega)]
    have hd := hdOf_head hB HE hb
    have he := headE_head hB HE hb
    have hl := form_len HE hf
    unfold prsE
    rw [if_neg (by simpa using he), hd, if_pos (by omega)]
/-- With more behind it. -/
theorem more_form {h : Hd} {BL : List (List Nat)} {t : List Nat} (hB : HdB h) (HE : checkE h = 0) (hf : fitsB h BL) (hx : ∀ l ∈ BL, ∀ x ∈ l, x < 256) : headE (formL h BL ++ t) = 0 ∧ hdOf (formL h BL ++ t) = h ∧ badL (formL h BL ++ t) (sizeN h.K h.M h.B h.size) = [] ∧ (0 < t.length → prsE (formL h BL ++ t) = 72) := by
  have e : formL h BL ++ t = headL h ++ (framesL (sum2 h) 0 BL ++ t) := by unfold formL; rw [List.append_assoc]
  have hd := hdOf_head hB HE e
  have he := headE_head hB HE e
  have hl := form_len HE hf
  refine ⟨he, hd, (badL_nil _ _).2 fun j hj => form_good hB HE hf hx (by rw [hf.1]; exact hj), fun ht => ?_⟩
  unfold prsE
  rw [if_neg (by simpa using he), hd, List.length_append, if_neg (by omega), if_pos (by omega)]
/-- Just these frames are spoilt. -/
theorem prs_bad {h : Hd} {b : List Nat} (hd : hdOf b = h) (he : headE b = 0) (hl : b.length = (lenE h).toNat) (hb : badL b (sizeN h.K h.M h.B h.size) ≠ []) : prsE b = 82 := by
  unfold prsE
  rw [if_neg (by simpa using he), hd, if_neg (by omega), if_neg (by omega), if_pos hb]
/-- A frame's verdict hangs on its own bytes. -/
theorem badF_at {h : Hd} {b blk : List Nat} {j s : Nat} (hd : hdOf b = h) (hs : s < 4294967296) (hl : blk.length = lenF h j) (hlen : offF h j + lenF h j + 4 ≤ b.length) (e : sl b (offF h j) (lenF h j + 4) = blk ++ le 4 s) : badF b j = decide (¬ s = sumB (sum2 h) j blk) := by
  have s1 := sl_split (b := b) (offF h j) (lenF h j) 4
  rw [e] at s1
  have h1 : sl b (offF h j) (lenF h j) = blk := by
    have h2 := congrArg (List.take (lenF h j)) s1
    rw [List.take_left' hl, List.take_left' (sl_length (by omega))] at h2
    exact h2.symm
  have h2 : sl b (offF h j + lenF h j) 4 = le 4 s := by
    have h3 := congrArg (List.drop (lenF h j)) s1
    rw [List.drop_left' hl, List.drop_left' (sl_length (by omega))] at h3
    exact h3.symm
  unfold badF num
  rw [hd, h1, h2, leV_le _ _ (by omega)]
  have : ¬ b.length < offF h j + lenF h j + 4 := by omega
  simp [this]
/-- Sums under unlike numbers, and under unlike heads, are unlike. -/
theorem sumB_num {s j k : Nat} {blk : List Nat} (hx : ∀ x ∈ blk, x < 256) (hj : j < 4294967296) (hk : k < 4294967296) (e : sumB s j blk = sumB s k blk) : j = k := by
  unfold sumB at e
  have h := crm_four (s := 0) (p := le 4 s) (a := le 4 j) (b := le 4 k) (q := blk) (by decide) (fun _ => le_lt) (fun _ => le_lt) (fun _ => le_lt) hx (le_length 4 _) (le_length 4 _) e
  have h2 := congrArg leV h
  rwa [leV_le _ _ (by omega), leV_le _ _ (by omega)] at h2
theorem sumB_head {s t j : Nat} {blk : List Nat} (hx : ∀ x ∈ blk, x < 256) (hs : s < 4294967296) (ht : t < 4294967296) (e : sumB s j blk = sumB t j blk) : s = t := by
  unfold sumB at e
  have e' : crm 0 ([] ++ le 4 s ++ (le 4 j ++ blk)) = crm 0 ([] ++ le 4 t ++ (le 4 j ++ blk)) := by
    simp only [List.nil_append, ← List.append_assoc]
    exact e
  have h := crm_four (s := 0) (p := []) (a := le 4 s) (b := le 4 t) (q := le 4 j ++ blk) (by decide) (by simp) (fun _ => le_lt) (fun _ => le_lt) (le_app_lt (fun _ => le_lt) hx) (le_length 4 _) (le_length 4 _) e'
  have h2 := congrArg leV h
  rwa [leV_le _ _ (by omega), leV_le _ _ (by omega)] at h2
end Go.Proofs.Ytbioanbokbhmgaa
