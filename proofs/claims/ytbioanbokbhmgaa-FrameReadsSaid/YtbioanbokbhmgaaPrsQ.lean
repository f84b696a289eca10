/- Forms are read as what they are forms of; what is read is the form of what was read. Conditions: bytes, a head that may be. -/
import Derived.Test.YtbioanbokbhmgaaPrsP
namespace Go.Proofs.Ytbioanbokbhmgaa

theorem getD_app_l' {α : Type} {l : List α} {x d : α} {i : Nat} (h : i < l.length) : (l ++ [x]).getD i d = l.getD i d := by simp [List.getD, List.getElem?_append_left h]
theorem getD_app_r' {α : Type} {l : List α} {x d : α} : (l ++ [x]).getD l.length d = x := by simp [List.getD]
theorem sum_lt {h : Hd} (hB : HdB h) : sum1 h < 4294967296 ∧ sum2 h < 4294967296 := ⟨crc_lt (fixL_lt hB), crc_lt fun x hx => (List.mem_append.1 hx).elim (fixL_lt hB x) (bl_lt _ x)⟩
theorem sumB_small {s j : Nat} {l : List Nat} (hl : ∀ x ∈ l, x < 256) : sumB s j l < 4294967296 := crc_lt (le_app_lt (le_app_lt (fun _ => le_lt) fun _ => le_lt) hl)
theorem sl_mid (a m c : List Nat) : sl (a ++ m ++ c) a.length m.length = m := by
  unfold sl
  rw [List.append_assoc, List.drop_left, List.take_left]
theorem sl_mid' {a m c : List Nat} {p n : Nat} (hp : p = a.length) (hn : n = m.length) : sl (a ++ m ++ c) p n = m := by subst hp hn; exact sl_mid a m c
theorem strN_bl (s : ByteArray) : strN s.size (fun i => (bl s).getD i 0) = s := by
  obtain ⟨⟨l⟩⟩ := s
  unfold strN
  congr 1
  apply Array.ext'
  show (List.range l.length).map (fun i => UInt8.ofNat ((l.map (·.toNat)).getD i 0)) = l
  apply List.ext_getElem?
  intro i
  by_cases hi : i < l.length
  · simp [hi, List.getD]
  · simp [hi]
theorem fix_get (h : Hd) : (fixL h).getD 4 0 = h.s0.toNat ∧ (fixL h).getD 5 0 = h.s1.toNat ∧ (fixL h).getD 6 0 = h.s2.toNat ∧ (fixL h).getD 7 0 = h.s3.toNat ∧ (fixL h).getD 8 0 = h.s4.toNat ∧ (fixL h).getD 9 0 = h.s5.toNat ∧ (fixL h).getD 10 0 = h.s6.toNat ∧ (fixL h).getD 11 0 = h.s7.toNat ∧
    (fixL h).getD 12 0 = h.K.toNat % 256 ∧ (fixL h).getD 13 0 = h.M.toNat % 256 ∧ (fixL h).getD 22 0 = h.idx.toNat % 256 ∧ (fixL h).getD 31 0 = h.key.size % 256 := ⟨rfl, rfl, rfl, rfl, rfl, rfl, rfl, rfl, rfl, rfl, rfl, rfl⟩
theorem fix_sl (h : Hd) : sl (fixL h) 14 4 = le 4 h.B.toNat ∧ sl (fixL h) 18 4 = le 4 h.size.toNat ∧ sl (fixL h) 23 4 = le 4 h.ep.toNat ∧ sl (fixL h) 27 4 = le 4 h.ct.toNat ∧ (fixL h).take 4 = [67, 82, 78, 2] := ⟨rfl, rfl, rfl, rfl, rfl⟩
/-- Bytes that begin with a head. -/
theorem hdOf_head {h : Hd} {b t : List Nat} (hB : HdB h) (HE : checkE h = 0) (e : b = headL h ++ t) : hdOf b = h := by
  obtain ⟨⟨m1, m2, m3, m4, m5, m6⟩, k0, k1, hE, i0, i1, e0, e1, t0, t1⟩ := check_facts HE
  obtain ⟨z0, z1, _⟩ := size_facts hE
  obtain ⟨⟨a0, b0⟩, ⟨a1, b1⟩, ⟨a2, b2⟩, ⟨a3, b3⟩, ⟨a4, b4⟩, ⟨a5, b5⟩, ⟨a6, b6⟩, ⟨a7, b7⟩⟩ := hB
  have hb : b = fixL h ++ (le 4 (sum1 h) ++ bl h.key ++ le 4 (sum2 h) ++ t) := by rw [e]; unfold headL; simp only [List.append_assoc]
  have hg : ∀ i, i < 32 → b.getD i 0 = (fixL h).getD i 0 := fun i hi => by
    rw [hb, List.getD_eq_getElem?_getD, List.getElem?_append_left (by rw [fixL_length]; exact hi), ← List.getD_eq_getElem?_getD]
  have hs : ∀ p n, p + n ≤ 32 → sl b p n = sl (fixL h) p n := fun p n hp => by rw [hb]; exact sl_app_left (by rw [fixL_length]; exact hp)
  obtain ⟨g4, g5, g6, g7, g8, g9, g10, g11, g12, g13, g22, g31⟩ := fix_get h
  obtain ⟨s14, s18, s23, s27, _⟩ := fix_sl h
  have hkey : ∀ i, i < h.key.size → b.getD (36 + i) 0 = (bl h.key).getD i 0 := fun i hi => by
    have hl : (fixL h ++ le 4 (sum1 h)).length = 36 := by simp [fixL_length, le_length]
    have h2 : b = (fixL h ++ le 4 (sum1 h)) ++ (bl h.key ++ (le 4 (sum2 h) ++ t)) := by rw [hb]; simp only [List.append_assoc]
    rw [h2, ← hl, List.getD_eq_getElem?_getD, List.getElem?_append_right (by omega), Nat.add_sub_cancel_left, List.getElem?_append_left (by rw [bl_length]; exact hi), ← List.getD_eq_getElem?_getD]
  have h31 : b.getD 31 0 = h.key.size := by rw [hg 31 (by omega), g31]; omega
  have nK : b.getD 12 0 = h.K.toNat := by rw [hg 12 (by omega), g12]; omega
  have nM : b.getD 13 0 = h.M.toNat := by rw [hg 13 (by omega), g13]; omega
  have nI : b.getD 22 0 = h.idx.toNat := by rw [hg 22 (by omega), g22]; omega
  have nB : num b 14 4 = h.B.toNat := by unfold num; rw [hs 14 4 (by omega), s14, leV_le _ _ (by omega)]
  have nS : num b 18 4 = h.size.toNat := by unfold num; rw [hs 18 4 (by omega), s18, leV_le _ _ (by omega)]
  have nE : num b 23 4 = h.ep.toNat := by unfold num; rw [hs 23 4 (by omega), s23, leV_le _ _ (by omega)]
  have nC : num b 27 4 = h.ct.toNat := by unfold num; rw [hs 27 4 (by omega), s27, leV_le _ _ (by omega)]
  have kk : strN (b.getD 31 0) (fun i => b.getD (36 + i) 0) = h.key := by
    rw [h31, strN_congr hkey]; exact strN_bl h.key
  unfold hdOf
  rw [kk, nK, nM, nI, nB, nS, nE, nC, hg 4 (by omega), hg 5 (by omega), hg 6 (by omega), hg 7 (by omega), hg 8 (by omega), hg 9 (by omega), hg 10 (by omega), hg 11 (by omega), g4, g5, g6, g7, g8, g9, g10, g11]
  rw [Int.toNat_of_nonneg a0, Int.toNat_of_nonneg a1, Int.toNat_of_nonneg a2, Int.toNat_of_nonneg a3, Int.toNat_of_nonneg a4, Int.toNat_of_nonneg a5, Int.toNat_of_nonneg a6, Int.toNat_of_nonneg a7,
    Int.toNat_of_nonneg (show 0 ≤ h.K by omega), Int.toNat_of_nonneg (show 0 ≤ h.M by omega), Int.toNat_of_nonneg (show 0 ≤ h.B by omega), Int.toNat_of_nonneg z0, Int.toNat_of_nonneg i0, Int.toNat_of_nonneg (show 0 ≤ h.ep by omega), Int.toNat_of_nonneg (show 0 ≤ h.ct by omega)]
theorem headE_head {h : Hd} {b t : List Nat} (hB : HdB h) (HE : checkE h = 0) (e : b = headL h ++ t) : headE b = 0 := by
  have hd := hdOf_head hB HE e
  obtain ⟨_, k0, k1, _⟩ := check_facts HE
  obtain ⟨hs1, hs2⟩ := sum_lt hB
  have hlen : b.length = 40 + h.key.size + t.length := by rw [e, List.length_append, headL_length]
  have hb : b = fixL h ++ (le 4 (sum1 h) ++ bl h.key ++ le 4 (sum2 h) ++ t) := by rw [e]; unfold headL; simp only [List.append_assoc]
  have h31 : b.getD 31 0 = h.key.size := by
    have : (hdOf b).key.size = b.getD 31 0 := strN_size _ _
    rw [← this, hd]
  have ht32 : b.take 32 = fixL h := by rw [hb, List.take_left' (fixL_length h)]
  have ht4 : b.take 4 = [67, 82, 78, 2] := by
    have := (fix_sl h).2.2.2.2
    rw [← this, hb, List.take_append_of_le_length (by rw [fixL_length]; omega)]
  have hn1 : num b 32 4 = sum1 h := by
    unfold num
    have h2 : b = fixL h ++ le 4 (sum1 h) ++ (bl h.key ++ (le 4 (sum2 h) ++ t)) := by rw [hb]; simp only [List.append_assoc]
    rw [h2, sl_mid' (fixL_length h).symm (le_length 4 _).symm, leV_le _ _ (by omega)]
  have hkl : keyL b = bl h.key := by
    unfold keyL
    have h2 : b = (fixL h ++ le 4 (sum1 h)) ++ bl h.key ++ (le 4 (sum2 h) ++ t) := by rw [hb]; simp only [List.append_assoc]
    rw [h31, h2, sl_mid' (by simp [fixL_length, le_length]) (bl_length _).symm]
  have hn2 : num b (36 + b.getD 31 0) 4 = sum2 h := by
    unfold num
    have h2 : b = (fixL h ++ le 4 (sum1 h) ++ bl h.key) ++ le 4 (sum2 h) ++ t := by rw [hb]; simp only [List.append_assoc]
    rw [h31]
    conv => lhs; rw [h2]
    rw [sl_mid' (by simp [fixL_length, le_length, bl_length]; omega) (le_length 4 _).symm, leV_le _ _ (by omega)]
  unfold headE
  rw [if_neg (by omega), if_neg (by simpa using ht4), if_neg (by rw [hn1, ht32]; simp [sum1]), if_neg (by omega), if_neg (by rw [hn2, ht32, hkl]; simp [sum2]), hd, if_neg (by simpa using HE)]
/-- Where the frames lie. -/
theorem off_len {h : Hd} {BL : List (List Nat)} (hf : fitsB h BL) : ∀ j, j ≤ BL.length → (headL h ++ framesL (sum2 h) 0 (BL.take j)).length = offF h j
  | 0, _ => by simp [framesL, headL_length, offF, sumN]
  | j + 1, hj => by
    have ih := off_len hf j (by omega)
    rw [framesL_next _ (show j < BL.length by omega), ← List.append_assoc, List.length_append, ih, frameL_length, hf.2 j (by omega), offF_next]
    unfold lenF
    omega
theorem form_split {h : Hd} {BL : List (List Nat)} {j : Nat} (hj : j < BL.length) (t : List Nat) : formL h BL ++ t = (headL h ++ framesL (sum2 h) 0 (BL.take j)) ++ frameL (sum2 h) j (BL.getD j []) ++ (framesL (sum2 h) (j + 1) (BL.drop (j + 1)) ++ t) := by
  unfold formL
  have h1 : BL = BL.take (j + 1) ++ BL.drop (j + 1) := (List.take_append_drop _ _).symm
  have h2 : framesL (sum2 h) 0 BL = framesL (sum2 h) 0 (BL.take (j + 1)) ++ framesL (sum2 h) (j + 1) (BL.drop (j + 1)) := by
    conv => lhs; rw [h1]
    rw [framesL_app, List.length_take, Nat.zero_add, Nat.min_eq_left (by omega)]
  rw [h2, framesL_next _ hj]
  simp only [List.append_assoc]
/-- A frame that lies where it should. -/
theorem badF_frame {h : Hd} {b p t blk : List Nat} {j : Nat} (hd : hdOf b = h) (_hB : HdB h) (hx : ∀ x ∈ blk, x < 256) (e : b = p ++ frameL (sum2 h) j blk ++ t) (hp : p.length = offF h j) (hl : blk.length = lenF h j) : badF b j = false := by
  have h1 : sl b (offF h j) (lenF h j) = blk := by
    have h2 : b = p ++ blk ++ (le 4 (sumB (sum2 h) j blk) ++ t) := by rw [e]; unfold frameL; simp only [List.append_assoc]
    rw [h2]; exact sl_mid' hp.symm hl.symm
  have h3 : num b (offF h j + lenF h j) 4 = sumB (sum2 h) j blk := by
    have h2 : b = (p ++ blk) ++ le 4 (sumB (sum2 h) j blk) ++ t := by rw [e]; unfold frameL; simp only [List.append_assoc]
    unfold num
    rw [h2, sl_mid' (by rw [List.length_append, hp, hl]) (le_length 4 _).symm, leV_le _ _ (sumB_small hx)]
  have h4 : b.length = offF h j + lenF h j + 4 + t.length := by rw [e, List.length_append, List.length_append, frameL_length, hp, hl]; omega
  unfold badF
  rw [hd, h1, h3]
  simp
  omega
theorem form_good {h : Hd} {BL : List (List Nat)} {t : List Nat} (hB : HdB h) (HE : checkE h = 0) (hf : fitsB h BL) (hx : ∀ l ∈ BL, ∀ x ∈ l, x < 256) {j : Nat} (hj : j < BL.length) : badF (formL h BL ++ t) j = false :=
  badF_frame (hdOf_head hB HE (t := framesL (sum2 h) 0 BL ++ t) (by unfold formL; rw [List.append_assoc])) hB (hx _ (getD_mem' hj)) (form_split hj t) (off_len hf j (by omega)) (hf.2 j hj)
theorem lenE_off {h : Hd} (HE : checkE h = 0) : (lenE h).toNat = offF h (sizeN h.K h.M h.B h.size) := by
  unfold lenE offF
  rw [if_pos HE]
  rfl
theorem form_len {h : Hd} {BL : List (List Nat)} (HE : checkE h = 0) (hf : fitsB h BL) : (formL h BL).length = (lenE h).toNat := by
  rw [lenE_off HE, ← hf.1, ← off_len hf _ (Nat.le_refl _), List.take_length]; rfl
/-- A shard's form is read. -/
theorem prs_form {h : Hd} {BL : List (List Nat)} (hB : HdB h) (HE : checkE h = 0) (hf : fitsB h BL) (hx : ∀ l ∈ BL, ∀ x ∈ l, x < 256) : prsE (formL h BL) = 0 ∧ hdOf (formL h BL) = h := by
  have hd := hdOf_head (b := formL h BL) hB HE rfl
  have he := headE_head (b := formL h BL) hB HE rfl
  have hl := form_len HE hf
  have hb : badL (formL h BL) (sizeN h.K h.M h.B h.size) = [] := (badL_nil _ _).2 fun j hj => by
    have := form_good (t := []) hB HE hf hx (j := j) (by rw [hf.1]; exact hj)
    rwa [List.append_nil] at this
  refine ⟨?_, hd⟩
  unfold prsE
  rw [if_neg (by simpa using he), hd, if_neg (by omega), if_neg (by omega), if_neg (by simpa using hb)]
theorem blks_form {h : Hd} {BL : List (List Nat)} (hB : HdB h) (HE : checkE h = 0) (hf : fitsB h BL) : ∀ n, n ≤ BL.length → blksL (formL h BL) n = BL.take n
  | 0, _ => by simp [blksL]
  | n + 1, hn => by
    have hd := hdOf_head (b := formL h BL) hB HE rfl
    have hs := form_split (h := h) (j := n) (show n < BL.length by omega) []
    rw [List.append_nil, List.append_nil] at hs
    show blksL (formL h BL) n ++ [sl (formL h BL) (offF (hdOf (formL h BL)) n) (lenF (hdOf (formL h BL)) n)] = _
    rw [blks_form hB HE hf n (by omega), take_nextL (by omega), hd]
    congr 2
    have h2 : formL h BL = (headL h ++ framesL (sum2 h) 0 (BL.take n)) ++ BL.getD n [] ++ (le 4 (sumB (sum2 h) n (BL.getD n [])) ++ framesL (sum2 h) (n + 1) (BL.drop (n + 1))) := by
      rw [hs]; unfold frameL; simp only [List.append_assoc]
    conv => lhs; rw [h2]
    exact sl_mid' (off_len hf n (by omega)).symm (hf.2 n (by omega)).symm
/-- What is read is the form of what was read. -/
theorem prs_back {b : List Nat} (hb : ∀ x ∈ b, x < 256) (h : prsE b = 0) : headE b = 0 ∧ fitsB (hdOf b) (blksL b (sizeN (hdOf b).K (hdOf b).M (hdOf b).B (hdOf b).size)) ∧ formL (hdOf b) (blksL b (sizeN (hdOf b).K (hdOf b).M (hdOf b).B (hdOf b).size)) = b := by
  obtain ⟨n, hn⟩ : ∃ n, n = sizeN (hdOf b).K (hdOf b).M (hdOf b).B (hdOf b).size := ⟨_, rfl⟩
  unfold prsE at h
  rw [← hn] at h ⊢
  by_cases h1 : ¬ headE b = 0
  · rw [if_pos h1] at h; exact absurd h h1
  rw [if_neg h1] at h
  have he := Decidable.not_not.1 h1
  have HE := (headE_facts he).2.2.2.2.2
  have hL := lenE_off HE
  rw [← hn] at hL
  by_cases h2 : b.length < (lenE (hdOf b)).toNat
  · rw [if_pos h2] at h; omega
  rw [if_neg h2] at h
  by_cases h3 : (lenE (hdOf b)).toNat < b.length
  · rw [if_pos h3] at h; omega
  rw [if_neg h3] at h
  by_cases h4 : ¬ badL b n = []
  · rw [if_pos h4] at h; omega
  have hbad := (badL_nil b n).1 (Decidable.not_not.1 h4)
  have hlen : b.length = offF (hdOf b) n := by omega
  obtain ⟨hh, hs2⟩ := head_hdOf hb he
  have hmono : ∀ j, j ≤ n → offF (hdOf b) j ≤ offF (hdOf b) n := fun j hj => by
    obtain ⟨d, rfl⟩ : ∃ d, n = j + d := ⟨n - j, by omega⟩
    clear hj hbad hlen hL h4 h hn
    induction d with
    | zero => exact Nat.le_refl _
    | succ d ih => have := offF_next (hdOf b) (j + d); rw [show j + (d + 1) = j + d + 1 by omega]; omega
  have key : ∀ j, j ≤ n → headL (hdOf b) ++ framesL (sum2 (hdOf b)) 0 (blksL b j) = sl b 0 (offF (hdOf b) j) := by
    intro j
    induction j with
    | zero => intro _; rw [hh]; simp [blksL, framesL]
    | succ j ih =>
      intro hj
      have hbj := hbad j (by omega)
      have ho := offF_next (hdOf b) j
      have hm := hmono (j + 1) hj
      unfold badF at hbj
      simp only [Bool.or_eq_false_iff, decide_eq_false_iff_not, Decidable.not_not] at hbj
      obtain ⟨hb1, hb2⟩ := hbj
      show headL (hdOf b) ++ framesL (sum2 (hdOf b)) 0 (blksL b j ++ [_]) = _
      rw [framesL_app, ← List.append_assoc, ih (by omega), blksL_length, Nat.zero_add]
      show sl b 0 (offF (hdOf b) j) ++ (frameL (sum2 (hdOf b)) j (sl b (offF (hdOf b) j) (lenF (hdOf b) j)) ++ []) = _
      unfold frameL
      rw [List.append_nil, ← hb2, le_num hb (by omega), ← List.append_assoc]
      have s1 := sl_split (b := b) 0 (offF (hdOf b) j) (lenF (hdOf b) j)
      have s2 := sl_split (b := b) 0 (offF (hdOf b) j + lenF (hdOf b) j) 4
      rw [Nat.zero_add] at s1 s2
      rw [← s1, ← s2, ho]
  have hfit : ∀ m j, j < m → m ≤ n → ((blksL b m).getD j []).length = lenF (hdOf b) j := by
    intro m
    induction m with
    | zero => intro j hj _; omega
    | succ m ih =>
      intro j hj hm
      show ((blksL b m ++ [_]).getD j []).length = _
      by_cases e : j = m
      · subst e
        have := getD_app_r' (l := blksL b j) (x := sl b (offF (hdOf b) j) (lenF (hdOf b) j)) (d := [])
        rw [blksL_length] at this
        rw [this]
        have h5 := hmono (j + 1) hm
        have h6 := offF_next (hdOf b) j
        exact sl_length (by omega)
      · rw [getD_app_l' (by rw [blksL_length]; omega)]
        exact ih j (by omega) (by omega)
  refine ⟨he, ⟨by rw [blksL_length]; exact hn, fun j hj => ?_⟩, ?_⟩
  · rw [blksL_length] at hj
    exact hfit n j hj (Nat.le_refl _)
  · show headL (hdOf b) ++ framesL (sum2 (hdOf b)) 0 (blksL b n) = b
    rw [key n (Nat.le_refl _)]
    exact sl_all hlen.symm
end Go.Proofs.Ytbioanbokbhmgaa
