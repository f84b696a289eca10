/- FrameReads: the law's walk. Conditions: bytes that memory bears. -/
import Derived.Test.YtbioanbokbhmgaaFCk0
import Derived.Test.YtbioanbokbhmgaaOpn8
import Derived.Test.YtbioanbokbhmgaaRprs
import Derived.Test.YtbioanbokbhmgaaSame8
namespace Go.Proofs.Ytbioanbokbhmgaa
open Go.RowKit

theorem opn_all : OpnAll := fun A c b w hx hbl hbc hc hA => opn_any A c b w hx hbl hbc hc hA
theorem nat_wf {n : Nat} (h : n < 4294967296) : (Lit.int .i64 (n : Int)).wf = true := by simp [Lit.wf, IntKind.min, IntKind.max, IntKind.signed, IntKind.bits]; omega
theorem hdOf_wf {b : List Nat} (hx : ∀ x ∈ b, x < 256) : HdW (hdOf b) := by
  have h8 : ∀ i, b.getD i 0 < 256 := getD_256 hx
  have hnum : ∀ p, num b p 4 < 4294967296 := fun p => by
    have h1 := leV_lt (sl b p 4) fun x hx' => hx x (sl_mem hx')
    have h2 : (sl b p 4).length ≤ 4 := by unfold sl; rw [List.length_take]; omega
    have h3 : 256 ^ (sl b p 4).length ≤ 256 ^ 4 := Nat.pow_le_pow_right (by decide) h2
    show leV (sl b p 4) < 4294967296
    omega
  have u : ∀ i, (Lit.int .u8 ((b.getD i 0 : Nat) : Int)).wf = true := fun i => u8_wf (by omega) (by have := h8 i; omega)
  have v : ∀ i, (Lit.int .i64 ((b.getD i 0 : Nat) : Int)).wf = true := fun i => nat_wf (by have := h8 i; omega)
  have nn : ∀ p, (Lit.int .i64 ((num b p 4 : Nat) : Int)).wf = true := fun p => nat_wf (hnum p)
  refine ⟨u _, u _, u _, u _, u _, u _, u _, u _, v _, v _, nn _, nn _, v _, nn _, nn _, ?_⟩
  show (strN (b.getD 31 0) fun i => b.getD (36 + i) 0).size ≤ maxLen
  rw [strN_size]
  have := h8 31
  unfold maxLen
  omega
theorem zeroHd_wf : HdW zeroHd := by
  refine ⟨rfl, rfl, rfl, rfl, rfl, rfl, rfl, rfl, rfl, rfl, rfl, rfl, rfl, rfl, rfl, by decide⟩
theorem rdH_wf {b : List Nat} (hx : ∀ x ∈ b, x < 256) : HdW (rdH b) := by
  unfold rdH; split
  · exact hdOf_wf hx
  · exact zeroHd_wf
theorem prsH_wf {b : List Nat} (hx : ∀ x ∈ b, x < 256) : HdW (prsH b) := by
  unfold prsH; split
  · exact hdOf_wf hx
  · exact zeroHd_wf
theorem blksL_lt {b : List Nat} (hx : ∀ x ∈ b, x < 256) : ∀ n, ∀ l ∈ blksL b n, ∀ x ∈ l, x < 256
  | 0, l, h => by simp [blksL] at h
  | n + 1, l, h => by
    rcases List.mem_append.1 (show l ∈ blksL b n ++ [sl b (offF (hdOf b) n) (lenF (hdOf b) n)] from h) with h | h
    · exact blksL_lt hx n l h
    · simp at h; subst h; exact fun x h => hx x (sl_mem h)
theorem prsB_lt {b : List Nat} (hx : ∀ x ∈ b, x < 256) : ∀ l ∈ prsB b, ∀ x ∈ l, x < 256 := by
  unfold prsB; split
  · exact blksL_lt hx _
  · intro l h; cases h
theorem prsB_len (b : List Nat) : (prsB b).length ≤ 4096 := by
  unfold prsB; split
  · rw [blksL_length]; exact sizeN_le _ _ _ _
  · exact Nat.zero_le _
theorem sptL_len (b : List Nat) : (sptL b).length ≤ 4096 := by
  unfold sptL; split
  · exact Nat.le_trans (badL_length b _) (sizeN_le _ _ _ _)
  · exact Nat.zero_le _
set_option maxRecDepth 100000 in
set_option maxHeartbeats 8000000 in
theorem lawFR (A : Option Addr) (c : Nat) (b : List Nat) (w : World) (hx : ∀ x ∈ b, x < 256) (hbl : b.length ≤ 140737488351232) (hbc : b.length ≤ c) (hc : c ≤ maxLen) (hA : RL w A b) :
    Calls Try.prog 5 #[.slice A b.length c] w fun e w' => e = .returned (.bool true) ∧ Below w.heap.size w w' := by
  have HX := Lib.hid hx
  have HA := Lib.hid hA
  obtain ⟨H, hH⟩ : ∃ H, H = rdH b := ⟨_, rfl⟩
  obtain ⟨er, her⟩ : ∃ er, er = headE b := ⟨_, rfl⟩
  obtain ⟨P, hP⟩ : ∃ P, P = prsH b := ⟨_, rfl⟩
  obtain ⟨pe, hpe⟩ : ∃ pe, pe = prsE b := ⟨_, rfl⟩
  obtain ⟨np, hnp⟩ : ∃ np, np = (prsB b).length := ⟨_, rfl⟩
  obtain ⟨ns, hns⟩ : ∃ ns, ns = (sptL b).length := ⟨_, rfl⟩
  have hnp4 : np ≤ 4096 := by rw [hnp]; exact prsB_len b
  have hns4 : ns ≤ 4096 := by rw [hns]; exact sptL_len b
  have HHW := Lib.hid (show HdW H by rw [hH]; exact rdH_wf hx)
  have HPW := Lib.hid (show HdW P by rw [hP]; exact prsH_wf hx)
  have HF := Lib.hid (Below.refl w.heap.size w)
  have R1 : Hid (∀ A c w', b.length ≤ c → c ≤ maxLen → RL w' A b → Calls Try.prog 26 #[.slice A b.length c] w' fun e w'' => e = .returned (.tuple #[HdV H, .int .i64 er]) ∧ Below w'.heap.size w' w'') := Lib.hid (by
    rw [hH, her]; exact fun A c w' h1 h2 h3 => rph_any A c b w' hx (by omega) h1 h2 h3)
  have R2 : Hid (∀ A c w', b.length ≤ c → c ≤ maxLen → RL w' A b → Calls Try.prog 30 #[.slice A b.length c] w' fun e w'' => e = .returned (.tuple #[HdV H, .int .i64 er]) ∧ Below w'.heap.size w' w'') := Lib.hid (by
    rw [hH, her]; exact fun A c w' h1 h2 h3 => ph_any opn_all A c b w' hx (by omega) h1 h2 h3)
  have Q1 : Hid (∀ A c w', b.length ≤ c → c ≤ maxLen → RL w' A b → Calls Try.prog 27 #[.slice A b.length c] w' fun e w'' => ∃ v, e = .returned (.tuple #[.agg #[.int .u8 P.s0, .int .u8 P.s1, .int .u8 P.s2, .int .u8 P.s3, .int .u8 P.s4, .int .u8 P.s5, .int .u8 P.s6, .int .u8 P.s7, .int .i64 P.K, .int .i64 P.M, .int .i64 P.B, .string P.key, .int .i64 P.size, .int .i64 P.idx, .int .i64 P.ep, .int .i64 P.ct, v], .int .i64 pe]) ∧ OwnLL w'' w'.heap.size v (prsB b) ∧ Below w'.heap.size w' w'') := Lib.hid (by
    rw [hP, hpe]; exact fun A c w' h1 h2 h3 => rprs_any A c b w' hx (by omega) h1 h2 h3)
  have Q2 : Hid (∀ A c w', b.length ≤ c → c ≤ maxLen → RL w' A b → Calls Try.prog 31 #[.slice A b.length c] w' fun e w'' => ∃ v, e = .returned (.tuple #[.agg #[.int .u8 P.s0, .int .u8 P.s1, .int .u8 P.s2, .int .u8 P.s3, .int .u8 P.s4, .int .u8 P.s5, .int .u8 P.s6, .int .u8 P.s7, .int .i64 P.K, .int .i64 P.M, .int .i64 P.B, .string P.key, .int .i64 P.size, .int .i64 P.idx, .int .i64 P.ep, .int .i64 P.ct, v], .int .i64 pe]) ∧ OwnLL w'' w'.heap.size v (prsB b) ∧ Below w'.heap.size w' w'') := Lib.hid (by
    rw [hP, hpe]; exact fun A c w' h1 h2 h3 => prs_any opn_all A c b w' hx (by omega) h1 h2 h3)
  have S1 : Hid (∀ A c w', b.length ≤ c → c ≤ maxLen → RL w' A b → Calls Try.prog 28 #[.slice A b.length c] w' fun e w'' => ∃ v, e = .returned (.tuple #[v, .int .i64 er]) ∧ OwnI w'' w'.heap.size v (sptL b) ∧ Below w'.heap.size w' w'') := Lib.hid (by
    rw [her]; exact fun A c w' h1 h2 h3 => rspt_any A c b w' hx (by omega) h1 h2 h3)
  have S2 : Hid (∀ A c w', b.length ≤ c → c ≤ maxLen → RL w' A b → Calls Try.prog 32 #[.slice A b.length c] w' fun e w'' => ∃ v, e = .returned (.tuple #[v, .int .i64 er]) ∧ OwnI w'' w'.heap.size v (sptL b) ∧ Below w'.heap.size w' w'') := Lib.hid (by
    rw [her]; exact fun A c w' h1 h2 h3 => spt_any opn_all A c b w' hx (by omega) h1 h2 h3)
  have HNP := Lib.hid hnp
  have HNS := Lib.hid hns
  clear hx hA hH her hP hpe hnp hns
  have hbl9 : b.length ≤ 9223372036854775807 := by omega
  go_enter Try.func5, Try.ntmps5
  go_wp2_with fail
  refine ((R1).out A c w hbc hc (HA.out.below HF.out)).mono ?_
  rintro e w1 ⟨rfl, hb⟩
  have HF := Lib.hid (HF.out.trans (hb.mono HF.out.size))
  clear hb
  go_wp2_with (refine wpList_storeNewH rfl (.tmp 3) (.tmp 19) rfl #[.int .u8 H.s0, .int .u8 H.s1, .int .u8 H.s2, .int .u8 H.s3, .int .u8 H.s4, .int .u8 H.s5, .int .u8 H.s6, .int .u8 H.s7, .int .i64 H.K, .int .i64 H.M, .int .i64 H.B, .string H.key, .int .i64 H.size, .int .i64 H.idx, .int .i64 H.ep, .int .i64 H.ct] rfl rfl rfl rfl rfl ?_)
  have hbn := (Below.refl w1.heap.size w1).alloc (Nat.le_refl _) (.cells #[.int .u8 H.s0, .int .u8 H.s1, .int .u8 H.s2, .int .u8 H.s3, .int .u8 H.s4, .int .u8 H.s5, .int .u8 H.s6, .int .u8 H.s7, .int .i64 H.K, .int .i64 H.M, .int .i64 H.B, .string H.key, .int .i64 H.size, .int .i64 H.idx, .int .i64 H.ep, .int .i64 H.ct] 28)
  have HZ3 := Lib.hid (heap_alloc_new w1 (.cells #[.int .u8 H.s0, .int .u8 H.s1, .int .u8 H.s2, .int .u8 H.s3, .int .u8 H.s4, .int .u8 H.s5, .int .u8 H.s6, .int .u8 H.s7, .int .i64 H.K, .int .i64 H.M, .int .i64 H.B, .string H.key, .int .i64 H.size, .int .i64 H.idx, .int .i64 H.ep, .int .i64 H.ct] 28))
  have HF := Lib.hid (HF.out.trans (hbn.mono HF.out.size))
  clear hbn
  obtain ⟨b1, hbk⟩ : ∃ b1, b1 = w1.heap.size := ⟨_, rfl⟩
  rw [← hbk] at HZ3 ⊢
  clear hbk
  generalize w1.alloc (.cells #[.int .u8 H.s0, .int .u8 H.s1, .int .u8 H.s2, .int .u8 H.s3, .int .u8 H.s4, .int .u8 H.s5, .int .u8 H.s6, .int .u8 H.s7, .int .i64 H.K, .int .i64 H.M, .int .i64 H.B, .string H.key, .int .i64 H.size, .int .i64 H.idx, .int .i64 H.ep, .int .i64 H.ct] 28) = v1 at *
  refine ((Q1).out A c v1 hbc hc (HA.out.below HF.out)).mono ?_
  rintro e w2 ⟨vv, rfl, hO, hb⟩
  obtain ⟨A2, c2, ev, _, hr⟩ := hO.rd
  rw [← HNP.out] at ev
  subst ev
  have HR2 := Lib.hid hr
  have HZ3 := Lib.hid ((hb.block _ (Array.getElem?_eq_some_iff.1 HZ3.out).1).trans HZ3.out)
  have HF := Lib.hid (HF.out.trans (hb.mono HF.out.size))
  clear hb hO hr
  go_wp2_with (refine wpList_storeNewS rfl (.tmp 5) (.tmp 24) rfl #[.int .u8 P.s0, .int .u8 P.s1, .int .u8 P.s2, .int .u8 P.s3, .int .u8 P.s4, .int .u8 P.s5, .int .u8 P.s6, .int .u8 P.s7, .int .i64 P.K, .int .i64 P.M, .int .i64 P.B, .string P.key, .int .i64 P.size, .int .i64 P.idx, .int .i64 P.ep, .int .i64 P.ct, .slice A2 np c2] rfl rfl rfl rfl rfl ?_)
  have hbn := (Below.refl w2.heap.size w2).alloc (Nat.le_refl _) (.cells #[.int .u8 P.s0, .int .u8 P.s1, .int .u8 P.s2, .int .u8 P.s3, .int .u8 P.s4, .int .u8 P.s5, .int .u8 P.s6, .int .u8 P.s7, .int .i64 P.K, .int .i64 P.M, .int .i64 P.B, .string P.key, .int .i64 P.size, .int .i64 P.idx, .int .i64 P.ep, .int .i64 P.ct, .slice A2 np c2] 46)
  have HZ3 := Lib.hid ((hbn.block _ (Array.getElem?_eq_some_iff.1 HZ3.out).1).trans HZ3.out)
  have HZ5 := Lib.hid (heap_alloc_new w2 (.cells #[.int .u8 P.s0, .int .u8 P.s1, .int .u8 P.s2, .int .u8 P.s3, .int .u8 P.s4, .int .u8 P.s5, .int .u8 P.s6, .int .u8 P.s7, .int .i64 P.K, .int .i64 P.M, .int .i64 P.B, .string P.key, .int .i64 P.size, .int .i64 P.idx, .int .i64 P.ep, .int .i64 P.ct, .slice A2 np c2] 46))
  have HF := Lib.hid (HF.out.trans (hbn.mono HF.out.size))
  have HR2 := Lib.hid (HR2.out.below hbn)
  clear hbn
  obtain ⟨b2, hbk⟩ : ∃ b2, b2 = w2.heap.size := ⟨_, rfl⟩
  rw [← hbk] at HZ5 ⊢
  clear hbk
  generalize w2.alloc (.cells #[.int .u8 P.s0, .int .u8 P.s1, .int .u8 P.s2, .int .u8 P.s3, .int .u8 P.s4, .int .u8 P.s5, .int .u8 P.s6, .int .u8 P.s7, .int .i64 P.K, .int .i64 P.M, .int .i64 P.B, .string P.key, .int .i64 P.size, .int .i64 P.idx, .int .i64 P.ep, .int .i64 P.ct, .slice A2 np c2] 46) = v2 at *
  refine ((S1).out A c v2 hbc hc (HA.out.below HF.out)).mono ?_
  rintro e w3 ⟨vv, rfl, hO, hb⟩
  obtain ⟨A3, c3, ev, _, _, hr, _⟩ := Own.rd hO
  rw [← HNS.out] at ev
  subst ev
  have HR3 := Lib.hid hr
  have HZ3 := Lib.hid ((hb.block _ (Array.getElem?_eq_some_iff.1 HZ3.out).1).trans HZ3.out)
  have HZ5 := Lib.hid ((hb.block _ (Array.getElem?_eq_some_iff.1 HZ5.out).1).trans HZ5.out)
  have HF := Lib.hid (HF.out.trans (hb.mono HF.out.size))
  have HR2 := Lib.hid (HR2.out.below hb)
  clear hb hO hr
  go_wp2_with fail
  refine (lent_any A c b w3 hbl (HA.out.below HF.out)).mono ?_
  rintro e w4 ⟨S, C, rfl, hO, hb⟩
  have HZ3 := Lib.hid ((hb.block _ (Array.getElem?_eq_some_iff.1 HZ3.out).1).trans HZ3.out)
  have HZ5 := Lib.hid ((hb.block _ (Array.getElem?_eq_some_iff.1 HZ5.out).1).trans HZ5.out)
  have HF := Lib.hid (HF.out.trans (hb.mono HF.out.size))
  have HR2 := Lib.hid (HR2.out.below hb)
  have HR3 := Lib.hid (Rd.below HR3.out hb)
  have hlc := lent_cap hO (by rw [mk8_length]; decide)
  rw [mk8_length] at hlc
  have hcm : C ≤ maxLen := by obtain ⟨A', c', e', _, hm, _⟩ := hO.rd; injection e' with _ _ e3; omega
  have HL := Lib.hid hO
  have hbC : b.length ≤ C := by omega
  clear hb hO
  go_wp2_with fail
  refine ((R2).out (some ⟨S, 0, none⟩) C w4 hbC hcm (lent_rl HL.out)).mono ?_
  rintro e w5 ⟨rfl, hb⟩
  have HZ3 := Lib.hid ((hb.block _ (Array.getElem?_eq_some_iff.1 HZ3.out).1).trans HZ3.out)
  have HZ5 := Lib.hid ((hb.block _ (Array.getElem?_eq_some_iff.1 HZ5.out).1).trans HZ5.out)
  have HF := Lib.hid (HF.out.trans (hb.mono HF.out.size))
  have HR2 := Lib.hid (HR2.out.below hb)
  have HR3 := Lib.hid (Rd.below HR3.out hb)
  have HL := Lib.hid (HL.out.kept hb)
  clear hb
  go_wp2_with (refine wpList_storeNewH rfl (.tmp 10) (.tmp 36) rfl #[.int .u8 H.s0, .int .u8 H.s1, .int .u8 H.s2, .int .u8 H.s3, .int .u8 H.s4, .int .u8 H.s5, .int .u8 H.s6, .int .u8 H.s7, .int .i64 H.K, .int .i64 H.M, .int .i64 H.B, .string H.key, .int .i64 H.size, .int .i64 H.idx, .int .i64 H.ep, .int .i64 H.ct] rfl rfl rfl rfl rfl ?_)
  have hbn := (Below.refl w5.heap.size w5).alloc (Nat.le_refl _) (.cells #[.int .u8 H.s0, .int .u8 H.s1, .int .u8 H.s2, .int .u8 H.s3, .int .u8 H.s4, .int .u8 H.s5, .int .u8 H.s6, .int .u8 H.s7, .int .i64 H.K, .int .i64 H.M, .int .i64 H.B, .string H.key, .int .i64 H.size, .int .i64 H.idx, .int .i64 H.ep, .int .i64 H.ct] 28)
  have HZ3 := Lib.hid ((hbn.block _ (Array.getElem?_eq_some_iff.1 HZ3.out).1).trans HZ3.out)
  have HZ5 := Lib.hid ((hbn.block _ (Array.getElem?_eq_some_iff.1 HZ5.out).1).trans HZ5.out)
  have HZ10 := Lib.hid (heap_alloc_new w5 (.cells #[.int .u8 H.s0, .int .u8 H.s1, .int .u8 H.s2, .int .u8 H.s3, .int .u8 H.s4, .int .u8 H.s5, .int .u8 H.s6, .int .u8 H.s7, .int .i64 H.K, .int .i64 H.M, .int .i64 H.B, .string H.key, .int .i64 H.size, .int .i64 H.idx, .int .i64 H.ep, .int .i64 H.ct] 28))
  have HF := Lib.hid (HF.out.trans (hbn.mono HF.out.size))
  have HR2 := Lib.hid (HR2.out.below hbn)
  have HR3 := Lib.hid (Rd.below HR3.out hbn)
  have HL := Lib.hid (HL.out.kept hbn)
  clear hbn
  obtain ⟨b5, hbk⟩ : ∃ b5, b5 = w5.heap.size := ⟨_, rfl⟩
  rw [← hbk] at HZ10 ⊢
  clear hbk
  generalize w5.alloc (.cells #[.int .u8 H.s0, .int .u8 H.s1, .int .u8 H.s2, .int .u8 H.s3, .int .u8 H.s4, .int .u8 H.s5, .int .u8 H.s6, .int .u8 H.s7, .int .i64 H.K, .int .i64 H.M, .int .i64 H.B, .string H.key, .int .i64 H.size, .int .i64 H.idx, .int .i64 H.ep, .int .i64 H.ct] 28) = v5 at *
  refine ((Q2).out (some ⟨S, 0, none⟩) C v5 hbC hcm (lent_rl HL.out)).mono ?_
  rintro e w6 ⟨vv, rfl, hO, hb⟩
  obtain ⟨A6, c6, ev, _, hr⟩ := hO.rd
  rw [← HNP.out] at ev
  subst ev
  have HR6 := Lib.hid hr
  have HZ3 := Lib.hid ((hb.block _ (Array.getElem?_eq_some_iff.1 HZ3.out).1).trans HZ3.out)
  have HZ5 := Lib.hid ((hb.block _ (Array.getElem?_eq_some_iff.1 HZ5.out).1).trans HZ5.out)
  have HZ10 := Lib.hid ((hb.block _ (Array.getElem?_eq_some_iff.1 HZ10.out).1).trans HZ10.out)
  have HF := Lib.hid (HF.out.trans (hb.mono HF.out.size))
  have HR2 := Lib.hid (HR2.out.below hb)
  have HR3 := Lib.hid (Rd.below HR3.out hb)
  have HL := Lib.hid (HL.out.kept hb)
  clear hb hO hr
  go_wp2_with (refine wpList_storeNewS rfl (.tmp 12) (.tmp 41) rfl #[.int .u8 P.s0, .int .u8 P.s1, .int .u8 P.s2, .int .u8 P.s3, .int .u8 P.s4, .int .u8 P.s5, .int .u8 P.s6, .int .u8 P.s7, .int .i64 P.K, .int .i64 P.M, .int .i64 P.B, .string P.key, .int .i64 P.size, .int .i64 P.idx, .int .i64 P.ep, .int .i64 P.ct, .slice A6 np c6] rfl rfl rfl rfl rfl ?_)
  have hbn := (Below.refl w6.heap.size w6).alloc (Nat.le_refl _) (.cells #[.int .u8 P.s0, .int .u8 P.s1, .int .u8 P.s2, .int .u8 P.s3, .int .u8 P.s4, .int .u8 P.s5, .int .u8 P.s6, .int .u8 P.s7, .int .i64 P.K, .int .i64 P.M, .int .i64 P.B, .string P.key, .int .i64 P.size, .int .i64 P.idx, .int .i64 P.ep, .int .i64 P.ct, .slice A6 np c6] 46)
  have HZ3 := Lib.hid ((hbn.block _ (Array.getElem?_eq_some_iff.1 HZ3.out).1).trans HZ3.out)
  have HZ5 := Lib.hid ((hbn.block _ (Array.getElem?_eq_some_iff.1 HZ5.out).1).trans HZ5.out)
  have HZ10 := Lib.hid ((hbn.block _ (Array.getElem?_eq_some_iff.1 HZ10.out).1).trans HZ10.out)
  have HZ12 := Lib.hid (heap_alloc_new w6 (.cells #[.int .u8 P.s0, .int .u8 P.s1, .int .u8 P.s2, .int .u8 P.s3, .int .u8 P.s4, .int .u8 P.s5, .int .u8 P.s6, .int .u8 P.s7, .int .i64 P.K, .int .i64 P.M, .int .i64 P.B, .string P.key, .int .i64 P.size, .int .i64 P.idx, .int .i64 P.ep, .int .i64 P.ct, .slice A6 np c6] 46))
  have HF := Lib.hid (HF.out.trans (hbn.mono HF.out.size))
  have HR2 := Lib.hid (HR2.out.below hbn)
  have HR3 := Lib.hid (Rd.below HR3.out hbn)
  have HL := Lib.hid (HL.out.kept hbn)
  have HR6 := Lib.hid (HR6.out.below hbn)
  clear hbn
  obtain ⟨b6, hbk⟩ : ∃ b6, b6 = w6.heap.size := ⟨_, rfl⟩
  rw [← hbk] at HZ12 ⊢
  clear hbk
  generalize w6.alloc (.cells #[.int .u8 P.s0, .int .u8 P.s1, .int .u8 P.s2, .int .u8 P.s3, .int .u8 P.s4, .int .u8 P.s5, .int .u8 P.s6, .int .u8 P.s7, .int .i64 P.K, .int .i64 P.M, .int .i64 P.B, .string P.key, .int .i64 P.size, .int .i64 P.idx, .int .i64 P.ep, .int .i64 P.ct, .slice A6 np c6] 46) = v6 at *
  refine ((S2).out (some ⟨S, 0, none⟩) C v6 hbC hcm (lent_rl HL.out)).mono ?_
  rintro e w7 ⟨vv, rfl, hO, hb⟩
  obtain ⟨A7, c7, ev, _, _, hr, _⟩ := Own.rd hO
  rw [← HNS.out] at ev
  subst ev
  have HR7 := Lib.hid hr
  have HZ3 := Lib.hid ((hb.block _ (Array.getElem?_eq_some_iff.1 HZ3.out).1).trans HZ3.out)
  have HZ5 := Lib.hid ((hb.block _ (Array.getElem?_eq_some_iff.1 HZ5.out).1).trans HZ5.out)
  have HZ10 := Lib.hid ((hb.block _ (Array.getElem?_eq_some_iff.1 HZ10.out).1).trans HZ10.out)
  have HZ12 := Lib.hid ((hb.block _ (Array.getElem?_eq_some_iff.1 HZ12.out).1).trans HZ12.out)
  have HF := Lib.hid (HF.out.trans (hb.mono HF.out.size))
  have HR2 := Lib.hid (HR2.out.below hb)
  have HR3 := Lib.hid (Rd.below HR3.out hb)
  have HL := Lib.hid (HL.out.kept hb)
  have HR6 := Lib.hid (HR6.out.below hb)
  clear hb hO hr
  as_aux_lemma =>
    go_wp2_with fail
    refine (num_any _ w7).mono ?_
    rintro e w8 ⟨rfl, rfl⟩
    obtain ⟨p0, p1, p2, p3, p4, p5, p6, p7, p8, p9, p10, p11, p12, p13, p14, p15⟩ := cells_of HZ10.out
    obtain ⟨q0, q1, q2, q3, q4, q5, q6, q7, q8, q9, q10, q11, q12, q13, q14, q15⟩ := cells_of HZ3.out
    have hEQ := fun w => (head_eq HHW.out HHW.out w).trans (by rw [(hdEq_iff H H).2 rfl])
    unfold HdV at hEQ
    go_wp2_with fail
    clear hEQ p0 q0 p1 q1 p2 q2 p3 q3 p4 q4 p5 q5 p6 q6 p7 q7 p8 q8 p9 q9 p10 q10 p11 q11 p12 q12 p13 q13 p14 q14 p15 q15
    as_aux_lemma =>
      refine (num_any _ w7).mono ?_
      rintro e w8 ⟨rfl, rfl⟩
      obtain ⟨p0, p1, p2, p3, p4, p5, p6, p7, p8, p9, p10, p11, p12, p13, p14, p15, p16⟩ := cells_ofS HZ12.out
      obtain ⟨q0, q1, q2, q3, q4, q5, q6, q7, q8, q9, q10, q11, q12, q13, q14, q15, q16⟩ := cells_ofS HZ5.out
      have hS := same_any P P A6 A2 c6 c2 (prsB b) (prsB b) w7 HPW.out HPW.out (by have := prsB_len b; omega) (prsB_lt HX.out) (prsB_lt HX.out) HR6.out HR2.out (by have := prsB_len b; omega)
      rw [← HNP.out] at hS
      have HS := Lib.hid hS
      clear hS
      go_wp2_with fail
      clear p0 q0 p1 q1 p2 q2 p3 q3 p4 q4 p5 q5 p6 q6 p7 q7 p8 q8 p9 q9 p10 q10 p11 q11 p12 q12 p13 q13 p14 q14 p15 q15 p16 q16
      refine HS.out.mono ?_
      rintro e w8 ⟨q, rfl, hq, hb⟩
      obtain rfl : q = true := hq.2 ⟨rfl, rfl⟩
      have HF := Lib.hid (HF.out.trans (hb.mono HF.out.size))
      have HL := Lib.hid (HL.out.kept hb)
      have hr7 := Rd.below HR7.out hb
      have hr3 := Rd.below HR3.out hb
      rw [← HNS.out] at hr7 hr3
      have HR7 := Lib.hid hr7
      have HR3 := Lib.hid hr3
      clear hq hb HS hr7 hr3
      as_aux_lemma =>
        go_wp2_with fail
        refine (num_any _ w8).mono ?_
        rintro e w9 ⟨rfl, rfl⟩
        go_wp2_with fail
        refine (sameInts_any A7 A3 ns c7 c3 (fun i => (((sptL b).getD i 0 : Nat) : Int)) w8 (by omega) HR7.out HR3.out).mono ?_
        rintro e w9 ⟨rfl, hd⟩
        have HF := Lib.hid (hd.below' HF.out)
        have HL := Lib.hid (HL.out.kept (hd.below _))
        clear hd
        go_wp2_with fail
        refine (kept_any S C A c w3.heap.size b w9 hbl HX.out HL.out (HA.out.below HF.out)).mono ?_
        rintro e w10 ⟨rfl, rfl⟩
        go_wp2
        go_ret
        exact ⟨rfl, HF.out⟩
end Go.Proofs.Ytbioanbokbhmgaa
