/- Same of the document: the walk. Conditions: bytes. -/
import Derived.Test.YtbioanbokbhmgaaOpnD
import Derived.Test.YtbioanbokbhmgaaLaw8A
import Derived.Test.YtbioanbokbhmgaaRw16
namespace Go.Proofs.Ytbioanbokbhmgaa
open Go.RowKit

noncomputable def hdEq (h g : Hd) : Bool := @decide (h = g) (Classical.propDecidable _)
theorem hdEq_iff (h g : Hd) : hdEq h g = true ↔ h = g := by unfold hdEq; exact @decide_eq_true_iff (h = g) (Classical.propDecidable _)
theorem head_eq {h g : Hd} (H : HdW h) (G : HdW g) (w : World) : (Op.equalIn 10000 28 (HdV h) (HdV g)).run Try.prog w = .ok (hdEq h g) w := by
  obtain ⟨r, hr, e⟩ := head_eql H G w
  rw [hr, show r = hdEq h g by rw [Bool.eq_iff_iff, e, hdEq_iff]]
theorem strL_inj {a b : List Nat} (ha : ∀ x ∈ a, x < 256) (hb : ∀ x ∈ b, x < 256) : (strL a).data.toList = (strL b).data.toList ↔ a = b := by
  have key : ∀ {l : List Nat}, (∀ x ∈ l, x < 256) → (strL l).data.toList.map (·.toNat) = l := fun {l} hl => by
    have h1 : bl (strL l) = (List.range l.length).map (fun i => l.getD i 0) := bl_strN fun i hi => getD_lt hl hi
    have h2 : (List.range l.length).map (fun i => l.getD i 0) = l := by
      apply List.ext_getElem
      · simp
      · intro i h1 h2; simp [List.getD_eq_getElem?_getD, h2]
    exact h1.trans h2
  constructor
  · intro e
    have h := congrArg (List.map (·.toNat)) e
    rwa [key ha, key hb] at h
  · rintro rfl; rfl
theorem strL_ne {a b : List Nat} (ha : ∀ x ∈ a, x < 256) (hb : ∀ x ∈ b, x < 256) : (!(strL a).toList == (strL b).toList) = !decide (a = b) := by
  have e : ∀ s : ByteArray, s.toList = s.data.toList := fun s => ByteArray.toList_eq s
  rw [e, e]
  by_cases h : a = b
  · subst h; simp
  · have h2 : ¬ (strL a).data.toList = (strL b).data.toList := fun e => h ((strL_inj ha hb).1 e)
    rw [decide_eq_false h, beq_eq_false_iff_ne.2 h2]
theorem list_ext {a b : List (List Nat)} (hl : a.length = b.length) (h : ∀ i, i < a.length → a.getD i [] = b.getD i []) : a = b := by
  apply List.ext_getElem hl
  intro i h1 h2
  have := h i h1
  simpa [List.getD_eq_getElem?_getD, h1, h2] using this
def SamePost (h g : Hd) (L1 L2 : List (List Nat)) (w : World) (e : Ending) (w' : World) : Prop := ∃ q : Bool, e = .returned (.bool q) ∧ (q = true ↔ h = g ∧ L1 = L2) ∧ Below w.heap.size w w'
set_option maxRecDepth 100000 in
set_option maxHeartbeats 4000000 in
theorem same_any (h g : Hd) (A1 A2 : Option Addr) (c1 c2 : Nat) (L1 L2 : List (List Nat)) (w : World) (hh : HdW h) (hg : HdW g) (hn : L1.length ≤ 1000000000000) (hx1 : ∀ l ∈ L1, ∀ x ∈ l, x < 256) (hx2 : ∀ l ∈ L2, ∀ x ∈ l, x < 256) (h1 : RLL w A1 L1) (h2 : RLL w A2 L2) (_hn2 : L2.length ≤ 1000000000000) :
    Calls Try.prog 33 #[.agg #[.int .u8 h.s0, .int .u8 h.s1, .int .u8 h.s2, .int .u8 h.s3, .int .u8 h.s4, .int .u8 h.s5, .int .u8 h.s6, .int .u8 h.s7, .int .i64 h.K, .int .i64 h.M, .int .i64 h.B, .string h.key, .int .i64 h.size, .int .i64 h.idx, .int .i64 h.ep, .int .i64 h.ct, .slice A1 L1.length c1], .agg #[.int .u8 g.s0, .int .u8 g.s1, .int .u8 g.s2, .int .u8 g.s3, .int .u8 g.s4, .int .u8 g.s5, .int .u8 g.s6, .int .u8 g.s7, .int .i64 g.K, .int .i64 g.M, .int .i64 g.B, .string g.key, .int .i64 g.size, .int .i64 g.idx, .int .i64 g.ep, .int .i64 g.ct, .slice A2 L2.length c2]] w (SamePost h g L1 L2 w) := by
  have HE := Lib.hid (fun w => head_eq hh hg w)
  have HX1 := Lib.hid hx1
  have HX2 := Lib.hid hx2
  have HA1 := Lib.hid h1
  have HA2 := Lib.hid h2
  have HB := Lib.hid (((Below.refl w.heap.size w).alloc (Nat.le_refl _) (.cells #[.int .u8 h.s0, .int .u8 h.s1, .int .u8 h.s2, .int .u8 h.s3, .int .u8 h.s4, .int .u8 h.s5, .int .u8 h.s6, .int .u8 h.s7, .int .i64 h.K, .int .i64 h.M, .int .i64 h.B, .string h.key, .int .i64 h.size, .int .i64 h.idx, .int .i64 h.ep, .int .i64 h.ct, .slice A1 L1.length c1] 46)).alloc (by simp) (.cells #[.int .u8 g.s0, .int .u8 g.s1, .int .u8 g.s2, .int .u8 g.s3, .int .u8 g.s4, .int .u8 g.s5, .int .u8 g.s6, .int .u8 g.s7, .int .i64 g.K, .int .i64 g.M, .int .i64 g.B, .string g.key, .int .i64 g.size, .int .i64 g.idx, .int .i64 g.ep, .int .i64 g.ct, .slice A2 L2.length c2] 46))
  clear hh hg hx1 hx2 h1 h2
  have HG1 := Lib.hid (show ((w.alloc (.cells #[.int .u8 h.s0, .int .u8 h.s1, .int .u8 h.s2, .int .u8 h.s3, .int .u8 h.s4, .int .u8 h.s5, .int .u8 h.s6, .int .u8 h.s7, .int .i64 h.K, .int .i64 h.M, .int .i64 h.B, .string h.key, .int .i64 h.size, .int .i64 h.idx, .int .i64 h.ep, .int .i64 h.ct, .slice A1 L1.length c1] 46)).alloc (.cells #[.int .u8 g.s0, .int .u8 g.s1, .int .u8 g.s2, .int .u8 g.s3, .int .u8 g.s4, .int .u8 g.s5, .int .u8 g.s6, .int .u8 g.s7, .int .i64 g.K, .int .i64 g.M, .int .i64 g.B, .string g.key, .int .i64 g.size, .int .i64 g.idx, .int .i64 g.ep, .int .i64 g.ct, .slice A2 L2.length c2] 46)).heap[w.heap.size]? = some (.cells #[.int .u8 h.s0, .int .u8 h.s1, .int .u8 h.s2, .int .u8 h.s3, .int .u8 h.s4, .int .u8 h.s5, .int .u8 h.s6, .int .u8 h.s7, .int .i64 h.K, .int .i64 h.M, .int .i64 h.B, .string h.key, .int .i64 h.size, .int .i64 h.idx, .int .i64 h.ep, .int .i64 h.ct, .slice A1 L1.length c1] 46 (0, 0)) from (((Below.refl _ _).alloc (Nat.le_refl _) _).block _ (by simp)).trans (heap_alloc_new w _))
  have HG2 := Lib.hid (show ((w.alloc (.cells #[.int .u8 h.s0, .int .u8 h.s1, .int .u8 h.s2, .int .u8 h.s3, .int .u8 h.s4, .int .u8 h.s5, .int .u8 h.s6, .int .u8 h.s7, .int .i64 h.K, .int .i64 h.M, .int .i64 h.B, .string h.key, .int .i64 h.size, .int .i64 h.idx, .int .i64 h.ep, .int .i64 h.ct, .slice A1 L1.length c1] 46)).alloc (.cells #[.int .u8 g.s0, .int .u8 g.s1, .int .u8 g.s2, .int .u8 g.s3, .int .u8 g.s4, .int .u8 g.s5, .int .u8 g.s6, .int .u8 g.s7, .int .i64 g.K, .int .i64 g.M, .int .i64 g.B, .string g.key, .int .i64 g.size, .int .i64 g.idx, .int .i64 g.ep, .int .i64 g.ct, .slice A2 L2.length c2] 46)).heap[w.heap.size + 1]? = some (.cells #[.int .u8 g.s0, .int .u8 g.s1, .int .u8 g.s2, .int .u8 g.s3, .int .u8 g.s4, .int .u8 g.s5, .int .u8 g.s6, .int .u8 g.s7, .int .i64 g.K, .int .i64 g.M, .int .i64 g.B, .string g.key, .int .i64 g.size, .int .i64 g.idx, .int .i64 g.ep, .int .i64 g.ct, .slice A2 L2.length c2] 46 (0, 0)) by simpa using heap_alloc_new (w.alloc (.cells #[.int .u8 h.s0, .int .u8 h.s1, .int .u8 h.s2, .int .u8 h.s3, .int .u8 h.s4, .int .u8 h.s5, .int .u8 h.s6, .int .u8 h.s7, .int .i64 h.K, .int .i64 h.M, .int .i64 h.B, .string h.key, .int .i64 h.size, .int .i64 h.idx, .int .i64 h.ep, .int .i64 h.ct, .slice A1 L1.length c1] 46)) (.cells #[.int .u8 g.s0, .int .u8 g.s1, .int .u8 g.s2, .int .u8 g.s3, .int .u8 g.s4, .int .u8 g.s5, .int .u8 g.s6, .int .u8 g.s7, .int .i64 g.K, .int .i64 g.M, .int .i64 g.B, .string g.key, .int .i64 g.size, .int .i64 g.idx, .int .i64 g.ep, .int .i64 g.ct, .slice A2 L2.length c2] 46))
  have hz2 : w.heap.size + 1 < ((w.alloc (.cells #[.int .u8 h.s0, .int .u8 h.s1, .int .u8 h.s2, .int .u8 h.s3, .int .u8 h.s4, .int .u8 h.s5, .int .u8 h.s6, .int .u8 h.s7, .int .i64 h.K, .int .i64 h.M, .int .i64 h.B, .string h.key, .int .i64 h.size, .int .i64 h.idx, .int .i64 h.ep, .int .i64 h.ct, .slice A1 L1.length c1] 46)).alloc (.cells #[.int .u8 g.s0, .int .u8 g.s1, .int .u8 g.s2, .int .u8 g.s3, .int .u8 g.s4, .int .u8 g.s5, .int .u8 g.s6, .int .u8 g.s7, .int .i64 g.K, .int .i64 g.M, .int .i64 g.B, .string g.key, .int .i64 g.size, .int .i64 g.idx, .int .i64 g.ep, .int .i64 g.ct, .slice A2 L2.length c2] 46)).heap.size := by simp
  by_cases hq : hdEq h g = true
  · have hHG := Lib.hid ((hdEq_iff h g).1 hq)
    have hEQ := fun w => (HE.out w).trans (by rw [hq])
    unfold HdV at hEQ
    clear hq
    have hc16 : ((w.alloc (.cells #[.int .u8 h.s0, .int .u8 h.s1, .int .u8 h.s2, .int .u8 h.s3, .int .u8 h.s4, .int .u8 h.s5, .int .u8 h.s6, .int .u8 h.s7, .int .i64 h.K, .int .i64 h.M, .int .i64 h.B, .string h.key, .int .i64 h.size, .int .i64 h.idx, .int .i64 h.ep, .int .i64 h.ct, .slice A1 L1.length c1] 46)).alloc (.cells #[.int .u8 g.s0, .int .u8 g.s1, .int .u8 g.s2, .int .u8 g.s3, .int .u8 g.s4, .int .u8 g.s5, .int .u8 g.s6, .int .u8 g.s7, .int .i64 g.K, .int .i64 g.M, .int .i64 g.B, .string g.key, .int .i64 g.size, .int .i64 g.idx, .int .i64 g.ep, .int .i64 g.ct, .slice A2 L2.length c2] 46)).cell? ⟨w.heap.size, 16, none⟩ = some (.slice A1 L1.length c1) := by have := HG1.out; simp only [World.cell?, this]; rfl
    have hc17 : ((w.alloc (.cells #[.int .u8 h.s0, .int .u8 h.s1, .int .u8 h.s2, .int .u8 h.s3, .int .u8 h.s4, .int .u8 h.s5, .int .u8 h.s6, .int .u8 h.s7, .int .i64 h.K, .int .i64 h.M, .int .i64 h.B, .string h.key, .int .i64 h.size, .int .i64 h.idx, .int .i64 h.ep, .int .i64 h.ct, .slice A1 L1.length c1] 46)).alloc (.cells #[.int .u8 g.s0, .int .u8 g.s1, .int .u8 g.s2, .int .u8 g.s3, .int .u8 g.s4, .int .u8 g.s5, .int .u8 g.s6, .int .u8 g.s7, .int .i64 g.K, .int .i64 g.M, .int .i64 g.B, .string g.key, .int .i64 g.size, .int .i64 g.idx, .int .i64 g.ep, .int .i64 g.ct, .slice A2 L2.length c2] 46)).cell? ⟨w.heap.size + 1, 16, none⟩ = some (.slice A2 L2.length c2) := by have := HG2.out; simp only [World.cell?, this]; rfl
    by_cases hl : L1.length = L2.length
    · obtain ⟨n, hn0⟩ : ∃ n, n = L2.length := ⟨_, rfl⟩
      have hl1 := hl.trans hn0.symm
      rw [hl1, ← hn0] at hc16 hc17 HG1 HG2 hz2 HB ⊢
      rw [hl1] at hn
      have HLN := Lib.hid hn0
      have HLL := Lib.hid hl1
      clear hl hl1 hn0
      have hne : ((n : Int) != (n : Int)) = false := by simp
      go_enter Try.func33, Try.ntmps33
      go_wp2
      obtain ⟨W, hW⟩ : ∃ W, W = ((w.alloc (.cells #[.int .u8 h.s0, .int .u8 h.s1, .int .u8 h.s2, .int .u8 h.s3, .int .u8 h.s4, .int .u8 h.s5, .int .u8 h.s6, .int .u8 h.s7, .int .i64 h.K, .int .i64 h.M, .int .i64 h.B, .string h.key, .int .i64 h.size, .int .i64 h.idx, .int .i64 h.ep, .int .i64 h.ct, .slice A1 n c1] 46)).alloc (.cells #[.int .u8 g.s0, .int .u8 g.s1, .int .u8 g.s2, .int .u8 g.s3, .int .u8 g.s4, .int .u8 g.s5, .int .u8 g.s6, .int .u8 g.s7, .int .i64 g.K, .int .i64 g.M, .int .i64 g.B, .string g.key, .int .i64 g.size, .int .i64 g.idx, .int .i64 g.ep, .int .i64 g.ct, .slice A2 n c2] 46)) := ⟨_, rfl⟩
      rw [← hW] at HG1 HG2 hz2 HB ⊢
      obtain ⟨S1, C1, hr1, hs1⟩ := HA1.out
      obtain ⟨S2, C2, hr2, hs2⟩ := HA2.out
      have HR1 := Lib.hid hr1; have HS1 := Lib.hid hs1; have HR2 := Lib.hid hr2; have HS2 := Lib.hid hs2
      clear hW hne hEQ hc16 hc17 hr1 hr2 hs1 hs2
      go_loopg [5] n (fun gk i wr => ∃ k : Nat, k ≤ n ∧ gk = n - k ∧ i = .int .i64 k ∧ Below W.heap.size W wr ∧ ∀ i, i < k → L1.getD i [] = L2.getD i [])
      case atStart => exact ⟨0, Nat.zero_le _, rfl, rfl, Below.refl _ _, fun i hi => absurd hi (by omega)⟩
      case round =>
        obtain ⟨k, hk, rfl, rfl, hbr, hrows⟩ := hrel
        have HBR := Lib.hid hbr
        have HRO := Lib.hid hrows
        clear hbr hrows
        have hc16 : wr.cell? ⟨w.heap.size, 16, none⟩ = some (.slice A1 n c1) := by rw [HBR.out.cell (p := ⟨w.heap.size, 16, none⟩) (by show w.heap.size < _; omega)]; have := HG1.out; simp only [World.cell?, this]; rfl
        by_cases hlt : k < n
        · obtain ⟨b2, o2, rfl, hb2, hcl2⟩ := HR1.out k (by rw [HLL.out]; exact hlt)
          obtain ⟨b3, o3, rfl, hb3, hcl3⟩ := HR2.out k (by rw [← HLN.out]; exact hlt)
          obtain ⟨l2, hl2⟩ : ∃ l, l = L1.getD k [] := ⟨_, rfl⟩
          obtain ⟨l3, hl3⟩ : ∃ l, l = L2.getD k [] := ⟨_, rfl⟩
          have hv2 := HS1.out k (by rw [HLL.out]; exact hlt)
          have hv3 := HS2.out k (by rw [← HLN.out]; exact hlt)
          dsimp only at hcl2 hcl3
          rw [← hl2] at hcl2 hv2
          rw [← hl3] at hcl3 hv3
          have hx2 : ∀ x ∈ l2, x < 256 := by rw [hl2]; exact HX1.out _ (getD_mem' (by rw [HLL.out]; exact hlt))
          have hx3 : ∀ x ∈ l3, x < 256 := by rw [hl3]; exact HX2.out _ (getD_mem' (by rw [← HLN.out]; exact hlt))
          have HON := Lib.hid (fun (w' : World) (h : Below wr.heap.size wr w') => HB.out.trans ((HBR.out.trans (h.mono HBR.out.size)).mono HB.out.size))
          have HC1 := Lib.hid (fun (w' : World) (h : Below wr.heap.size wr w') => (h.cell (p := ⟨w.heap.size, 16, none⟩) (by show w.heap.size < _; have := HBR.out.size; omega)).trans hc16)
          have HC2 := Lib.hid (fun (w' : World) (h : Below wr.heap.size wr w') => (show w'.cell? ⟨w.heap.size + 1, 16, none⟩ = some (.slice (some ⟨b3, o3, none⟩) n c2) from by rw [(HBR.out.trans (h.mono HBR.out.size)).cell (p := ⟨w.heap.size + 1, 16, none⟩) hz2]; have := HG2.out; simp only [World.cell?, this]; rfl))
          have HR1 := Lib.hid (fun (w' : World) (h : Below wr.heap.size wr w') => ((HON.out w' h).cell (p := ⟨b2, o2 + k, none⟩) hb2).trans hcl2)
          have HR2 := Lib.hid (fun (w' : World) (h : Below wr.heap.size wr w') => ((HON.out w' h).cell (p := ⟨b3, o3 + k, none⟩) hb3).trans hcl3)
          have HV2 := Lib.hid (fun (w' : World) (h : Below wr.heap.size wr w') => conv_strL (C1 k) hx2 (hv2.below (HON.out w' h)))
          have HV3 := Lib.hid (fun (w' : World) (h : Below wr.heap.size wr w') => conv_strL (C2 k) hx3 (hv3.below (HON.out w' h)))
          have HEQ := Lib.hid (strL_ne hx2 hx3)
          have HL2 := Lib.hid hl2
          have HL3 := Lib.hid hl3
          clear hcl2 hcl3 hv2 hv3 hx2 hx3 hl2 hl3
          have hkn : (k : Int) < (n : Int) := by omega
          go_wp2_with fail
          clear hc16
          refine wp_region_facts [.is (.pointer (some ⟨w.heap.size, 16, none⟩)), .is (.slice (some ⟨b2, o2, none⟩) n c1), .is (.int .i64 (k : Int)), .is (.pointer (some ⟨b2, o2 + k, none⟩)), .is (.slice (S1 k) l2.length (C1 k)), .is (.string (strL l2)), .is (.pointer (some ⟨w.heap.size + 1, 16, none⟩)), .is (.slice (some ⟨b3, o3, none⟩) n c2), .is (.int .i64 (k : Int)), .is (.pointer (some ⟨b3, o3 + k, none⟩)), .is (.slice (S2 k) l3.length (C2 k)), .is (.string (strL l3)), .is (.bool (!decide (l2 = l3)))] mixed (by kernel_rfl) (fun hdr => ⟨?_, ?_, ?_, ?_, ?_, ?_, ?_, ?_, ?_, ?_, ?_, ?_, ?_, trivial⟩) (fun wE hbE => ?_)
          · intro a w2 hb hs K hK
            repeat (intro _)
            refine ⟨?_⟩
            have h2 : a.tmps[2]?.getD undef = .pointer (some ⟨w.heap.size, 0, none⟩) := hs 2 (by kernel_rfl)
            go_simp
            exact hK.out _ _ (Below.refl _ _) rfl
          · intro a w2 hb hs K hK
            repeat (intro _)
            refine ⟨?_⟩
            have h27 : a.tmps[27]?.getD undef = .pointer (some ⟨w.heap.size, 16, none⟩) := by assumption
            have hcc := HC1.out w2 (hdr.out.trans (hb.mono hdr.out.size))
            go_simp
            exact hK.out _ _ (Below.refl _ _) rfl
          · intro a w2 hb hs K hK
            repeat (intro _)
            refine ⟨?_⟩
            have h5 : a.tmps[5]?.getD undef = .int .i64 (k : Int) := hs 5 (by kernel_rfl)
            go_simp
            exact hK.out _ _ (Below.refl _ _) rfl
          · intro a w2 hb hs K hK
            repeat (intro _)
            refine ⟨?_⟩
            have h28 : a.tmps[28]?.getD undef = .slice (some ⟨b2, o2, none⟩) n c1 := by assumption
            have h29 : a.tmps[29]?.getD undef = .int .i64 (k : Int) := by assumption
            go_simp
            exact hK.out _ _ (Below.refl _ _) rfl
          · intro a w2 hb hs K hK
            repeat (intro _)
            refine ⟨?_⟩
            have h30 : a.tmps[30]?.getD undef = .pointer (some ⟨b2, o2 + k, none⟩) := by assumption
            have hcc := HR1.out w2 (hdr.out.trans (hb.mono hdr.out.size))
            go_simp
            exact hK.out _ _ (Below.refl _ _) rfl
          · intro a w2 hb hs K hK
            repeat (intro _)
            refine ⟨?_⟩
            have h31 : a.tmps[31]?.getD undef = .slice (S1 k) l2.length (C1 k) := by assumption
            have hcc := HV2.out w2 (hdr.out.trans (hb.mono hdr.out.size))
            go_simp
            exact hK.out _ _ (Below.refl _ _) rfl
          · intro a w2 hb hs K hK
            repeat (intro _)
            refine ⟨?_⟩
            have h3 : a.tmps[3]?.getD undef = .pointer (some ⟨w.heap.size + 1, 0, none⟩) := hs 3 (by kernel_rfl)
            go_simp
            exact hK.out _ _ (Below.refl _ _) rfl
          · intro a w2 hb hs K hK
            repeat (intro _)
            refine ⟨?_⟩
            have h33 : a.tmps[33]?.getD undef = .pointer (some ⟨w.heap.size + 1, 16, none⟩) := by assumption
            have hcc := HC2.out w2 (hdr.out.trans (hb.mono hdr.out.size))
            go_simp
            exact hK.out _ _ (Below.refl _ _) rfl
          · intro a w2 hb hs K hK
            repeat (intro _)
            refine ⟨?_⟩
            have h5 : a.tmps[5]?.getD undef = .int .i64 (k : Int) := hs 5 (by kernel_rfl)
            go_simp
            exact hK.out _ _ (Below.refl _ _) rfl
          · intro a w2 hb hs K hK
            repeat (intro _)
            refine ⟨?_⟩
            have h34 : a.tmps[34]?.getD undef = .slice (some ⟨b3, o3, none⟩) n c2 := by assumption
            have h35 : a.tmps[35]?.getD undef = .int .i64 (k : Int) := by assumption
            go_simp
            exact hK.out _ _ (Below.refl _ _) rfl
          · intro a w2 hb hs K hK
            repeat (intro _)
            refine ⟨?_⟩
            have h36 : a.tmps[36]?.getD undef = .pointer (some ⟨b3, o3 + k, none⟩) := by assumption
            have hcc := HR2.out w2 (hdr.out.trans (hb.mono hdr.out.size))
            go_simp
            exact hK.out _ _ (Below.refl _ _) rfl
          · intro a w2 hb hs K hK
            repeat (intro _)
            refine ⟨?_⟩
            have h37 : a.tmps[37]?.getD undef = .slice (S2 k) l3.length (C2 k) := by assumption
            have hcc := HV3.out w2 (hdr.out.trans (hb.mono hdr.out.size))
            go_simp
            exact hK.out _ _ (Below.refl _ _) rfl
          · intro a w2 hb hs K hK
            repeat (intro _)
            refine ⟨?_⟩
            have h32 : a.tmps[32]?.getD undef = .string (strL l2) := by assumption
            have h38 : a.tmps[38]?.getD undef = .string (strL l3) := by assumption
            go_simp
            exact hK.out _ _ (Below.refl _ _) (congrArg Value.bool HEQ.out)
          intro v0 f0 v1 f1 v2 f2 v3 f3 v4 f4 v5 f5 v6 f6 v7 f7 v8 f8 v9 f9 v10 f10 v11 f11 v12 f12
          refine NoPanic.normal ?_
          simp only [Act.put, List.setIfInBounds_toArray, List.set_cons_zero, List.set_cons_succ]
          obtain rfl : v12 = .bool (!decide (l2 = l3)) := f12
          have HBE := Lib.hid (HBR.out.trans (hbE.mono HBR.out.size))
          clear hbE HBR HON HC1 HC2 HR1 HR2 HV2 HV3 f0 f1 f2 f3 f4 f5 f6 f7 f8 f9 f10 f11
          by_cases hq : l2 = l3
          · rw [decide_eq_true hq]
            have HQ := Lib.hid hq
            clear hq
            go_wp2
            go_roundg (n - (k + 1))
            case measure => omega
            case rel => exact ⟨k + 1, by omega, rfl, by go_num, HBE.out, fun i hi => by
              by_cases e : i = k
              · subst e; rw [← HL2.out, ← HL3.out]; exact HQ.out
              · exact HRO.out i (by omega)⟩
          · rw [decide_eq_false hq]
            have HQ := Lib.hid hq
            clear hq
            go_wp2
            go_ret
            exact ⟨false, rfl, ⟨fun h => absurd h (by decide), fun e => absurd (by rw [HL2.out, HL3.out, e.2]) HQ.out⟩, HB.out.trans (HBE.out.mono HB.out.size)⟩
        · have hkn : k = n := by omega
          subst hkn
          go_wp2
          go_ret
          exact ⟨true, rfl, ⟨fun _ => ⟨hHG.out, list_ext (HLL.out.trans HLN.out) (by rw [HLL.out]; exact HRO.out)⟩, fun _ => rfl⟩, HB.out.trans (HBR.out.mono HB.out.size)⟩
    · have hne : ((L1.length : Int) != (L2.length : Int)) = true := by rw [bne_iff_ne]; omega
      go_enter Try.func33, Try.ntmps33
      go_wp2
      go_ret
      exact ⟨false, rfl, ⟨fun h => absurd h (by decide), fun e => absurd (congrArg List.length e.2) hl⟩, HB.out⟩
  · have hqf : hdEq h g = false := by simpa using hq
    have HNE := Lib.hid (fun e => hq ((hdEq_iff h g).2 e))
    have hEQ := fun w => (HE.out w).trans (by rw [hqf])
    unfold HdV at hEQ
    clear hq hqf
    go_enter Try.func33, Try.ntmps33
    go_wp2
    go_ret
    exact ⟨false, rfl, ⟨fun h => absurd h (by decide), fun e => absurd e.1 HNE.out⟩, HB.out⟩
end Go.Proofs.Ytbioanbokbhmgaa
