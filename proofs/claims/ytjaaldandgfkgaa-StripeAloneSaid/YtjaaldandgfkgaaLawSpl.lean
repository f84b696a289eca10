/- StripeSplits: the law's walk. Conditions: bytes that memory bears. -/
import Derived.Test.YtjaaldandgfkgaaSplR
import Derived.Test.YtjaaldandgfkgaaSsh
namespace Go.Proofs.Ytjaaldandgfkgaa
open Go.RowKit

/-- How many shards are answered. -/
def splN (h : Hd) : Nat := if checkE h = 0 then shN h else 0
theorem shN_le {h : Hd} (e : checkE h = 0) : shN h ≤ 255 := by
  obtain ⟨⟨m1, m2, m3, m4, m5, m6⟩, _⟩ := check_facts e
  unfold shN; omega
theorem splN_le (h : Hd) : splN h ≤ 255 := by
  unfold splN; split
  · exact shN_le ‹_›
  · omega
theorem split_all (h0 : Hd) (A : Option Addr) (c : Nat) (l : List Nat) (w : World) (hl : ∀ x ∈ l, x < 256) (hlen : l.length ≤ 140737488351232) (hlc : l.length ≤ c) (hcm : c ≤ maxLen) (hA : RL w A l) (Z : Hd) (hZ : Z = { h0 with size := (l.length : Int), idx := 0 }) :
    Calls Try.prog 22 #[.agg #[.int .u8 h0.s0, .int .u8 h0.s1, .int .u8 h0.s2, .int .u8 h0.s3, .int .u8 h0.s4, .int .u8 h0.s5, .int .u8 h0.s6, .int .u8 h0.s7, .int .i64 h0.K, .int .i64 h0.M, .int .i64 h0.B, .string h0.key, .int .i64 h0.size, .int .i64 h0.idx, .int .i64 h0.ep, .int .i64 h0.ct], .slice A l.length c] w fun e w' => ∃ A' c', e = .returned (.tuple #[.slice A' (splN Z) c', .int .i64 (checkE Z)]) ∧ RSd w' A' (splN Z) (fun i => { Z with idx := i }) (fun i => spL Z.K.toNat Z.B.toNat l i) ∧ Below w.heap.size w w' := by
  have h0 := split_any h0 A c l w hl hlen hlc hcm hA
  rw [← hZ] at h0
  refine h0.mono ?_
  rintro e w' ⟨hb, h1, h2⟩
  by_cases hE : checkE Z = 0
  · obtain ⟨g, V, T, he, _, hO⟩ := h2 hE
    refine ⟨some ⟨g, 0, none⟩, shN Z, ?_, ?_, hb⟩
    · rw [he, hE]; unfold splN; rw [if_pos hE]
    · unfold splN; rw [if_pos hE]; exact hO.rsd
  · refine ⟨none, 0, ?_, ?_, hb⟩
    · rw [h1 hE]; unfold splN; rw [if_neg hE]
    · unfold splN; rw [if_neg hE]; exact RSd.zero _ _ _ _
theorem rsplit_all (h0 : Hd) (A : Option Addr) (c : Nat) (l : List Nat) (w : World) (hl : ∀ x ∈ l, x < 256) (hlen : l.length ≤ 140737488351232) (hA : RL w A l) (Z : Hd) (hZ : Z = { h0 with size := (l.length : Int), idx := 0 }) :
    Calls Try.prog 21 #[.agg #[.int .u8 h0.s0, .int .u8 h0.s1, .int .u8 h0.s2, .int .u8 h0.s3, .int .u8 h0.s4, .int .u8 h0.s5, .int .u8 h0.s6, .int .u8 h0.s7, .int .i64 h0.K, .int .i64 h0.M, .int .i64 h0.B, .string h0.key, .int .i64 h0.size, .int .i64 h0.idx, .int .i64 h0.ep, .int .i64 h0.ct], .slice A l.length c] w fun e w' => ∃ A' c', e = .returned (.tuple #[.slice A' (splN Z) c', .int .i64 (checkE Z)]) ∧ RSd w' A' (splN Z) (fun i => { Z with idx := i }) (fun i => spL Z.K.toNat Z.B.toNat l i) ∧ Below w.heap.size w w' := by
  have h0 := rsplit_any h0 A c l w hl hlen hA
  rw [← hZ] at h0
  refine h0.mono ?_
  rintro e w' ⟨hb, h1, h2⟩
  by_cases hE : checkE Z = 0
  · obtain ⟨A', c', he, hO⟩ := h2 hE
    refine ⟨A', c', ?_, ?_, hb⟩
    · rw [he, hE]; unfold splN; rw [if_pos hE]
    · unfold splN; rw [if_pos hE]; exact hO
  · refine ⟨none, 0, ?_, ?_, hb⟩
    · rw [h1 hE]; unfold splN; rw [if_neg hE]
    · unfold splN; rw [if_neg hE]; exact RSd.zero _ _ _ _
theorem i64_wf {n : Int} (h0 : -9223372036854775808 ≤ n) (h1 : n ≤ 9223372036854775807) : (Lit.int .i64 n).wf = true := by simp [Lit.wf, IntKind.min, IntKind.max, IntKind.signed, IntKind.bits]; omega
theorem hdw_spl {h : Hd} (H : HdW h) (n i : Nat) (hn : n ≤ 140737488351232) (hi : i ≤ 1000000) : HdW { h with size := (n : Int), idx := (i : Int) } := by
  obtain ⟨w0, w1, w2, w3, w4, w5, w6, w7, w8, w9, w10, w11, w12, w13, w14, w15⟩ := H
  exact ⟨w0, w1, w2, w3, w4, w5, w6, w7, w8, w9, w10, i64_wf (n := (n : Int)) (by omega) (by omega), i64_wf (n := (i : Int)) (by omega) (by omega), w13, w14, w15⟩
theorem spl_lt (K B : Nat) (l : List Nat) (i : Nat) : ∀ y ∈ spL K B l i, ∀ x ∈ y, x < 256 := fun y hy => by
  unfold spL spT at hy
  obtain ⟨j, _, rfl⟩ := List.mem_map.1 hy
  exact spB_lt i j
theorem spl_len {h : Hd} (l : List Nat) (e : checkE h = 0) (hs : h.size = (l.length : Int)) (i : Nat) : (spL h.K.toNat h.B.toNat l i).length ≤ 4096 := by
  unfold spL
  rw [spT_length]
  obtain ⟨_, _, _, z, _⟩ := check_facts e
  have := sizeN_le h.K h.M h.B h.size
  unfold sizeN at this
  rw [if_pos z, hs] at this
  exact this
/-- The bytes, three more each, the first k of them. -/
def add3 (l : List Nat) (k : Nat) : List Nat := mkL l.length fun i => if i < k then (l.getD i 0 + 3) % 256 else l.getD i 0
theorem add3_length (l : List Nat) (k : Nat) : (add3 l k).length = l.length := mkL_length _ _
theorem add3_get {l : List Nat} {k i : Nat} (h : i < l.length) : (add3 l k).getD i 0 = if i < k then (l.getD i 0 + 3) % 256 else l.getD i 0 := mkL_get h
theorem add3_zero (l : List Nat) : add3 l 0 = l := by
  unfold add3
  rw [mkL_congr (g := fun i => l.getD i 0) fun i _ => by rw [if_neg (by omega)]]
  exact mkL_self l
theorem add3_lt {l : List Nat} (hl : ∀ x ∈ l, x < 256) (k : Nat) : ∀ x ∈ add3 l k, x < 256 := fun x hx => by
  obtain ⟨i, hi, rfl⟩ := mem_mkL hx
  split
  · omega
  · exact getD_lt hl hi
theorem mkd_in {n j : Nat} {g : Nat → Nat} (h : j < n) : mkd n g j = g j := if_pos h
set_option maxRecDepth 100000 in
set_option maxHeartbeats 4000000 in
theorem lawSpl (Hq : Hd) (A : Option Addr) (c : Nat) (l : List Nat) (w : World) (hw : HdW Hq) (hl : ∀ x ∈ l, x < 256) (hlen : l.length ≤ 140737488351232) (hA : RL w A l) :
    Calls Try.prog 6 #[.agg #[.int .u8 Hq.s0, .int .u8 Hq.s1, .int .u8 Hq.s2, .int .u8 Hq.s3, .int .u8 Hq.s4, .int .u8 Hq.s5, .int .u8 Hq.s6, .int .u8 Hq.s7, .int .i64 Hq.K, .int .i64 Hq.M, .int .i64 Hq.B, .string Hq.key, .int .i64 Hq.size, .int .i64 Hq.idx, .int .i64 Hq.ep, .int .i64 Hq.ct], .slice A l.length c] w fun e w' => e = .returned (.bool true) ∧ Below w.heap.size w w' := by
  obtain ⟨Z, hZ⟩ : ∃ Z : Hd, Z = { Hq with size := (l.length : Int), idx := 0 } := ⟨_, rfl⟩
  obtain ⟨n, hn⟩ : ∃ n, n = l.length := ⟨_, rfl⟩
  have HZW : Hid (∀ i, i < splN Z → HdW { Z with idx := (i : Int) }) := Lib.hid fun i hi => by
    rw [hZ]; exact hdw_spl hw l.length i hlen (by have := splN_le Z; omega)
  have HBL : Hid (∀ L : List Nat, L.length = n → ∀ i, i < splN Z → (spL Z.K.toNat Z.B.toNat L i).length ≤ 1000000000000) := Lib.hid fun L hL i hi => by
    have hE : checkE Z = 0 := by
      unfold splN at hi; split at hi
      · assumption
      · omega
    exact Nat.le_trans (spl_len L hE (by rw [hZ, hL, hn]) i) (by decide)
  have HZZ : Hid (∀ L : List Nat, L.length = n → Z = { Hq with size := (L.length : Int), idx := 0 }) := Lib.hid fun L hL => by rw [hZ, hL, hn]
  have hspl := splN_le Z
  have HL := Lib.hid hl
  rw [← hn] at hlen
  have HA : Hid (Rd w A n (fun i => .int .u8 (l.getD i 0 : Nat))) := Lib.hid (by rw [hn]; exact hA)
  have HN := Lib.hid hn
  rw [← hn]
  obtain ⟨E, hE⟩ : ∃ E, E = checkE Z := ⟨_, rfl⟩
  have HE := Lib.hid hE
  obtain ⟨m, hm⟩ : ∃ m, m = splN Z := ⟨_, rfl⟩
  rw [← hm] at hspl HZW HBL
  have HM := Lib.hid hm
  have HB0 := Lib.hid ((Below.refl w.heap.size w).alloc (Nat.le_refl _) (.cells #[.int .u8 Hq.s0, .int .u8 Hq.s1, .int .u8 Hq.s2, .int .u8 Hq.s3, .int .u8 Hq.s4, .int .u8 Hq.s5, .int .u8 Hq.s6, .int .u8 Hq.s7, .int .i64 Hq.K, .int .i64 Hq.M, .int .i64 Hq.B, .string Hq.key, .int .i64 Hq.size, .int .i64 Hq.idx, .int .i64 Hq.ep, .int .i64 Hq.ct] 42))
  have HK0 := Lib.hid (heap_alloc_new w (.cells #[.int .u8 Hq.s0, .int .u8 Hq.s1, .int .u8 Hq.s2, .int .u8 Hq.s3, .int .u8 Hq.s4, .int .u8 Hq.s5, .int .u8 Hq.s6, .int .u8 Hq.s7, .int .i64 Hq.K, .int .i64 Hq.M, .int .i64 Hq.B, .string Hq.key, .int .i64 Hq.size, .int .i64 Hq.idx, .int .i64 Hq.ep, .int .i64 Hq.ct] 42))
  clear hZ hn hl hA hE hm hw
  go_enter Try.func6, Try.ntmps6
  go_wp2_with fail
  refine (lent_any A n c (fun i => l.getD i 0) _ (by omega) (HA.out.below HB0.out)).mono ?_
  rintro e w1 ⟨S, C, rfl, hO, hb1, hS, hC⟩
  have hbx : w.heap.size < S := by have h1 : w.heap.size + 1 ≤ S := (by simpa using hS); omega
  have HB1 : Hid (Below w.heap.size w w1) := Lib.hid (HB0.out.trans (hb1.mono HB0.out.size))
  have HBK1 : Hid (w1.heap[w.heap.size]? = some (.cells #[.int .u8 Hq.s0, .int .u8 Hq.s1, .int .u8 Hq.s2, .int .u8 Hq.s3, .int .u8 Hq.s4, .int .u8 Hq.s5, .int .u8 Hq.s6, .int .u8 Hq.s7, .int .i64 Hq.K, .int .i64 Hq.M, .int .i64 Hq.B, .string Hq.key, .int .i64 Hq.size, .int .i64 Hq.idx, .int .i64 Hq.ep, .int .i64 Hq.ct] 42 (0, 0))) := Lib.hid ((hb1.block _ (by simp)).trans HK0.out)
  have HO1 := Lib.hid (hO.mono (B' := w.heap.size + 1) (by simp))
  clear hO hb1 hS HB0 HK0
  have hCm : C ≤ maxLen := by
    obtain ⟨A', c', e', _, h4, _⟩ := HO1.out.rd
    injection e' with _ _ e3
    omega
  go_wp2
  go_loopg [6, 7, 8, 9, 10, 11, 12] 2 (fun gk t _ _ _ _ _ _ wr => ∃ (k : Nat) (L : List Nat), k ≤ 2 ∧ gk = 2 - k ∧ t = .int .i64 k ∧ L.length = n ∧ (∀ x ∈ L, x < 256) ∧ Own wr (w.heap.size + 1) 5 1 (.slice (some ⟨S, 0, none⟩) (n + 64) C) (n + 64) (fun j => [.int .u8 (mkd n (fun i => L.getD i 0) j)]) ∧ wr.heap[w.heap.size]? = some (.cells #[.int .u8 Hq.s0, .int .u8 Hq.s1, .int .u8 Hq.s2, .int .u8 Hq.s3, .int .u8 Hq.s4, .int .u8 Hq.s5, .int .u8 Hq.s6, .int .u8 Hq.s7, .int .i64 Hq.K, .int .i64 Hq.M, .int .i64 Hq.B, .string Hq.key, .int .i64 Hq.size, .int .i64 Hq.idx, .int .i64 Hq.ep, .int .i64 Hq.ct] 42 (0, 0)) ∧ Below w.heap.size w wr)
  case atStart => exact ⟨0, l, by omega, rfl, rfl, HN.out.symm, HL.out, HO1.out, HBK1.out, HB1.out⟩
  case round =>
    clear HO1 HBK1 HB1
    obtain ⟨k, L, hk, rfl, rfl, hL, hLx, hO, hbk, hb⟩ := hrel
    have HLn := Lib.hid hL; have HLX := Lib.hid hLx; have HO := Lib.hid hO; have HBK := Lib.hid hbk; have HB := Lib.hid hb
    have hzw : w.heap.size + 1 ≤ wr.heap.size := by have := (hO.lt S rfl).2; omega
    clear hL hLx hO hbk hb
    have HRD : Hid (∀ w', Below wr.heap.size wr w' → Rd w' (some ⟨S, 0, none⟩) n (fun i => .int .u8 (L.getD i 0 : Nat)) ∧ Own w' (w.heap.size + 1) 5 1 (.slice (some ⟨S, 0, none⟩) (n + 64) C) (n + 64) (fun j => [.int .u8 (mkd n (fun i => L.getD i 0) j)])) := Lib.hid fun w' hb => by
      have h1 := HO.out.kept hb
      refine ⟨fun i hi => ⟨S, 0, rfl, (h1.lt S rfl).2, ?_⟩, h1⟩
      rw [Nat.zero_add, Own.cell1 h1 (by omega)]
      unfold mkd; rw [if_pos hi]
    by_cases hlt : k < 2
    · have hRD := (HRD.out wr (Below.refl _ _)).1
      go_wp2_with (first | (at_builtin; refine wpList_appendRd rfl (.const (.slice none 0 0)) (.tmp 19) 43 rfl wr.heap.size 5 1 (.int .u8 0) Try.underlying43 byteInfo rfl rfl (Nat.le_refl _) (some ⟨S, 0, none⟩) n C (fun j => .int .u8 (L.getD j 0 : Nat)) rfl hRD (fun _ _ => rfl) (by omega) (by omega) ?_; intro v2 w2 hO2 hb2; have HBK2 := Lib.hid ((hb2.block _ hzw).trans HBK.out); have HO2 := Lib.hid hO2; have HBr := Lib.hid hb2; obtain ⟨A2, c2, e2, _, _, _, _⟩ := hO2.rd; subst e2; clear hO2 hb2) | (refine wpList_loadH rfl (.tmp 2) rfl w.heap.size rfl #[.int .u8 Hq.s0, .int .u8 Hq.s1, .int .u8 Hq.s2, .int .u8 Hq.s3, .int .u8 Hq.s4, .int .u8 Hq.s5, .int .u8 Hq.s6, .int .u8 Hq.s7, .int .i64 Hq.K, .int .i64 Hq.M, .int .i64 Hq.B, .string Hq.key, .int .i64 Hq.size, .int .i64 Hq.idx, .int .i64 Hq.ep, .int .i64 Hq.ct] rfl HBK2.out ?_))
      have HR2 : Hid (RL w2 A2 L) := Lib.hid (by
        obtain ⟨A', c', e', _, _, h1, _⟩ := HO2.out.rd
        injection e' with e1 _ _
        subst e1
        unfold RL
        rw [HLn.out]
        exact h1)
      have hc1 := rsplit_all Hq A2 c2 L w2 HLX.out (by have := HLn.out; omega) HR2.out Z (HZZ.out L HLn.out)
      rw [HLn.out, ← HE.out, ← HM.out] at hc1
      have HC1 := Lib.hid hc1
      clear hc1 hRD
      refine HC1.out.mono ?_
      rintro e w3 ⟨A3, c3, rfl, hS3, hb3⟩
      have HS3 := Lib.hid hS3
      have HBr3 : Hid (Below wr.heap.size wr w3) := Lib.hid (HBr.out.trans (hb3.mono HBr.out.size))
      have HBK3 := Lib.hid ((HBr3.out.block _ hzw).trans HBK.out)
      have HR3 := Lib.hid (HR2.out.below hb3)
      have HSL : Hid (RL w3 (some ⟨S, 0, none⟩) L) := Lib.hid (by unfold RL; rw [HLn.out]; exact (HRD.out w3 HBr3.out).1)
      clear hS3 hb3 HC1 HBK2 HR2
      go_wp2_with (refine wpList_loadH rfl (.tmp 2) rfl w.heap.size rfl #[.int .u8 Hq.s0, .int .u8 Hq.s1, .int .u8 Hq.s2, .int .u8 Hq.s3, .int .u8 Hq.s4, .int .u8 Hq.s5, .int .u8 Hq.s6, .int .u8 Hq.s7, .int .i64 Hq.K, .int .i64 Hq.M, .int .i64 Hq.B, .string Hq.key, .int .i64 Hq.size, .int .i64 Hq.idx, .int .i64 Hq.ep, .int .i64 Hq.ct] rfl HBK3.out ?_)
      have hc2 := split_all Hq (some ⟨S, 0, none⟩) C L w3 HLX.out (by have := HLn.out; omega) (by have := HLn.out; omega) hCm HSL.out Z (HZZ.out L HLn.out)
      rw [HLn.out, ← HE.out, ← HM.out] at hc2
      have HC2 := Lib.hid hc2
      clear hc2
      refine HC2.out.mono ?_
      rintro e w4 ⟨A4, c4, rfl, hS4, hb4⟩
      have HS4 := Lib.hid hS4
      have HS3' := Lib.hid (HS3.out.below hb4)
      have HBr4 : Hid (Below wr.heap.size wr w4) := Lib.hid (HBr3.out.trans (hb4.mono HBr3.out.size))
      have HR4 := Lib.hid (HR3.out.below hb4)
      clear hS4 hb4 HC2 HS3 HR3 HSL HBK3
      have HC3 := Lib.hid (sameShards_any A4 A3 m c4 c3 (fun i => { Z with idx := (i : Int) }) (fun i => spL Z.K.toNat Z.B.toNat L i) w4 (by omega) HZW.out (fun i _ => spl_lt _ _ _ _) (HBL.out L HLn.out) HS4.out HS3'.out)
      go_wp2_with fail
      refine HC3.out.mono ?_
      rintro e w5 ⟨rfl, hb5⟩
      have HBr5 : Hid (Below wr.heap.size wr w5) := Lib.hid (HBr4.out.trans (hb5.mono HBr4.out.size))
      have HR5 := Lib.hid (HR4.out.below hb5)
      clear hb5 HC3
      have HC4 := Lib.hid (unmarked_any S C A2 n c2 (w.heap.size + 1) (fun i => L.getD i 0) w5 (by omega) (fun j hj => getD_any HLX.out j) hC (HRD.out w5 HBr5.out).2 (by have h1 := HR5.out; unfold RL at h1; rw [HLn.out] at h1; exact h1))
      go_wp2_with fail
      refine HC4.out.mono ?_
      rintro e w6 ⟨rfl, hw6⟩
      obtain rfl : w5 = w6 := hw6.symm
      have HO5 : Hid (Own w5 (w.heap.size + 1) 5 1 (.slice (some ⟨S, 0, none⟩) (n + 64) C) (n + 64) (fun j => [.int .u8 (mkd n (fun i => (add3 L 0).getD i 0) j)])) := Lib.hid (by rw [add3_zero]; exact (HRD.out w5 HBr5.out).2)
      have HBK5 := Lib.hid ((HBr5.out.block _ hzw).trans HBK.out)
      have HBW5 : Hid (Below w.heap.size w w5) := Lib.hid (HB.out.trans (HBr5.out.mono (by omega)))
      clear HC4 HR5 HS3' HS4 HR4 HBr HBr3 HBr4 HO2
      go_wp2
      go_loopg [12] n (fun gk i wr => ∃ q : Nat, q ≤ n ∧ gk = n - q ∧ i = .int .i64 q ∧ Own wr (w.heap.size + 1) 5 1 (.slice (some ⟨S, 0, none⟩) (n + 64) C) (n + 64) (fun j => [.int .u8 (mkd n (fun i => (add3 L q).getD i 0) j)]) ∧ wr.heap[w.heap.size]? = some (.cells #[.int .u8 Hq.s0, .int .u8 Hq.s1, .int .u8 Hq.s2, .int .u8 Hq.s3, .int .u8 Hq.s4, .int .u8 Hq.s5, .int .u8 Hq.s6, .int .u8 Hq.s7, .int .i64 Hq.K, .int .i64 Hq.M, .int .i64 Hq.B, .string Hq.key, .int .i64 Hq.size, .int .i64 Hq.idx, .int .i64 Hq.ep, .int .i64 Hq.ct] 42 (0, 0)) ∧ Below w.heap.size w wr)
      case atStart => exact ⟨0, Nat.zero_le _, rfl, rfl, HO5.out, HBK5.out, HBW5.out⟩
      case round =>
        clear HO5 HBK5 HBW5 HBr5
        obtain ⟨q, hq, rfl, rfl, hO, hbk, hb⟩ := hrel
        have HOq := Lib.hid hO; have HBKq := Lib.hid hbk; have HBq := Lib.hid hb
        by_cases hlq : q < n
        · obtain ⟨x, hx⟩ : ∃ x, x = L.getD q 0 := ⟨_, rfl⟩
          have hx2 : x < 256 := by rw [hx]; exact getD_any HLX.out q
          have hcell : wr.cell? ⟨S, q, none⟩ = some (.int .u8 (x : Nat)) := by
            rw [Own.cell1 hO (by omega), mkd_in hlq]
            show some (Value.int .u8 (((add3 L q).getD q 0 : Nat) : Int)) = _
            rw [add3_get (by rw [HLn.out]; exact hlq), if_neg (Nat.lt_irrefl _), hx]
          have hfrz := own_free hO q
          have HON := Lib.hid ((Own.set1 hO (show q < n + 64 by omega) (.int .u8 (((x + 3) % 256 : Nat) : Int))).congr (g := fun j => [.int .u8 (mkd n (fun i => (add3 L (q + 1)).getD i 0) j : Nat)]) fun j hj => by
            by_cases e : j = q
            · subst e
              rw [if_pos rfl, mkd_in hlq]
              show _ = [Value.int .u8 (((add3 L (j + 1)).getD j 0 : Nat) : Int)]
              rw [add3_get (by rw [HLn.out]; exact hlq), if_pos (by omega), ← hx]
            · rw [if_neg e]
              by_cases e2 : j < n
              · rw [mkd_in e2, mkd_in e2]
                show [Value.int .u8 (((add3 L q).getD j 0 : Nat) : Int)] = [Value.int .u8 (((add3 L (q + 1)).getD j 0 : Nat) : Int)]
                rw [add3_get (by rw [HLn.out]; exact e2), add3_get (by rw [HLn.out]; exact e2)]
                by_cases e3 : j < q
                · rw [if_pos e3, if_pos (by omega)]
                · rw [if_neg e3, if_neg (by omega)]
              · unfold mkd; rw [if_neg e2, if_neg e2])
          have hput : ∀ v, (wr.setCell ⟨S, q, none⟩ v).heap[w.heap.size]? = some (.cells #[.int .u8 Hq.s0, .int .u8 Hq.s1, .int .u8 Hq.s2, .int .u8 Hq.s3, .int .u8 Hq.s4, .int .u8 Hq.s5, .int .u8 Hq.s6, .int .u8 Hq.s7, .int .i64 Hq.K, .int .i64 Hq.M, .int .i64 Hq.B, .string Hq.key, .int .i64 Hq.size, .int .i64 Hq.idx, .int .i64 Hq.ep, .int .i64 Hq.ct] 42 (0, 0)) := fun v => by rw [Below.heap_setCell _ _ _ _ (by show w.heap.size ≠ S; omega)]; exact hbk
          have HPUT := Lib.hid hput
          have HBN := Lib.hid (fun v => hb.setCell (p := ⟨S, q, none⟩) (by show w.heap.size ≤ S; omega) v)
          have hw3 : IntKind.u8.wrap ((x : Int) + 3) = (((x + 3) % 256 : Nat) : Int) := by rw [IntKind.wrap_u8]; omega
          clear hx hO hbk hb hput
          go_wp2
          go_roundg (n - (q + 1))
          case measure => omega
          case rel => exact ⟨q + 1, by omega, rfl, by go_num, HON.out, HPUT.out _, HBN.out _⟩
        · obtain rfl : n = q := by omega
          clear hO hbk hb
          go_wp2
          go_roundg (2 - (k + 1))
          case measure => omega
          case rel => exact ⟨k + 1, add3 L n, by omega, rfl, by go_num, by rw [add3_length]; exact HLn.out, add3_lt HLX.out n, HOq.out, HBKq.out, HBq.out⟩
    · obtain rfl : 2 = k := by omega
      go_wp2
      go_ret
      exact ⟨rfl, HB.out⟩
end Go.Proofs.Ytjaaldandgfkgaa
