/- model, fit: the walks. Conditions: shards that memory bears. -/
import Derived.Test.YtjaaldandgfkgaaSdW
import Derived.Test.YtjaaldandgfkgaaStP
import Derived.Test.YtjaaldandgfkgaaSplP
namespace Go.Proofs.Ytjaaldandgfkgaa
open Go.RowKit

/-- Is the shard missing? -/
def gone (h : Hd) : Bool := decide (h.K = 0) && decide (h.M = 0) && decide (h.B = 0)
theorem gone_iff {h : Hd} : gone h = true ↔ h.K = 0 ∧ h.M = 0 ∧ h.B = 0 := by unfold gone; simp [and_assoc]
/-- Two shapes are the same. -/
theorem shape_eql (K M B K' M' B' : Int) (h1 : (Lit.int .i64 K).wf = true) (h2 : (Lit.int .i64 M).wf = true) (h3 : (Lit.int .i64 B).wf = true) (k1 : (Lit.int .i64 K').wf = true) (k2 : (Lit.int .i64 M').wf = true) (k3 : (Lit.int .i64 B').wf = true) (w : World) :
    ∃ r : Bool, (Op.equalIn 10000 24 (.agg #[.int .i64 K, .int .i64 M, .int .i64 B]) (.agg #[.int .i64 K', .int .i64 M', .int .i64 B'])).run Try.prog w = .ok r w ∧ (r = true ↔ K = K' ∧ M = M' ∧ B = B') := by
  have lits : ∀ a b c : Int, (Lit.int .i64 a).wf = true → (Lit.int .i64 b).wf = true → (Lit.int .i64 c).wf = true → Try.prog.keyLits 8 24 [.int .i64 a, .int .i64 b, .int .i64 c] = some [.int .i64 a, .int .i64 b, .int .i64 c] := fun a b c ha hb hc =>
    kl_struct Try.underlying24 ⟨by kernel_rfl, by kernel_rfl⟩ (ls := [[.int .i64 a], [.int .i64 b], [.int .i64 c]]) (by
      have e1 : Try.prog.keyLits 7 3 [.int .i64 a] = some [.int .i64 a] := kl_int Try.underlying3 ha
      have e2 : Try.prog.keyLits 7 3 [.int .i64 b] = some [.int .i64 b] := kl_int Try.underlying3 hb
      have e3 : Try.prog.keyLits 7 3 [.int .i64 c] = some [.int .i64 c] := kl_int Try.underlying3 hc
      simp [cI, e1, e2, e3])
  obtain ⟨r, hr, h⟩ := run_equalIn_deep (P := Try.prog) 9992 8 24 (by kernel_rfl) w 8 8 (.agg #[.int .i64 K, .int .i64 M, .int .i64 B]) (.agg #[.int .i64 K', .int .i64 M', .int .i64 B']) _ _ (by kernel_rfl) (by kernel_rfl) (lits _ _ _ h1 h2 h3) (lits _ _ _ k1 k2 k3)
  exact ⟨r, hr, by rw [h]; simp⟩
theorem guard_P : Try.prog.eqGuardType Try.prog.depth 24 = false := by kernel_rfl
/-- What model answers. -/
def ModP (w : World) (n : Nat) (H : Nat → Hd) (e : Ending) (w' : World) : Prop :=
  Below w.heap.size w w' ∧ ((∃ k, k < n ∧ (∀ t, t < k → gone (H t) = true) ∧ gone (H k) = false ∧ e = .returned (.int .i64 (k : Nat))) ∨ ((∀ t, t < n → gone (H t) = true) ∧ e = .returned (.int .i64 (-1))))
/-- Is its shape the empty one? As the program asks. -/
theorem gone_eql {h : Hd} (H : HdW h) (w : World) : (Op.equalIn 10000 24 (.agg #[.int .i64 h.K, .int .i64 h.M, .int .i64 h.B]) (.agg #[.int .i64 0, .int .i64 0, .int .i64 0])).run Try.prog w = .ok (gone h) w := by
  obtain ⟨w0, w1, w2, w3, w4, w5, w6, w7, w8, w9, w10, w11, w12, w13, w14, w15⟩ := H
  obtain ⟨r, hr, e⟩ := shape_eql h.K h.M h.B 0 0 0 w8 w9 w10 (by decide) (by decide) (by decide) w
  rw [hr, show r = gone h by rw [Bool.eq_iff_iff, e, gone_iff]]
theorem RdC.all {w : World} {b o n i : Nat} {H : Nat → Hd} {V : Nat → Value} (h : RdC w (some ⟨b, o, none⟩) n (fun i => sdC (H i) (V i))) (hi : i < n) : ∀ j u, (sdC (H i) (V i))[j]? = some u → w.cell? ((⟨b, o + i * 17, none⟩ : Addr).add j) = some u := fun j u e => by
  obtain ⟨b', o', e1, _, h1⟩ := h i hi
  injection e1 with e1
  injection e1 with e1 e2
  subst e1 e2
  rw [add_addr]
  exact h1 j u e
set_option maxRecDepth 100000 in
set_option maxHeartbeats 4000000 in
theorem model_any (A : Option Addr) (n c : Nat) (H : Nat → Hd) (BL : Nat → List (List Nat)) (w : World) (hn : n ≤ 1000000000000000) (hW : ∀ i, i < n → HdW (H i)) (hA : RSd w A n H BL) :
    Calls Try.prog 88 #[.slice A n c] w (ModP w n H) := by
  obtain ⟨S, C, h1, _⟩ := hA
  have HA := Lib.hid h1; have HW := Lib.hid hW
  clear h1 hW
  go_enter Try.func88, Try.ntmps88
  go_wp2
  go_loopg [3, 4, 7] n (fun gk _ _ i wr => ∃ k : Nat, k ≤ n ∧ gk = n - k ∧ i = .int .i64 k ∧ (∀ t, t < k → gone (H t) = true) ∧ Below w.heap.size w wr)
  case atStart => exact ⟨0, Nat.zero_le _, rfl, rfl, fun t ht => absurd ht (by omega), Below.refl _ _⟩
  case round =>
    obtain ⟨k, hk, rfl, rfl, hg, hb⟩ := hrel
    have HG := Lib.hid hg; have HB := Lib.hid hb
    clear hg hb
    by_cases hlt : k < n
    · obtain ⟨b, o, rfl⟩ := HA.out.ex_ hlt
      have HC := Lib.hid ((HA.out.keep HB.out).all hlt)
      have HZW := Lib.hid (HW.out k hlt)
      obtain ⟨Z, hZ⟩ : ∃ Z, Z = H k := ⟨_, rfl⟩
      obtain ⟨A1, hA1⟩ : ∃ A, A = S k := ⟨_, rfl⟩
      obtain ⟨m, hm⟩ : ∃ m, m = (BL k).length := ⟨_, rfl⟩
      obtain ⟨d1, hd1⟩ : ∃ d, d = C k := ⟨_, rfl⟩
      rw [← hZ, ← hA1, ← hm, ← hd1] at HC
      rw [← hZ] at HZW
      have HB2 := Lib.hid (HB.out.trans (((Below.refl wr.heap.size wr).alloc (Nat.le_refl _) (.cells #[.int .u8 Z.s0, .int .u8 Z.s1, .int .u8 Z.s2, .int .u8 Z.s3, .int .u8 Z.s4, .int .u8 Z.s5, .int .u8 Z.s6, .int .u8 Z.s7, .int .i64 Z.K, .int .i64 Z.M, .int .i64 Z.B, .string Z.key, .int .i64 Z.size, .int .i64 Z.idx, .int .i64 Z.ep, .int .i64 Z.ct, .slice A1 m d1] 69)).mono HB.out.size))
      have HZ := Lib.hid hZ
      clear hZ hA1 hm hd1
      by_cases hg : gone Z = true
      · have HEQ := Lib.hid (fun w' => gone_eql HZW.out w')
        rw [hg] at HEQ
        have HGZ := Lib.hid hg
        clear hg
        go_wp2_with (first | (refine wpList_loadAt rfl 69 (.tmp 10) rfl ⟨b, o + k * 17, none⟩ rfl #[.int .u8 Z.s0, .int .u8 Z.s1, .int .u8 Z.s2, .int .u8 Z.s3, .int .u8 Z.s4, .int .u8 Z.s5, .int .u8 Z.s6, .int .u8 Z.s7, .int .i64 Z.K, .int .i64 Z.M, .int .i64 Z.B, .string Z.key, .int .i64 Z.size, .int .i64 Z.idx, .int .i64 Z.ep, .int .i64 Z.ct, .slice A1 m d1] _ HC.out Try.underlying69 rfl info_S ?_) | (refine wpList_storeNewS rfl (.tmp 4) (.tmp 11) rfl #[.int .u8 Z.s0, .int .u8 Z.s1, .int .u8 Z.s2, .int .u8 Z.s3, .int .u8 Z.s4, .int .u8 Z.s5, .int .u8 Z.s6, .int .u8 Z.s7, .int .i64 Z.K, .int .i64 Z.M, .int .i64 Z.B, .string Z.key, .int .i64 Z.size, .int .i64 Z.idx, .int .i64 Z.ep, .int .i64 Z.ct, .slice A1 m d1] rfl rfl rfl rfl rfl ?_) | (refine wpList_neqAgg rfl 24 (.tmp 14) (.tmp 15) rfl #[.int .i64 Z.K, .int .i64 Z.M, .int .i64 Z.B] #[.int .i64 0, .int .i64 0, .int .i64 0] rfl rfl guard_P true (HEQ.out _) ?_))
        go_roundg (n - (k + 1))
        case measure => omega
        case rel => exact ⟨k + 1, by omega, rfl, by go_num, fun t ht => by
          by_cases e : t = k
          · rw [e, ← HZ.out]; exact HGZ.out
          · exact HG.out t (by omega), HB2.out⟩
      · replace hg : gone Z = false := by simpa using hg
        have HEQ := Lib.hid (fun w' => gone_eql HZW.out w')
        rw [hg] at HEQ
        have HGZ := Lib.hid hg
        clear hg
        go_wp2_with (first | (refine wpList_loadAt rfl 69 (.tmp 10) rfl ⟨b, o + k * 17, none⟩ rfl #[.int .u8 Z.s0, .int .u8 Z.s1, .int .u8 Z.s2, .int .u8 Z.s3, .int .u8 Z.s4, .int .u8 Z.s5, .int .u8 Z.s6, .int .u8 Z.s7, .int .i64 Z.K, .int .i64 Z.M, .int .i64 Z.B, .string Z.key, .int .i64 Z.size, .int .i64 Z.idx, .int .i64 Z.ep, .int .i64 Z.ct, .slice A1 m d1] _ HC.out Try.underlying69 rfl info_S ?_) | (refine wpList_storeNewS rfl (.tmp 4) (.tmp 11) rfl #[.int .u8 Z.s0, .int .u8 Z.s1, .int .u8 Z.s2, .int .u8 Z.s3, .int .u8 Z.s4, .int .u8 Z.s5, .int .u8 Z.s6, .int .u8 Z.s7, .int .i64 Z.K, .int .i64 Z.M, .int .i64 Z.B, .string Z.key, .int .i64 Z.size, .int .i64 Z.idx, .int .i64 Z.ep, .int .i64 Z.ct, .slice A1 m d1] rfl rfl rfl rfl rfl ?_) | (refine wpList_neqAgg rfl 24 (.tmp 14) (.tmp 15) rfl #[.int .i64 Z.K, .int .i64 Z.M, .int .i64 Z.B] #[.int .i64 0, .int .i64 0, .int .i64 0] rfl rfl guard_P false (HEQ.out _) ?_))
        go_ret
        exact ⟨HB2.out, .inl ⟨k, hlt, HG.out, by rw [← HZ.out]; exact HGZ.out, rfl⟩⟩
    · obtain rfl : n = k := by omega
      go_wp2
      go_ret
      exact ⟨HB.out, .inr ⟨HG.out, rfl⟩⟩
/-- Have the blocks these lengths? -/
def fitS (K B s : Nat) (BL : List (List Nat)) : Prop := BL.length = nblk (K * B) s ∧ ∀ j, j < BL.length → (BL.getD j []).length = blen K B s j
/-- What fit answers. -/
def FitP (w : World) (K B s : Nat) (BL : List (List Nat)) (e : Ending) (w' : World) : Prop := w = w' ∧ ((fitS K B s BL ∧ e = .returned (.bool true)) ∨ (¬ fitS K B s BL ∧ e = .returned (.bool false)))
set_option maxHeartbeats 1000000 in
theorem fit_any (A As : Option Addr) (nb c cs K B s : Nat) (BL : List (List Nat)) (w : World) (hnb : nb = nblk (K * B) s) (hn : nb ≤ 4096) (hl : BL.length ≤ 1000000000000000) (hA : RLL w A BL) (hS : Rd w As nb (fun j => .int .i64 (blen K B s j : Nat))) (hL : ∀ l ∈ BL, l.length ≤ 1000000000000000) (hlb : ∀ j, j < nb → blen K B s j ≤ 65536) :
    Calls Try.prog 89 #[.slice A BL.length c, .slice As nb cs] w (FitP w K B s BL) := by
  obtain ⟨S, C, h1, _⟩ := hA
  have HA := Lib.hid h1; have HS := Lib.hid hS; have HN := Lib.hid hnb; have HL := Lib.hid hL; have HLB := Lib.hid hlb
  clear h1 hS hnb hL hlb
  obtain ⟨m, hm⟩ : ∃ m, m = BL.length := ⟨_, rfl⟩
  rw [← hm] at HA hl ⊢
  have HM := Lib.hid hm; clear hm
  by_cases hmn : m = nb
  · subst hmn
    go_enter Try.func89, Try.ntmps89
    go_wp2
    go_loopg [5, 6, 14] m (fun gk _ _ i wr => ∃ k : Nat, k ≤ m ∧ gk = m - k ∧ i = .int .i64 k ∧ (∀ t, t < k → (BL.getD t []).length = blen K B s t) ∧ wr = w)
    case atStart => exact ⟨0, Nat.zero_le _, rfl, rfl, fun t ht => absurd ht (by omega), rfl⟩
    case round =>
      obtain ⟨k, hk, rfl, rfl, hg, rfl⟩ := hrel
      have HG := Lib.hid hg
      clear hg
      by_cases hlt : k < m
      · obtain ⟨b1, o1, rfl, _, hc1⟩ := HA.out k hlt
        obtain ⟨b2, o2, rfl, _, hc2⟩ := HS.out k hlt
        obtain ⟨x, hx⟩ : ∃ x, x = (BL.getD k []).length := ⟨_, rfl⟩
        obtain ⟨y, hy⟩ : ∃ y, y = blen K B s k := ⟨_, rfl⟩
        replace hc1 : wr.cell? ⟨b1, o1 + k, none⟩ = some (.slice (S k) x (C k)) := by rw [hx]; exact hc1
        replace hc2 : wr.cell? ⟨b2, o2 + k, none⟩ = some (.int .i64 (y : Nat)) := by rw [hy]; exact hc2
        have hxl : x ≤ 1000000000000000 := by rw [hx]; exact HL.out _ (getD_memL (by rw [← HM.out]; exact hlt))
        have hyl : y ≤ 65536 := by rw [hy]; exact HLB.out k hlt
        have HX := Lib.hid hx; have HY := Lib.hid hy
        clear hx hy
        by_cases hxy : x = y
        · have HXY := Lib.hid hxy
          have t1 : ((x : Int) != (y : Int)) = false := by rw [bne_eq_false_iff_eq]; omega
          clear hxy
          go_wp2
          go_roundg (m - (k + 1))
          case measure => omega
          case rel => exact ⟨k + 1, by omega, rfl, by go_num, fun t ht => by
            by_cases e : t = k
            · rw [e, ← HX.out, ← HY.out]; exact HXY.out
            · exact HG.out t (by omega), rfl⟩
        · have HXY := Lib.hid hxy
          have t1 : ((x : Int) != (y : Int)) = true := by rw [bne_iff_ne]; omega
          clear hxy
          go_wp2
          go_ret
          exact ⟨rfl, .inr ⟨fun h => HXY.out (by rw [HX.out, HY.out]; exact h.2 k (by rw [← HM.out]; exact hlt)), rfl⟩⟩
      · obtain rfl : m = k := by omega
        go_wp2
        go_ret
        exact ⟨rfl, .inl ⟨⟨by rw [← HM.out]; exact HN.out, fun j hj => HG.out j (by rw [HM.out]; exact hj)⟩, rfl⟩⟩
  · have t1 : ((m : Int) != (nb : Int)) = true := by rw [bne_iff_ne]; omega
    have HMN := Lib.hid hmn
    clear hmn
    go_enter Try.func89, Try.ntmps89
    go_wp2
    go_ret
    exact ⟨rfl, .inr ⟨fun h => HMN.out (by rw [HM.out, HN.out]; exact h.1), rfl⟩⟩
end Go.Proofs.Ytjaaldandgfkgaa

/- look: the walk. Conditions: shards that memory bears. -/
namespace Go.Proofs.Ytjaaldandgfkgaa
open Go.RowKit

/-- Is the shard missing, or as it should be? -/
def okS (Z : Hd) (H : Nat → Hd) (BL : Nat → List (List Nat)) (t : Nat) : Prop := gone (H t) = true ∨ (H t = { Z with idx := (t : Int) } ∧ fitS Z.K.toNat Z.B.toNat Z.size.toNat (BL t))
/-- How many stand. -/
def cntG (H : Nat → Hd) : Nat → Nat
  | 0 => 0
  | k + 1 => cntG H k + if gone (H k) = true then 0 else 1
theorem cntG_le (H : Nat → Hd) : ∀ k, cntG H k ≤ k
  | 0 => Nat.le_refl _
  | k + 1 => by have := cntG_le H k; unfold cntG; split <;> omega
/-- look's error, the model being Z. -/
def LookZ (n : Nat) (H : Nat → Hd) (BL : Nat → List (List Nat)) (Z : Hd) (er : Int) : Prop :=
  (checkE Z ≠ 0 ∧ er = checkE Z) ∨ (checkE Z = 0 ∧ n ≠ shN Z ∧ er = 40) ∨
  (checkE Z = 0 ∧ n = shN Z ∧ ∃ t, t < n ∧ (∀ u, u < t → okS Z H BL u) ∧ gone (H t) = false ∧ ((H t ≠ { Z with idx := (t : Int) } ∧ er = 100) ∨ (H t = { Z with idx := (t : Int) } ∧ ¬ fitS Z.K.toNat Z.B.toNat Z.size.toNat (BL t) ∧ er = 41))) ∨
  (checkE Z = 0 ∧ n = shN Z ∧ (∀ u, u < n → okS Z H BL u) ∧ cntG H n < Z.K.toNat ∧ er = 42) ∨
  (checkE Z = 0 ∧ n = shN Z ∧ (∀ u, u < n → okS Z H BL u) ∧ Z.K.toNat ≤ cntG H n ∧ er = 0)
/-- The first shard that is not missing. -/
def FstS (n : Nat) (H : Nat → Hd) (k : Nat) : Prop := k < n ∧ (∀ t, t < k → gone (H t) = true) ∧ gone (H k) = false
def LookE (n : Nat) (H : Nat → Hd) (BL : Nat → List (List Nat)) (er : Int) : Prop :=
  ((∀ t, t < n → gone (H t) = true) ∧ er = 42) ∨ ∃ k, FstS n H k ∧ LookZ n H BL (H k) er
theorem FstS.uniq {n k k' : Nat} {H : Nat → Hd} (h : FstS n H k) (h' : FstS n H k') : k = k' := by
  rcases Nat.lt_trichotomy k k' with h1 | h1 | h1
  · have := h'.2.1 k h1; rw [h.2.2] at this; cases this
  · exact h1
  · have := h.2.1 k' h1; rw [h'.2.2] at this; cases this
theorem LookZ.uniq {n : Nat} {H : Nat → Hd} {BL : Nat → List (List Nat)} {Z : Hd} {er er' : Int} (h : LookZ n H BL Z er) (h' : LookZ n H BL Z er') : er = er' := by
  have bad : ∀ {t : Nat} {x : Int}, okS Z H BL t → gone (H t) = false → ((H t ≠ { Z with idx := (t : Int) } ∧ x = 100) ∨ (H t = { Z with idx := (t : Int) } ∧ ¬ fitS Z.K.toNat Z.B.toNat Z.size.toNat (BL t) ∧ x = 41)) → False := fun h1 h2 h3 => by
    rcases h1 with h1 | ⟨h1, h1'⟩
    · rw [h2] at h1; cases h1
    · rcases h3 with ⟨h3, _⟩ | ⟨_, h3, _⟩
      · exact h3 h1
      · exact h3 h1'
  rcases h with ⟨a, e⟩ | ⟨a, b, e⟩ | ⟨a, b, t, ht, hu, hg, hc⟩ | ⟨a, b, c, d, e⟩ | ⟨a, b, c, d, e⟩ <;> rcases h' with ⟨a', e'⟩ | ⟨a', b', e'⟩ | ⟨a', b', t', ht', hu', hg', hc'⟩ | ⟨a', b', c', d', e'⟩ | ⟨a', b', c', d', e'⟩
  all_goals first
    | exact absurd a a'
    | exact absurd a' a
    | exact absurd b b'
    | exact absurd b' b
    | (rw [e, e']; done)
    | omega
    | exact (bad (c' _ ht) hg hc).elim
    | exact (bad (c _ ht') hg' hc').elim
    | skip
  have : t = t' := by
    rcases Nat.lt_trichotomy t t' with h1 | h1 | h1
    · exact (bad (hu' t h1) hg hc).elim
    · exact h1
    · exact (bad (hu t' h1) hg' hc').elim
  subst this
  rcases hc with ⟨h1, e⟩ | ⟨h1, h2, e⟩ <;> rcases hc' with ⟨h1', e'⟩ | ⟨h1', h2', e'⟩
  · rw [e, e']
  · exact absurd h1' h1
  · exact absurd h1 h1'
  · rw [e, e']
theorem LookE.uniq {n : Nat} {H : Nat → Hd} {BL : Nat → List (List Nat)} {er er' : Int} (h : LookE n H BL er) (h' : LookE n H BL er') : er = er' := by
  rcases h with ⟨a, e⟩ | ⟨k, hk, hz⟩ <;> rcases h' with ⟨a', e'⟩ | ⟨k', hk', hz'⟩
  · rw [e, e']
  · have := a k' hk'.1; rw [hk'.2.2] at this; cases this
  · have := a' k hk.1; rw [hk.2.2] at this; cases this
  · have := hk.uniq hk'
    subst this
    exact hz.uniq hz'
/-- What look answers. -/
def LookPost (w : World) (n : Nat) (H : Nat → Hd) (BL : Nat → List (List Nat)) (e : Ending) (w' : World) : Prop :=
  Below w.heap.size w w' ∧ ((∃ er : Int, er ≠ 0 ∧ LookE n H BL er ∧ e = .returned (.tuple #[.agg #[.int .u8 0, .int .u8 0, .int .u8 0, .int .u8 0, .int .u8 0, .int .u8 0, .int .u8 0, .int .u8 0, .int .i64 0, .int .i64 0, .int .i64 0, .string ⟨#[]⟩, .int .i64 0, .int .i64 0, .int .i64 0, .int .i64 0], .slice none 0 0, .int .i64 er])) ∨
    (LookE n H BL 0 ∧ ∃ (k : Nat) (Z : Hd) (x : Int) (As : Option Addr) (cs : Nat), FstS n H k ∧ Z = H k ∧ e = .returned (.tuple #[.agg #[.int .u8 Z.s0, .int .u8 Z.s1, .int .u8 Z.s2, .int .u8 Z.s3, .int .u8 Z.s4, .int .u8 Z.s5, .int .u8 Z.s6, .int .u8 Z.s7, .int .i64 Z.K, .int .i64 Z.M, .int .i64 Z.B, .string Z.key, .int .i64 Z.size, .int .i64 x, .int .i64 Z.ep, .int .i64 Z.ct], .slice As (nblk (Z.K.toNat * Z.B.toNat) Z.size.toNat) cs, .int .i64 0]) ∧ Rd w' As (nblk (Z.K.toNat * Z.B.toNat) Z.size.toNat) (fun j => .int .i64 (blen Z.K.toNat Z.B.toNat Z.size.toNat j : Nat)) ∧ nblk (Z.K.toNat * Z.B.toNat) Z.size.toNat ≤ cs ∧ cs ≤ maxLen))
theorem head_ne {h k : Hd} (H : HdW h) (K : HdW k) (hne : h ≠ k) (w : World) : (Op.equalIn 10000 42 (HdV h) (HdV k)).run Try.prog w = .ok false w := by
  obtain ⟨r, hr, e⟩ := head_eql H K w
  cases r
  · exact hr
  · exact absurd (e.1 rfl) hne
theorem blk_cells {w : World} {g t : Nat} {cs : Array Value} (h : w.heap[g]? = some (.cells cs t (0, 0))) : ∀ j v, cs.toList[j]? = some v → w.cell? ((⟨g, 0, none⟩ : Addr).add j) = some v := fun j v e => by
  rw [add_zero_addr, cell_of_row w g j cs t (0, 0) h]
  simpa using e
theorem hdw_idx {h : Hd} (H : HdW h) (i : Nat) (hi : i ≤ 1000000) : HdW { h with idx := (i : Int) } := by
  obtain ⟨w0, w1, w2, w3, w4, w5, w6, w7, w8, w9, w10, w11, w12, w13, w14, w15⟩ := H
  exact ⟨w0, w1, w2, w3, w4, w5, w6, w7, w8, w9, w10, w11, (show (Lit.int .i64 (i : Int)).wf = true by simp [Lit.wf, IntKind.min, IntKind.max, IntKind.signed, IntKind.bits]; omega), w13, w14, w15⟩
theorem fsizes_lo (K M B s : Nat) (w : World) (h : sizeE K M B s = 0) :
    Calls Try.prog 47 #[.agg #[.int .i64 K, .int .i64 M, .int .i64 B], .int .i64 s] w fun e w' => ∃ A c, e = .returned (.tuple #[.slice A (nblk (K * B) s) c, .int .i64 0]) ∧ Rd w' A (nblk (K * B) s) (fun j => .int .i64 (blen K B s j : Nat)) ∧ Below w.heap.size w w' ∧ nblk (K * B) s ≤ c ∧ c ≤ maxLen ∧ ∀ b o, A = some ⟨b, o, none⟩ → w.heap.size ≤ b := by
  refine (fsizes_all K M B s w).mono ?_
  rintro e w' ⟨v, rfl, hO, hb⟩
  have hn : sizeN (K : Int) (M : Int) (B : Int) (s : Int) = nblk (K * B) s := by unfold sizeN; rw [if_pos h]; rfl
  rw [hn] at hO
  obtain ⟨A, c, rfl, hc, hm, hr, hlo⟩ := hO.rd
  exact ⟨A, c, by rw [h], hr, hb, hc, hm, hlo⟩
theorem Rd.keepBt {w w' : World} {g : Nat} {A : Option Addr} {n : Nat} {f : Nat → Value} (h : Rd w A n f) (hb : Bt w w' g g) (hlo : ∀ b o, A = some ⟨b, o, none⟩ → g < b) : Rd w' A n f := fun i hi => by
  obtain ⟨b, o, e, hlt, hc⟩ := h i hi
  have := hlo b o e
  have hs := hb.size
  exact ⟨b, o, e, by omega, by rw [World.cell?_of_block (hb.block b hlt (by omega) (by omega))]; exact hc⟩
theorem Rd.keepRow {w w' : World} {g : Nat} {A : Option Addr} {n : Nat} {f : Nat → Value} (h : Rd w A n f) (hb : w.grownBy w' (some g)) (hlo : ∀ b o, A = some ⟨b, o, none⟩ → b ≠ g) : Rd w' A n f := fun i hi => by
  obtain ⟨b, o, e, hlt, hc⟩ := h i hi
  have := hlo b o e
  have hs := hb.size
  exact ⟨b, o, e, by omega, by rw [World.cell?_of_block (hb.block b hlt (fun e => by injection e with e; omega))]; exact hc⟩
set_option maxRecDepth 100000 in
set_option maxHeartbeats 8000000 in
theorem look_any (A : Option Addr) (n c : Nat) (H : Nat → Hd) (BL : Nat → List (List Nat)) (w : World) (hn : n ≤ 1000000000000000) (hW : ∀ i, i < n → HdW (H i)) (hA : RSd w A n H BL) (hL : ∀ i, i < n → (BL i).length ≤ 1000000000000000) (hLL : ∀ i, i < n → ∀ l ∈ BL i, l.length ≤ 1000000000000000) :
    Calls Try.prog 62 #[.slice A n c] w (LookPost w n H BL) := by
  have HB0 := Lib.hid ((Below.refl w.heap.size w).alloc (Nat.le_refl _) (.cells #[.int .u8 0, .int .u8 0, .int .u8 0, .int .u8 0, .int .u8 0, .int .u8 0, .int .u8 0, .int .u8 0, .int .i64 0, .int .i64 0, .int .i64 0, .string ⟨#[]⟩, .int .i64 0, .int .i64 0, .int .i64 0, .int .i64 0] 42))
  have HG0 := Lib.hid (heap_alloc_new w (.cells #[.int .u8 0, .int .u8 0, .int .u8 0, .int .u8 0, .int .u8 0, .int .u8 0, .int .u8 0, .int .u8 0, .int .i64 0, .int .i64 0, .int .i64 0, .string ⟨#[]⟩, .int .i64 0, .int .i64 0, .int .i64 0, .int .i64 0] 42))
  have HA := Lib.hid hA; have HW := Lib.hid hW; have HL := Lib.hid hL; have HLL := Lib.hid hLL
  clear hA hW hL hLL
  obtain ⟨g0, hg0⟩ : ∃ g0, g0 = w.heap.size := ⟨_, rfl⟩
  go_enter Try.func62, Try.ntmps62
  go_wp2_with fail
  refine (model_any A n c H BL _ hn HW.out (HA.out.below HB0.out)).mono ?_
  rintro e w1 ⟨hb1, hm⟩
  have HB1 : Hid (Below w.heap.size w w1) := Lib.hid (HB0.out.trans (hb1.mono HB0.out.size))
  have HE1 : Hid (w1.heap[g0]? = some (.cells #[.int .u8 0, .int .u8 0, .int .u8 0, .int .u8 0, .int .u8 0, .int .u8 0, .int .u8 0, .int .u8 0, .int .i64 0, .int .i64 0, .int .i64 0, .string ⟨#[]⟩, .int .i64 0, .int .i64 0, .int .i64 0, .int .i64 0] 42 (0, 0))) := Lib.hid (by rw [hg0]; exact (hb1.block _ (by simp)).trans HG0.out)
  have hz1 : g0 < w1.heap.size := by have := hb1.size; rw [hg0]; simp at this; omega
  have HGE := Lib.hid hg0
  rw [← hg0]
  clear hb1 hg0 HG0 HB0
  rcases hm with ⟨k0, hk0, hg, hgz, rfl⟩ | ⟨hg, rfl⟩
  · have HF : Hid (FstS n H k0) := Lib.hid ⟨hk0, hg, hgz⟩
    have hA1 := HA.out.below HB1.out
    obtain ⟨S, C, hC1, hR1⟩ := hA1
    obtain ⟨b, o, rfl⟩ := hC1.ex_ hk0
    obtain ⟨Z, hZ⟩ : ∃ Z, Z = H k0 := ⟨_, rfl⟩
    have hcz := hC1.head hk0
    have HCZ : Hid (∀ j v, (#[.int .u8 Z.s0, .int .u8 Z.s1, .int .u8 Z.s2, .int .u8 Z.s3, .int .u8 Z.s4, .int .u8 Z.s5, .int .u8 Z.s6, .int .u8 Z.s7, .int .i64 Z.K, .int .i64 Z.M, .int .i64 Z.B, .string Z.key, .int .i64 Z.size, .int .i64 Z.idx, .int .i64 Z.ep, .int .i64 Z.ct] : Array Value).toList[j]? = some v → w1.cell? ((⟨b, o + k0 * 17, none⟩ : Addr).add j) = some v) := Lib.hid (by rw [hZ]; exact hcz)
    have HZ := Lib.hid hZ
    have HC1 := Lib.hid hC1; have HR1 := Lib.hid hR1
    clear hC1 hR1 hcz hg hgz hZ
    go_wp2_with (first | (refine wpList_loadAt rfl 42 (.tmp 20) rfl ⟨b, o + k0 * 17, none⟩ rfl #[.int .u8 Z.s0, .int .u8 Z.s1, .int .u8 Z.s2, .int .u8 Z.s3, .int .u8 Z.s4, .int .u8 Z.s5, .int .u8 Z.s6, .int .u8 Z.s7, .int .i64 Z.K, .int .i64 Z.M, .int .i64 Z.B, .string Z.key, .int .i64 Z.size, .int .i64 Z.idx, .int .i64 Z.ep, .int .i64 Z.ct] _ HCZ.out Try.underlying42 rfl info_H ?_) | (refine wpList_storeNewH rfl (.tmp 6) (.tmp 21) rfl #[.int .u8 Z.s0, .int .u8 Z.s1, .int .u8 Z.s2, .int .u8 Z.s3, .int .u8 Z.s4, .int .u8 Z.s5, .int .u8 Z.s6, .int .u8 Z.s7, .int .i64 Z.K, .int .i64 Z.M, .int .i64 Z.B, .string Z.key, .int .i64 Z.size, .int .i64 Z.idx, .int .i64 Z.ep, .int .i64 Z.ct] rfl rfl rfl rfl rfl ?_) | (refine wpList_loadH rfl (.tmp 6) rfl w1.heap.size rfl #[.int .u8 Z.s0, .int .u8 Z.s1, .int .u8 Z.s2, .int .u8 Z.s3, .int .u8 Z.s4, .int .u8 Z.s5, .int .u8 Z.s6, .int .u8 Z.s7, .int .i64 Z.K, .int .i64 Z.M, .int .i64 Z.B, .string Z.key, .int .i64 Z.size, .int .i64 Z.idx, .int .i64 Z.ep, .int .i64 Z.ct] rfl (heap_alloc_new w1 _) ?_))
    refine (fcheck_any Z _).mono ?_
    rintro e w2 ⟨rfl, hb2⟩
    obtain ⟨gb, hgb⟩ : ∃ gb, gb = w1.heap.size := ⟨_, rfl⟩
    have HBA := Lib.hid ((Below.refl w1.heap.size w1).alloc (Nat.le_refl _) (.cells #[.int .u8 Z.s0, .int .u8 Z.s1, .int .u8 Z.s2, .int .u8 Z.s3, .int .u8 Z.s4, .int .u8 Z.s5, .int .u8 Z.s6, .int .u8 Z.s7, .int .i64 Z.K, .int .i64 Z.M, .int .i64 Z.B, .string Z.key, .int .i64 Z.size, .int .i64 Z.idx, .int .i64 Z.ep, .int .i64 Z.ct] 42))
    have HB12 : Hid (Below w1.heap.size w1 w2) := Lib.hid (HBA.out.trans (hb2.mono HBA.out.size))
    have HB2 : Hid (Below w.heap.size w w2) := Lib.hid (HB1.out.trans (HB12.out.mono HB1.out.size))
    have HE2 : Hid (w2.heap[g0]? = some (.cells #[.int .u8 0, .int .u8 0, .int .u8 0, .int .u8 0, .int .u8 0, .int .u8 0, .int .u8 0, .int .u8 0, .int .i64 0, .int .i64 0, .int .i64 0, .string ⟨#[]⟩, .int .i64 0, .int .i64 0, .int .i64 0, .int .i64 0] 42 (0, 0))) := Lib.hid ((HB12.out.block _ hz1).trans HE1.out)
    have HH2 : Hid (w2.heap[gb]? = some (.cells #[.int .u8 Z.s0, .int .u8 Z.s1, .int .u8 Z.s2, .int .u8 Z.s3, .int .u8 Z.s4, .int .u8 Z.s5, .int .u8 Z.s6, .int .u8 Z.s7, .int .i64 Z.K, .int .i64 Z.M, .int .i64 Z.B, .string Z.key, .int .i64 Z.size, .int .i64 Z.idx, .int .i64 Z.ep, .int .i64 Z.ct] 42 (0, 0))) := Lib.hid (by rw [hgb]; exact (hb2.block _ (by simp)).trans (heap_alloc_new w1 _))
    have hz2 : gb < w2.heap.size := by have := hb2.size; rw [hgb]; simp at this; omega
    have hgg : g0 < gb := by rw [hgb]; exact hz1
    have HZW : Hid (HdW Z) := Lib.hid (by rw [HZ.out]; exact HW.out k0 hk0)
    rw [← hgb]
    have HGB := Lib.hid hgb
    clear hb2 hgb HBA HE1 HCZ
    by_cases hE : checkE Z = 0
    · rw [hE]
      obtain ⟨⟨m1, m2, m3, m4, m5, m6⟩, _, _, zE, _⟩ := check_facts hE
      obtain ⟨K, hK⟩ : ∃ K : Nat, Z.K = (K : Int) := ⟨Z.K.toNat, by omega⟩
      obtain ⟨M, hM⟩ : ∃ M : Nat, Z.M = (M : Int) := ⟨Z.M.toNat, by omega⟩
      obtain ⟨Bk, hBk⟩ : ∃ Bk : Nat, Z.B = (Bk : Int) := ⟨Z.B.toNat, by omega⟩
      obtain ⟨s, hs⟩ : ∃ s : Nat, Z.size = (s : Int) := ⟨Z.size.toNat, by have := (size_facts zE).1; omega⟩
      have hls : s ≤ 1048576 := by have := (size_facts zE).2.1; omega
      have hz3 : sizeE (K : Int) (M : Int) (Bk : Int) (s : Int) = 0 := by rw [← hK, ← hM, ← hBk, ← hs]; exact zE
      obtain ⟨nb, hnb⟩ : ∃ nb : Nat, nb = nblk (K * Bk) s := ⟨_, rfl⟩
      have hnb4 : nb ≤ 4096 := by
        have := sizeN_le (K : Int) (M : Int) (Bk : Int) (s : Int)
        unfold sizeN at this
        rw [if_pos hz3] at this
        rw [hnb]; exact this
      have hsh : shN Z = K + M := by unfold shN; omega
      rw [hK] at m2 m3 m4; rw [hM] at m1 m2 m4; rw [hBk] at m5 m6
      have HE := Lib.hid hE; have HK := Lib.hid hK; have HM := Lib.hid hM; have HBk := Lib.hid hBk; have HS := Lib.hid hs; have HZ3 := Lib.hid hz3; have HNB := Lib.hid hnb; have HSH := Lib.hid hsh
      clear hE hK hM hBk hs hz3 hnb zE hsh
      have cK : w2.cell? ⟨gb, 8, none⟩ = some (.int .i64 (K : Int)) := by rw [← HK.out]; exact blk_cell HH2.out rfl
      have cM : w2.cell? ⟨gb, 9, none⟩ = some (.int .i64 (M : Int)) := by rw [← HM.out]; exact blk_cell HH2.out rfl
      by_cases hnn : n = K + M
      · have t1 : ((n : Int) != (K : Int) + (M : Int)) = false := by rw [bne_eq_false_iff_eq]; omega
        have HNN := Lib.hid hnn
        have hn5 : n ≤ 255 := by omega
        have cB : w2.cell? ⟨gb, 10, none⟩ = some (.int .i64 (Bk : Int)) := by rw [← HBk.out]; exact blk_cell HH2.out rfl
        have cS : w2.cell? ⟨gb, 12, none⟩ = some (.int .i64 (s : Int)) := by rw [← HS.out]; exact blk_cell HH2.out rfl
        clear hnn
        go_wp2_with fail
        refine (fsizes_lo K M Bk s _ HZ3.out).mono ?_
        rintro e w3 ⟨As, cs, rfl, hRs, hb3, hcs1, hcs2, hlo⟩
        rw [← HNB.out] at hRs hcs1 ⊢
        unfold maxLen at hcs2
        have HRS := Lib.hid hRs
        have HRB : Hid (∀ b o, As = some ⟨b, o, none⟩ → gb < b) := Lib.hid fun b o e => by have := hlo b o e; omega
        have HE3 : Hid (w3.heap[g0]? = some (.cells #[.int .u8 0, .int .u8 0, .int .u8 0, .int .u8 0, .int .u8 0, .int .u8 0, .int .u8 0, .int .u8 0, .int .i64 0, .int .i64 0, .int .i64 0, .string ⟨#[]⟩, .int .i64 0, .int .i64 0, .int .i64 0, .int .i64 0] 42 (0, 0))) := Lib.hid ((hb3.block _ (by omega)).trans HE2.out)
        have HH3 : Hid (w3.heap[gb]? = some (.cells #[.int .u8 Z.s0, .int .u8 Z.s1, .int .u8 Z.s2, .int .u8 Z.s3, .int .u8 Z.s4, .int .u8 Z.s5, .int .u8 Z.s6, .int .u8 Z.s7, .int .i64 Z.K, .int .i64 Z.M, .int .i64 Z.B, .string Z.key, .int .i64 Z.size, .int .i64 Z.idx, .int .i64 Z.ep, .int .i64 Z.ct] 42 (0, 0))) := Lib.hid ((hb3.block _ hz2).trans HH2.out)
        have HB13 : Hid (Below w1.heap.size w1 w3) := Lib.hid (HB12.out.trans (hb3.mono HB12.out.size))
        have HB23 := Lib.hid hb3
        have hz4 : gb < w3.heap.size := Nat.lt_of_lt_of_le hz2 hb3.size
        clear cK cM cB cS hRs hb3 t1 HE2 HH2 hlo
        go_wp2
        go_loopg [10, 11, 49] n (fun gk t10 _ i wr => ∃ (k : Nat) (x : Int), k ≤ n ∧ gk = n - k ∧ i = .int .i64 k ∧ t10 = .int .i64 (cntG H k : Nat) ∧ (∀ t, t < k → okS Z H BL t) ∧ wr.heap[gb]? = some (.cells #[.int .u8 Z.s0, .int .u8 Z.s1, .int .u8 Z.s2, .int .u8 Z.s3, .int .u8 Z.s4, .int .u8 Z.s5, .int .u8 Z.s6, .int .u8 Z.s7, .int .i64 Z.K, .int .i64 Z.M, .int .i64 Z.B, .string Z.key, .int .i64 Z.size, .int .i64 x, .int .i64 Z.ep, .int .i64 Z.ct] 42 (0, 0)) ∧ Bt w3 wr gb gb)
        case atStart => exact ⟨0, Z.idx, Nat.zero_le _, rfl, rfl, rfl, fun t ht => absurd ht (by omega), HH3.out, Bt.refl _ _ _⟩
        case round =>
          clear HH3
          obtain ⟨k, x, hk, rfl, rfl, rfl, hok, hbx, hbt⟩ := hrel
          have HOK := Lib.hid hok; have HBX := Lib.hid hbx; have HBT := Lib.hid hbt
          have HBW : Hid (Below w1.heap.size w1 wr) := Lib.hid (HB13.out.trans (hbt.below (Nat.le_of_eq HGB.out.symm) (Nat.le_of_eq HGB.out.symm) HB13.out.size))
          have HER : Hid (wr.heap[g0]? = some (.cells #[.int .u8 0, .int .u8 0, .int .u8 0, .int .u8 0, .int .u8 0, .int .u8 0, .int .u8 0, .int .u8 0, .int .i64 0, .int .i64 0, .int .i64 0, .string ⟨#[]⟩, .int .i64 0, .int .i64 0, .int .i64 0, .int .i64 0] 42 (0, 0))) := Lib.hid ((hbt.block g0 (by omega) (by omega) (by omega)).trans HE3.out)
          have HBL : Hid (Below w.heap.size w wr) := Lib.hid (HB1.out.trans (HBW.out.mono HB1.out.size))
          have hzr : gb < wr.heap.size := Nat.lt_of_lt_of_le hz4 hbt.size
          have hcn := cntG_le H k
          clear hok hbt
          by_cases hlt : k < n
          · obtain ⟨Y, hY⟩ : ∃ Y, Y = H k := ⟨_, rfl⟩
            have HYW : Hid (HdW Y) := Lib.hid (by rw [hY]; exact HW.out k hlt)
            have hRY := HC1.out.keep HBW.out
            have c8 : wr.cell? ⟨b, o + k * 17 + 8, none⟩ = some (.int .i64 Y.K) := by rw [hY]; exact (add_addr b (o + k * 17) 8) ▸ hRY.head hlt 8 _ rfl
            have c9 : wr.cell? ⟨b, o + k * 17 + 9, none⟩ = some (.int .i64 Y.M) := by rw [hY]; exact (add_addr b (o + k * 17) 9) ▸ hRY.head hlt 9 _ rfl
            have c10 : wr.cell? ⟨b, o + k * 17 + 10, none⟩ = some (.int .i64 Y.B) := by rw [hY]; exact (add_addr b (o + k * 17) 10) ▸ hRY.head hlt 10 _ rfl
            have HRY := Lib.hid hRY
            have HY := Lib.hid hY
            clear hRY hY
            by_cases hg : gone Y = true
            · have HGE' := Lib.hid (fun w' => gone_eql HYW.out w')
              rw [hg] at HGE'
              have HGZ := Lib.hid hg
              have HCN : Hid (cntG H (k + 1) = cntG H k) := Lib.hid (by show cntG H k + _ = _; rw [if_pos (by rw [← HY.out]; exact HGZ.out)]; rfl)
              clear hg hbx
              go_wp2_with (refine wpList_eqlAgg rfl 24 (.tmp 57) (.tmp 58) rfl #[.int .i64 Y.K, .int .i64 Y.M, .int .i64 Y.B] #[.int .i64 0, .int .i64 0, .int .i64 0] rfl rfl guard_P true (HGE'.out _) ?_)
              go_roundg (n - (k + 1))
              case measure => omega
              case rel => exact ⟨k + 1, x, by omega, rfl, by go_num, by rw [HCN.out], fun t ht => by
                by_cases e : t = k
                · rw [e]; exact .inl (by rw [← HY.out]; exact HGZ.out)
                · exact HOK.out t (by omega), HBX.out, HBT.out⟩
            · replace hg : gone Y = false := by simpa using hg
              have HGE' := Lib.hid (fun w' => gone_eql HYW.out w')
              rw [hg] at HGE'
              have HGZ := Lib.hid hg
              have HCN : Hid (cntG H (k + 1) = cntG H k + 1) := Lib.hid (by show cntG H k + _ = _; rw [if_neg (by rw [← HY.out, HGZ.out]; decide)])
              have c13 : wr.cell? ⟨gb, 13, none⟩ = some (.int .i64 x) := blk_cell hbx rfl
              have f13 : wr.frozen? ⟨gb, 13, none⟩ = false := by simp [World.frozen?, hbx]
              obtain ⟨W, hW⟩ : ∃ W, W = wr.setCell ⟨gb, 13, none⟩ (.int .i64 (k : Int)) := ⟨_, rfl⟩
              have HWB : Hid (W.heap[gb]? = some (.cells #[.int .u8 Z.s0, .int .u8 Z.s1, .int .u8 Z.s2, .int .u8 Z.s3, .int .u8 Z.s4, .int .u8 Z.s5, .int .u8 Z.s6, .int .u8 Z.s7, .int .i64 Z.K, .int .i64 Z.M, .int .i64 Z.B, .string Z.key, .int .i64 Z.size, .int .i64 (k : Int), .int .i64 Z.ep, .int .i64 Z.ct] 42 (0, 0))) := Lib.hid (by rw [hW]; exact heap_setCell_same wr gb 13 _ 42 _ hbx)
              have HWT : Hid (Bt w3 W gb gb) := Lib.hid (by rw [hW]; exact HBT.out.set (.inl rfl) _)
              have HWE : Hid (W.heap[g0]? = some (.cells #[.int .u8 0, .int .u8 0, .int .u8 0, .int .u8 0, .int .u8 0, .int .u8 0, .int .u8 0, .int .u8 0, .int .i64 0, .int .i64 0, .int .i64 0, .string ⟨#[]⟩, .int .i64 0, .int .i64 0, .int .i64 0, .int .i64 0] 42 (0, 0))) := Lib.hid ((HWT.out.block g0 (by omega) (by omega) (by omega)).trans HE3.out)
              have HWW : Hid (Below w1.heap.size w1 W) := Lib.hid (HB13.out.trans (HWT.out.below (Nat.le_of_eq HGB.out.symm) (Nat.le_of_eq HGB.out.symm) HB13.out.size))
              have hzW : gb < W.heap.size := Nat.lt_of_lt_of_le hz4 HWT.out.size
              have HRW := Lib.hid (HC1.out.keep HWW.out)
              have HCY : Hid (∀ w', Below W.heap.size W w' → ∀ j v, (#[.int .u8 Y.s0, .int .u8 Y.s1, .int .u8 Y.s2, .int .u8 Y.s3, .int .u8 Y.s4, .int .u8 Y.s5, .int .u8 Y.s6, .int .u8 Y.s7, .int .i64 Y.K, .int .i64 Y.M, .int .i64 Y.B, .string Y.key, .int .i64 Y.size, .int .i64 Y.idx, .int .i64 Y.ep, .int .i64 Y.ct] : Array Value).toList[j]? = some v → w'.cell? ((⟨b, o + k * 17, none⟩ : Addr).add j) = some v) := Lib.hid fun w' hb => by
                rw [HY.out]; exact (HRW.out.keep hb).head hlt
              have HCB : Hid (∀ w', Below W.heap.size W w' → ∀ j v, (#[.int .u8 Z.s0, .int .u8 Z.s1, .int .u8 Z.s2, .int .u8 Z.s3, .int .u8 Z.s4, .int .u8 Z.s5, .int .u8 Z.s6, .int .u8 Z.s7, .int .i64 Z.K, .int .i64 Z.M, .int .i64 Z.B, .string Z.key, .int .i64 Z.size, .int .i64 (k : Int), .int .i64 Z.ep, .int .i64 Z.ct] : Array Value).toList[j]? = some v → w'.cell? ((⟨gb, 0, none⟩ : Addr).add j) = some v) := Lib.hid fun w' hb => blk_cells ((hb.block gb hzW).trans HWB.out)
              have HZK := Lib.hid (hdw_idx HZW.out k (by omega))
              clear hg
              go_wp2_with (refine wpList_eqlAgg rfl 24 (.tmp 57) (.tmp 58) rfl #[.int .i64 Y.K, .int .i64 Y.M, .int .i64 Y.B] #[.int .i64 0, .int .i64 0, .int .i64 0] rfl rfl guard_P false (HGE'.out _) ?_)
              rw [← hW]
              have HWX := Lib.hid hW
              clear hW c13 f13 c8 c9 c10 hbx
              have hlt0 : (k : Int) < (n : Int) := by omega
              by_cases heq : Y = { Z with idx := (k : Int) }
              · have HEQ : Hid (∀ w', (Op.equalIn 10000 42 (.agg #[.int .u8 Y.s0, .int .u8 Y.s1, .int .u8 Y.s2, .int .u8 Y.s3, .int .u8 Y.s4, .int .u8 Y.s5, .int .u8 Y.s6, .int .u8 Y.s7, .int .i64 Y.K, .int .i64 Y.M, .int .i64 Y.B, .string Y.key, .int .i64 Y.size, .int .i64 Y.idx, .int .i64 Y.ep, .int .i64 Y.ct]) (.agg #[.int .u8 Z.s0, .int .u8 Z.s1, .int .u8 Z.s2, .int .u8 Z.s3, .int .u8 Z.s4, .int .u8 Z.s5, .int .u8 Z.s6, .int .u8 Z.s7, .int .i64 Z.K, .int .i64 Z.M, .int .i64 Z.B, .string Z.key, .int .i64 Z.size, .int .i64 (k : Int), .int .i64 Z.ep, .int .i64 Z.ct])).run Try.prog w' = .ok true w') := Lib.hid fun w' => by
                  show (Op.equalIn 10000 42 (HdV Y) (.agg #[.int .u8 Z.s0, .int .u8 Z.s1, .int .u8 Z.s2, .int .u8 Z.s3, .int .u8 Z.s4, .int .u8 Z.s5, .int .u8 Z.s6, .int .u8 Z.s7, .int .i64 Z.K, .int .i64 Z.M, .int .i64 Z.B, .string Z.key, .int .i64 Z.size, .int .i64 (k : Int), .int .i64 Z.ep, .int .i64 Z.ct])).run Try.prog w' = .ok true w'
                  rw [show (.agg #[.int .u8 Z.s0, .int .u8 Z.s1, .int .u8 Z.s2, .int .u8 Z.s3, .int .u8 Z.s4, .int .u8 Z.s5, .int .u8 Z.s6, .int .u8 Z.s7, .int .i64 Z.K, .int .i64 Z.M, .int .i64 Z.B, .string Z.key, .int .i64 Z.size, .int .i64 (k : Int), .int .i64 Z.ep, .int .i64 Z.ct] : Value) = HdV Y by rw [heq]; rfl]
                  exact head_same HYW.out w'
                have HYE := Lib.hid heq
                clear heq
                refine wp_region_factsG [.is (.slice (some ⟨b, o, none⟩) n c), .is (.int .i64 (k : Int)), .is (.pointer (some ⟨b, o + k * 17, none⟩)), .is (.pointer (some ⟨b, o + k * 17, none⟩)), .is (.agg #[.int .u8 Y.s0, .int .u8 Y.s1, .int .u8 Y.s2, .int .u8 Y.s3, .int .u8 Y.s4, .int .u8 Y.s5, .int .u8 Y.s6, .int .u8 Y.s7, .int .i64 Y.K, .int .i64 Y.M, .int .i64 Y.B, .string Y.key, .int .i64 Y.size, .int .i64 Y.idx, .int .i64 Y.ep, .int .i64 Y.ct]), .is (.agg #[.int .u8 Z.s0, .int .u8 Z.s1, .int .u8 Z.s2, .int .u8 Z.s3, .int .u8 Z.s4, .int .u8 Z.s5, .int .u8 Z.s6, .int .u8 Z.s7, .int .i64 Z.K, .int .i64 Z.M, .int .i64 Z.B, .string Z.key, .int .i64 Z.size, .int .i64 (k : Int), .int .i64 Z.ep, .int .i64 Z.ct]), .is (.bool false)] mixed (by kernel_rfl) (fun hdr => ⟨?_, ?_, ?_, ?_, ?_, ?_, ?_, trivial⟩) (fun wE hbE => ?_)
                · intro a w2 hb hs K hK
                  repeat (intro _)
                  refine ⟨?_⟩
                  have h0 : a.tmps[0]?.getD undef = .slice (some ⟨b, o, none⟩) n c := hs 0 (by kernel_rfl)
                  rw [if_pos (by rfl)]
                  go_simp
                  exact hK.out _ _ (Below.refl _ _) rfl
                · intro a w2 hb hs K hK
                  repeat (intro _)
                  refine ⟨?_⟩
                  have h11 : a.tmps[11]?.getD undef = .int .i64 (k : Int) := hs 11 (by kernel_rfl)
                  rw [if_pos (by rfl)]
                  go_simp
                  exact hK.out _ _ (Below.refl _ _) rfl
                · intro a w2 hb hs K hK
                  repeat (intro _)
                  refine ⟨?_⟩
                  have h62 : a.tmps[62]?.getD undef = .slice (some ⟨b, o, none⟩) n c := by assumption
                  have h63 : a.tmps[63]?.getD undef = .int .i64 (k : Int) := by assumption
                  rw [if_pos (by rfl)]
                  go_simp
                  exact hK.out _ _ (Below.refl _ _) rfl
                · intro a w2 hb hs K hK
                  repeat (intro _)
                  refine ⟨?_⟩
                  have h64 : a.tmps[64]?.getD undef = .pointer (some ⟨b, o + k * 17, none⟩) := by assumption
                  rw [if_pos (by rfl)]
                  go_simp
                  exact hK.out _ _ (Below.refl _ _) rfl
                · intro a w2 hb hs K hK
                  repeat (intro _)
                  refine ⟨?_⟩
                  have h65 : a.tmps[65]?.getD undef = .pointer (some ⟨b, o + k * 17, none⟩) := by assumption
                  rw [if_pos (by rfl)]
                  exact wp_loadAgg 42 (.tmp 65) rfl ⟨b, o + k * 17, none⟩ ((slot_eval a 65).trans h65) #[.int .u8 Y.s0, .int .u8 Y.s1, .int .u8 Y.s2, .int .u8 Y.s3, .int .u8 Y.s4, .int .u8 Y.s5, .int .u8 Y.s6, .int .u8 Y.s7, .int .i64 Y.K, .int .i64 Y.M, .int .i64 Y.B, .string Y.key, .int .i64 Y.size, .int .i64 Y.idx, .int .i64 Y.ep, .int .i64 Y.ct] _ (HCY.out w2 (hdr.out.trans (hb.mono hdr.out.size))) Try.underlying42 rfl info_H (hK.out _ _ (Below.refl _ _) rfl)
                · intro a w2 hb hs K hK
                  repeat (intro _)
                  refine ⟨?_⟩
                  have h6 : a.tmps[6]?.getD undef = .pointer (some ⟨gb, 0, none⟩) := hs 6 (by kernel_rfl)
                  rw [if_pos (by rfl)]
                  exact wp_loadAgg 42 (.tmp 6) rfl ⟨gb, 0, none⟩ ((slot_eval a 6).trans h6) #[.int .u8 Z.s0, .int .u8 Z.s1, .int .u8 Z.s2, .int .u8 Z.s3, .int .u8 Z.s4, .int .u8 Z.s5, .int .u8 Z.s6, .int .u8 Z.s7, .int .i64 Z.K, .int .i64 Z.M, .int .i64 Z.B, .string Z.key, .int .i64 Z.size, .int .i64 (k : Int), .int .i64 Z.ep, .int .i64 Z.ct] _ (HCB.out w2 (hdr.out.trans (hb.mono hdr.out.size))) Try.underlying42 rfl info_H (hK.out _ _ (Below.refl _ _) rfl)
                · intro a w2 hb hs K hK
                  repeat (intro _)
                  refine ⟨?_⟩
                  have h66 : a.tmps[66]?.getD undef = .agg #[.int .u8 Y.s0, .int .u8 Y.s1, .int .u8 Y.s2, .int .u8 Y.s3, .int .u8 Y.s4, .int .u8 Y.s5, .int .u8 Y.s6, .int .u8 Y.s7, .int .i64 Y.K, .int .i64 Y.M, .int .i64 Y.B, .string Y.key, .int .i64 Y.size, .int .i64 Y.idx, .int .i64 Y.ep, .int .i64 Y.ct] := by assumption
                  have h67 : a.tmps[67]?.getD undef = .agg #[.int .u8 Z.s0, .int .u8 Z.s1, .int .u8 Z.s2, .int .u8 Z.s3, .int .u8 Z.s4, .int .u8 Z.s5, .int .u8 Z.s6, .int .u8 Z.s7, .int .i64 Z.K, .int .i64 Z.M, .int .i64 Z.B, .string Z.key, .int .i64 Z.size, .int .i64 (k : Int), .int .i64 Z.ep, .int .i64 Z.ct] := by assumption
                  rw [if_pos (by rfl)]
                  exact wp_neqAgg 42 (.tmp 66) (.tmp 67) rfl #[.int .u8 Y.s0, .int .u8 Y.s1, .int .u8 Y.s2, .int .u8 Y.s3, .int .u8 Y.s4, .int .u8 Y.s5, .int .u8 Y.s6, .int .u8 Y.s7, .int .i64 Y.K, .int .i64 Y.M, .int .i64 Y.B, .string Y.key, .int .i64 Y.size, .int .i64 Y.idx, .int .i64 Y.ep, .int .i64 Y.ct] #[.int .u8 Z.s0, .int .u8 Z.s1, .int .u8 Z.s2, .int .u8 Z.s3, .int .u8 Z.s4, .int .u8 Z.s5, .int .u8 Z.s6, .int .u8 Z.s7, .int .i64 Z.K, .int .i64 Z.M, .int .i64 Z.B, .string Z.key, .int .i64 Z.size, .int .i64 (k : Int), .int .i64 Z.ep, .int .i64 Z.ct] ((slot_eval a 66).trans h66) ((slot_eval a 67).trans h67) guard_H true (HEQ.out w2) (hK.out _ _ (Below.refl _ _) rfl)
                intro v0 f0 v1 f1 v2 f2 v3 f3 v4 f4 v5 f5 v6 f6
                refine NoPanic.normal ?_
                simp only [Act.put, List.setIfInBounds_toArray, List.set_cons_zero, List.set_cons_succ]
                obtain rfl : v6 = .bool false := f6
                clear f0 f1 f2 f3 f4 f5
                have HRE := Lib.hid (HRW.out.keep hbE)
                have HRL : Hid (RLL wE (S k) (BL k)) := Lib.hid ((HR1.out k hlt).1.below (HWW.out.trans (hbE.mono HWW.out.size)))
                have c16 := HRE.out.list hlt
                obtain ⟨mB, hmB⟩ : ∃ m, m = (BL k).length := ⟨_, rfl⟩
                rw [← hmB] at c16
                have HTE : Hid (Bt w3 wE gb gb) := Lib.hid (HWT.out.kept hbE)
                have HBE : Hid (wE.heap[gb]? = some (.cells #[.int .u8 Z.s0, .int .u8 Z.s1, .int .u8 Z.s2, .int .u8 Z.s3, .int .u8 Z.s4, .int .u8 Z.s5, .int .u8 Z.s6, .int .u8 Z.s7, .int .i64 Z.K, .int .i64 Z.M, .int .i64 Z.B, .string Z.key, .int .i64 Z.size, .int .i64 (k : Int), .int .i64 Z.ep, .int .i64 Z.ct] 42 (0, 0))) := Lib.hid ((hbE.block gb hzW).trans HWB.out)
                have HEE : Hid (wE.heap[g0]? = some (.cells #[.int .u8 0, .int .u8 0, .int .u8 0, .int .u8 0, .int .u8 0, .int .u8 0, .int .u8 0, .int .u8 0, .int .i64 0, .int .i64 0, .int .i64 0, .string ⟨#[]⟩, .int .i64 0, .int .i64 0, .int .i64 0, .int .i64 0] 42 (0, 0))) := Lib.hid ((hbE.block g0 (by omega)).trans HWE.out)
                have HLE : Hid (Below w.heap.size w wE) := Lib.hid (HB1.out.trans ((HWW.out.trans (hbE.mono HWW.out.size)).mono HB1.out.size))
                have HFT := fit_any (S k) As nb (C k) cs K Bk s (BL k) wE HNB.out (by omega) (HL.out k hlt) HRL.out (HRS.out.keepBt HTE.out HRB.out) (HLL.out k hlt) (fun j _ => Nat.le_trans (blen_le (by omega)) (by omega))
                rw [← hmB] at HFT
                have HFT := Lib.hid HFT
                have HFK : Hid (fitS K Bk s (BL k) ↔ fitS Z.K.toNat Z.B.toNat Z.size.toNat (BL k)) := Lib.hid (by rw [HK.out, HBk.out, HS.out]; exact Iff.rfl)
                clear hmB hbE
                go_wp2_with fail
                refine HFT.out.mono ?_
                rintro e w5 ⟨rfl, hft⟩
                rcases hft with ⟨hft, rfl⟩ | ⟨hft, rfl⟩
                · have HFF := Lib.hid hft
                  clear hft c16 HFT
                  go_wp2
                  go_roundg (n - (k + 1))
                  case measure => omega
                  case rel => exact ⟨k + 1, (k : Int), by omega, rfl, by go_num, by rw [HCN.out]; go_num, fun t ht => by
                    by_cases e : t = k
                    · rw [e]; exact .inr ⟨by rw [← HY.out]; exact HYE.out, HFK.out.1 HFF.out⟩
                    · exact HOK.out t (by omega), HBE.out, HTE.out⟩
                · have HLK : Hid (LookE n H BL 41) := Lib.hid (.inr ⟨k0, HF.out, .inr (.inr (.inl ⟨by rw [← HZ.out]; exact HE.out, by rw [← HZ.out, HSH.out]; exact HNN.out, k, hlt, by rw [← HZ.out]; exact HOK.out, by rw [← HY.out]; exact HGZ.out, .inr ⟨by rw [← HY.out, ← HZ.out]; exact HYE.out, by rw [← HZ.out]; exact fun h => hft (HFK.out.2 h), rfl⟩⟩))⟩)
                  clear hft c16 HFT
                  go_wp2_with (refine wpList_storeH rfl (.tmp 2) (.tmp 78) rfl g0 #[.int .u8 0, .int .u8 0, .int .u8 0, .int .u8 0, .int .u8 0, .int .u8 0, .int .u8 0, .int .u8 0, .int .i64 0, .int .i64 0, .int .i64 0, .string ⟨#[]⟩, .int .i64 0, .int .i64 0, .int .i64 0, .int .i64 0] rfl rfl rfl #[.int .u8 0, .int .u8 0, .int .u8 0, .int .u8 0, .int .u8 0, .int .u8 0, .int .u8 0, .int .u8 0, .int .i64 0, .int .i64 0, .int .i64 0, .string ⟨#[]⟩, .int .i64 0, .int .i64 0, .int .i64 0, .int .i64 0] rfl HEE.out rfl ?_; intro w6 hw_ hg_ hs_; have HE_ := Lib.hid hw_; have HG_ := Lib.hid hg_; clear hw_ hg_ hs_)
                  refine ret_cellH3 rfl rfl rfl rfl HE_.out ?_
                  exact ⟨Below.trans_row HLE.out HG_.out (by have := HGE.out; omega) HLE.out.size, .inl ⟨41, by decide, HLK.out, rfl⟩⟩
              · have HEQ : Hid (∀ w', (Op.equalIn 10000 42 (.agg #[.int .u8 Y.s0, .int .u8 Y.s1, .int .u8 Y.s2, .int .u8 Y.s3, .int .u8 Y.s4, .int .u8 Y.s5, .int .u8 Y.s6, .int .u8 Y.s7, .int .i64 Y.K, .int .i64 Y.M, .int .i64 Y.B, .string Y.key, .int .i64 Y.size, .int .i64 Y.idx, .int .i64 Y.ep, .int .i64 Y.ct]) (.agg #[.int .u8 Z.s0, .int .u8 Z.s1, .int .u8 Z.s2, .int .u8 Z.s3, .int .u8 Z.s4, .int .u8 Z.s5, .int .u8 Z.s6, .int .u8 Z.s7, .int .i64 Z.K, .int .i64 Z.M, .int .i64 Z.B, .string Z.key, .int .i64 Z.size, .int .i64 (k : Int), .int .i64 Z.ep, .int .i64 Z.ct])).run Try.prog w' = .ok false w') := Lib.hid fun w' => head_ne HYW.out HZK.out heq w'
                have HLK : Hid (LookE n H BL 100) := Lib.hid (.inr ⟨k0, HF.out, .inr (.inr (.inl ⟨by rw [← HZ.out]; exact HE.out, by rw [← HZ.out, HSH.out]; exact HNN.out, k, hlt, by rw [← HZ.out]; exact HOK.out, by rw [← HY.out]; exact HGZ.out, .inl ⟨by rw [← HY.out, ← HZ.out]; exact heq, rfl⟩⟩))⟩)
                clear heq
                refine wp_region_factsG [.is (.slice (some ⟨b, o, none⟩) n c), .is (.int .i64 (k : Int)), .is (.pointer (some ⟨b, o + k * 17, none⟩)), .is (.pointer (some ⟨b, o + k * 17, none⟩)), .is (.agg #[.int .u8 Y.s0, .int .u8 Y.s1, .int .u8 Y.s2, .int .u8 Y.s3, .int .u8 Y.s4, .int .u8 Y.s5, .int .u8 Y.s6, .int .u8 Y.s7, .int .i64 Y.K, .int .i64 Y.M, .int .i64 Y.B, .string Y.key, .int .i64 Y.size, .int .i64 Y.idx, .int .i64 Y.ep, .int .i64 Y.ct]), .is (.agg #[.int .u8 Z.s0, .int .u8 Z.s1, .int .u8 Z.s2, .int .u8 Z.s3, .int .u8 Z.s4, .int .u8 Z.s5, .int .u8 Z.s6, .int .u8 Z.s7, .int .i64 Z.K, .int .i64 Z.M, .int .i64 Z.B, .string Z.key, .int .i64 Z.size, .int .i64 (k : Int), .int .i64 Z.ep, .int .i64 Z.ct]), .is (.bool true)] mixed (by kernel_rfl) (fun hdr => ⟨?_, ?_, ?_, ?_, ?_, ?_, ?_, trivial⟩) (fun wE hbE => ?_)
                · intro a w2 hb hs K hK
                  repeat (intro _)
                  refine ⟨?_⟩
                  have h0 : a.tmps[0]?.getD undef = .slice (some ⟨b, o, none⟩) n c := hs 0 (by kernel_rfl)
                  rw [if_pos (by rfl)]
                  go_simp
                  exact hK.out _ _ (Below.refl _ _) rfl
                · intro a w2 hb hs K hK
                  repeat (intro _)
                  refine ⟨?_⟩
                  have h11 : a.tmps[11]?.getD undef = .int .i64 (k : Int) := hs 11 (by kernel_rfl)
                  rw [if_pos (by rfl)]
                  go_simp
                  exact hK.out _ _ (Below.refl _ _) rfl
                · intro a w2 hb hs K hK
                  repeat (intro _)
                  refine ⟨?_⟩
                  have h62 : a.tmps[62]?.getD undef = .slice (some ⟨b, o, none⟩) n c := by assumption
                  have h63 : a.tmps[63]?.getD undef = .int .i64 (k : Int) := by assumption
                  rw [if_pos (by rfl)]
                  go_simp
                  exact hK.out _ _ (Below.refl _ _) rfl
                · intro a w2 hb hs K hK
                  repeat (intro _)
                  refine ⟨?_⟩
                  have h64 : a.tmps[64]?.getD undef = .pointer (some ⟨b, o + k * 17, none⟩) := by assumption
                  rw [if_pos (by rfl)]
                  go_simp
                  exact hK.out _ _ (Below.refl _ _) rfl
                · intro a w2 hb hs K hK
                  repeat (intro _)
                  refine ⟨?_⟩
                  have h65 : a.tmps[65]?.getD undef = .pointer (some ⟨b, o + k * 17, none⟩) := by assumption
                  rw [if_pos (by rfl)]
                  exact wp_loadAgg 42 (.tmp 65) rfl ⟨b, o + k * 17, none⟩ ((slot_eval a 65).trans h65) #[.int .u8 Y.s0, .int .u8 Y.s1, .int .u8 Y.s2, .int .u8 Y.s3, .int .u8 Y.s4, .int .u8 Y.s5, .int .u8 Y.s6, .int .u8 Y.s7, .int .i64 Y.K, .int .i64 Y.M, .int .i64 Y.B, .string Y.key, .int .i64 Y.size, .int .i64 Y.idx, .int .i64 Y.ep, .int .i64 Y.ct] _ (HCY.out w2 (hdr.out.trans (hb.mono hdr.out.size))) Try.underlying42 rfl info_H (hK.out _ _ (Below.refl _ _) rfl)
                · intro a w2 hb hs K hK
                  repeat (intro _)
                  refine ⟨?_⟩
                  have h6 : a.tmps[6]?.getD undef = .pointer (some ⟨gb, 0, none⟩) := hs 6 (by kernel_rfl)
                  rw [if_pos (by rfl)]
                  exact wp_loadAgg 42 (.tmp 6) rfl ⟨gb, 0, none⟩ ((slot_eval a 6).trans h6) #[.int .u8 Z.s0, .int .u8 Z.s1, .int .u8 Z.s2, .int .u8 Z.s3, .int .u8 Z.s4, .int .u8 Z.s5, .int .u8 Z.s6, .int .u8 Z.s7, .int .i64 Z.K, .int .i64 Z.M, .int .i64 Z.B, .string Z.key, .int .i64 Z.size, .int .i64 (k : Int), .int .i64 Z.ep, .int .i64 Z.ct] _ (HCB.out w2 (hdr.out.trans (hb.mono hdr.out.size))) Try.underlying42 rfl info_H (hK.out _ _ (Below.refl _ _) rfl)
                · intro a w2 hb hs K hK
                  repeat (intro _)
                  refine ⟨?_⟩
                  have h66 : a.tmps[66]?.getD undef = .agg #[.int .u8 Y.s0, .int .u8 Y.s1, .int .u8 Y.s2, .int .u8 Y.s3, .int .u8 Y.s4, .int .u8 Y.s5, .int .u8 Y.s6, .int .u8 Y.s7, .int .i64 Y.K, .int .i64 Y.M, .int .i64 Y.B, .string Y.key, .int .i64 Y.size, .int .i64 Y.idx, .int .i64 Y.ep, .int .i64 Y.ct] := by assumption
                  have h67 : a.tmps[67]?.getD undef = .agg #[.int .u8 Z.s0, .int .u8 Z.s1, .int .u8 Z.s2, .int .u8 Z.s3, .int .u8 Z.s4, .int .u8 Z.s5, .int .u8 Z.s6, .int .u8 Z.s7, .int .i64 Z.K, .int .i64 Z.M, .int .i64 Z.B, .string Z.key, .int .i64 Z.size, .int .i64 (k : Int), .int .i64 Z.ep, .int .i64 Z.ct] := by assumption
                  rw [if_pos (by rfl)]
                  exact wp_neqAgg 42 (.tmp 66) (.tmp 67) rfl #[.int .u8 Y.s0, .int .u8 Y.s1, .int .u8 Y.s2, .int .u8 Y.s3, .int .u8 Y.s4, .int .u8 Y.s5, .int .u8 Y.s6, .int .u8 Y.s7, .int .i64 Y.K, .int .i64 Y.M, .int .i64 Y.B, .string Y.key, .int .i64 Y.size, .int .i64 Y.idx, .int .i64 Y.ep, .int .i64 Y.ct] #[.int .u8 Z.s0, .int .u8 Z.s1, .int .u8 Z.s2, .int .u8 Z.s3, .int .u8 Z.s4, .int .u8 Z.s5, .int .u8 Z.s6, .int .u8 Z.s7, .int .i64 Z.K, .int .i64 Z.M, .int .i64 Z.B, .string Z.key, .int .i64 Z.size, .int .i64 (k : Int), .int .i64 Z.ep, .int .i64 Z.ct] ((slot_eval a 66).trans h66) ((slot_eval a 67).trans h67) guard_H false (HEQ.out w2) (hK.out _ _ (Below.refl _ _) rfl)
                intro v0 f0 v1 f1 v2 f2 v3 f3 v4 f4 v5 f5 v6 f6
                refine NoPanic.normal ?_
                simp only [Act.put, List.setIfInBounds_toArray, List.set_cons_zero, List.set_cons_succ]
                obtain rfl : v6 = .bool true := f6
                clear f0 f1 f2 f3 f4 f5
                have HEE : Hid (wE.heap[g0]? = some (.cells #[.int .u8 0, .int .u8 0, .int .u8 0, .int .u8 0, .int .u8 0, .int .u8 0, .int .u8 0, .int .u8 0, .int .i64 0, .int .i64 0, .int .i64 0, .string ⟨#[]⟩, .int .i64 0, .int .i64 0, .int .i64 0, .int .i64 0] 42 (0, 0))) := Lib.hid ((hbE.block g0 (by omega)).trans HWE.out)
                have HLE : Hid (Below w.heap.size w wE) := Lib.hid (HB1.out.trans ((HWW.out.trans (hbE.mono HWW.out.size)).mono HB1.out.size))
                clear hbE
                go_wp2_with (refine wpList_storeH rfl (.tmp 2) (.tmp 69) rfl g0 #[.int .u8 0, .int .u8 0, .int .u8 0, .int .u8 0, .int .u8 0, .int .u8 0, .int .u8 0, .int .u8 0, .int .i64 0, .int .i64 0, .int .i64 0, .string ⟨#[]⟩, .int .i64 0, .int .i64 0, .int .i64 0, .int .i64 0] rfl rfl rfl #[.int .u8 0, .int .u8 0, .int .u8 0, .int .u8 0, .int .u8 0, .int .u8 0, .int .u8 0, .int .u8 0, .int .i64 0, .int .i64 0, .int .i64 0, .string ⟨#[]⟩, .int .i64 0, .int .i64 0, .int .i64 0, .int .i64 0] rfl HEE.out rfl ?_; intro w6 hw_ hg_ hs_; have HE_ := Lib.hid hw_; have HG_ := Lib.hid hg_; clear hw_ hg_ hs_)
                refine ret_cellH3 rfl rfl rfl rfl HE_.out ?_
                exact ⟨Below.trans_row HLE.out HG_.out (by have := HGE.out; omega) HLE.out.size, .inl ⟨100, by decide, HLK.out, rfl⟩⟩
          · obtain rfl : n = k := by omega
            have cK : wr.cell? ⟨gb, 8, none⟩ = some (.int .i64 (K : Int)) := by rw [← HK.out]; exact blk_cell hbx rfl
            clear hbx
            by_cases hct : cntG H n < K
            · have t2 : ((cntG H n : Nat) : Int) < (K : Int) := by omega
              have HLK : Hid (LookE n H BL 42) := Lib.hid (.inr ⟨k0, HF.out, .inr (.inr (.inr (.inl ⟨by rw [← HZ.out]; exact HE.out, by rw [← HZ.out, HSH.out]; exact HNN.out, by rw [← HZ.out]; exact HOK.out, by rw [← HZ.out, HK.out]; exact hct, rfl⟩)))⟩)
              clear hct
              go_wp2_with (refine wpList_storeH rfl (.tmp 2) (.tmp 87) rfl g0 #[.int .u8 0, .int .u8 0, .int .u8 0, .int .u8 0, .int .u8 0, .int .u8 0, .int .u8 0, .int .u8 0, .int .i64 0, .int .i64 0, .int .i64 0, .string ⟨#[]⟩, .int .i64 0, .int .i64 0, .int .i64 0, .int .i64 0] rfl rfl rfl #[.int .u8 0, .int .u8 0, .int .u8 0, .int .u8 0, .int .u8 0, .int .u8 0, .int .u8 0, .int .u8 0, .int .i64 0, .int .i64 0, .int .i64 0, .string ⟨#[]⟩, .int .i64 0, .int .i64 0, .int .i64 0, .int .i64 0] rfl HER.out rfl ?_; intro w6 hw_ hg_ hs_; have HE_ := Lib.hid hw_; have HG_ := Lib.hid hg_; clear hw_ hg_ hs_)
              refine ret_cellH3 rfl rfl rfl rfl HE_.out ?_
              exact ⟨Below.trans_row HBL.out HG_.out (by have := HGE.out; omega) HBL.out.size, .inl ⟨42, by decide, HLK.out, rfl⟩⟩
            · have t2 : ¬ ((cntG H n : Nat) : Int) < (K : Int) := by omega
              have HLK : Hid (LookE n H BL 0) := Lib.hid (.inr ⟨k0, HF.out, .inr (.inr (.inr (.inr ⟨by rw [← HZ.out]; exact HE.out, by rw [← HZ.out, HSH.out]; exact HNN.out, by rw [← HZ.out]; exact HOK.out, by rw [← HZ.out, HK.out]; show K ≤ _; omega, rfl⟩)))⟩)
              clear hct
              go_wp2_with (first | (refine wpList_loadH rfl (.tmp 6) rfl gb rfl #[.int .u8 Z.s0, .int .u8 Z.s1, .int .u8 Z.s2, .int .u8 Z.s3, .int .u8 Z.s4, .int .u8 Z.s5, .int .u8 Z.s6, .int .u8 Z.s7, .int .i64 Z.K, .int .i64 Z.M, .int .i64 Z.B, .string Z.key, .int .i64 Z.size, .int .i64 x, .int .i64 Z.ep, .int .i64 Z.ct] rfl HBX.out ?_) | (refine wpList_storeH rfl (.tmp 2) (.tmp 88) rfl g0 #[.int .u8 Z.s0, .int .u8 Z.s1, .int .u8 Z.s2, .int .u8 Z.s3, .int .u8 Z.s4, .int .u8 Z.s5, .int .u8 Z.s6, .int .u8 Z.s7, .int .i64 Z.K, .int .i64 Z.M, .int .i64 Z.B, .string Z.key, .int .i64 Z.size, .int .i64 x, .int .i64 Z.ep, .int .i64 Z.ct] rfl rfl rfl #[.int .u8 0, .int .u8 0, .int .u8 0, .int .u8 0, .int .u8 0, .int .u8 0, .int .u8 0, .int .u8 0, .int .i64 0, .int .i64 0, .int .i64 0, .string ⟨#[]⟩, .int .i64 0, .int .i64 0, .int .i64 0, .int .i64 0] rfl HER.out rfl ?_; intro w6 hw_ hg_ hs_; have HE_ := Lib.hid hw_; have HG_ := Lib.hid hg_; clear hw_ hg_ hs_))
              refine ret_cellH3 rfl rfl rfl rfl HE_.out ?_
              have hK' : Z.K.toNat = K := by rw [HK.out]; rfl
              have hB' : Z.B.toNat = Bk := by rw [HBk.out]; rfl
              have hS' : Z.size.toNat = s := by rw [HS.out]; rfl
              refine ⟨Below.trans_row HBL.out HG_.out (by have := HGE.out; omega) HBL.out.size, .inr ⟨HLK.out, k0, Z, x, As, cs, HF.out, HZ.out, ?_, ?_, ?_, ?_⟩⟩
              · rw [hK', hB', hS', ← HNB.out]; rfl
              · rw [hK', hB', hS', ← HNB.out]
                exact (HRS.out.keepBt HBT.out HRB.out).keepRow HG_.out (fun b o e => by have := HRB.out b o e; omega)
              · rw [hK', hB', hS', ← HNB.out]; exact hcs1
              · unfold maxLen; exact hcs2
      · have t1 : ((n : Int) != (K : Int) + (M : Int)) = true := by rw [bne_iff_ne]; omega
        have HLE : Hid (LookE n H BL 40) := Lib.hid (.inr ⟨k0, HF.out, .inr (.inl ⟨by rw [← HZ.out]; exact HE.out, by rw [← HZ.out, HSH.out]; exact hnn, rfl⟩)⟩)
        clear hnn
        go_wp2_with (refine wpList_storeH rfl (.tmp 2) (.tmp 38) rfl g0 #[.int .u8 0, .int .u8 0, .int .u8 0, .int .u8 0, .int .u8 0, .int .u8 0, .int .u8 0, .int .u8 0, .int .i64 0, .int .i64 0, .int .i64 0, .string ⟨#[]⟩, .int .i64 0, .int .i64 0, .int .i64 0, .int .i64 0] rfl rfl rfl #[.int .u8 0, .int .u8 0, .int .u8 0, .int .u8 0, .int .u8 0, .int .u8 0, .int .u8 0, .int .u8 0, .int .i64 0, .int .i64 0, .int .i64 0, .string ⟨#[]⟩, .int .i64 0, .int .i64 0, .int .i64 0, .int .i64 0] rfl HE2.out rfl ?_; intro w3 hw_ hg_ hs_; have HE_ := Lib.hid hw_; have HG_ := Lib.hid hg_; clear hw_ hg_ hs_)
        refine ret_cellH3 rfl rfl rfl rfl HE_.out ?_
        exact ⟨Below.trans_row HB2.out HG_.out (by have := HGE.out; omega) HB2.out.size, .inl ⟨40, by decide, HLE.out, rfl⟩⟩
    · obtain ⟨E, hEE⟩ : ∃ E, E = checkE Z := ⟨_, rfl⟩
      have t1 : (E != 0) = true := by rw [bne_iff_ne, hEE]; exact hE
      have HNE : Hid (E ≠ 0) := Lib.hid (by rw [hEE]; exact hE)
      have HLE : Hid (LookE n H BL E) := Lib.hid (.inr ⟨k0, HF.out, .inl ⟨by rw [← HZ.out]; exact hE, by rw [← HZ.out]; exact hEE⟩⟩)
      rw [← hEE]
      clear hE hEE
      go_wp2_with (refine wpList_storeH rfl (.tmp 2) (.tmp 26) rfl g0 #[.int .u8 0, .int .u8 0, .int .u8 0, .int .u8 0, .int .u8 0, .int .u8 0, .int .u8 0, .int .u8 0, .int .i64 0, .int .i64 0, .int .i64 0, .string ⟨#[]⟩, .int .i64 0, .int .i64 0, .int .i64 0, .int .i64 0] rfl rfl rfl #[.int .u8 0, .int .u8 0, .int .u8 0, .int .u8 0, .int .u8 0, .int .u8 0, .int .u8 0, .int .u8 0, .int .i64 0, .int .i64 0, .int .i64 0, .string ⟨#[]⟩, .int .i64 0, .int .i64 0, .int .i64 0, .int .i64 0] rfl HE2.out rfl ?_; intro w3 hw_ hg_ hs_; have HE_ := Lib.hid hw_; have HG_ := Lib.hid hg_; clear hw_ hg_ hs_)
      refine ret_cellH3 rfl rfl rfl rfl HE_.out ?_
      exact ⟨Below.trans_row HB2.out HG_.out (by have := HGE.out; omega) HB2.out.size, .inl ⟨E, HNE.out, HLE.out, rfl⟩⟩
  · have HLE : Hid (LookE n H BL 42) := Lib.hid (.inl ⟨hg, rfl⟩)
    clear hg
    go_wp2_with (refine wpList_storeH rfl (.tmp 2) (.tmp 16) rfl g0 #[.int .u8 0, .int .u8 0, .int .u8 0, .int .u8 0, .int .u8 0, .int .u8 0, .int .u8 0, .int .u8 0, .int .i64 0, .int .i64 0, .int .i64 0, .string ⟨#[]⟩, .int .i64 0, .int .i64 0, .int .i64 0, .int .i64 0] rfl rfl rfl #[.int .u8 0, .int .u8 0, .int .u8 0, .int .u8 0, .int .u8 0, .int .u8 0, .int .u8 0, .int .u8 0, .int .i64 0, .int .i64 0, .int .i64 0, .string ⟨#[]⟩, .int .i64 0, .int .i64 0, .int .i64 0, .int .i64 0] rfl HE1.out rfl ?_; intro w2 hw_ hg_ hs_; have HE_ := Lib.hid hw_; have HG_ := Lib.hid hg_; clear hw_ hg_ hs_)
    refine ret_cellH3 rfl rfl rfl rfl HE_.out ?_
    exact ⟨Below.trans_row HB1.out HG_.out (by have := HGE.out; omega) HB1.out.size, .inl ⟨42, by decide, HLE.out, rfl⟩⟩
end Go.Proofs.Ytjaaldandgfkgaa
