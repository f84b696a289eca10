/- MayBe, one, spread, Encode of the document's layer 4: the walks. Conditions: lengths that memory bears. -/
import Derived.Test.YthodpgkelmalmaaBy
namespace Go.Proofs.Ythodpgkelmalmaa
open Go.RowKit

/-- Which numbers make a code. -/
def may (K M : Int) : Prop := 1 ≤ M ∧ M ≤ K ∧ K ≤ 254 ∧ M ≤ 255 - K
theorem maybe_t (K M : Int) (w : World) (h : may K M) : Calls Try.prog 16 #[.int .i64 K, .int .i64 M] w fun e w' => e = .returned (.bool true) ∧ w = w' := by
  obtain ⟨h1, h2, h3, h4⟩ := h
  go_enter Try.func16, Try.ntmps16
  have hs : IntKind.i64.wrap (255 - K) = 255 - K := i64_small _ (by omega) (by omega)
  go_wp2
  go_ret
  refine ⟨?_, rfl⟩
  first
    | rfl
    | (simp; omega)
theorem maybe_f (K M : Int) (w : World) (h : ¬ may K M) : Calls Try.prog 16 #[.int .i64 K, .int .i64 M] w fun e w' => e = .returned (.bool false) ∧ w = w' := by
  unfold may at h
  by_cases h1 : 1 ≤ M
  · by_cases h2 : M ≤ K
    · by_cases h3 : K ≤ 254
      · have h4 : ¬ M ≤ 255 - K := fun e => h ⟨h1, h2, h3, e⟩
        have hs : IntKind.i64.wrap (255 - K) = 255 - K := i64_small _ (by omega) (by omega)
        clear h
        go_enter Try.func16, Try.ntmps16
        go_wp2
        go_ret
        exact ⟨rfl, rfl⟩
      · clear h
        go_enter Try.func16, Try.ntmps16
        go_wp2
        go_ret
        exact ⟨rfl, rfl⟩
    · clear h
      go_enter Try.func16, Try.ntmps16
      go_wp2
      go_ret
      exact ⟨rfl, rfl⟩
  · clear h
    go_enter Try.func16, Try.ntmps16
    go_wp2
    go_ret
    exact ⟨rfl, rfl⟩
/-- Are all lengths x? -/
def evB (n : Nat) (L : Nat → Nat) (x : Nat) : Bool := (List.range n).all fun i => L i == x
theorem evB_iff {n x : Nat} {L : Nat → Nat} : evB n L x = true ↔ ∀ i, i < n → L i = x := by
  unfold evB
  rw [List.all_eq_true]
  exact ⟨fun h i hi => by simpa using h i (List.mem_range.2 hi), fun h i hi => by simpa using h i (List.mem_range.1 hi)⟩
theorem ret_bool {a b : Bool} (h : a = b) : Ending.returned (.bool a) = .returned (.bool b) := by rw [h]
set_option maxHeartbeats 400000 in
theorem one_any (A : Option Addr) (n c x : Nat) (L C : Nat → Nat) (S : Nat → Option Addr) (w : World) (hn : n ≤ 1000000000000000) (hA : Rd w A n (fun i => .slice (S i) (L i) (C i))) :
    Calls Try.prog 52 #[.slice A n c, .int .i64 x] w fun e w' => e = .returned (.bool (evB n L x)) ∧ w = w' := by
  go_enter Try.func52, Try.ntmps52
  go_wp2
  go_loopg [5] n (fun gk i wr => wr = w ∧ ∃ k : Nat, k ≤ n ∧ gk = n - k ∧ i = .int .i64 k ∧ ∀ i, i < k → L i = x)
  case atStart => exact ⟨rfl, 0, Nat.zero_le _, rfl, rfl, fun i hi => absurd hi (by omega)⟩
  case round =>
    obtain ⟨rfl, k, hk, rfl, rfl, hL⟩ := hrel
    have HL := Lib.hid hL; clear hL
    by_cases hlt : k < n
    · obtain ⟨b, o, rfl, hb, hc⟩ := hA k hlt
      by_cases hx : L k = x
      · have t1 : ((L k : Int) != (x : Int)) = false := by rw [hx]; simp
        have HX := Lib.hid hx; clear hx
        go_wp2
        go_roundg (n - (k + 1))
        case measure => omega
        case rel => exact ⟨rfl, k + 1, by omega, rfl, by go_num, fun i hi => by
          by_cases e : i = k
          · rw [e]; exact HX.out
          · exact HL.out i (by omega)⟩
      · have t1 : ((L k : Int) != (x : Int)) = true := by rw [bne_iff_ne]; omega
        have HX := Lib.hid hx; clear hx
        go_wp2
        go_ret
        refine ⟨ret_bool ?_, rfl⟩
        cases he : evB n L x
        · rfl
        · exact absurd (evB_iff.1 he k hlt) HX.out
    · have hkn : k = n := by omega
      subst k
      go_wp2
      go_ret
      exact ⟨ret_bool (evB_iff.2 HL.out).symm, rfl⟩
theorem ShP_first {k n i : Nat} {o : Nat → Fin 256} (hk : k ≤ n) (hn : n ≤ 256) (hi : i < n) (h : gE.ShP el k (el i) o) : ∀ j, j < k → o j = gE.cM el k i j :=
  Fd.shP_cM (fun a b hab hb => el_ne hab (by omega)) h
set_option maxHeartbeats 400000 in
theorem spread_any (A Bm : Option Addr) (n k c1 c2 len : Nat) (D : Nat → Nat → Fin 256) (w : World) (hn : n ≤ 256) (hkn : k ≤ n) (hk0 : 0 < k) (hlen : len ≤ 140737488351232)
    (hA : Rd w A k (fun i => .int .i64 (i : Nat))) (hB : RdM w Bm k (fun _ => len) (fun j c => .int .u8 ((D j c).val : Nat))) :
    Calls Try.prog 53 #[.int .i64 n, .slice A k c1, .slice Bm k c2] w fun e w' => ∃ (A' : Option Addr) (c' : Nat), e = .returned (.slice A' n c') ∧ RdM w' A' n (fun _ => len) (fun i c => .int .u8 ((gE.s k (fun t => gE.m (gE.cM el k i t) (D t c))).val : Nat)) ∧ Below w.heap.size w w' := by
  have hA' : Rd w A k (fun i => .int .i64 ((el i).val : Nat)) := hA.congr fun i hi => by rw [el_val (by omega)]
  have HA := Lib.hid hA'; have HB := Lib.hid hB
  clear hA hA' hB
  go_enter Try.func53, Try.ntmps53
  go_wp2_with fail
  refine (weights_any A n k c1 el w hn (by omega) HA.out).mono ?_
  rintro e w1 ⟨A1, c3, O, rfl, hO, hS, hb1⟩
  have HS := Lib.hid hS; have HO := Lib.hid hO; have HB1 := Lib.hid hb1
  clear hO hS hb1
  go_wp2_with fail
  refine (by_any A1 Bm n k c3 c2 len O D w1 hn (by omega) hk0 hlen HO.out (RdM.below HB.out HB1.out)).mono ?_
  rintro e w2 ⟨A2, c4, rfl, hR, hb2⟩
  have HR := Lib.hid (hR.congr (g := fun i c => .int .u8 ((gE.s k (fun t => gE.m (gE.cM el k i t) (D t c))).val : Nat)) fun i hi c _ => by
    rw [gE.s_congr (g := fun t => gE.m (gE.cM el k i t) (D t c)) fun t ht => by rw [ShP_first hkn hn hi (HS.out i hi) t ht]])
  have HB2 := Lib.hid (HB1.out.trans (hb2.mono HB1.out.size))
  clear hR hb2
  go_wp2
  go_ret
  exact ⟨A2, c4, rfl, HR.out, HB2.out⟩
/-- What Encode says: error, rows. -/
def EncP (k nr : Nat) (L : Nat → Nat) (er : Int) : Prop :=
  (nr ≠ k ∧ er = 40) ∨ (nr = k ∧ ¬ (∀ i, i < k → L i = L 0) ∧ er = 41) ∨ (nr = k ∧ (∀ i, i < k → L i = L 0) ∧ er = 0)
theorem EncP.uniq {k nr : Nat} {L : Nat → Nat} {er er' : Int} (h : EncP k nr L er) (h' : EncP k nr L er') : er = er' := by
  rcases h with ⟨a, b⟩ | ⟨a, b, c⟩ | ⟨a, b, c⟩ <;> rcases h' with ⟨a', b'⟩ | ⟨a', b', c'⟩ | ⟨a', b', c'⟩
  · rw [b, b']
  · exact absurd a' a
  · exact absurd a' a
  · exact absurd a a'
  · rw [c, c']
  · exact absurd b' b
  · exact absurd a a'
  · exact absurd b b'
  · rw [c, c']
/-- A byte of the word. -/
def wrd (k : Nat) (g : Nat → Nat → Nat) (i c : Nat) : Nat := (gE.s k (fun t => gE.m (gE.cM el k i t) (el (g t c)))).val
theorem wrd_lt {k : Nat} {g : Nat → Nat → Nat} {i c : Nat} : wrd k g i c < 256 := (gE.s k _).isLt
set_option maxRecDepth 20000 in
set_option maxHeartbeats 1000000 in
theorem renc_any (A : Option Addr) (k m nr c : Nat) (L : Nat → Nat) (g : Nat → Nat → Nat) (w : World) (hk : 0 < k) (hkm : k + m ≤ 255) (hnr : nr ≤ 1000000000000000) (hL : ∀ i, i < nr → L i ≤ 140737488351232) (hg : ∀ i, i < nr → ∀ j, j < L i → g i j < 256) (hA : RdM w A nr L (fun i j => .int .u8 (g i j))) :
    Calls Try.prog 19 #[.int .i64 k, .int .i64 m, .slice A nr c] w fun e w' => ∃ (er : Int) (A' : Option Addr) (R c' : Nat), e = .returned (.tuple #[.slice A' R c', .int .i64 er]) ∧ EncP k nr L er ∧ R = (if er = 0 then k + m else 0) ∧ RdM w' A' R (fun _ => L 0) (fun i c => .int .u8 (wrd k g i c)) ∧ Below w.heap.size w w' := by
  by_cases h1 : nr = k
  · subst h1
    obtain ⟨S, C, hA1, hA2⟩ := id hA
    obtain ⟨b, o, rfl, hb, hc⟩ := hA1 0 hk
    rw [Nat.add_zero] at hc
    have CO := Lib.hid (one_any (some ⟨b, o, none⟩) nr c (L 0) L C S w hnr hA1)
    have HA := Lib.hid hA; have HA2 := Lib.hid hA2; have HL := Lib.hid hL; have HG := Lib.hid hg
    clear hA hA1 hA2 hL hg
    go_enter Try.func19, Try.ntmps19
    go_wp2_with fail
    refine CO.out.mono ?_
    rintro e w1 ⟨rfl, rfl⟩
    have HBB : Hid (evB nr L (L 0) = true ↔ ∀ i, i < nr → L i = L 0) := evB_iff
    clear CO
    generalize evB nr L (L 0) = bb at *
    cases bb
    · go_wp2
      go_ret2
      exact ⟨41, none, 0, 0, rfl, .inr (.inl ⟨rfl, fun h => absurd (HBB.out.2 h) (by decide), rfl⟩), rfl, RdM.zero _ _ _ _, Below.refl _ _⟩
    · have hev := HBB.out.1 rfl
      have hB : RdM w (some ⟨b, o, none⟩) nr (fun _ => L 0) (fun j c => .int .u8 ((el (g j c)).val : Nat)) := by
        obtain ⟨S, C, h1, h2⟩ := HA.out
        exact ⟨S, C, h1.congr fun i hi => by rw [hev i hi], fun i hi => by
          have h3 := h2 i hi
          rw [hev i hi] at h3
          exact h3.congr fun c hc => by show Value.int .u8 ((g i c : Nat) : Int) = Value.int .u8 ((el (g i c)).val : Int); rw [el_val (HG.out i hi c (by rw [hev i hi]; exact hc))]⟩
      have HB := Lib.hid hB; have HEV := Lib.hid hev
      have hs1 : IntKind.i64.wrap ((nr : Int) + (m : Int)) = (nr : Int) + (m : Int) := i64_small _ (by omega) (by omega)
      clear hB hev
      go_wp2_with fail
      refine (first_any nr w (by omega)).mono ?_
      rintro e w1 ⟨A1, c1, rfl, hF, hb1⟩
      have HF := Lib.hid hF; have HB1 := Lib.hid hb1
      clear hF hb1
      go_wp2_with fail
      rw [show (nr : Int) + (m : Int) = ((nr + m : Nat) : Int) from by omega]
      refine (spread_any A1 (some ⟨b, o, none⟩) (nr + m) nr c1 c (L 0) (fun j c => el (g j c)) w1 (by omega) (by omega) hk (HL.out 0 hk) HF.out (RdM.below HB.out HB1.out)).mono ?_
      rintro e w2 ⟨A2, c2, rfl, hR, hb2⟩
      have HR := Lib.hid hR; have HB2 := Lib.hid (HB1.out.trans (hb2.mono HB1.out.size))
      clear hR hb2
      go_wp2
      go_ret2
      exact ⟨0, A2, nr + m, c2, rfl, .inr (.inr ⟨rfl, HEV.out, rfl⟩), rfl, HR.out, HB2.out⟩
  · have t1 : ((nr : Int) != (k : Int)) = true := by rw [bne_iff_ne]; omega
    have H1 := Lib.hid h1
    clear h1 hA hg hL
    go_enter Try.func19, Try.ntmps19
    go_wp2
    go_ret2
    exact ⟨40, none, 0, 0, rfl, .inl ⟨H1.out, rfl⟩, rfl, RdM.zero _ _ _ _, Below.refl _ _⟩
end Go.Proofs.Ythodpgkelmalmaa
