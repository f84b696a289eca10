/- Join of the document: the walk. Conditions: shards that memory bears. -/
import Derived.Test.YtjaaldandgfkgaaJnR1
import Derived.Test.YtjaaldandgfkgaaJnU
import Derived.Test.YtjaaldandgfkgaaSplR
namespace Go.Proofs.Ytjaaldandgfkgaa
open Go.RowKit

theorem pk_has {L : Nat → Nat} : ∀ {n t : Nat}, t < n → 0 < L t → ∃ s, s < pkN L n ∧ pkA L n s = t
  | n + 1, t, h, hl => by
    by_cases e : t = n
    · subst e
      exact ⟨pkN L t, by rw [pkN_yes hl]; omega, pkA_hi hl⟩
    · obtain ⟨s, h1, h2⟩ := pk_has (show t < n by omega) hl
      refine ⟨s, ?_, by rw [pkA_lo h1]; exact h2⟩
      by_cases hn : 0 < L n
      · rw [pkN_yes hn]; omega
      · rw [pkN_no hn]; exact h1
theorem ls_pos {H : Nat → Hd} {t : Nat} : 0 < lsG H t ↔ gone (H t) = false := by
  unfold lsG; cases gone (H t) <;> simp
theorem fst_pk {H : Nat → Hd} {n : Nat} (h : 0 < pkN (lsG H) n) : FstS n H (pkA (lsG H) n 0) := by
  obtain ⟨h1, h2⟩ := pkA_ok (lsG H) n 0 h
  refine ⟨h1, fun t ht => ?_, ls_pos.1 h2⟩
  cases hg : gone (H t)
  · obtain ⟨s, h3, h4⟩ := pk_has (show t < n by omega) (ls_pos.2 hg)
    rcases Nat.eq_zero_or_pos s with e | e
    · rw [e] at h4; omega
    · have := pkA_inc (lsG H) n 0 s e h3; omega
  · rfl
theorem all_gone {H : Nat → Hd} {n : Nat} (h : pkN (lsG H) n = 0) : ∀ t, t < n → gone (H t) = true := fun t ht => by
  cases hg : gone (H t)
  · obtain ⟨s, h3, _⟩ := pk_has ht (ls_pos.2 hg); omega
  · rfl
/-- What the document's Join answers. -/
def RJoinPost (w : World) (n : Nat) (H : Nat → Hd) (BL : Nat → List (List Nat)) (e : Ending) (w' : World) : Prop :=
  Below w.heap.size w w' ∧ ∃ (er : Int) (A : Option Addr) (c : Nat) (l : List Nat), LookE n H BL er ∧ e = .returned (.tuple #[.slice A l.length c, .int .i64 er]) ∧ RL w' A l ∧ (er ≠ 0 → l = []) ∧ (er = 0 → ∃ k, FstS n H k ∧ JnL n H BL (H k) l)
set_option maxRecDepth 100000 in
set_option maxHeartbeats 8000000 in
theorem rjoin_any (A : Option Addr) (n c : Nat) (H : Nat → Hd) (BL : Nat → List (List Nat)) (w : World) (hn : n ≤ 2000000000000) (hW : ∀ i, i < n → HdW (H i)) (hA : RSd w A n H BL) (hL : ∀ i, i < n → (BL i).length ≤ 140737488351232) (hLL : ∀ i, i < n → ∀ l ∈ BL i, l.length ≤ 140737488351232) (hX : ∀ i, i < n → ∀ l ∈ BL i, ∀ x ∈ l, x < 256) :
    Calls Try.prog 27 #[.slice A n c] w (RJoinPost w n H BL) := by
  have HW := Lib.hid hW; have HA := Lib.hid hA; have HL := Lib.hid hL; have HX := Lib.hid hX; have HLL := Lib.hid hLL
  clear hW hA hL hLL hX
  go_enter Try.func27, Try.ntmps27
  go_wp2
  go_loopg [4, 5] n (fun gk pv i wr => ∃ k : Nat, k ≤ n ∧ gk = n - k ∧ i = .int .i64 k ∧ Own wr w.heap.size 3 1 pv (pkN (lsG H) k) (fun t => [.int .i64 (pkA (lsG H) k t : Nat)]) ∧ Below w.heap.size w wr)
  case atStart => exact ⟨0, Nat.zero_le _, rfl, rfl, Own.nil _ _ _ _ _, Below.refl _ _⟩
  case round =>
    obtain ⟨k, hk, rfl, rfl, hP, hB⟩ := hrel
    have HP := Lib.hid hP; have HB := Lib.hid hB
    clear hP hB
    by_cases hlt : k < n
    · obtain ⟨S, C, hrd, hrl⟩ := HA.out.below HB.out
      obtain ⟨b, o, rfl⟩ := hrd.ex_ hlt
      have HC := Lib.hid (hrd.all hlt)
      obtain ⟨Z, hZ⟩ : ∃ Z, Z = H k := ⟨_, rfl⟩
      obtain ⟨A1, hA1⟩ : ∃ A, A = S k := ⟨_, rfl⟩
      obtain ⟨m, hm⟩ : ∃ m, m = (BL k).length := ⟨_, rfl⟩
      obtain ⟨d1, hd1⟩ : ∃ d, d = C k := ⟨_, rfl⟩
      rw [← hZ, ← hA1, ← hm, ← hd1] at HC
      have HZ := Lib.hid hZ
      clear hZ hA1 hm hd1 hrd hrl
      go_wp2_with (refine wpList_loadAt rfl 69 (.tmp 30) rfl ⟨b, o + k * 17, none⟩ rfl #[.int .u8 Z.s0, .int .u8 Z.s1, .int .u8 Z.s2, .int .u8 Z.s3, .int .u8 Z.s4, .int .u8 Z.s5, .int .u8 Z.s6, .int .u8 Z.s7, .int .i64 Z.K, .int .i64 Z.M, .int .i64 Z.B, .string Z.key, .int .i64 Z.size, .int .i64 Z.idx, .int .i64 Z.ep, .int .i64 Z.ct, .slice A1 m d1] _ HC.out Try.underlying69 rfl info_S ?_)
      refine (missing_any Z A1 m d1 _).mono ?_
      rintro e w2 ⟨rfl, hb2⟩
      have HB2 := Lib.hid (HB.out.trans (hb2.mono HB.out.size))
      have HP2 := Lib.hid (HP.out.kept hb2)
      have hsz2 := HB2.out.size
      clear hb2
      cases hg : gone Z
      · have hl : 0 < lsG H k := ls_pos.2 (by rw [← HZ.out]; exact hg)
        have e1 := pkN_yes hl
        have e2 := pkA_hi hl
        have hP : Own w2 w.heap.size 3 1 _ (pkN (lsG H) k) (fun t => [.int .i64 (pkA (lsG H) (k + 1) t : Nat)]) := HP2.out.congr fun t ht => by rw [pkA_lo ht]
        have hu : Hid ((#[Value.int .i64 (k : Nat)] : Array Value).toList = [.int .i64 (pkA (lsG H) (k + 1) (pkN (lsG H) k) : Nat)]) := by rw [e2]; exact Lib.hid rfl
        have hle := pkN_le (lsG H) k
        have E1 := Lib.hid e1
        clear e1 e2 hg HP HP2
        generalize pkN (lsG H) k = N at *
        go_wp2_with (at_builtin; refine wpList_push _ rfl (.tmp 35) (.tmp 37) 25 rfl w.heap.size 3 1 8 (.int .i64 0) #[.int .i64 (k : Nat)] Try.underlying25 intInfo rfl (by decide) _ N _ rfl hP hsz2 _ rfl rfl hu.out rfl rfl (by omega) (by omega) ?_; intro pv2 w3 hP3 hb3 _ _; have HP3 := Lib.hid hP3; have HB3 := Lib.hid (HB2.out.trans hb3); clear hP3 hb3)
        go_roundg (n - (k + 1))
        case measure => omega
        case rel => exact ⟨k + 1, by omega, rfl, by go_num, by rw [E1.out]; exact HP3.out, HB3.out⟩
      · have hl : ¬ 0 < lsG H k := fun h => by have h1 := ls_pos.1 h; rw [← HZ.out, hg] at h1; cases h1
        have e1 := pkN_no hl
        have hP := Lib.hid (HP2.out.congr (g := fun t => [.int .i64 (pkA (lsG H) (k + 1) t : Nat)]) fun t ht => by rw [pkA_no hl])
        rw [← e1] at hP
        clear e1 hg HP HP2
        go_wp2
        go_roundg (n - (k + 1))
        case measure => omega
        case rel => exact ⟨k + 1, by omega, rfl, by go_num, hP.out, HB2.out⟩
    · obtain rfl : n = k := by omega
      clear hk hlt
      obtain ⟨N, hN⟩ : ∃ N, N = pkN (lsG H) n := ⟨_, rfl⟩
      have hNn : N ≤ n := by rw [hN]; exact pkN_le _ _
      rw [← hN] at HP
      obtain ⟨Ap, cp, rfl, hcp, hcm, hRp, hlo⟩ := HP.out.rd
      have HRP := Lib.hid hRp; have HLO := Lib.hid hlo; have HN := Lib.hid hN
      unfold maxLen at hcm
      clear hRp hlo hN HP
      by_cases hN0 : N = 0
      · have HLE : Hid (LookE n H BL 42) := Lib.hid (.inl ⟨all_gone (by rw [← HN.out]; exact hN0), rfl⟩)
        have t1 : ((N : Int) == 0) = true := by rw [hN0]; rfl
        clear hN0
        go_wp2
        go_ret2
        exact ⟨HB.out, 42, none, 0, [], HLE.out, rfl, RL.nil _ _, fun _ => rfl, fun h => absurd h (by decide)⟩
      · have t1 : ((N : Int) == 0) = false := by rw [beq_eq_false_iff_ne]; omega
        have hNp : 0 < N := by omega
        have HF : Hid (FstS n H (pkA (lsG H) n 0)) := Lib.hid (fst_pk (by rw [← HN.out]; exact hNp))
        obtain ⟨k0, hk0⟩ : ∃ k0, k0 = pkA (lsG H) n 0 := ⟨_, rfl⟩
        obtain ⟨bp, op, rfl, hbp, hcp0⟩ := HRP.out 0 hNp
        rw [Nat.add_zero] at hcp0
        replace hcp0 : wr.cell? ⟨bp, op, none⟩ = some (.int .i64 (k0 : Nat)) := by rw [hk0]; exact hcp0
        rw [← hk0] at HF
        have HK0 := Lib.hid hk0
        have hk0n := HF.out.1
        obtain ⟨S, C, hrd, hrl⟩ := HA.out.below HB.out
        obtain ⟨b, o, rfl⟩ := hrd.ex_ hk0n
        have HC := Lib.hid (hrd.head hk0n)
        obtain ⟨Z, hZ⟩ : ∃ Z, Z = H k0 := ⟨_, rfl⟩
        rw [← hZ] at HC
        have HZ := Lib.hid hZ
        clear hZ hrd hrl hk0 hN0
        go_wp2_with (refine wpList_loadAt rfl 42 (.tmp 47) rfl ⟨b, o + k0 * 17, none⟩ rfl #[.int .u8 Z.s0, .int .u8 Z.s1, .int .u8 Z.s2, .int .u8 Z.s3, .int .u8 Z.s4, .int .u8 Z.s5, .int .u8 Z.s6, .int .u8 Z.s7, .int .i64 Z.K, .int .i64 Z.M, .int .i64 Z.B, .string Z.key, .int .i64 Z.size, .int .i64 Z.idx, .int .i64 Z.ep, .int .i64 Z.ct] _ HC.out Try.underlying42 rfl info_H ?_)
        obtain ⟨gm, hgm⟩ : ∃ gm, gm = wr.heap.size := ⟨_, rfl⟩
        have HBA := Lib.hid ((Below.refl wr.heap.size wr).alloc (Nat.le_refl _) (.cells #[.int .u8 Z.s0, .int .u8 Z.s1, .int .u8 Z.s2, .int .u8 Z.s3, .int .u8 Z.s4, .int .u8 Z.s5, .int .u8 Z.s6, .int .u8 Z.s7, .int .i64 Z.K, .int .i64 Z.M, .int .i64 Z.B, .string Z.key, .int .i64 Z.size, .int .i64 Z.idx, .int .i64 Z.ep, .int .i64 Z.ct] 42))
        have hga := heap_alloc_new wr (.cells #[.int .u8 Z.s0, .int .u8 Z.s1, .int .u8 Z.s2, .int .u8 Z.s3, .int .u8 Z.s4, .int .u8 Z.s5, .int .u8 Z.s6, .int .u8 Z.s7, .int .i64 Z.K, .int .i64 Z.M, .int .i64 Z.B, .string Z.key, .int .i64 Z.size, .int .i64 Z.idx, .int .i64 Z.ep, .int .i64 Z.ct] 42)
        obtain ⟨wa, hwa⟩ : ∃ wa, wa = wr.alloc (.cells #[.int .u8 Z.s0, .int .u8 Z.s1, .int .u8 Z.s2, .int .u8 Z.s3, .int .u8 Z.s4, .int .u8 Z.s5, .int .u8 Z.s6, .int .u8 Z.s7, .int .i64 Z.K, .int .i64 Z.M, .int .i64 Z.B, .string Z.key, .int .i64 Z.size, .int .i64 Z.idx, .int .i64 Z.ep, .int .i64 Z.ct] 42) := ⟨_, rfl⟩
        have hza : wa.heap.size = gm + 1 := by rw [hwa, hgm]; simp
        rw [← hgm, ← hwa] at hga
        rw [← hwa] at HBA ⊢
        try rw [← hgm]
        have HGM := Lib.hid hgm; have HGA := Lib.hid hga
        clear hwa hgm hga hcp0
        refine (rcheck_any Z _).mono ?_
        rintro e w2 ⟨rfl, hb2⟩
        have HBR2 : Hid (Below wr.heap.size wr w2) := Lib.hid (HBA.out.trans (hb2.mono HBA.out.size))
        have HG2 : Hid (w2.heap[gm]? = some (.cells #[.int .u8 Z.s0, .int .u8 Z.s1, .int .u8 Z.s2, .int .u8 Z.s3, .int .u8 Z.s4, .int .u8 Z.s5, .int .u8 Z.s6, .int .u8 Z.s7, .int .i64 Z.K, .int .i64 Z.M, .int .i64 Z.B, .string Z.key, .int .i64 Z.size, .int .i64 Z.idx, .int .i64 Z.ep, .int .i64 Z.ct] 42 (0, 0))) := Lib.hid ((hb2.block gm (by omega)).trans HGA.out)
        have hz2 : gm < w2.heap.size := by have := hb2.size; omega
        have HB2 : Hid (Below w.heap.size w w2) := Lib.hid (HB.out.trans (HBR2.out.mono HB.out.size))
        clear hb2 HGA HBA hza
        by_cases hE : checkE Z = 0
        rotate_left
        · have HLE : Hid (LookE n H BL (checkE Z)) := Lib.hid (.inr ⟨k0, HF.out, by rw [← HZ.out]; exact .inl ⟨hE, rfl⟩⟩)
          have HEN := Lib.hid hE
          obtain ⟨E, hEE⟩ : ∃ E, E = checkE Z := ⟨_, rfl⟩
          have t2 : (E != 0) = true := by rw [bne_iff_ne, hEE]; exact hE
          rw [← hEE] at HLE HEN ⊢
          clear hE hEE
          go_wp2
          go_ret2
          exact ⟨HB2.out, E, none, 0, [], HLE.out, rfl, RL.nil _ _, fun _ => rfl, fun h => absurd h HEN.out⟩
        obtain ⟨⟨m1, m2, m3, m4, m5, m6⟩, _, _, zE, _⟩ := check_facts hE
        obtain ⟨K, hK⟩ : ∃ K : Nat, Z.K = (K : Int) := ⟨Z.K.toNat, by omega⟩
        obtain ⟨M, hM⟩ : ∃ M : Nat, Z.M = (M : Int) := ⟨Z.M.toNat, by omega⟩
        obtain ⟨Bk, hBk⟩ : ∃ Bk : Nat, Z.B = (Bk : Int) := ⟨Z.B.toNat, by omega⟩
        obtain ⟨s, hs⟩ : ∃ s : Nat, Z.size = (s : Int) := ⟨Z.size.toNat, by have := (size_facts zE).1; omega⟩
        have hls : s ≤ 1048576 := by have := (size_facts zE).2.1; omega
        obtain ⟨nb, hnb⟩ : ∃ nb : Nat, nb = nblk (K * Bk) s := ⟨_, rfl⟩
        have hz3 : sizeE (K : Int) (M : Int) (Bk : Int) (s : Int) = 0 := by rw [← hK, ← hM, ← hBk, ← hs]; exact zE
        have hnb4 : nb ≤ 4096 := by
          have := sizeN_le (K : Int) (M : Int) (Bk : Int) (s : Int)
          unfold sizeN at this
          rw [if_pos hz3] at this
          rw [hnb]; exact this
        have HSHN : Hid (shN Z = K + M) := Lib.hid (by unfold shN; omega)
        have HK' : Hid (Z.K.toNat = K) := Lib.hid (by rw [hK]; rfl)
        have HB' : Hid (Z.B.toNat = Bk) := Lib.hid (by rw [hBk]; rfl)
        have HS' : Hid (Z.size.toNat = s) := Lib.hid (by rw [hs]; rfl)
        rw [hK] at m2 m3 m4; rw [hM] at m1 m2 m4; rw [hBk] at m5 m6
        have HZ3 := Lib.hid hz3; have HNB := Lib.hid hnb
        have HK := Lib.hid hK; have HM := Lib.hid hM; have HBk := Lib.hid hBk; have HS := Lib.hid hs; have HE := Lib.hid hE
        rw [hE]
        clear hz3 hnb hK hM hBk hs zE hE
        have cK : w2.cell? ⟨gm, 8, none⟩ = some (.int .i64 (K : Int)) := by rw [← HK.out]; exact blk_cell HG2.out rfl
        have cM : w2.cell? ⟨gm, 9, none⟩ = some (.int .i64 (M : Int)) := by rw [← HM.out]; exact blk_cell HG2.out rfl
        have cB : w2.cell? ⟨gm, 10, none⟩ = some (.int .i64 (Bk : Int)) := by rw [← HBk.out]; exact blk_cell HG2.out rfl
        have cS : w2.cell? ⟨gm, 12, none⟩ = some (.int .i64 (s : Int)) := by rw [← HS.out]; exact blk_cell HG2.out rfl
        obtain ⟨q, hq⟩ : ∃ q, q = K + M := ⟨_, rfl⟩
        have hKM : (K : Int) + (M : Int) = (q : Int) := by omega
        by_cases hnq : n = q
        rotate_left
        · have t3 : ((n : Int) != (q : Int)) = true := by rw [bne_iff_ne]; omega
          have HLE : Hid (LookE n H BL 40) := Lib.hid (.inr ⟨k0, HF.out, by rw [← HZ.out]; exact .inr (.inl ⟨HE.out, by rw [HSHN.out, ← hq]; exact hnq, rfl⟩)⟩)
          clear hnq hq
          go_wp2
          go_ret2
          exact ⟨HB2.out, 40, none, 0, [], HLE.out, rfl, RL.nil _ _, fun _ => rfl, fun h => absurd h (by decide)⟩
        obtain rfl : n = q := hnq
        have HSH := Lib.hid hq
        clear hq
        go_wp2_with fail
        refine (rsizes_ok K M Bk s _ HZ3.out).mono ?_
        rintro e w3 ⟨As, cs, rfl, hRs, hb3, hcs1, hcs2, -⟩
        rw [← HNB.out] at hRs hcs1 ⊢
        unfold maxLen at hcs2
        have HRS := Lib.hid hRs
        have HB3 : Hid (Below w.heap.size w w3) := Lib.hid (HB2.out.trans (hb3.mono HB2.out.size))
        have HR3 : Hid (Below wr.heap.size wr w3) := Lib.hid (HBR2.out.trans (hb3.mono HBR2.out.size))
        have HG3 : Hid (w3.heap[gm]? = some (.cells #[.int .u8 Z.s0, .int .u8 Z.s1, .int .u8 Z.s2, .int .u8 Z.s3, .int .u8 Z.s4, .int .u8 Z.s5, .int .u8 Z.s6, .int .u8 Z.s7, .int .i64 Z.K, .int .i64 Z.M, .int .i64 Z.B, .string Z.key, .int .i64 Z.size, .int .i64 Z.idx, .int .i64 Z.ep, .int .i64 Z.ct] 42 (0, 0))) := Lib.hid ((hb3.block gm hz2).trans HG2.out)
        have hz3 : gm < w3.heap.size := Nat.lt_of_lt_of_le hz2 hb3.size
        clear cK cM cB cS hRs hb3 HBR2 HG2 HB2 hz2 HZ3
        obtain ⟨wp, rfl⟩ : ∃ wp : World, wp = wr := ⟨_, rfl⟩
        go_wp2
        go_loopg [11] N (fun gk i wr' => ∃ k : Nat, k ≤ N ∧ gk = N - k ∧ i = .int .i64 k ∧ (∀ t, t < k → okS Z H BL (pkA (lsG H) n t)) ∧ Below w3.heap.size w3 wr')
        case atStart => exact ⟨0, Nat.zero_le _, rfl, rfl, fun t h => absurd h (by omega), Below.refl _ _⟩
        case round =>
          obtain ⟨wo, rfl⟩ : ∃ wo : World, wo = wr := ⟨_, rfl⟩
          obtain ⟨k, hk, rfl, rfl, hok, hb⟩ := hrel
          have HOK := Lib.hid hok; have HBo := Lib.hid hb
          clear hok hb
          by_cases hlt : k < N
          · obtain ⟨u, hu⟩ : ∃ u, u = pkA (lsG H) n k := ⟨_, rfl⟩
            have hu1 := pkA_ok (lsG H) n k (by rw [← HN.out]; exact hlt)
            rw [← hu] at hu1
            have hun := hu1.1
            have HUG : Hid (gone (H u) = false) := Lib.hid (ls_pos.1 hu1.2)
            obtain ⟨bp', op', ep, hbp', hcp1⟩ := HRP.out k hlt
            injection ep with ep
            injection ep with ep1 ep2
            subst ep1 ep2
            have hcu : wo.cell? ⟨bp, op + k, none⟩ = some (.int .i64 (u : Nat)) := by
              have h1 := HR3.out.size
              rw [HBo.out.cell (by show bp < _; omega), HR3.out.cell hbp, hu]; exact hcp1
            have hszo := HBo.out.size
            have HGo : Hid (wo.heap[gm]? = some (.cells #[.int .u8 Z.s0, .int .u8 Z.s1, .int .u8 Z.s2, .int .u8 Z.s3, .int .u8 Z.s4, .int .u8 Z.s5, .int .u8 Z.s6, .int .u8 Z.s7, .int .i64 Z.K, .int .i64 Z.M, .int .i64 Z.B, .string Z.key, .int .i64 Z.size, .int .i64 Z.idx, .int .i64 Z.ep, .int .i64 Z.ct] 42 (0, 0))) := Lib.hid ((HBo.out.block gm hz3).trans HG3.out)
            have HBW : Hid (Below w.heap.size w wo) := Lib.hid (HB3.out.trans (HBo.out.mono HB3.out.size))
            obtain ⟨S, C, hrd, hrl⟩ := HA.out.below HBW.out
            have HC := Lib.hid (hrd.all hun)
            have HRL := Lib.hid (hrl u hun)
            have HXu := Lib.hid (HX.out u hun); have HLLu := Lib.hid (HLL.out u hun)
            have HLu := HL.out u hun
            obtain ⟨Bl, hBl⟩ : ∃ Bl, Bl = BL u := ⟨_, rfl⟩
            obtain ⟨Y, hY⟩ : ∃ Y, Y = H u := ⟨_, rfl⟩
            obtain ⟨A1, hA1⟩ : ∃ A, A = S u := ⟨_, rfl⟩
            obtain ⟨d1, hd1⟩ : ∃ d, d = C u := ⟨_, rfl⟩
            rw [← hY, ← hA1, ← hBl, ← hd1] at HC
            rw [← hA1, ← hBl, ← hd1] at HRL
            rw [← hBl] at HXu HLLu HLu
            have HY := Lib.hid hY; have HBL := Lib.hid hBl
            have HU := Lib.hid hu
            clear hY hA1 hBl hd1 hrd hrl hu hu1 hcp1
            have hal := heap_alloc_new wo (.cells #[.int .u8 Y.s0, .int .u8 Y.s1, .int .u8 Y.s2, .int .u8 Y.s3, .int .u8 Y.s4, .int .u8 Y.s5, .int .u8 Y.s6, .int .u8 Y.s7, .int .i64 Y.K, .int .i64 Y.M, .int .i64 Y.B, .string Y.key, .int .i64 Y.size, .int .i64 Y.idx, .int .i64 Y.ep, .int .i64 Y.ct, .slice A1 Bl.length d1] 69)
            have HSC : Hid (∀ j v, (#[.int .u8 Y.s0, .int .u8 Y.s1, .int .u8 Y.s2, .int .u8 Y.s3, .int .u8 Y.s4, .int .u8 Y.s5, .int .u8 Y.s6, .int .u8 Y.s7, .int .i64 Y.K, .int .i64 Y.M, .int .i64 Y.B, .string Y.key, .int .i64 Y.size, .int .i64 Y.idx, .int .i64 Y.ep, .int .i64 Y.ct] : Array Value).toList[j]? = some v → (wo.alloc (.cells #[.int .u8 Y.s0, .int .u8 Y.s1, .int .u8 Y.s2, .int .u8 Y.s3, .int .u8 Y.s4, .int .u8 Y.s5, .int .u8 Y.s6, .int .u8 Y.s7, .int .i64 Y.K, .int .i64 Y.M, .int .i64 Y.B, .string Y.key, .int .i64 Y.size, .int .i64 Y.idx, .int .i64 Y.ep, .int .i64 Y.ct, .slice A1 Bl.length d1] 69)).cell? ((⟨wo.heap.size, 0, none⟩ : Addr).add j) = some v) := Lib.hid fun j v e => by
              rw [add_zero_addr, cell_of_row _ _ j _ _ _ hal]
              have hj : j < 16 := (List.getElem?_eq_some_iff.1 e).1
              rw [← e]
              rcases (show j = 0 ∨ j = 1 ∨ j = 2 ∨ j = 3 ∨ j = 4 ∨ j = 5 ∨ j = 6 ∨ j = 7 ∨ j = 8 ∨ j = 9 ∨ j = 10 ∨ j = 11 ∨ j = 12 ∨ j = 13 ∨ j = 14 ∨ j = 15 by omega) with rfl | rfl | rfl | rfl | rfl | rfl | rfl | rfl | rfl | rfl | rfl | rfl | rfl | rfl | rfl | rfl <;> rfl
            have HBs := Lib.hid ((Below.refl wo.heap.size wo).alloc (Nat.le_refl _) (.cells #[.int .u8 Y.s0, .int .u8 Y.s1, .int .u8 Y.s2, .int .u8 Y.s3, .int .u8 Y.s4, .int .u8 Y.s5, .int .u8 Y.s6, .int .u8 Y.s7, .int .i64 Y.K, .int .i64 Y.M, .int .i64 Y.B, .string Y.key, .int .i64 Y.size, .int .i64 Y.idx, .int .i64 Y.ep, .int .i64 Y.ct, .slice A1 Bl.length d1] 69))
            have hgo : gm < wo.heap.size := by omega
            have HGs : Hid ((wo.alloc (.cells #[.int .u8 Y.s0, .int .u8 Y.s1, .int .u8 Y.s2, .int .u8 Y.s3, .int .u8 Y.s4, .int .u8 Y.s5, .int .u8 Y.s6, .int .u8 Y.s7, .int .i64 Y.K, .int .i64 Y.M, .int .i64 Y.B, .string Y.key, .int .i64 Y.size, .int .i64 Y.idx, .int .i64 Y.ep, .int .i64 Y.ct, .slice A1 Bl.length d1] 69)).heap[gm]? = some (.cells #[.int .u8 Z.s0, .int .u8 Z.s1, .int .u8 Z.s2, .int .u8 Z.s3, .int .u8 Z.s4, .int .u8 Z.s5, .int .u8 Z.s6, .int .u8 Z.s7, .int .i64 Z.K, .int .i64 Z.M, .int .i64 Z.B, .string Z.key, .int .i64 Z.size, .int .i64 Z.idx, .int .i64 Z.ep, .int .i64 Z.ct] 42 (0, 0))) := Lib.hid ((HBs.out.block gm hgo).trans HGo.out)
            have HAL := Lib.hid hal
            clear hal
            go_wp2_with (first | (refine wpList_loadAt rfl 69 _ rfl ⟨b, o + u * 17, none⟩ rfl #[.int .u8 Y.s0, .int .u8 Y.s1, .int .u8 Y.s2, .int .u8 Y.s3, .int .u8 Y.s4, .int .u8 Y.s5, .int .u8 Y.s6, .int .u8 Y.s7, .int .i64 Y.K, .int .i64 Y.M, .int .i64 Y.B, .string Y.key, .int .i64 Y.size, .int .i64 Y.idx, .int .i64 Y.ep, .int .i64 Y.ct, .slice A1 Bl.length d1] _ HC.out Try.underlying69 rfl info_S ?_) | (refine wpList_loadAt rfl 42 _ rfl ⟨wo.heap.size, 0, none⟩ rfl #[.int .u8 Y.s0, .int .u8 Y.s1, .int .u8 Y.s2, .int .u8 Y.s3, .int .u8 Y.s4, .int .u8 Y.s5, .int .u8 Y.s6, .int .u8 Y.s7, .int .i64 Y.K, .int .i64 Y.M, .int .i64 Y.B, .string Y.key, .int .i64 Y.size, .int .i64 Y.idx, .int .i64 Y.ep, .int .i64 Y.ct] _ HSC.out Try.underlying42 rfl info_H ?_) | (refine wpList_loadH rfl _ rfl gm rfl #[.int .u8 Z.s0, .int .u8 Z.s1, .int .u8 Z.s2, .int .u8 Z.s3, .int .u8 Z.s4, .int .u8 Z.s5, .int .u8 Z.s6, .int .u8 Z.s7, .int .i64 Z.K, .int .i64 Z.M, .int .i64 Z.B, .string Z.key, .int .i64 Z.size, .int .i64 Z.idx, .int .i64 Z.ep, .int .i64 Z.ct] rfl HGs.out ?_))
            refine (alike_any Y Z _).mono ?_
            rintro e w4 ⟨r, rfl, hr, hb4⟩
            obtain ⟨gs, hgs⟩ : ∃ gs, gs = wo.heap.size := ⟨_, rfl⟩
            rw [← hgs]
            have HGSZ := Lib.hid hgs
            have HB4 : Hid (Below wo.heap.size wo w4) := Lib.hid (HBs.out.trans (hb4.mono HBs.out.size))
            have HS4 : Hid (w4.heap[gs]? = some (.cells #[.int .u8 Y.s0, .int .u8 Y.s1, .int .u8 Y.s2, .int .u8 Y.s3, .int .u8 Y.s4, .int .u8 Y.s5, .int .u8 Y.s6, .int .u8 Y.s7, .int .i64 Y.K, .int .i64 Y.M, .int .i64 Y.B, .string Y.key, .int .i64 Y.size, .int .i64 Y.idx, .int .i64 Y.ep, .int .i64 Y.ct, .slice A1 Bl.length d1] 69 (0, 0))) := Lib.hid (by rw [hgs]; exact (hb4.block _ (by simp)).trans HAL.out)
            have hz4 : gs < w4.heap.size := by have := hb4.size; rw [hgs]; simp at this; omega
            have HR := Lib.hid hr
            have HBW4 : Hid (Below w.heap.size w w4) := Lib.hid (HBW.out.trans (HB4.out.mono HBW.out.size))
            clear hb4 hr hgs HSC HBs HGs HAL
            have KS : Hid (∀ w', Below w4.heap.size w4 w' → w'.cell? ⟨gs, 13, none⟩ = some (.int .i64 Y.idx) ∧ w'.cell? ⟨bp, op + k, none⟩ = some (.int .i64 (u : Nat))) := Lib.hid fun w' hb => ⟨(hb.cell hz4).trans (blk_cell HS4.out rfl), by
              have h1 := HB4.out.size; have h2 := HR3.out.size
              rw [hb.cell (by show bp < _; omega), HB4.out.cell (by show bp < _; omega)]; exact hcu⟩
            clear hcu
            have HLT : Hid (∀ v, v < u → okS Z H BL v) := Lib.hid fun v hv => by
              cases hg : gone (H v)
              · obtain ⟨s', h3, h4⟩ := pk_has (show v < n by omega) (ls_pos.2 hg)
                rw [← h4]
                refine HOK.out s' ?_
                rcases Nat.lt_or_ge s' k with h5 | h5
                · exact h5
                · rcases Nat.lt_or_ge k s' with h6 | h6
                  · have := pkA_inc (lsG H) n k s' h6 h3; rw [h4, ← HU.out] at this; omega
                  · have h7 : s' = k := by omega
                    rw [h7, ← HU.out] at h4; omega
              · exact .inl hg
            have hkl : k < N := hlt
            cases r
            · have HLE : Hid (LookE n H BL 100) := Lib.hid (.inr ⟨k0, HF.out, by rw [← HZ.out]; exact .inr (.inr (.inl ⟨HE.out, by rw [HSHN.out]; exact HSH.out, u, hun, HLT.out, HUG.out, .inl ⟨fun e => (by
                rw [← HY.out] at e
                have h1 := HR.out.2 (show Y = { Z with idx := Y.idx } by rw [e])
                cases h1), rfl⟩⟩))⟩)
              clear hlt
              go_wp2_with fail
              refine wp_region_mix [(true, true, false), (true, true, false), (true, true, false), (true, true, false), (true, true, false), (true, true, true), (true, true, false), (true, true, false), (true, true, false), (true, true, true), (true, true, false), (true, true, false)] mixed (by kernel_rfl) (fun wx => wx.cell? ⟨gs, 13, none⟩ = some (.int .i64 Y.idx) ∧ wx.cell? ⟨bp, op + k, none⟩ = some (.int .i64 (u : Nat))) (KS.out _ (Below.refl _ _).drew) ?_
              intro hSw0
              simp only [hdM, tlM, List.cons_append, List.nil_append]
              repeat (first
                | (refine mix_look hSw0.out ?_ (by rfl) (fun w4 hSw => ?_) ?_; rotate_left; (focus (obtain ⟨s1, s2⟩ := hSw; go_simp; try with_reducible rfl)); simp only [Act.put, List.setIfInBounds_toArray, List.set_cons_zero, List.set_cons_succ])
                | (refine mix_pure ?_ (by rfl) (fun w4 => ?_) ?_; rotate_left; (focus (go_simp; try with_reducible rfl)); simp only [Act.put, List.setIfInBounds_toArray, List.set_cons_zero, List.set_cons_succ])
                | (refine mix_skip hSw0.out (by rfl) ?_; simp only [Act.put, List.setIfInBounds_toArray, List.set_cons_zero, List.set_cons_succ]))
              refine mix_nil ?_
              go_wp2
              go_ret2
              exact ⟨HBW4.out.drew, 100, none, 0, [], HLE.out, rfl, RL.nil _ _, fun _ => rfl, fun h => absurd h (by decide)⟩
            · have hY : Y = { Z with idx := Y.idx } := HR.out.1 rfl
              by_cases hyu : Y.idx = (u : Int)
              rotate_left
              · have HLE : Hid (LookE n H BL 100) := Lib.hid (.inr ⟨k0, HF.out, by rw [← HZ.out]; exact .inr (.inr (.inl ⟨HE.out, by rw [HSHN.out]; exact HSH.out, u, hun, HLT.out, HUG.out, .inl ⟨fun e => (by
                  rw [← HY.out] at e
                  exact hyu (by rw [e])), rfl⟩⟩))⟩)
                have t4 : (Y.idx != (u : Int)) = true := by rw [bne_iff_ne]; exact hyu
                clear hlt hY hyu
                go_wp2_with fail
                refine wp_region_mix [(true, true, false), (true, true, false), (true, true, false), (true, true, false), (true, true, false), (true, true, true), (true, true, false), (true, true, false), (true, true, false), (true, true, true), (true, true, false), (true, true, false)] mixed (by kernel_rfl) (fun wx => wx.cell? ⟨gs, 13, none⟩ = some (.int .i64 Y.idx) ∧ wx.cell? ⟨bp, op + k, none⟩ = some (.int .i64 (u : Nat))) (KS.out _ (Below.refl _ _).drew) ?_
                intro hSw0
                simp only [hdM, tlM, List.cons_append, List.nil_append]
                repeat (first
                  | (refine mix_look hSw0.out ?_ (by rfl) (fun w4 hSw => ?_) ?_; rotate_left; (focus (obtain ⟨s1, s2⟩ := hSw; go_simp; try with_reducible rfl)); simp only [Act.put, List.setIfInBounds_toArray, List.set_cons_zero, List.set_cons_succ])
                  | (refine mix_pure ?_ (by rfl) (fun w4 => ?_) ?_; rotate_left; (focus (go_simp; try with_reducible rfl)); simp only [Act.put, List.setIfInBounds_toArray, List.set_cons_zero, List.set_cons_succ])
                  | (refine mix_skip hSw0.out (by rfl) ?_; simp only [Act.put, List.setIfInBounds_toArray, List.set_cons_zero, List.set_cons_succ]))
                refine mix_nil ?_
                go_wp2
                go_ret2
                exact ⟨HBW4.out.drew, 100, none, 0, [], HLE.out, rfl, RL.nil _ _, fun _ => rfl, fun h => absurd h (by decide)⟩
              rw [hyu] at hY
              have HYE : Hid (H u = { Z with idx := (u : Int) }) := Lib.hid (by rw [← HY.out]; exact hY)
              have t4 : (Y.idx != (u : Int)) = false := by rw [hyu]; exact bne_self_eq_false _
              clear hY hyu hlt
              go_wp2_with fail
              refine wp_region_mix [(true, true, false), (true, true, false), (true, true, false), (true, true, false), (true, true, false), (true, true, true), (true, true, false), (true, true, false), (true, true, false), (true, true, true), (true, true, false), (true, true, false)] mixed (by kernel_rfl) (fun wx => wx.cell? ⟨gs, 13, none⟩ = some (.int .i64 Y.idx) ∧ wx.cell? ⟨bp, op + k, none⟩ = some (.int .i64 (u : Nat))) (KS.out _ (Below.refl _ _).drew) ?_
              intro hSw0
              simp only [hdM, tlM, List.cons_append, List.nil_append]
              repeat (first
                | (refine mix_look hSw0.out ?_ (by rfl) (fun w4 hSw => ?_) ?_; rotate_left; (focus (obtain ⟨s1, s2⟩ := hSw; go_simp; try with_reducible rfl)); simp only [Act.put, List.setIfInBounds_toArray, List.set_cons_zero, List.set_cons_succ])
                | (refine mix_pure ?_ (by rfl) (fun w4 => ?_) ?_; rotate_left; (focus (go_simp; try with_reducible rfl)); simp only [Act.put, List.setIfInBounds_toArray, List.set_cons_zero, List.set_cons_succ])
                | (refine mix_skip hSw0.out (by rfl) ?_; simp only [Act.put, List.setIfInBounds_toArray, List.set_cons_zero, List.set_cons_succ]))
              refine mix_nil ?_
              obtain ⟨w5, hw5⟩ : ∃ w5, w5 = w4.drew := ⟨_, rfl⟩
              rw [← hw5]
              have HB5 : Hid (Below w4.heap.size w4 w5) := Lib.hid (by rw [hw5]; exact (Below.refl _ _).drew)
              have c16 : w5.cell? ⟨gs, 16, none⟩ = some (.slice A1 Bl.length d1) := (HB5.out.cell hz4).trans (blk_cell HS4.out rfl)
              have HR5 : Hid (Below wo.heap.size wo w5) := Lib.hid (HB4.out.trans (HB5.out.mono HB4.out.size))
              have HR35 : Hid (Below w3.heap.size w3 w5) := Lib.hid (HBo.out.trans (HR5.out.mono hszo))
              clear hw5
              go_wp2_with fail
              refine (rfits_any A1 As nb d1 cs K Bk s Bl _ HNB.out hnb4 (by omega) (HRL.out.1.below HR5.out) (HRS.out.below HR35.out) (fun l hl => Nat.le_trans (HLLu.out l hl) (by decide)) (fun j _ => Nat.le_trans (blen_le (by omega)) (by omega))).mono ?_
              rintro e w6 ⟨hb6, hfe⟩
              have HB6 : Hid (Below w3.heap.size w3 w6) := Lib.hid (HR35.out.trans (hb6.mono HR35.out.size))
              clear hb6
              rcases hfe with ⟨hf, rfl⟩ | ⟨hf, rfl⟩
              · have HFI := Lib.hid hf
                clear hf c16
                go_wp2
                go_roundg (N - (k + 1))
                case measure => omega
                case rel => exact ⟨k + 1, by omega, rfl, by go_num, fun t ht => by
                  by_cases e : t = k
                  · rw [e, ← HU.out]
                    exact .inr ⟨HYE.out, by rw [HK'.out, HB'.out, HS'.out, ← HBL.out]; exact HFI.out⟩
                  · exact HOK.out t (by omega), HB6.out⟩
              · have HLE : Hid (LookE n H BL 41) := Lib.hid (.inr ⟨k0, HF.out, by rw [← HZ.out]; exact .inr (.inr (.inl ⟨HE.out, by rw [HSHN.out]; exact HSH.out, u, hun, HLT.out, HUG.out, .inr ⟨HYE.out, by rw [HK'.out, HB'.out, HS'.out, ← HBL.out]; exact hf, rfl⟩⟩))⟩)
                clear hf c16
                go_wp2
                go_ret2
                exact ⟨HB3.out.trans (HB6.out.mono HB3.out.size), 41, none, 0, [], HLE.out, rfl, RL.nil _ _, fun _ => rfl, fun h => absurd h (by decide)⟩
          · obtain rfl : N = k := by omega
            have HOKA : Hid (∀ v, v < n → okS Z H BL v) := Lib.hid fun v hv => by
              cases hg : gone (H v)
              · obtain ⟨s', h3, h4⟩ := pk_has hv (ls_pos.2 hg)
                rw [← h4]; exact HOK.out s' (by rw [HN.out]; exact h3)
              · exact .inl hg
            have HCN : Hid (cntG H n = N) := Lib.hid (by rw [HN.out, pkN_cntG])
            have HGo : Hid (wo.heap[gm]? = some (.cells #[.int .u8 Z.s0, .int .u8 Z.s1, .int .u8 Z.s2, .int .u8 Z.s3, .int .u8 Z.s4, .int .u8 Z.s5, .int .u8 Z.s6, .int .u8 Z.s7, .int .i64 Z.K, .int .i64 Z.M, .int .i64 Z.B, .string Z.key, .int .i64 Z.size, .int .i64 Z.idx, .int .i64 Z.ep, .int .i64 Z.ct] 42 (0, 0))) := Lib.hid ((HBo.out.block gm hz3).trans HG3.out)
            have hszo := HBo.out.size
            have cK : wo.cell? ⟨gm, 8, none⟩ = some (.int .i64 (K : Int)) := by rw [← HK.out]; exact blk_cell HGo.out rfl
            have HBW : Hid (Below w.heap.size w wo) := Lib.hid (HB3.out.trans (HBo.out.mono HB3.out.size))
            clear hk hlt HOK
            by_cases hNK : N < K
            · have HLE : Hid (LookE n H BL 42) := Lib.hid (.inr ⟨k0, HF.out, by rw [← HZ.out]; exact .inr (.inr (.inr (.inl ⟨HE.out, by rw [HSHN.out]; exact HSH.out, HOKA.out, by rw [HCN.out, HK'.out]; exact hNK, rfl⟩)))⟩)
              have t5 : (N : Int) < (K : Int) := by omega
              clear hNK
              go_wp2
              go_ret2
              exact ⟨HBW.out, 42, none, 0, [], HLE.out, rfl, RL.nil _ _, fun _ => rfl, fun h => absurd h (by decide)⟩
            · have HLE : Hid (LookE n H BL 0) := Lib.hid (.inr ⟨k0, HF.out, by rw [← HZ.out]; exact .inr (.inr (.inr (.inr ⟨HE.out, by rw [HSHN.out]; exact HSH.out, HOKA.out, by rw [HCN.out, HK'.out]; omega, rfl⟩)))⟩)
              have t5 : ¬ (N : Int) < (K : Int) := by omega
              have hKN : K ≤ N := by omega
              have hle0 : (0 : Int) ≤ (K : Int) := by omega
              have hle1 : (K : Int) ≤ (cp : Int) := by omega
              clear hNK
              have hKn5 : n ≤ 255 := by have := HSH.out; omega
              have HRPo : Hid (Rd wo (some ⟨bp, op, none⟩) K (fun t => .int .i64 ((el (pkA (lsG H) n t)).val : Nat))) := Lib.hid fun t ht => by
                obtain ⟨bp', op', ep, h1, h2⟩ := HRP.out t (by omega)
                injection ep with ep
                injection ep with ep1 ep2
                subst ep1 ep2
                have h3 := HR3.out.size
                have h4 := (pkA_ok (lsG H) n t (by rw [← HN.out]; omega)).1
                refine ⟨bp, op, rfl, by omega, ?_⟩
                rw [HBo.out.cell (by show bp < _; omega), HR3.out.cell hbp]
                show _ = some (Value.int .i64 (((el (pkA (lsG H) n t)).val : Nat) : Int))
                rw [el_val (by omega)]
                exact h2
              have KS : Hid (∀ w', Below wo.heap.size wo w' → w'.cell? ⟨gm, 8, none⟩ = some (.int .i64 (K : Int))) := Lib.hid fun w' hb => (hb.cell (by show gm < _; omega)).trans cK
              have HWO := Lib.hid (fun (w' : World) (h1 : Rd w' (some ⟨bp, op, none⟩) K (fun t => .int .i64 ((el (pkA (lsG H) n t)).val : Nat))) => weights_own (some ⟨bp, op, none⟩) K K cp (fun t => el (pkA (lsG H) n t)) w' (by omega) (by omega) h1)
              have cK' := cK
              go_wp2_with fail
              clear cK cK'
              refine wp_region_mix [(true, true, false), (true, true, false), (true, true, true), (true, true, false), (true, true, false), (true, true, false), (true, true, true), (true, true, false), (false, false, false), (false, true, false)] mixed (by kernel_rfl) (fun wx => wx.cell? ⟨gm, 8, none⟩ = some (.int .i64 (K : Int))) (KS.out _ (Below.refl _ _).drew) ?_
              intro hSw0
              simp only [hdM, tlM, List.cons_append, List.nil_append]
              repeat (first
                | (refine mix_look hSw0.out ?_ (by rfl) (fun w4 hSw => ?_) ?_; rotate_left; (focus (have s1 := hSw; go_simp; try with_reducible rfl)); simp only [Act.put, List.setIfInBounds_toArray, List.set_cons_zero, List.set_cons_succ])
                | (refine mix_pure ?_ (by rfl) (fun w4 => ?_) ?_; rotate_left; (focus (go_simp; try with_reducible rfl)); simp only [Act.put, List.setIfInBounds_toArray, List.set_cons_zero, List.set_cons_succ]))
              refine mix_step (fun K hK => ?_)
              go_simp
              refine (HWO.out _ (HRPo.out.below (Below.refl _ _).drew)).mono ?_
              rintro e w7 ⟨vW, SW, CW, O, rfl, hOW, hSh, hb7⟩
              have HSH7 := Lib.hid hSh
              have HB7 : Hid (Below wo.heap.size wo w7) := Lib.hid ((Below.refl wo.heap.size wo).drew.trans hb7)
              clear hSh hb7
              dsimp only
              refine hK.out _ _ (fun _ _ => KS.out _ HB7.out) ?_
              clear hK K
              try simp only [Act.put, List.setIfInBounds_toArray, List.set_cons_zero, List.set_cons_succ]
              repeat (refine mix_pure ?_ (by rfl) (fun w4 => ?_) ?_; rotate_left; (focus (go_simp; try with_reducible rfl)); simp only [Act.put, List.setIfInBounds_toArray, List.set_cons_zero, List.set_cons_succ])
              refine mix_nil ?_
              obtain ⟨Aw, cw, rfl, hcw, hWT⟩ := hOW.rdmb
              have HWT := Lib.hid hWT
              have hz7 := HB7.out.size
              have HB37 : Hid (Below w3.heap.size w3 w7) := Lib.hid (HBo.out.trans (HB7.out.mono HBo.out.size))
              clear hOW hWT KS HRPo
              have HBW7 : Hid (Below w.heap.size w w7) := Lib.hid (HB3.out.trans (HB37.out.mono HB3.out.size))
              obtain ⟨F, hF⟩ : ∃ F, F = jnB K Bk s n H BL (fun i => if i < K then O i else Classical.choose (shP_ex K (fun t => el (pkA (lsG H) n t)) (el i))) := ⟨_, rfl⟩
              have HFF := Lib.hid hF; clear hF
              have hz37 : gm < w7.heap.size := by have := HB37.out.size; omega
              go_wp2_with fail
              go_loopg [15, 17] nb (fun gk v q wr => ∃ j : Nat, j ≤ nb ∧ gk = nb - j ∧ q = .int .i64 j ∧ OwnB wr w7.heap.size v (mkL (cutP K Bk s j 0) F) ∧ Below w7.heap.size w7 wr)
              case atStart => exact ⟨0, Nat.zero_le _, rfl, rfl, by rw [cutP_zero]; exact OwnB.nil _ _, Below.refl _ _⟩
              case round =>
                obtain ⟨w8, rfl⟩ : ∃ w8 : World, w8 = wr := ⟨_, rfl⟩
                obtain ⟨j, hj, rfl, rfl, hO, hb⟩ := hrel
                have HO8 := Lib.hid hO; have HB8 := Lib.hid hb
                have hsz8 := hb.size
                clear hO hb
                by_cases hlt : j < nb
                · have HB38 : Hid (Below w3.heap.size w3 w8) := Lib.hid (HB37.out.trans (HB8.out.mono HB37.out.size))
                  obtain ⟨bs, os, rfl, hbs, hcs0⟩ := HRS.out j hlt
                  obtain ⟨lk, hlk⟩ : ∃ lk, lk = blen K Bk s j := ⟨_, rfl⟩
                  have hlkB : lk ≤ 65536 := by rw [hlk]; exact Nat.le_trans (blen_le (by omega)) (by omega)
                  have KC : Hid (∀ w', Below w7.heap.size w7 w' → w'.cell? ⟨gm, 8, none⟩ = some (.int .i64 (K : Int)) ∧ w'.cell? ⟨bs, os + j, none⟩ = some (.int .i64 (lk : Int)) ∧ w'.heap[gm]? = some (.cells #[.int .u8 Z.s0, .int .u8 Z.s1, .int .u8 Z.s2, .int .u8 Z.s3, .int .u8 Z.s4, .int .u8 Z.s5, .int .u8 Z.s6, .int .u8 Z.s7, .int .i64 Z.K, .int .i64 Z.M, .int .i64 Z.B, .string Z.key, .int .i64 Z.size, .int .i64 Z.idx, .int .i64 Z.ep, .int .i64 Z.ct] 42 (0, 0))) := Lib.hid fun w' hb => by
                    have h1 : w'.heap[gm]? = some (.cells #[.int .u8 Z.s0, .int .u8 Z.s1, .int .u8 Z.s2, .int .u8 Z.s3, .int .u8 Z.s4, .int .u8 Z.s5, .int .u8 Z.s6, .int .u8 Z.s7, .int .i64 Z.K, .int .i64 Z.M, .int .i64 Z.B, .string Z.key, .int .i64 Z.size, .int .i64 Z.idx, .int .i64 Z.ep, .int .i64 Z.ct] 42 (0, 0)) := (hb.block gm hz37).trans ((HB37.out.block gm hz3).trans HG3.out)
                    refine ⟨by rw [← HK.out]; exact blk_cell h1 rfl, ?_, h1⟩
                    rw [hb.cell (by show bs < _; have := HB37.out.size; omega), HB37.out.cell hbs, hlk]; exact hcs0
                  have HLK := Lib.hid hlk
                  have HJL := Lib.hid hlt
                  clear hlk hcs0
                  have ck1 := (KC.out w8 HB8.out).1
                  obtain ⟨S0, C0, hrd0, hrl0⟩ := HA.out
                  have HPK : Hid (∀ t, t < K → pkA (lsG H) n t < n ∧ fitS K Bk s (BL (pkA (lsG H) n t))) := Lib.hid fun t ht => by
                    obtain ⟨h1, h2⟩ := pkA_gone (H := H) (n := n) (t := t) (by rw [HCN.out]; omega)
                    refine ⟨h1, ?_⟩
                    rcases HOKA.out _ h1 with h3 | ⟨_, h3⟩
                    · rw [h2] at h3; cases h3
                    · rw [HK'.out, HB'.out, HS'.out] at h3; exact h3
                  obtain ⟨D, hD⟩ : ∃ D : Nat → Nat → Fin 256, D = fun t c => el (((BL (pkA (lsG H) n t)).getD j []).getD c 0) := ⟨_, rfl⟩
                  have hv : ∀ t, ∃ (a1 : Option Addr) (c1 : Nat), t < K → (∃ bb oo, S0 (pkA (lsG H) n t) = some ⟨bb, oo, none⟩ ∧ bb < w.heap.size ∧ w.cell? ⟨bb, oo + j, none⟩ = some (.slice a1 lk c1)) ∧ Rd w a1 lk (fun c => .int .u8 ((D t c).val : Nat)) := fun t => by
                    by_cases ht : t < K
                    · obtain ⟨h1, h2⟩ := HPK.out t ht
                      obtain ⟨⟨S', C', h3, h4⟩, _⟩ := hrl0 _ h1
                      have hjl : j < (BL (pkA (lsG H) n t)).length := by rw [h2.1, ← HNB.out]; exact HJL.out
                      have hbl : ((BL (pkA (lsG H) n t)).getD j []).length = lk := by rw [h2.2 j hjl, HLK.out]
                      obtain ⟨bb, oo, e1, e2, e3⟩ := h3 j hjl
                      refine ⟨S' j, C' j, fun _ => ⟨⟨bb, oo, e1, e2, ?_⟩, ?_⟩⟩
                      · rw [← hbl]; exact e3
                      · have h5 := h4 j hjl
                        rw [← hbl]
                        refine Rd.congr h5 fun c hc => ?_
                        rw [hD]
                        show Value.int .u8 _ = Value.int .u8 (((el _).val : Nat) : Int)
                        rw [el_val (getD_any (HX.out _ h1 _ (getD_memL hjl)) c)]
                    · exact ⟨none, 0, fun h => absurd h ht⟩
                  obtain ⟨aF, hv1⟩ : ∃ aF : Nat → Option Addr, ∀ t, ∃ (c1 : Nat), t < K → (∃ bb oo, S0 (pkA (lsG H) n t) = some ⟨bb, oo, none⟩ ∧ bb < w.heap.size ∧ w.cell? ⟨bb, oo + j, none⟩ = some (.slice (aF t) lk c1)) ∧ Rd w (aF t) lk (fun c => .int .u8 ((D t c).val : Nat)) := ⟨fun t => Classical.choose (hv t), fun t => Classical.choose_spec (hv t)⟩
                  obtain ⟨cF, hv2⟩ : ∃ cF : Nat → Nat, ∀ t, t < K → (∃ bb oo, S0 (pkA (lsG H) n t) = some ⟨bb, oo, none⟩ ∧ bb < w.heap.size ∧ w.cell? ⟨bb, oo + j, none⟩ = some (.slice (aF t) lk (cF t))) ∧ Rd w (aF t) lk (fun c => .int .u8 ((D t c).val : Nat)) := ⟨fun t => Classical.choose (hv1 t), fun t => Classical.choose_spec (hv1 t)⟩
                  have HV := Lib.hid hv2; have HRD := Lib.hid hrd0; have HD := Lib.hid hD
                  have HBW8 : Hid (Below w.heap.size w w8) := Lib.hid (HBW7.out.trans (HB8.out.mono HBW7.out.size))
                  have hww := HBW8.out.size
                  clear hv hv1 hv2 hrd0 hrl0 hD
                  go_wp2
                  clear hlt
                  go_loopg [18, 19] K (fun gk v q wr => ∃ i : Nat, i ≤ K ∧ gk = K - i ∧ q = .int .i64 i ∧ Own wr w8.heap.size 43 1 v i (fun t => [.slice (aF t) lk (cF t)]) ∧ Below w8.heap.size w8 wr)
                  case atStart => exact ⟨0, Nat.zero_le _, rfl, rfl, Own.nil _ _ _ _ _, Below.refl _ _⟩
                  case round =>
                    obtain ⟨i, hi, rfl, rfl, hOi, hb⟩ := hrel
                    have HBi := Lib.hid hb
                    have hszi := hb.size
                    have ck2 := (KC.out wr (HB8.out.trans (hb.mono hsz8))).1
                    by_cases hlt : i < K
                    · obtain ⟨⟨bb, oo, e1, e2, e3⟩, _⟩ := HV.out i hlt
                      obtain ⟨hun, hfit⟩ := HPK.out i hlt
                      have hle := HRD.out.list hun
                      rw [hfit.1, ← HNB.out, e1] at hle
                      obtain ⟨bp', op', ep, hbp', hcp1⟩ := HRP.out i (by omega)
                      injection ep with ep
                      injection ep with ep1 ep2
                      subst ep1 ep2
                      obtain ⟨u, hu⟩ : ∃ u, u = pkA (lsG H) n i := ⟨_, rfl⟩
                      rw [← hu] at hle hun
                      have hBwr : Below w.heap.size w wr := HBW8.out.trans (hb.mono HBW8.out.size)
                      have hblt := HRD.out.lt hun
                      have c1 : wr.cell? ⟨bp, op + i, none⟩ = some (.int .i64 (u : Nat)) := by
                        have h1 := HR3.out.size; have h2 := HB37.out.size
                        rw [hb.cell (by show bp < _; omega), HB8.out.cell (by show bp < _; omega), HB37.out.cell (by show bp < _; omega), HR3.out.cell hbp, hu]; exact hcp1
                      have c2 : wr.cell? ⟨b, o + u * 17 + 16, none⟩ = some (.slice (some ⟨bb, oo, none⟩) nb (C0 u)) := by
                        rw [hBwr.cell hblt, hle, hu]
                      have c3 : wr.cell? ⟨bb, oo + j, none⟩ = some (.slice (aF i) lk (cF i)) := (hBwr.cell e2).trans e3
                      have hjlt := HJL.out
                      obtain ⟨Cu, hCu⟩ : ∃ Cu, Cu = C0 u := ⟨_, rfl⟩
                      rw [← hCu] at c2
                      clear hCu hle e1 e3 hfit hcp1 hu hBwr hblt
                      go_wp2_with (at_builtin; refine wpList_push _ rfl (.tmp 135) (.tmp 147) 67 rfl w8.heap.size 43 1 24 (.slice none 0 0) #[.slice (aF i) lk (cF i)] Try.underlying67 bytesInfo rfl (by decide) _ i _ rfl hOi hszi _ rfl rfl rfl rfl rfl (by omega) (by omega) ?_; intro v3 w9 hO9 hb9 _ _; have HO9 := Lib.hid hO9; have HB9 := Lib.hid (HBi.out.trans hb9); clear hO9 hb9)
                      go_roundg (K - (i + 1))
                      case measure => omega
                      case rel => exact ⟨i + 1, by omega, rfl, by go_num, HO9.out, HB9.out⟩
                    · obtain rfl : K = i := by omega
                      clear hi hlt
                      obtain ⟨Ar, cr, rfl, _, _, hRr, _⟩ := hOi.rd
                      have HBr := HBi
                      have HRM : Hid (RdM wr Ar K (fun _ => lk) (fun t c => .int .u8 ((D t c).val : Nat))) := Lib.hid ⟨aF, cF, hRr, fun t ht => (HV.out t ht).2.below (HBW8.out.trans (HBi.out.mono HBW8.out.size))⟩
                      clear hOi hb hRr
                      go_wp2_with fail
                      refine (by_own Aw Ar K K cw cr lk O D _ (by omega) (by omega) (by omega) (by omega) ((HWT.out.rdm.below HB8.out).below HBr.out) HRM.out).mono ?_
                      rintro e w6 ⟨v6, S6, C6, rfl, hO6, hb6⟩
                      have HB6 : Hid (Below w8.heap.size w8 w6) := Lib.hid (HBr.out.trans (hb6.mono HBr.out.size))
                      have hO6 := OwnM.monoB hO6 HBr.out.size
                      obtain ⟨gw, cw6, rfl, hgw1, hgw2, hgw3, _⟩ := hO6.1.form (by omega)
                      have HO6 := Lib.hid hO6
                      clear hO6 hb6 ck1 ck2
                      obtain ⟨L, hL⟩ : ∃ L, L = lng (K * Bk) s j := ⟨_, rfl⟩
                      obtain ⟨b1, b2, b3, b4, b5⟩ := blen_facts (K := K) (B := Bk) (s := s) (j := j) (by omega) (by omega) (by rw [← HNB.out]; exact HJL.out)
                      rw [← hL, ← HLK.out] at b4 b5
                      rw [← HLK.out] at b1 b2
                      obtain ⟨pj, hpj⟩ : ∃ pj, pj = cutP K Bk s j 0 := ⟨_, rfl⟩
                      have hpj2 : pj = j * (K * Bk) ∧ pj + L ≤ s ∧ L ≤ K * Bk := by
                        have h1 := (lt_nblk (S := K * Bk) (s := s) (j := j) (Nat.mul_pos (by omega) (by omega))).1 (by rw [← HNB.out]; exact HJL.out)
                        rw [hpj, hL]; unfold cutP lng; rw [Nat.zero_mul]; omega
                      have HVAL : Hid (∀ x, x < L → x / lk < K ∧ x % lk < lk ∧ F (pj + x) = (gE.s K (fun t => gE.m (O (x / lk) t) (D t (x % lk)))).val) := Lib.hid fun x hx => by
                        obtain ⟨q1, q2, q3⟩ := hpj2
                        have hp : pj + x < s := by omega
                        obtain ⟨r1, r2, r3⟩ := row_at (K := K) (B := Bk) (s := s) (by omega) (by omega) hp
                        have e1 : (pj + x) / (K * Bk) = j := by rw [q1, Nat.add_comm, Nat.add_mul_div_right _ _ (by omega), Nat.div_eq_of_lt (by omega), Nat.zero_add]
                        have e2 : (pj + x) % (K * Bk) = x := by rw [q1, Nat.add_comm, Nat.add_mul_mod_self_right, Nat.mod_eq_of_lt (by omega)]
                        rw [e1, e2, ← HLK.out] at r2 r3
                        refine ⟨r2, r3, ?_⟩
                        rw [HFF.out]
                        unfold jnB
                        rw [e1, e2, ← HLK.out, HD.out]
                        congr 1
                        refine gE.s_congr fun t ht => ?_
                        dsimp only
                        rw [if_pos r2]
                      have HE1 : Hid (pj + L = cutP K Bk s (j + 1) 0) := Lib.hid (by
                        obtain ⟨q1, q2, q3⟩ := hpj2
                        rw [q1, hL]; unfold cutP lng; rw [Nat.zero_mul, Nat.add_mul, Nat.one_mul]
                        omega)
                      have hLs : L ≤ 1048576 := by omega
                      have hpjs : pj ≤ 1048576 := by omega
                      have HPJ := Lib.hid hpj
                      have HO60 : Hid (OwnB w6 w7.heap.size _ (mkL (pj + 0) F)) := Lib.hid (by rw [Nat.add_zero, hpj]; exact HO8.out.kept HB6.out)
                      have HB76 : Hid (Below w7.heap.size w7 w6) := Lib.hid (HB8.out.trans (HB6.out.mono hsz8))
                      have HV0 := Lib.hid (fun q hq => (Or.inl (HO8.out.lt q hq).2 : q < w8.heap.size ∨ w6.heap.size ≤ q))
                      have HLNG := Lib.hid (fun (w' : World) => long_any K Bk s j (M : Int) w' (by omega) (by omega) (by omega) (by omega) hls (by rw [← HNB.out]; exact HJL.out))
                      rw [← hL] at HLNG
                      have hJl := HJL.out
                      clear hL hpj b1 b2 b3 b4 b5 hpj2
                      go_wp2
                      go_loopg [15, 21] L (fun gk v q wr => ∃ x : Nat, x ≤ L ∧ gk = L - x ∧ q = .int .i64 x ∧ OwnB wr w7.heap.size v (mkL (pj + x) F) ∧ Below w7.heap.size w7 wr ∧ (∀ q, v.ownBlock = some q → q < w8.heap.size ∨ w6.heap.size ≤ q) ∧ (∀ q, w8.heap.size ≤ q → q < w6.heap.size → wr.heap[q]? = w6.heap[q]?) ∧ w6.heap.size ≤ wr.heap.size)
                      case atStart => exact ⟨0, Nat.zero_le _, rfl, rfl, HO60.out, HB76.out, HV0.out, fun _ _ _ => rfl, Nat.le_refl _⟩
                      case round =>
                        clear HO60 HB76 HV0
                        obtain ⟨x, hx, rfl, rfl, hO, hb7, hV, hmid, hsz⟩ := hrel
                        have HO := Lib.hid hO; have HB7r := Lib.hid hb7; have HVv := Lib.hid hV; have HMID := Lib.hid hmid
                        obtain ⟨k1, k2, k3⟩ := KC.out wr hb7
                        have cM : wr.cell? ⟨gm, 9, none⟩ = some (.int .i64 (M : Int)) := by rw [← HM.out]; exact blk_cell k3 rfl
                        have cB : wr.cell? ⟨gm, 10, none⟩ = some (.int .i64 (Bk : Int)) := by rw [← HBk.out]; exact blk_cell k3 rfl
                        have cS : wr.cell? ⟨gm, 12, none⟩ = some (.int .i64 (s : Int)) := by rw [← HS.out]; exact blk_cell k3 rfl
                        clear hO hb7 hV hmid k2 k3
                        go_wp2_with fail
                        refine (HLNG.out _).mono ?_
                        rintro e wq ⟨rfl, hbq⟩
                        have HBQ := Lib.hid hbq
                        clear hbq k1 cM cB cS
                        have HBr7 : Hid (Below w7.heap.size w7 wq) := Lib.hid (HB7r.out.trans (HBQ.out.mono HB7r.out.size))
                        have hszq := HBQ.out.size
                        have HMQ : Hid (∀ q, w8.heap.size ≤ q → q < w6.heap.size → wq.heap[q]? = w6.heap[q]?) := Lib.hid fun q h1 h2 => (HBQ.out.block q (by omega)).trans (HMID.out q h1 h2)
                        by_cases hlt : x < L
                        · obtain ⟨v1, v2, v3⟩ := HVAL.out x hlt
                          have hlk0 : 0 < lk := by omega
                          have hdv : (x : Int).tdiv (lk : Int) = ((x / lk : Nat) : Int) := by rw [Int.tdiv_eq_ediv_of_nonneg (by omega)]; exact (Int.natCast_ediv _ _).symm
                          have hmd : (x : Int).tmod (lk : Int) = ((x % lk : Nat) : Int) := by rw [Int.tmod_eq_emod_of_nonneg (by omega)]; exact (Int.natCast_emod _ _).symm
                          obtain ⟨y, hy⟩ : ∃ y, y = x / lk := ⟨_, rfl⟩
                          obtain ⟨z, hz⟩ : ∃ z, z = x % lk := ⟨_, rfl⟩
                          rw [← hy] at v1 v3 hdv; rw [← hz] at v2 v3 hmd
                          have hrow := HO6.out.2 y v1
                          obtain ⟨g6, c6, e6, hg61, hg62, _, _⟩ := hrow.form (by omega)
                          injection e6 with e61 _ e63
                          rw [e61, e63] at hrow
                          have cT : wq.cell? ⟨gw, y, none⟩ = some (.slice (some ⟨g6, 0, none⟩) lk c6) := by
                            rw [World.cell?_of_block (a := ⟨gw, y, none⟩) (HMQ.out gw hgw1 hgw2), Own.cell1 HO6.out.1 v1, e61, e63]
                          have cB : wq.cell? ⟨g6, z, none⟩ = some (.int .u8 (F (pj + x) : Nat)) := by
                            rw [World.cell?_of_block (a := ⟨g6, z, none⟩) (HMQ.out g6 hg61 hg62), Own.cell1 hrow v2, v3]
                          have c4 := (KC.out wq HBr7.out).2.1
                          obtain ⟨Ao, co, ev, _, _, _, _⟩ := HO.out.rd
                          rw [mkL_length] at ev
                          subst ev
                          have hbs7 : bs < w7.heap.size := by have := HB37.out.size; omega
                          have hw7q := HBr7.out.size
                          have KS : Hid (∀ w', Below wq.heap.size wq w' → w'.cell? ⟨gw, y, none⟩ = some (.slice (some ⟨g6, 0, none⟩) lk c6) ∧ w'.cell? ⟨g6, z, none⟩ = some (.int .u8 (F (pj + x) : Nat)) ∧ w'.cell? ⟨bs, os + j, none⟩ = some (.int .i64 (lk : Int))) := Lib.hid fun w' hb => ⟨(hb.cell (by show gw < _; omega)).trans cT, (hb.cell (by show g6 < _; omega)).trans cB, (hb.cell (by show bs < _; omega)).trans c4⟩
                          have HOq : Hid (Own wq.drew w7.heap.size 5 1 (.slice Ao (pj + x) co) (pj + x) (fun t => [.int .u8 (F t : Nat)])) := Lib.hid (by
                            have h1 := (HO.out.kept HBQ.out.drew).own
                            rw [mkL_length] at h1
                            exact h1.congr fun t ht => by rw [mkL_get ht])
                          have HNE : Hid (Value.ownBlock (.slice Ao (pj + x) co) ≠ some gw ∧ Value.ownBlock (.slice Ao (pj + x) co) ≠ some g6 ∧ Value.ownBlock (.slice Ao (pj + x) co) ≠ some bs) := Lib.hid ⟨fun e => (by rcases HVv.out gw e with h1 | h1 <;> omega), fun e => (by rcases HVv.out g6 e with h1 | h1 <;> omega), fun e => (by have := (HOq.out.lt bs e).1; omega)⟩
                          have HS9 : Hid (∀ w', wq.drew.grownBy w' (Value.ownBlock (.slice Ao (pj + x) co)) → w'.cell? ⟨gw, y, none⟩ = some (.slice (some ⟨g6, 0, none⟩) lk c6) ∧ w'.cell? ⟨g6, z, none⟩ = some (.int .u8 (F (pj + x) : Nat)) ∧ w'.cell? ⟨bs, os + j, none⟩ = some (.int .i64 (lk : Int))) := Lib.hid fun w' hg =>
                            ⟨hg.cell (KS.out _ (Below.refl wq.heap.size wq).drew).1 (fun e => HNE.out.1 e.symm), hg.cell (KS.out _ (Below.refl wq.heap.size wq).drew).2.1 (fun e => HNE.out.2.1 e.symm), hg.cell (KS.out _ (Below.refl wq.heap.size wq).drew).2.2 (fun e => HNE.out.2.2 e.symm)⟩
                          have hne2 : ¬ lk = 0 := by omega
                          have hwy : IntKind.i64.wrap ((y : Nat) : Int) = (y : Int) := i64_small _ (by omega) (by omega)
                          have hwz : IntKind.i64.wrap ((z : Nat) : Int) = (z : Int) := i64_small _ (by omega) (by omega)
                          have hwB : w7.heap.size ≤ wq.drew.heap.size := hw7q
                          have HLK0 := Lib.hid hlk0
                          clear cT cB c4 v3 hrow hy hz hlk0 HVAL e61 e63
                          go_wp2_with fail
                          refine wp_region_mix [(true, true, false), (true, true, false), (true, true, false), (true, true, false), (true, true, false), (true, true, false), (true, true, true), (true, true, false), (true, true, false), (true, true, true), (true, true, false), (true, true, false), (true, true, false), (true, true, false), (true, true, true), (true, true, false), (true, true, false), (true, true, true), (false, false, false), (false, false, false), (false, true, false)] mixed (by kernel_rfl) (fun wx => wx.cell? ⟨gw, y, none⟩ = some (.slice (some ⟨g6, 0, none⟩) lk c6) ∧ wx.cell? ⟨g6, z, none⟩ = some (.int .u8 (F (pj + x) : Nat)) ∧ wx.cell? ⟨bs, os + j, none⟩ = some (.int .i64 (lk : Int))) (KS.out _ (Below.refl _ _).drew) ?_
                          intro hSw0
                          simp only [hdM, tlM, List.cons_append, List.nil_append]
                          repeat (first
                            | (refine mix_look hSw0.out ?_ (by rfl) (fun w4 hSw => ?_) ?_; rotate_left; (focus (obtain ⟨s1, s2, s3⟩ := hSw; go_simp; try with_reducible rfl)); simp only [Act.put, List.setIfInBounds_toArray, List.set_cons_zero, List.set_cons_succ])
                            | (refine mix_pure ?_ (by rfl) (fun w4 => ?_) ?_; rotate_left; (focus (go_simp; try with_reducible rfl)); simp only [Act.put, List.setIfInBounds_toArray, List.set_cons_zero, List.set_cons_succ]))
                          refine mix_step (fun K hK => ?_)
                          go_simp
                          refine hK.out _ _ (fun _ _ => KS.out _ ((Below.refl wq.heap.size wq).drew.alloc (Nat.le_refl _) _)) ?_
                          clear hK K
                          try simp only [Act.put, List.setIfInBounds_toArray, List.set_cons_zero, List.set_cons_succ]
                          refine mix_list (fun K hK => ?_)
                          change wpList _ _ _ _ _ (World.alloc wq.drew _)
                          refine wpList_push wq.drew rfl (.tmp 162) (.tmp 180) 43 rfl w7.heap.size 5 1 1 (.int .u8 0) #[.int .u8 (F (pj + x) : Nat)] Try.underlying43 byteInfo rfl (by decide) _ (pj + x) _ rfl HOq.out hwB _ rfl rfl rfl rfl rfl (by omega) (by omega) ?_
                          intro v9 w9 hO9 hb9 hg9 hat9
                          refine hK.out _ _ (fun _ _ => HS9.out _ hg9) ?_
                          clear hK K
                          try simp only [Act.put, List.setIfInBounds_toArray, List.set_cons_zero, List.set_cons_succ]
                          repeat (refine mix_pure ?_ (by rfl) (fun w4 => ?_) ?_; rotate_left; (focus (go_simp; try with_reducible rfl)); simp only [Act.put, List.setIfInBounds_toArray, List.set_cons_zero, List.set_cons_succ])
                          refine mix_nil ?_
                          have HOn : Hid (OwnB w9 w7.heap.size v9 (mkL (pj + (x + 1)) F)) := Lib.hid (OwnB.of (by
                            rw [mkL_length]
                            exact hO9.congr fun t ht => by rw [mkL_get (by omega)]))
                          have HBn : Hid (Below w7.heap.size w7 w9) := Lib.hid ((HBr7.out.drew).trans (hb9.mono (by first | exact Nat.le_refl _ | exact hw7q)))
                          have HMn : Hid (∀ q, w8.heap.size ≤ q → q < w6.heap.size → w9.heap[q]? = w6.heap[q]?) := Lib.hid fun q h1 h2 => by
                            rw [hg9.block q (by show q < wq.heap.size; omega) (fun e => by rcases HVv.out q e.symm with h3 | h3 <;> omega)]
                            exact HMQ.out q h1 h2
                          have HVn : Hid (∀ q, v9.ownBlock = some q → q < w8.heap.size ∨ w6.heap.size ≤ q) := Lib.hid fun q e => by
                            rcases hat9 with h1 | h1
                            · rw [h1] at e; exact HVv.out q e
                            · rw [h1] at e; injection e with e
                              have : wq.drew.heap.size = wq.heap.size := rfl
                              exact .inr (by omega)
                          have HSn : Hid (w6.heap.size ≤ w9.heap.size) := Lib.hid (by have h1 := hg9.size; have : wq.drew.heap.size = wq.heap.size := rfl; omega)
                          clear hO9 hb9 hg9 hat9
                          go_wp2
                          go_roundg (L - (x + 1))
                          case measure => omega
                          case rel => exact ⟨x + 1, by omega, rfl, by go_num, HOn.out, HBn.out, HVn.out, HMn.out, HSn.out⟩
                        · obtain rfl : L = x := by omega
                          clear hx hlt
                          go_wp2
                          go_roundg (nb - (j + 1))
                          case measure => omega
                          case rel => exact ⟨j + 1, by omega, rfl, by go_num, by rw [← HE1.out]; exact HO.out.kept HBQ.out, HBr7.out⟩
                · obtain rfl : nb = j := by omega
                  clear hj hlt
                  go_wp2
                  go_ret2
                  obtain ⟨A9, c9, rfl, _, _, hr9, _⟩ := HO8.out.rd
                  refine ⟨HBW7.out.trans (HB8.out.mono HBW7.out.size), 0, A9, c9, _, HLE.out, rfl, hr9, fun h => absurd rfl h, fun _ => ⟨k0, HF.out, ?_⟩⟩
                  rw [← HZ.out, HNB.out, cutP_end (by omega) (by omega), HFF.out]
                  refine ⟨_, fun i hi => ?_, by rw [HK'.out, HB'.out, HS'.out]⟩
                  rw [HK'.out]
                  by_cases hiK : i < K
                  · simp only [if_pos hiK]; exact HSH7.out i hiK
                  · simp only [if_neg hiK]; exact Classical.choose_spec (shP_ex K _ (el i))
end Go.Proofs.Ytjaaldandgfkgaa
