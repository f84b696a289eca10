/- stripe.Join: the walk. Conditions: shards that memory bears. -/
import Derived.Test.YtjaaldandgfkgaaJnU
import Derived.Test.YtjaaldandgfkgaaJn
import Derived.Test.YtjaaldandgfkgaaRebM
import Derived.Test.YtjaaldandgfkgaaSpL
namespace Go.Proofs.Ytjaaldandgfkgaa
open Go.RowKit

/-- What Join answers. -/
def JoinPost (w : World) (n : Nat) (H : Nat → Hd) (BL : Nat → List (List Nat)) (e : Ending) (w' : World) : Prop :=
  Below w.heap.size w w' ∧ ∃ (er : Int) (l : List Nat) (v : Value), LookE n H BL er ∧ e = .returned (.tuple #[v, .int .i64 er]) ∧ OwnB w' w.heap.size v l ∧ (er ≠ 0 → l = []) ∧ (er = 0 → ∃ k, FstS n H k ∧ JnL n H BL (H k) l)
/-- The length of a row that is handed to Rebuild. -/
def lnG (H : Nat → Hd) (T t : Nat) : Nat := if gone (H t) = true then 0 else T
theorem lnG_pos {H : Nat → Hd} {T : Nat} (hT : 0 < T) (t : Nat) : 0 < lnG H T t ↔ 0 < lsG H t := by
  unfold lnG lsG; split <;> omega
theorem info_P : (Try.prog.info? 24).map (·.size) = some 3 := by kernel_rfl
theorem RdC.shape {w : World} {b o n i : Nat} {H : Nat → Hd} {V : Nat → Value} (h : RdC w (some ⟨b, o, none⟩) n (fun i => sdC (H i) (V i))) (hi : i < n) : ∀ j u, (#[.int .i64 (H i).K, .int .i64 (H i).M, .int .i64 (H i).B] : Array Value).toList[j]? = some u → w.cell? ((⟨b, o + i * 17 + 8, none⟩ : Addr).add j) = some u := fun j u e => by
  have h1 := h.all hi (8 + j) u (by
    have hj : j < 3 := (List.getElem?_eq_some_iff.1 e).1
    rcases (show j = 0 ∨ j = 1 ∨ j = 2 by omega) with rfl | rfl | rfl <;> exact e)
  rw [add_addr] at h1 ⊢
  rw [show o + i * 17 + 8 + j = o + i * 17 + (8 + j) by omega]; exact h1
theorem RL.off_ {w : World} {r j : Nat} {v : Value} {A : Option Addr} {l : List Nat} (h : RL w A l) (hne : ∀ i, i < l.length → ∀ bk o, A = some ⟨bk, o, none⟩ → bk ≠ r) : RL (w.setCell ⟨r, j, none⟩ v) A l := fun i hi => by
  obtain ⟨bk, o, e, h1, h2⟩ := h i hi
  exact ⟨bk, o, e, by simpa using h1, by rw [← h2]; exact World.cell?_of_block (a := ⟨bk, o + i, none⟩) (Below.heap_setCell _ _ _ _ (hne i hi bk o e))⟩
/-- Join's rows: what the shards that stand hold, each in one piece; the rows' own blocks lie behind the list. -/
structure JR (w : World) (b n k : Nat) (V : Nat → Value) (H : Nat → Hd) (BL : Nat → List (List Nat)) (T : Nat) : Prop where
  top : w.rowIs b 43 n V
  yes : ∀ t, t < k → t < n → gone (H t) = false → ∃ A c, V t = .slice A T c ∧ (BL t).flatten.length = T ∧ RL w A (BL t).flatten ∧ ∀ x o, A = some ⟨x, o, none⟩ → b < x
  no : ∀ t, t < n → k ≤ t ∨ gone (H t) = true → V t = .slice none 0 0
theorem JR.start (w : World) (n : Nat) (H : Nat → Hd) (BL : Nat → List (List Nat)) (T : Nat) : JR (w.alloc (.cells (madeCells #[.slice none 0 0] n) 43)) w.heap.size n 0 (fun _ => .slice none 0 0) H BL T :=
  ⟨World.rowIs_made _ _ _ _, fun _ h => absurd h (by omega), fun _ _ _ => rfl⟩
theorem JR.skip {w : World} {b n k : Nat} {V : Nat → Value} {H : Nat → Hd} {BL : Nat → List (List Nat)} {T : Nat} (h : JR w b n k V H BL T) (hg : gone (H k) = true) : JR w b n (k + 1) V H BL T :=
  ⟨h.top, fun t ht hn hgt => h.yes t (by rcases Nat.lt_or_ge t k with h1 | h1; (exact h1); (exact absurd hg (by rw [show k = t by omega, hgt]; decide))) hn hgt, fun t ht h1 => by
    rcases h1 with h1 | h1
    · exact h.no t ht (.inl (by omega))
    · exact h.no t ht (.inr h1)⟩
theorem JR.put {w w' : World} {b n k : Nat} {V : Nat → Value} {H : Nat → Hd} {BL : Nat → List (List Nat)} {T : Nat} (h : JR w b n k V H BL T) (hk : k < n) (hg : gone (H k) = false) (hb : Below w.heap.size w w') {A : Option Addr} {c : Nat} (hl : (BL k).flatten.length = T) (hA : RL w' A (BL k).flatten) (hx : ∀ x o, A = some ⟨x, o, none⟩ → w.heap.size ≤ x) :
    JR (w'.setCell ⟨b, k, none⟩ (.slice A T c)) b n (k + 1) (upd V k (.slice A T c)) H BL T := by
  have ht : w'.rowIs b 43 n V := below_row h.top hb h.top.lt
  have hbl := h.top.lt
  refine ⟨(ht.set k _).congr fun t _ => ?_, fun t h1 h2 h3 => ?_, fun t h1 h2 => ?_⟩
  · by_cases e : t = k
    · subst e; rw [if_pos rfl, upd_at]
    · rw [if_neg e, upd_ne _ _ _ e]
  · by_cases e : t = k
    · subst e
      exact ⟨A, c, upd_at _ _ _, hl, RL.off_ hA fun _ _ bk o e => by have := hx bk o e; omega, fun x o e => by have := hx x o e; omega⟩
    · obtain ⟨A', c', e1, e2, e3, e4⟩ := h.yes t (by omega) h2 h3
      exact ⟨A', c', by rw [upd_ne _ _ _ e]; exact e1, e2, RL.off_ (e3.below hb) fun _ _ bk o e => by have := e4 bk o e; omega, e4⟩
  · have e : t ≠ k := fun e => by
      rcases h2 with h2 | h2
      · omega
      · rw [e, hg] at h2; cases h2
    rw [upd_ne _ _ _ e]
    exact h.no t h1 (by rcases h2 with h2 | h2; (exact .inl (by omega)); (exact .inr h2))
theorem JR.rdm {w : World} {b n : Nat} {V : Nat → Value} {H : Nat → Hd} {BL : Nat → List (List Nat)} {T : Nat} (h : JR w b n n V H BL T) : RdM w (some ⟨b, 0, none⟩) n (lnG H T) (fun t c => .int .u8 ((BL t).flatten.getD c 0 : Nat)) := by
  have hv : ∀ t, ∃ A c, t < n → V t = .slice A (lnG H T t) c ∧ Rd w A (lnG H T t) (fun c => .int .u8 ((BL t).flatten.getD c 0 : Nat)) := fun t => by
    by_cases ht : t < n
    · cases hg : gone (H t) with
      | true =>
        refine ⟨none, 0, fun _ => ⟨?_, ?_⟩⟩
        · unfold lnG; rw [if_pos hg]; exact h.no t ht (.inr hg)
        · unfold lnG; rw [if_pos hg]; exact Rd.zero _ _ _
      | false =>
        obtain ⟨A, c, e1, e2, e3, _⟩ := h.yes t ht ht hg
        have el : lnG H T t = T := by unfold lnG; rw [if_neg (by rw [hg]; decide)]
        refine ⟨A, c, fun _ => ⟨by rw [el]; exact e1, ?_⟩⟩
        rw [el, ← e2]; exact e3
    · exact ⟨none, 0, fun h => absurd h ht⟩
  refine ⟨fun t => Classical.choose (hv t), fun t => Classical.choose (Classical.choose_spec (hv t)), ?_, fun t ht => (Classical.choose_spec (Classical.choose_spec (hv t)) ht).2⟩
  exact (row_rd h.top).congr fun t ht => (Classical.choose_spec (Classical.choose_spec (hv t)) ht).1
/-- Join's last loops: the object so far, the words' rests. -/
structure FJ (w5 wr : World) (tw n : Nat) (U : Nat → Value) (v : Value) (l : List Nat) : Prop where
  bt : Bt w5 wr tw tw
  word : wr.rowIs tw 43 n U
  out : OwnB wr w5.heap.size v l
theorem FJ.kept {w5 wr w' : World} {tw n : Nat} {U : Nat → Value} {v : Value} {l : List Nat} (h : FJ w5 wr tw n U v l) (hb : Below wr.heap.size wr w') : FJ w5 w' tw n U v l :=
  ⟨h.bt.kept hb, below_row h.word hb h.word.lt, h.out.kept hb⟩
theorem FJ.app {w5 wr w' : World} {tw n i : Nat} {U : Nat → Value} {v v' : Value} {l l' : List Nat} (h : FJ w5 wr tw n U v l) (ht : tw < w5.heap.size) (ho : OwnB w' w5.heap.size v' l') (hb : Below w5.heap.size wr w') (hg : wr.grownBy w' v.ownBlock) (u : Value) :
    FJ w5 (w'.setCell ⟨tw, i, none⟩ u) tw n (upd U i u) v' l' := by
  refine ⟨(h.bt.grown hg fun k e => .inl (h.out.lt k e).1).set (.inl rfl) u, ?_, ho.keptRow (put_grown u) (ne_row ht ho.lt)⟩
  refine ((below_row h.word hb ht).set i u).congr fun t _ => ?_
  by_cases e : t = i
  · subst e; rw [if_pos rfl, upd_at]
  · rw [if_neg e, upd_ne _ _ _ e]
/-- What is left of a word when j rows are out. -/
def UJ (S : Nat → Nat) (T K Bk s nb j : Nat) (u : Value) (t : Nat) : Prop := ∃ A1, u = .slice A1 (T - sumN (blen K Bk s) j) (T - sumN (blen K Bk s) j) ∧ (j < nb → A1 = some ⟨S t, sumN (blen K Bk s) j, none⟩)
set_option maxRecDepth 100000 in
set_option maxHeartbeats 8000000 in
theorem join_any (A : Option Addr) (n c : Nat) (H : Nat → Hd) (BL : Nat → List (List Nat)) (w : World) (hn : n ≤ 1000000000000000) (hW : ∀ i, i < n → HdW (H i)) (hA : RSd w A n H BL) (hL : ∀ i, i < n → (BL i).length ≤ 140737488351232) (hLL : ∀ i, i < n → ∀ l ∈ BL i, l.length ≤ 140737488351232) (hX : ∀ i, i < n → ∀ l ∈ BL i, ∀ x ∈ l, x < 256) :
    Calls Try.prog 28 #[.slice A n c] w (JoinPost w n H BL) := by
  have HW := Lib.hid hW; have HA := Lib.hid hA; have HL := Lib.hid hL; have HX := Lib.hid hX
  have HLK := Lib.hid (look_any A n c H BL w hn hW hA (fun i hi => Nat.le_trans (hL i hi) (by decide)) (fun i hi l hl => Nat.le_trans (hLL i hi l hl) (by decide)))
  clear hW hA hL hLL hX
  go_enter Try.func28, Try.ntmps28
  go_wp2_with fail
  refine HLK.out.mono ?_
  rintro e w1 ⟨hb1, hlk⟩
  have HB1 := Lib.hid hb1
  clear hb1 HLK
  rcases hlk with ⟨er, hne, hle, rfl⟩ | ⟨hle, k0, Z, x, As, cs, hF, hZ, rfl, hRs, hcs1, hcs2⟩
  · have t1 : (er != 0) = true := by rw [bne_iff_ne]; exact hne
    have HNE := Lib.hid hne; have HLE := Lib.hid hle
    have HB2 := Lib.hid (HB1.out.trans (((Below.refl w1.heap.size w1).alloc (Nat.le_refl _) (.cells #[.int .u8 0, .int .u8 0, .int .u8 0, .int .u8 0, .int .u8 0, .int .u8 0, .int .u8 0, .int .u8 0, .int .i64 0, .int .i64 0, .int .i64 0, .string ⟨#[]⟩, .int .i64 0, .int .i64 0, .int .i64 0, .int .i64 0] 42)).mono HB1.out.size))
    clear hne hle
    go_wp2_with (refine wpList_storeNewH rfl (.tmp 4) (.tmp 19) rfl #[.int .u8 0, .int .u8 0, .int .u8 0, .int .u8 0, .int .u8 0, .int .u8 0, .int .u8 0, .int .u8 0, .int .i64 0, .int .i64 0, .int .i64 0, .string ⟨#[]⟩, .int .i64 0, .int .i64 0, .int .i64 0, .int .i64 0] rfl rfl rfl rfl rfl ?_)
    go_ret2
    exact ⟨HB2.out, er, [], .slice none 0 0, HLE.out, rfl, OwnB.nil _ _, fun _ => rfl, fun h => absurd h HNE.out⟩
  · have HLE := Lib.hid hle; have HF := Lib.hid hF; have HZ := Lib.hid hZ
    have hlz : LookZ n H BL Z 0 := by
      rcases hle with ⟨_, h⟩ | ⟨k, hk, hz⟩
      · cases h
      · rw [hZ, hF.uniq hk]; exact hz
    obtain ⟨hE, hnn, hok, hct⟩ : checkE Z = 0 ∧ n = shN Z ∧ (∀ u, u < n → okS Z H BL u) ∧ Z.K.toNat ≤ cntG H n := by
      rcases hlz with ⟨a, e⟩ | ⟨a, b, e⟩ | ⟨a, b, t, ht, hu, hg, hc⟩ | ⟨a, b, c, d, e⟩ | ⟨a, b, c, d, e⟩
      · exact absurd e.symm a
      · cases e
      · rcases hc with ⟨_, e⟩ | ⟨_, _, e⟩ <;> cases e
      · cases e
      · exact ⟨a, b, c, d⟩
    obtain ⟨⟨m1, m2, m3, m4, m5, m6⟩, _, _, zE, _⟩ := check_facts hE
    obtain ⟨K, hK⟩ : ∃ K : Nat, Z.K = (K : Int) := ⟨Z.K.toNat, by omega⟩
    obtain ⟨M, hM⟩ : ∃ M : Nat, Z.M = (M : Int) := ⟨Z.M.toNat, by omega⟩
    obtain ⟨Bk, hBk⟩ : ∃ Bk : Nat, Z.B = (Bk : Int) := ⟨Z.B.toNat, by omega⟩
    obtain ⟨s, hs⟩ : ∃ s : Nat, Z.size = (s : Int) := ⟨Z.size.toNat, by have := (size_facts zE).1; omega⟩
    have hls : s ≤ 1048576 := by have := (size_facts zE).2.1; omega
    obtain ⟨nb, hnb⟩ : ∃ nb : Nat, nb = nblk (K * Bk) s := ⟨_, rfl⟩
    have hz3 : sizeE (K : Int) (M : Int) (Bk : Int) (s : Int) = 0 := by rw [← hK, ← hM, ← hBk, ← hs]; exact zE
    have hnb4 : nb ≤ 4096 := by
      have := sizeN_le (K : Int) (M : Int) (Bk : Int) (s : Int)
      unfold sizeN at this
      rw [if_pos hz3] at this
      rw [hnb]; exact this
    have hsh : n = K + M := by rw [hnn]; unfold shN; omega
    have hK' : Z.K.toNat = K := by rw [hK]; rfl
    have hB' : Z.B.toNat = Bk := by rw [hBk]; rfl
    have hS' : Z.size.toNat = s := by rw [hs]; rfl
    rw [hK', hB', hS', ← hnb] at hRs hcs1 ⊢
    rw [hK'] at hct
    unfold maxLen at hcs2
    have HFT : Hid (∀ t, t < n → gone (H t) = false → fitS K Bk s (BL t)) := Lib.hid fun t ht hg => by
      rcases hok t ht with h1 | ⟨_, h1⟩
      · rw [hg] at h1; cases h1
      · rw [hK', hB', hS'] at h1; exact h1
    rw [hK] at m2 m3 m4; rw [hM] at m1 m2 m4; rw [hBk] at m5 m6
    have HE := Lib.hid hE; have HK := Lib.hid hK; have HM := Lib.hid hM; have HBk := Lib.hid hBk; have HS := Lib.hid hs; have HNB := Lib.hid hnb; have HSH := Lib.hid hsh; have HCT := Lib.hid hct
    have HK' := Lib.hid hK'; have HB' := Lib.hid hB'; have HS' := Lib.hid hS'; have HRS := Lib.hid hRs
    clear hE hK hM hBk hs hnb hz3 zE hsh hle hF hZ hlz hok hK' hB' hS' hRs hnn
    obtain ⟨gh, hgh⟩ : ∃ gh, gh = w1.heap.size := ⟨_, rfl⟩
    have HBA := Lib.hid ((Below.refl w1.heap.size w1).alloc (Nat.le_refl _) (.cells #[.int .u8 Z.s0, .int .u8 Z.s1, .int .u8 Z.s2, .int .u8 Z.s3, .int .u8 Z.s4, .int .u8 Z.s5, .int .u8 Z.s6, .int .u8 Z.s7, .int .i64 Z.K, .int .i64 Z.M, .int .i64 Z.B, .string Z.key, .int .i64 Z.size, .int .i64 x, .int .i64 Z.ep, .int .i64 Z.ct] 42))
    obtain ⟨w2, hw2⟩ : ∃ w2, w2 = w1.alloc (.cells #[.int .u8 Z.s0, .int .u8 Z.s1, .int .u8 Z.s2, .int .u8 Z.s3, .int .u8 Z.s4, .int .u8 Z.s5, .int .u8 Z.s6, .int .u8 Z.s7, .int .i64 Z.K, .int .i64 Z.M, .int .i64 Z.B, .string Z.key, .int .i64 Z.size, .int .i64 x, .int .i64 Z.ep, .int .i64 Z.ct] 42) := ⟨_, rfl⟩
    have HH2 : Hid (w2.heap[gh]? = some (.cells #[.int .u8 Z.s0, .int .u8 Z.s1, .int .u8 Z.s2, .int .u8 Z.s3, .int .u8 Z.s4, .int .u8 Z.s5, .int .u8 Z.s6, .int .u8 Z.s7, .int .i64 Z.K, .int .i64 Z.M, .int .i64 Z.B, .string Z.key, .int .i64 Z.size, .int .i64 x, .int .i64 Z.ep, .int .i64 Z.ct] 42 (0, 0))) := Lib.hid (by rw [hw2, hgh]; exact heap_alloc_new w1 _)
    have hz2 : gh < w2.heap.size := by rw [hw2, hgh]; simp
    rw [← hw2] at HBA
    have HB2 : Hid (Below w.heap.size w w2) := Lib.hid (HB1.out.trans (HBA.out.mono HB1.out.size))
    have HRS2 := Lib.hid (HRS.out.below HBA.out)
    have cK : w2.cell? ⟨gh, 8, none⟩ = some (.int .i64 (K : Int)) := by rw [← HK.out]; exact blk_cell HH2.out rfl
    have cM : w2.cell? ⟨gh, 9, none⟩ = some (.int .i64 (M : Int)) := by rw [← HM.out]; exact blk_cell HH2.out rfl
    have HW2 := Lib.hid hw2; have HGH := Lib.hid hgh
    clear hw2 hgh
    go_wp2_with (first | (refine wpList_storeNewH rfl (.tmp 4) (.tmp 19) rfl #[.int .u8 Z.s0, .int .u8 Z.s1, .int .u8 Z.s2, .int .u8 Z.s3, .int .u8 Z.s4, .int .u8 Z.s5, .int .u8 Z.s6, .int .u8 Z.s7, .int .i64 Z.K, .int .i64 Z.M, .int .i64 Z.B, .string Z.key, .int .i64 Z.size, .int .i64 x, .int .i64 Z.ep, .int .i64 Z.ct] rfl rfl rfl rfl rfl ?_; rw [← HW2.out, ← HGH.out]))
    refine (new_ok K M _ (by omega) (by omega) (by omega) (by omega)).mono ?_
    rintro e w3 ⟨p, rfl, hC, hp, hb3⟩
    have HC3 : Hid (CodeAt w3 p K n) := by rw [HSH.out]; exact Lib.hid hC
    have HB3 : Hid (Below w.heap.size w w3) := Lib.hid (HB2.out.trans (hb3.mono HB2.out.size))
    have HH3 : Hid (w3.heap[gh]? = some (.cells #[.int .u8 Z.s0, .int .u8 Z.s1, .int .u8 Z.s2, .int .u8 Z.s3, .int .u8 Z.s4, .int .u8 Z.s5, .int .u8 Z.s6, .int .u8 Z.s7, .int .i64 Z.K, .int .i64 Z.M, .int .i64 Z.B, .string Z.key, .int .i64 Z.size, .int .i64 x, .int .i64 Z.ep, .int .i64 Z.ct] 42 (0, 0))) := Lib.hid ((hb3.block _ hz2).trans HH2.out)
    have HRS3 := Lib.hid (HRS2.out.below hb3)
    have hz3 : gh < w3.heap.size := Nat.lt_of_lt_of_le hz2 hb3.size
    clear cK cM hC hb3 HH2 HRS2 HRS HBA HB1 HB2 hp HW2 HGH
    by_cases hnb0 : nb = 0
    · have t2 : ((nb : Int) == 0) = true := by rw [hnb0]; rfl
      have HJ : Hid (JnL n H BL Z []) := Lib.hid ⟨_, fun i _ => Classical.choose_spec (shP_ex Z.K.toNat _ (el i)), by
        have h1 : s = 0 := by
          rcases Nat.eq_zero_or_pos s with h | h
          · exact h
          · have := (lt_nblk (S := K * Bk) (s := s) (j := 0) (Nat.mul_pos (by omega) (by omega))).2 (by omega)
            rw [← HNB.out] at this; omega
        rw [HS'.out, h1]; rfl⟩
      clear hnb0
      go_wp2
      go_ret2
      exact ⟨HB3.out, 0, [], .slice none 0 0, HLE.out, rfl, OwnB.nil _ _, fun _ => rfl, fun _ => ⟨k0, HF.out, by rw [← HZ.out]; exact HJ.out⟩⟩
    · have t2 : ((nb : Int) == 0) = false := by rw [beq_eq_false_iff_ne]; omega
      have hnbp : 0 < nb := by omega
      have hn5 : n ≤ 255 := by have := HSH.out; omega
      obtain ⟨T, hT⟩ : ∃ T, T = sumN (blen K Bk s) nb := ⟨_, rfl⟩
      have HTB : Hid (T ≤ 1000000000) := Lib.hid (by
        have h1 := sumN_le (f := blen K Bk s) (b := Bk) (fun i => blen_le (by omega)) nb
        have h2 := Nat.mul_le_mul hnb4 (show Bk ≤ 65536 by omega)
        omega)
      have HTP : Hid (0 < T) := Lib.hid (by
        have h1 := (blen_facts (K := K) (B := Bk) (s := s) (j := 0) (by omega) (by omega) (by rw [← HNB.out]; exact hnbp)).1
        have h2 := sumN_mono (blen K Bk s) (show 1 ≤ nb from hnbp)
        have h3 : sumN (blen K Bk s) 1 = 0 + blen K Bk s 0 := rfl
        omega)
      have HT := Lib.hid hT; clear hT
      have hmk := run_make_row' (P := Try.prog) 67 43 (.slice none 0 0) 24 Try.underlying67 bytesInfo rfl .i64 .i64 n (by omega) (by omega)
      clear hnb0
      have HJ0 := Lib.hid (JR.start w3 n H BL T)
      go_wp2
      clear hmk t2
      obtain ⟨b, hb⟩ : ∃ b, b = w3.heap.size := ⟨_, rfl⟩
      rw [← hb] at HJ0 ⊢
      have HBB := Lib.hid hb
      have HB4 := Lib.hid ((Below.refl w3.heap.size w3).alloc (Nat.le_refl _) (.cells (madeCells #[.slice none 0 0] n) 43))
      rw [← hb] at HB4
      clear hb
      go_loopg [9, 46] n (fun gk _ i wr => ∃ (k : Nat) (V : Nat → Value), k ≤ n ∧ gk = n - k ∧ i = .int .i64 k ∧ JR wr b n k V H BL T ∧ Below b w3 wr)
      case atStart => exact ⟨0, _, Nat.zero_le _, rfl, rfl, HJ0.out, HB4.out⟩
      case round =>
        clear HJ0 HB4
        obtain ⟨k, V, hk, rfl, rfl, hJ, hB⟩ := hrel
        have HB := Lib.hid hB; have HJ := Lib.hid hJ
        clear hB hJ
        by_cases hlt : k < n
        · have HRSw : Hid (RSd wr A n H BL) := Lib.hid ((HA.out.below HB3.out).below (by rw [← HBB.out]; exact HB.out))
          obtain ⟨S, C, hrd, hrl⟩ := HRSw.out
          obtain ⟨b1, o1, rfl⟩ := hrd.ex_ hlt
          obtain ⟨Y, hY⟩ : ∃ Y, Y = H k := ⟨_, rfl⟩
          have HCL := Lib.hid (hrd.list hlt)
          have HCA := Lib.hid (hrd.shape hlt)
          have HRL := Lib.hid (hrl k hlt)
          have HYW := Lib.hid (HW.out k hlt)
          rw [← hY] at HCA HYW
          have HY := Lib.hid hY
          clear hrd hrl hY
          have hbw : b ≤ wr.heap.size := by have := HB.out.size; have := HBB.out; omega
          by_cases hg : gone Y = true
          · have HEQ := Lib.hid (fun w' => gone_eql HYW.out w')
            rw [hg] at HEQ
            have HGZ := Lib.hid hg
            clear hg
            go_wp2_with (first | (refine wpList_loadAt rfl 24 (.tmp 53) rfl ⟨b1, o1 + k * 17 + 8, none⟩ rfl #[.int .i64 Y.K, .int .i64 Y.M, .int .i64 Y.B] _ HCA.out Try.underlying24 rfl info_P ?_) | (refine wpList_neqAgg rfl 24 (.tmp 54) (.tmp 55) rfl #[.int .i64 Y.K, .int .i64 Y.M, .int .i64 Y.B] #[.int .i64 0, .int .i64 0, .int .i64 0] rfl rfl guard_P true (HEQ.out _) ?_))
            go_roundg (n - (k + 1))
            case measure => omega
            case rel => exact ⟨k + 1, V, by omega, rfl, by go_num, HJ.out.skip (by rw [← HY.out]; exact HGZ.out), HB.out⟩
          · replace hg : gone Y = false := by simpa using hg
            have HEQ := Lib.hid (fun w' => gone_eql HYW.out w')
            rw [hg] at HEQ
            have HGZ := Lib.hid hg
            clear hg
            obtain ⟨Bl, hBl⟩ : ∃ Bl, Bl = BL k := ⟨_, rfl⟩
            have HXk := Lib.hid (HX.out k hlt)
            have HFk := Lib.hid (HFT.out k hlt (by rw [← HY.out]; exact HGZ.out))
            rw [← hBl] at HCL HRL HXk HFk
            have HBL := Lib.hid hBl; clear hBl
            obtain ⟨sk, hsk⟩ : ∃ sk, sk = S k := ⟨_, rfl⟩
            obtain ⟨ck, hck⟩ : ∃ ck, ck = C k := ⟨_, rfl⟩
            rw [← hsk] at HCL HRL; rw [← hck] at HCL HRL
            clear hsk hck
            have hTl : Bl.flatten.length = T := by rw [flat_fit HFk.out, HT.out, HNB.out]
            have hbl : Bl.length ≤ 4096 := by rw [HFk.out.1, ← HNB.out]; exact hnb4
            have HTl := Lib.hid hTl; clear hTl
            have cL := HCL.out
            go_wp2_with (first | (refine wpList_loadAt rfl 24 (.tmp 53) rfl ⟨b1, o1 + k * 17 + 8, none⟩ rfl #[.int .i64 Y.K, .int .i64 Y.M, .int .i64 Y.B] _ HCA.out Try.underlying24 rfl info_P ?_) | (refine wpList_neqAgg rfl 24 (.tmp 54) (.tmp 55) rfl #[.int .i64 Y.K, .int .i64 Y.M, .int .i64 Y.B] #[.int .i64 0, .int .i64 0, .int .i64 0] rfl rfl guard_P false (HEQ.out _) ?_))
            refine (bjoin_any sk Bl ck _ HXk.out (by rw [HTl.out]; have := HTB.out; omega) (by omega) HRL.out.2 HRL.out.1).mono ?_
            rintro e w5 ⟨A5, c5, rfl, hr5, hb5, hA5⟩
            rw [HTl.out]
            have ht5 := below_row HJ.out.top hb5 HJ.out.top.lt
            have c5' := ht5.cell hlt
            have f5' := ht5.frozen k
            have HJ5 := Lib.hid (HJ.out.put hlt (by rw [← HY.out]; exact HGZ.out) hb5 (A := A5) (c := c5) (by rw [← HBL.out]; exact HTl.out) (by rw [← HBL.out]; exact hr5) hA5)
            have HB6 := Lib.hid ((HB.out.trans (hb5.mono hbw)).setCell (p := ⟨b, k, none⟩) (Nat.le_refl _) (.slice A5 T c5))
            clear ht5 hr5 hb5 hA5 cL
            go_wp2
            clear c5' f5'
            go_roundg (n - (k + 1))
            case measure => omega
            case rel => exact ⟨k + 1, _, by omega, rfl, by go_num, HJ5.out, HB6.out⟩
        · obtain rfl : n = k := by omega
          have hwb : w3.heap.size ≤ wr.heap.size := by have := HB.out.size; have := HBB.out; omega
          have HB4 : Hid (Below w3.heap.size w3 wr) := Lib.hid (by rw [← HBB.out]; exact HB.out)
          have HC4 := Lib.hid (HC3.out.below HB4.out)
          have HRS4 := Lib.hid (HRS3.out.below HB4.out)
          have HH4 : Hid (wr.heap[gh]? = some (.cells #[.int .u8 Z.s0, .int .u8 Z.s1, .int .u8 Z.s2, .int .u8 Z.s3, .int .u8 Z.s4, .int .u8 Z.s5, .int .u8 Z.s6, .int .u8 Z.s7, .int .i64 Z.K, .int .i64 Z.M, .int .i64 Z.B, .string Z.key, .int .i64 Z.size, .int .i64 x, .int .i64 Z.ep, .int .i64 Z.ct] 42 (0, 0))) := Lib.hid ((HB4.out.block _ hz3).trans HH3.out)
          clear hk hlt HB HC3
          go_wp2_with fail
          refine (reb_mx p K n (some ⟨b, 0, none⟩) n n (lnG H T) (fun t c => (BL t).flatten.getD c 0) wr (by omega) (Nat.le_trans HCT.out (cntG_le H n)) hn5 (by omega) (fun t _ => by have := HTB.out; unfold lnG; split <;> omega) (fun t ht c _ => getD_any (fun y hy => by obtain ⟨l, hl, hyl⟩ := List.mem_flatten.1 hy; exact HX.out t ht l hl y hyl) c) HC4.out HJ.out.rdm).mono ?_
          rintro e w5 ⟨er, A5, R5, c5, W, rfl, hE5, hR5, hW5, hM5, hb5, -⟩
          have hpl : ∀ t, t < pkN (lnG H T) n → lnG H T (pkA (lnG H T) n t) = T := fun t ht => by
            rw [pkN_congr (lnG_pos HTP.out), pkN_cntG] at ht
            rw [pkA_congr (lnG_pos HTP.out)]
            unfold lnG
            rw [if_neg (by rw [(pkA_gone ht).2]; decide)]
          have hkp : K ≤ pkN (lnG H T) n := by rw [pkN_congr (lnG_pos HTP.out), pkN_cntG]; exact HCT.out
          obtain rfl : er = 0 := by
            rcases hE5 with ⟨h1, _⟩ | ⟨_, h1, _⟩ | ⟨_, _, h1, _⟩ | ⟨_, _, _, h1⟩
            · exact absurd rfl h1
            · exact absurd (fun t ht => by rw [hpl t ht, hpl 0 (by omega)]) h1
            · omega
            · exact h1
          rw [if_pos rfl] at hR5
          obtain rfl : n = R5 := hR5.symm
          obtain ⟨tw, S, rfl, hc5, htw, hMx⟩ := hM5 rfl
          obtain rfl : n = c5 := hc5.symm
          have hW := hW5 rfl
          rw [hpl 0 (by omega)] at hMx hW
          have HMX := Lib.hid hMx
          have HWW := Lib.hid hW
          have HB5 : Hid (Below w.heap.size w w5) := Lib.hid ((HB3.out.trans (HB4.out.mono HB3.out.size)).trans (hb5.mono (Nat.le_trans HB3.out.size hwb)))
          have HRS5 := Lib.hid (HRS4.out.below hb5)
          have HH5 : Hid (w5.heap[gh]? = some (.cells #[.int .u8 Z.s0, .int .u8 Z.s1, .int .u8 Z.s2, .int .u8 Z.s3, .int .u8 Z.s4, .int .u8 Z.s5, .int .u8 Z.s6, .int .u8 Z.s7, .int .i64 Z.K, .int .i64 Z.M, .int .i64 Z.B, .string Z.key, .int .i64 Z.size, .int .i64 x, .int .i64 Z.ep, .int .i64 Z.ct] 42 (0, 0))) := Lib.hid ((hb5.block _ (Nat.lt_of_lt_of_le hz3 hwb)).trans HH4.out)
          have hzt : gh < tw := by omega
          have hwt : w.heap.size ≤ tw := Nat.le_trans HB3.out.size (Nat.le_trans hwb htw)
          have hw3t : w3.heap.size ≤ tw := Nat.le_trans hwb htw
          have HB35 : Hid (Below w3.heap.size w3 w5) := Lib.hid (HB4.out.trans (hb5.mono hwb))
          have htw5 : tw < w5.heap.size := hMx.top.lt
          have hgh5 : gh < w5.heap.size := by omega
          have HTW := Lib.hid (And.intro hwt hw3t)
          clear hE5 hR5 hW5 hM5 hb5 hpl hW hMx HJ HB4 HC4 HRS4 HH4 hwb
          clear hwt hw3t htw
          obtain ⟨O, hO⟩ : ∃ O : Nat → Nat → Fin 256, ∀ i, i < n → gE.ShP (fun t => el (pkA (lnG H T) n t)) K (el i) (O i) := ⟨fun i => Classical.choose (shP_ex K (fun t => el (pkA (lnG H T) n t)) (el i)), fun i _ => Classical.choose_spec (shP_ex K _ (el i))⟩
          have HO := Lib.hid hO; clear hO
          have HFE : Hid (∀ p, p < s → jnB K Bk s n H BL O p = (W ((p % (K * Bk)) / blen K Bk s (p / (K * Bk))) (sumN (blen K Bk s) (p / (K * Bk)) + (p % (K * Bk)) % blen K Bk s (p / (K * Bk)))).val) := Lib.hid fun p hp => by
            obtain ⟨r1, r2, r3⟩ := row_at (K := K) (B := Bk) (by omega) (by omega) hp
            have hKn : K ≤ n := Nat.le_trans HCT.out (cntG_le H n)
            have hcT : sumN (blen K Bk s) (p / (K * Bk)) + (p % (K * Bk)) % blen K Bk s (p / (K * Bk)) < T := by
              have h1 := sumN_mono (blen K Bk s) (show p / (K * Bk) + 1 ≤ nb by rw [HNB.out]; exact r1)
              have h2 : sumN (blen K Bk s) (p / (K * Bk) + 1) = sumN (blen K Bk s) (p / (K * Bk)) + blen K Bk s (p / (K * Bk)) := rfl
              have h3 := HT.out
              omega
            rw [HWW.out O HO.out _ (by omega) _ hcT]
            unfold jnB
            congr 1
            refine gE.s_congr fun t ht => ?_
            have hg := pkA_gone (H := H) (n := n) (t := t) (Nat.lt_of_lt_of_le ht HCT.out)
            dsimp only
            rw [pkA_congr (lnG_pos HTP.out), flat_get_fit (HFT.out _ hg.1 hg.2) r1 r3]
          have HFs := Lib.hid HF.out
          have HF0 : Hid (FJ w5 w5 tw n (fun i => .slice (some ⟨S i, 0, none⟩) T T) (.slice none 0 0) []) := Lib.hid ⟨Bt.refl _ _ _, HMX.out.top, OwnB.nil _ _⟩
          go_wp2_with fail
          obtain ⟨F, hF⟩ : ∃ F, F = jnB K Bk s n H BL O := ⟨_, rfl⟩
          rw [← hF] at HFE
          have HFF := Lib.hid hF; clear hF
          go_loopg [12, 14, 15, 75] nb (fun gk v _ _ q wr => ∃ (j : Nat) (U : Nat → Value), j ≤ nb ∧ gk = nb - j ∧ q = .int .i64 j ∧ FJ w5 wr tw n U v (mkL (cutP K Bk s j 0) F) ∧ ∀ t, t < K → UJ S T K Bk s nb j (U t) t)
          case atStart => exact ⟨0, _, Nat.zero_le _, rfl, rfl, by rw [cutP_zero]; exact HF0.out, fun t _ => ⟨_, rfl, fun _ => rfl⟩⟩
          case round =>
            clear HF0
            obtain ⟨j, U, hj, rfl, rfl, hF, hU⟩ := hrel
            have HF := Lib.hid hF; have HU := Lib.hid hU
            clear hF hU
            have HB3r : Hid (Below w3.heap.size w3 wr) := Lib.hid (HB35.out.trans (HF.out.bt.below HTW.out.2 HTW.out.2 HB35.out.size))
            by_cases hlt : j < nb
            · obtain ⟨bs, os, rfl, hbs, hcs0⟩ := HRS3.out j hlt
              obtain ⟨lk, hlk⟩ : ∃ lk, lk = blen K Bk s j := ⟨_, rfl⟩
              have hcs : wr.cell? ⟨bs, os + j, none⟩ = some (.int .i64 (lk : Int)) := by rw [HB3r.out.cell hbs, hlk]; exact hcs0
              have hlkB : lk ≤ 65536 := by rw [hlk]; exact Nat.le_trans (blen_le (by omega)) (by omega)
              have cK : wr.cell? ⟨gh, 8, none⟩ = some (.int .i64 (K : Int)) := by rw [← HK.out]; exact (HB3r.out.cell hz3).trans (blk_cell HH3.out rfl)
              have HLK := Lib.hid hlk
              obtain ⟨o, ho⟩ : ∃ o, o = sumN (blen K Bk s) j := ⟨_, rfl⟩
              have HON : Hid (sumN (blen K Bk s) (j + 1) = o + lk) := Lib.hid (by rw [ho, hlk]; rfl)
              have hoT : o + lk ≤ T := by rw [← HON.out, HT.out]; exact sumN_mono _ hlt
              have HOE := Lib.hid ho
              have HLT := Lib.hid hlt
              have HSM : Hid (j + 1 < nb → o + lk < T) := Lib.hid fun h1 => by
                have h2 := sumN_mono (blen K Bk s) (show j + 1 + 1 ≤ nb from h1)
                have h3 : sumN (blen K Bk s) (j + 1 + 1) = sumN (blen K Bk s) (j + 1) + blen K Bk s (j + 1) := rfl
                have h4 := (blen_facts (K := K) (B := Bk) (s := s) (j := j + 1) (by omega) (by omega) (by rw [← HNB.out]; exact h1)).1
                have h5 := HON.out; have h6 := HT.out
                omega
              clear hlk ho hcs0
              go_wp2
              clear hcs cK hlt
              go_loopg [12, 15, 82] K (fun gk v _ q wr => ∃ (i : Nat) (U : Nat → Value), i ≤ K ∧ gk = K - i ∧ q = .int .i64 i ∧ FJ w5 wr tw n U v (mkL (cutP K Bk s j i) F) ∧ (∀ t, t < i → UJ S T K Bk s nb (j + 1) (U t) t) ∧ ∀ t, i ≤ t → t < K → UJ S T K Bk s nb j (U t) t)
              case atStart => exact ⟨0, U, Nat.zero_le _, rfl, rfl, HF.out, fun t h => absurd h (by omega), fun t _ h => HU.out t h⟩
              case round =>
                clear HF HU HB3r
                obtain ⟨i, U, hi, rfl, rfl, hF, hU1, hU2⟩ := hrel
                have HF := Lib.hid hF; have HU1 := Lib.hid hU1; have HU2 := Lib.hid hU2
                clear hF hU1 hU2
                by_cases hlt : i < K
                · have hKn : K ≤ n := Nat.le_trans HCT.out (cntG_le H n)
                  have hin : i < n := by omega
                  have HB3r : Hid (Below w3.heap.size w3 wr) := Lib.hid (HB35.out.trans (HF.out.bt.below HTW.out.2 HTW.out.2 HB35.out.size))
                  obtain ⟨A1, hU1, hA1⟩ := HU2.out i (Nat.le_refl _) hlt
                  obtain rfl := hA1 HLT.out
                  rw [← HOE.out] at hU1
                  obtain ⟨rm, hrm⟩ : ∃ rm, rm = T - o := ⟨_, rfl⟩
                  rw [← hrm] at hU1
                  have hlr : lk ≤ rm := by omega
                  have hrmB : rm ≤ 1000000000 := by have := HTB.out; omega
                  have cU : wr.cell? ⟨tw, i, none⟩ = some (.slice (some ⟨S i, o, none⟩) rm rm) := by rw [HF.out.word.cell hin, hU1]
                  have cS : wr.cell? ⟨gh, 12, none⟩ = some (.int .i64 (s : Int)) := by rw [← HS.out]; exact (HB3r.out.cell hz3).trans (blk_cell HH3.out rfl)
                  have hw5r := HF.out.bt.size
                  have KS : Hid (∀ w', Below wr.heap.size wr w' → w'.cell? ⟨tw, i, none⟩ = some (.slice (some ⟨S i, o, none⟩) rm rm) ∧ w'.cell? ⟨gh, 12, none⟩ = some (.int .i64 (s : Int))) := Lib.hid fun w' hb => ⟨(hb.cell (by show tw < _; omega)).trans cU, (hb.cell (by show gh < _; omega)).trans cS⟩
                  obtain ⟨pt, hpt⟩ : ∃ pt, pt = cutP K Bk s j i := ⟨_, rfl⟩
                  have hps : pt ≤ s := by rw [hpt]; exact cutP_le
                  obtain ⟨m, hm⟩ : ∃ m, m = min lk (s - pt) := ⟨_, rfl⟩
                  have hmr : m ≤ rm := by omega
                  have hmi : min (lk : Int) (IntKind.i64.wrap ((s : Int) - (pt : Int))) = (m : Int) := by rw [IntKind.wrap_i64]; omega
                  have hm0 : (0 : Int) ≤ (m : Int) := by omega
                  have hmr' : (m : Int) ≤ (rm : Int) := by omega
                  obtain ⟨XM, hXM⟩ : ∃ XM, XM = mkL m (fun c => (W i (o + c)).val) := ⟨_, rfl⟩
                  obtain ⟨l0, hl0⟩ : ∃ l0, l0 = mkL pt F := ⟨_, rfl⟩
                  have HNX : Hid (l0 ++ XM = mkL (cutP K Bk s j (i + 1)) F) := Lib.hid (by
                    rw [hl0, hXM, hm, hpt, HLK.out, HOE.out]
                    exact joi_next (WR := fun i c => (W i c).val) (by omega) (by omega) (by rw [← HNB.out]; exact HLT.out) hlt HFE.out)
                  have hFl := HF.out
                  rw [← hpt, ← hl0] at hFl
                  obtain ⟨Ao, co, ev, hco, hcm, _, _⟩ := hFl.out.rd
                  have hll : l0.length = pt := by rw [hl0, mkL_length]
                  rw [hll] at ev hco
                  subst ev
                  have HFD : Hid (FJ w5 wr.drew tw n U (.slice Ao pt co) l0) := Lib.hid (hFl.kept (Below.refl _ _).drew)
                  have HSR : Hid (Src Try.prog 1 43 (.slice (some ⟨S i, o, none⟩) m rm) m (XM.map bv) wr.drew) := Lib.hid (by
                    have h1 : RL wr.drew (some ⟨S i, o, none⟩) XM := fun c hc => by
                      rw [hXM, mkL_length] at hc
                      have h2 : wr.rowIs (S i) 5 T _ := HF.out.bt.row (HMX.out.row i hin) (HMX.out.off i hin) (HMX.out.off i hin)
                      refine ⟨S i, o, rfl, h2.lt, ?_⟩
                      have h3 : wr.cell? ⟨S i, o + c, none⟩ = some (.int .u8 ((W i (o + c)).val : Nat)) := h2.cell (i := o + c) (by omega)
                      rw [hXM]
                      show wr.cell? _ = some (.int .u8 (((mkL m _).getD c 0 : Nat) : Int))
                      rw [mkL_get hc]; exact h3
                    have h2 := h1.src rm
                    rw [hXM, mkL_length] at h2
                    rw [hXM]; exact h2)
                  have hql : l0.length + m ≤ 140737488355328 := by rw [hll]; omega
                  have HRM := Lib.hid hrm; have HPT := Lib.hid hpt; have HM := Lib.hid hm; have HL0 := Lib.hid hl0; have HLL := Lib.hid hll
                  clear hU1 hA1 hrm cU cS hpt hm hXM hl0 hFl hll
                  go_wp2_with fail
                  refine wp_region_mix [(true, true, false), (true, true, false), (true, true, false), (true, true, false), (true, true, true), (true, true, false), (true, true, false), (true, true, true), (true, true, false), (true, true, false), (true, true, false), (true, true, false), (true, true, false), (false, false, false), (false, true, false)] mixed (by kernel_rfl) (fun w4 => w4.cell? ⟨tw, i, none⟩ = some (.slice (some ⟨S i, o, none⟩) rm rm) ∧ w4.cell? ⟨gh, 12, none⟩ = some (.int .i64 (s : Int))) (KS.out _ (Below.refl _ _).drew) ?_
                  intro hSw0
                  simp only [hdM, tlM, List.cons_append, List.nil_append]
                  repeat (first
                    | (refine mix_look hSw0.out ?_ (by rfl) (fun w4 hSw => ?_) ?_; rotate_left; (focus (obtain ⟨s1, s2⟩ := hSw; go_simp; try with_reducible rfl)); simp only [Act.put, List.setIfInBounds_toArray, List.set_cons_zero, List.set_cons_succ])
                    | (refine mix_pure ?_ (by rfl) (fun w4 => ?_) ?_; rotate_left; (focus (go_simp; try with_reducible rfl)); simp only [Act.put, List.setIfInBounds_toArray, List.set_cons_zero, List.set_cons_succ]))
                  refine mix_list (fun K hK => ?_)
                  skip
                  refine wpList_appA rfl (.tmp 85) (.tmp 97) 43 rfl w5.heap.size (.slice Ao pt co) l0 rfl HFD.out.out HFD.out.bt.size _ m XM rfl HSR.out hql ?_
                  intro v9 w9 hO9 hb9 hg9 hat9
                  refine hK.out _ _ (fun _ _ => ⟨(hb9.cell htw5).trans (KS.out _ (Below.refl _ _).drew).1, (hb9.cell hgh5).trans (KS.out _ (Below.refl _ _).drew).2⟩) ?_
                  clear hK K
                  try simp only [Act.put, List.setIfInBounds_toArray, List.set_cons_zero, List.set_cons_succ]
                  repeat (refine mix_pure ?_ (by rfl) (fun w4 => ?_) ?_; rotate_left; (focus (go_simp; try with_reducible rfl)); simp only [Act.put, List.setIfInBounds_toArray, List.set_cons_zero, List.set_cons_succ])
                  refine mix_nil ?_
                  rw [HNX.out] at hO9
                  obtain ⟨A2, hA2⟩ : ∃ A2, (if rm = lk then some (⟨S i, o, none⟩ : Addr) else some ⟨S i, o + lk, none⟩) = A2 := ⟨_, rfl⟩
                  have hle1 : (lk : Int) ≤ (rm : Int) := by omega
                  have hle0 : (0 : Int) ≤ (lk : Int) := by omega
                  have HF9 := Lib.hid (HFD.out.app (i := i) htw5 hO9 hb9 hg9 (.slice A2 (rm - lk) (rm - lk)))
                  have cW9 : w9.cell? ⟨tw, i, none⟩ = some (.slice (some ⟨S i, o, none⟩) rm rm) := (hb9.cell htw5).trans (KS.out _ (Below.refl _ _).drew).1
                  have fW9 : w9.frozen? ⟨tw, i, none⟩ = false := (hb9.frozen (p := ⟨tw, i, none⟩) htw5).trans (HFD.out.word.frozen i)
                  have HRE : Hid (T - sumN (blen K Bk s) (j + 1) = rm - lk) := Lib.hid (by rw [HON.out, HRM.out]; omega)
                  clear hO9 hb9 hg9 hat9
                  go_wp2_with fail
                  clear cW9 fW9
                  go_roundg (K - (i + 1))
                  case measure => omega
                  case rel => exact ⟨i + 1, _, by omega, rfl, by go_num, HF9.out, fun t ht => by
                    by_cases e : t = i
                    · subst e
                      rw [upd_at]
                      exact ⟨A2, by rw [HRE.out], fun h1 => by rw [← hA2, if_neg (by have := HSM.out h1; have := HRM.out; omega), HON.out]⟩
                    · rw [upd_ne _ _ _ e]; exact HU1.out t (by omega), fun t h1 h2 => by rw [upd_ne _ _ _ (by omega)]; exact HU2.out t (by omega) h2⟩
                · obtain rfl : K = i := by omega
                  have HE1 : Hid (cutP K Bk s j K = cutP K Bk s (j + 1) 0) := Lib.hid (cutP_row (by omega) (by omega) (by rw [← HNB.out]; exact HLT.out))
                  clear hi hlt
                  go_wp2
                  go_roundg (nb - (j + 1))
                  case measure => have := HLT.out; omega
                  case rel => exact ⟨j + 1, U, by have := HLT.out; omega, rfl, by go_num, by rw [← HE1.out]; exact HF.out, HU1.out⟩
            · obtain rfl : nb = j := by omega
              clear hj hlt
              go_wp2
              go_ret2
              have hfo := HF.out.out
              rw [HNB.out, cutP_end (by omega) (by omega), HFF.out] at hfo
              refine ⟨HB5.out.trans (HF.out.bt.below HTW.out.1 HTW.out.1 HB5.out.size), 0, _, _, HLE.out, rfl, hfo.mono HB5.out.size, fun h => absurd rfl h, fun _ => ⟨k0, HFs.out, ?_⟩⟩
              rw [← HZ.out]
              refine ⟨O, fun i hi => ?_, by rw [HK'.out, HB'.out, HS'.out]⟩
              rw [HK'.out]
              have h1 := HO.out i hi
              rw [show (fun t => el (pkA (lnG H T) n t)) = fun t => el (pkA (lsG H) n t) from funext fun t => by rw [pkA_congr (lnG_pos HTP.out)]] at h1
              exact h1
end Go.Proofs.Ytjaaldandgfkgaa
