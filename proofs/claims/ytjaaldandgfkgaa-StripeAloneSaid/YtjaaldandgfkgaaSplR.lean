/- Split of the document: the walk. Conditions: bytes that memory bears. -/
import Derived.Test.YtjaaldandgfkgaaSpL
import Derived.Test.YtjaaldandgfkgaaSpR
import Derived.Test.YtjaaldandgfkgaaSplP
namespace Go.Proofs.Ytjaaldandgfkgaa
open Go.RowKit

/-- What the document's Split answers: the shards, read. -/
def RSplPost (w : World) (h : Hd) (l : List Nat) (e : Ending) (w' : World) : Prop :=
  Below w.heap.size w w' ∧ (checkE h ≠ 0 → e = .returned (.tuple #[.slice none 0 0, .int .i64 (checkE h)])) ∧
  (checkE h = 0 → ∃ A c, e = .returned (.tuple #[.slice A (shN h) c, .int .i64 0]) ∧ RSd w' A (shN h) (fun i => { h with idx := i }) (fun i => spL h.K.toNat h.B.toNat l i))
theorem rsizes_ok (K M B s : Nat) (w : World) (h : sizeE K M B s = 0) :
    Calls Try.prog 15 #[.agg #[.int .i64 K, .int .i64 M, .int .i64 B], .int .i64 s] w fun e w' => ∃ A c, e = .returned (.tuple #[.slice A (nblk (K * B) s) c, .int .i64 0]) ∧ Rd w' A (nblk (K * B) s) (fun j => .int .i64 (blen K B s j : Nat)) ∧ Below w.heap.size w w' ∧ nblk (K * B) s ≤ c ∧ c ≤ maxLen ∧ ∀ b o, A = some ⟨b, o, none⟩ → w.heap.size ≤ b := by
  refine (rsizes_all K M B s w).mono ?_
  rintro e w' ⟨v, rfl, hO, hb⟩
  have hn : sizeN (K : Int) (M : Int) (B : Int) (s : Int) = nblk (K * B) s := by unfold sizeN; rw [if_pos h]; rfl
  rw [hn] at hO
  obtain ⟨A, c, rfl, hc, hm, hr, hlo⟩ := hO.rd
  exact ⟨A, c, by rw [h], hr, hb, hc, hm, hlo⟩
theorem Own.self {w : World} {B e sz g c n : Nat} {f : Nat → List Value} (h : Own w B e sz (.slice (some ⟨g, 0, none⟩) n c) n f) : Own w g e sz (.slice (some ⟨g, 0, none⟩) n c) n f := by
  obtain ⟨h1, h2⟩ := h
  refine ⟨h1, ?_⟩
  rcases h2 with ⟨h2, _⟩ | ⟨g', cap, cur', e1, hg', hh, hn, hc, hcur, htake⟩
  · cases h2
  · injection e1 with e1 _ e3
    injection e1 with e1
    injection e1 with e1
    subst e1 e3
    exact .inr ⟨g, c, cur', rfl, Nat.le_refl _, hh, hn, hc, hcur, htake⟩
theorem OwnM.monoB {w : World} {B B' tR e : Nat} {v : Value} {k : Nat} {S : Nat → Option Addr} {C : Nat → Nat} {L : Nat → Nat} {f : Nat → Nat → Value} (h : OwnM w B tR e v k S C L f) (hB : B' ≤ B) : OwnM w B' tR e v k S C L f := ⟨h.1.mono hB, fun i hi => (h.2 i hi).mono hB⟩
set_option maxRecDepth 100000 in
set_option maxHeartbeats 4000000 in
theorem rsplit_any (h0 : Hd) (A : Option Addr) (c : Nat) (l : List Nat) (w : World) (hl : ∀ x ∈ l, x < 256) (hlen : l.length ≤ 140737488351232) (hA : RL w A l) :
    Calls Try.prog 21 #[.agg #[.int .u8 h0.s0, .int .u8 h0.s1, .int .u8 h0.s2, .int .u8 h0.s3, .int .u8 h0.s4, .int .u8 h0.s5, .int .u8 h0.s6, .int .u8 h0.s7, .int .i64 h0.K, .int .i64 h0.M, .int .i64 h0.B, .string h0.key, .int .i64 h0.size, .int .i64 h0.idx, .int .i64 h0.ep, .int .i64 h0.ct], .slice A l.length c] w (RSplPost w { h0 with size := (l.length : Int), idx := 0 } l) := by
  obtain ⟨Z, hh⟩ : ∃ Z : Hd, Z = { h0 with size := (l.length : Int), idx := 0 } := ⟨_, rfl⟩
  rw [← hh]
  have HBX := Lib.hid (show (#[.int .u8 h0.s0, .int .u8 h0.s1, .int .u8 h0.s2, .int .u8 h0.s3, .int .u8 h0.s4, .int .u8 h0.s5, .int .u8 h0.s6, .int .u8 h0.s7, .int .i64 h0.K, .int .i64 h0.M, .int .i64 h0.B, .string h0.key, .int .i64 (l.length : Int), .int .i64 0, .int .i64 h0.ep, .int .i64 h0.ct] : Array Value) = #[.int .u8 Z.s0, .int .u8 Z.s1, .int .u8 Z.s2, .int .u8 Z.s3, .int .u8 Z.s4, .int .u8 Z.s5, .int .u8 Z.s6, .int .u8 Z.s7, .int .i64 Z.K, .int .i64 Z.M, .int .i64 Z.B, .string Z.key, .int .i64 Z.size, .int .i64 Z.idx, .int .i64 Z.ep, .int .i64 Z.ct] by rw [hh])
  have hsz : Z.size = (l.length : Int) := by rw [hh]
  have HSZ := Lib.hid hsz; have HA := Lib.hid hA; have HL := Lib.hid hl
  clear hh hsz hA hl
  by_cases hE : checkE Z = 0
  · obtain ⟨⟨m1, m2, m3, m4, m5, m6⟩, _, _, zE, _⟩ := check_facts hE
    obtain ⟨K, hK⟩ : ∃ K : Nat, Z.K = (K : Int) := ⟨Z.K.toNat, by omega⟩
    obtain ⟨M, hM⟩ : ∃ M : Nat, Z.M = (M : Int) := ⟨Z.M.toNat, by omega⟩
    obtain ⟨Bk, hBk⟩ : ∃ Bk : Nat, Z.B = (Bk : Int) := ⟨Z.B.toNat, by omega⟩
    obtain ⟨n, hn⟩ : ∃ n : Nat, n = shN Z := ⟨_, rfl⟩
    have hnKM : n = K + M := by rw [hn]; unfold shN; omega
    obtain ⟨nb, hnb⟩ : ∃ nb : Nat, nb = nblk (K * Bk) l.length := ⟨_, rfl⟩
    have hz2 : sizeE (K : Int) (M : Int) (Bk : Int) (l.length : Int) = 0 := by rw [← hK, ← hM, ← hBk, ← HSZ.out]; exact zE
    have hnb4 : nb ≤ 4096 := by
      have := sizeN_le (K : Int) (M : Int) (Bk : Int) (l.length : Int)
      unfold sizeN at this
      rw [if_pos hz2] at this
      rw [hnb]; exact this
    have hls := (size_facts hz2).2.1
    rw [hK] at m2 m3 m4; rw [hM] at m1 m2 m4; rw [hBk] at m5 m6
    have HZ2 := Lib.hid hz2; have HNB := Lib.hid hnb; have HN := Lib.hid hn; have HNKM := Lib.hid hnKM
    have HK := Lib.hid hK; have HM := Lib.hid hM; have HBk := Lib.hid hBk; have HE := Lib.hid hE
    clear hz2 hnb hn hnKM hK hM hBk zE hE
    go_enter Try.func21, Try.ntmps21
    go_wp2_with (refine wpList_loadH rfl (.tmp 2) rfl w.heap.size rfl #[.int .u8 Z.s0, .int .u8 Z.s1, .int .u8 Z.s2, .int .u8 Z.s3, .int .u8 Z.s4, .int .u8 Z.s5, .int .u8 Z.s6, .int .u8 Z.s7, .int .i64 Z.K, .int .i64 Z.M, .int .i64 Z.B, .string Z.key, .int .i64 Z.size, .int .i64 Z.idx, .int .i64 Z.ep, .int .i64 Z.ct] rfl (by rw [← HBX.out]; exact heap_alloc_new w _) ?_)
    refine (rcheck_any Z _).mono ?_
    rintro e w1 ⟨rfl, hb1⟩
    have HB1 : Hid (Below w.heap.size w w1) := ((Below.refl _ _).alloc (Nat.le_refl _) _).trans (hb1.mono (by simp))
    have HBK1 : Hid (w1.heap[w.heap.size]? = some (.cells #[.int .u8 Z.s0, .int .u8 Z.s1, .int .u8 Z.s2, .int .u8 Z.s3, .int .u8 Z.s4, .int .u8 Z.s5, .int .u8 Z.s6, .int .u8 Z.s7, .int .i64 Z.K, .int .i64 Z.M, .int .i64 Z.B, .string Z.key, .int .i64 Z.size, .int .i64 Z.idx, .int .i64 Z.ep, .int .i64 Z.ct] 42 (0, 0))) := (hb1.block _ (by simp)).trans (by rw [← HBX.out]; exact heap_alloc_new w _)
    have hz1 : w.heap.size < w1.heap.size := by have := hb1.size; simp at this; omega
    rw [HE.out]
    have cK : w1.cell? ⟨w.heap.size, 8, none⟩ = some (.int .i64 (K : Int)) := by rw [← HK.out]; exact blk_cell HBK1.out rfl
    have cM : w1.cell? ⟨w.heap.size, 9, none⟩ = some (.int .i64 (M : Int)) := by rw [← HM.out]; exact blk_cell HBK1.out rfl
    have cB : w1.cell? ⟨w.heap.size, 10, none⟩ = some (.int .i64 (Bk : Int)) := by rw [← HBk.out]; exact blk_cell HBK1.out rfl
    have cS : w1.cell? ⟨w.heap.size, 12, none⟩ = some (.int .i64 (l.length : Int)) := by rw [← HSZ.out]; exact blk_cell HBK1.out rfl
    clear hb1
    go_wp2_with fail
    refine (rsizes_ok K M Bk l.length _ HZ2.out).mono ?_
    rintro e w2 ⟨As, cs, rfl, hRs, hb2, hcs1, hcs2, hlo⟩
    rw [← HNB.out] at hRs hcs1 ⊢
    unfold maxLen at hcs2
    have HRS := Lib.hid hRs
    have HLO : Hid (∀ b o, As = some ⟨b, o, none⟩ → w.heap.size + 1 ≤ b) := Lib.hid fun b o e => by have := hlo b o e; omega
    have HB2 : Hid (Below w.heap.size w w2) := HB1.out.trans (hb2.mono (by omega))
    have HBK2 : Hid (w2.heap[w.heap.size]? = some (.cells #[.int .u8 Z.s0, .int .u8 Z.s1, .int .u8 Z.s2, .int .u8 Z.s3, .int .u8 Z.s4, .int .u8 Z.s5, .int .u8 Z.s6, .int .u8 Z.s7, .int .i64 Z.K, .int .i64 Z.M, .int .i64 Z.B, .string Z.key, .int .i64 Z.size, .int .i64 Z.idx, .int .i64 Z.ep, .int .i64 Z.ct] 42 (0, 0))) := (hb2.block _ hz1).trans HBK1.out
    have hz2 : w.heap.size < w2.heap.size := Nat.lt_of_lt_of_le hz1 hb2.size
    clear cK cM cB cS hRs hb2 HBK1 hz1 HB1 hlo
    have hn0 : n ≤ 255 := by have := HNKM.out; omega
    have hnp : 0 < n := by have := HNKM.out; omega
    obtain ⟨bx, hbx⟩ : ∃ bx, bx = w.heap.size := ⟨_, rfl⟩
    have hKM : (K : Int) + (M : Int) = ((n : Nat) : Int) := by have := HNKM.out; omega
    rw [← hbx] at HBK2 hz2 ⊢
    have HBXX := Lib.hid hbx; clear hbx
    go_wp2
    go_loopg [9, 10] n (fun gk v i wr => ∃ (k : Nat) (x : Int), k ≤ n ∧ gk = n - k ∧ i = .int .i64 k ∧ Own wr w2.heap.size 69 17 v k (fun t => sdC { Z with idx := (t : Int) } (.slice none 0 0)) ∧ wr.heap[bx]? = some (.cells #[.int .u8 Z.s0, .int .u8 Z.s1, .int .u8 Z.s2, .int .u8 Z.s3, .int .u8 Z.s4, .int .u8 Z.s5, .int .u8 Z.s6, .int .u8 Z.s7, .int .i64 Z.K, .int .i64 Z.M, .int .i64 Z.B, .string Z.key, .int .i64 Z.size, .int .i64 x, .int .i64 Z.ep, .int .i64 Z.ct] 42 (0, 0)) ∧ Bt w2 wr bx bx)
    case atStart => exact ⟨0, Z.idx, Nat.zero_le _, rfl, rfl, Own.nil _ _ _ _ _, HBK2.out, Bt.refl _ _ _⟩
    case round =>
      clear HBK2
      obtain ⟨k, x, hk, rfl, rfl, hO, hbk, hbt⟩ := hrel
      have HO := Lib.hid hO; have HBK := Lib.hid hbk; have HBT := Lib.hid hbt
      have cK : wr.cell? ⟨bx, 8, none⟩ = some (.int .i64 (K : Int)) := by rw [← HK.out]; exact blk_cell hbk rfl
      have cM : wr.cell? ⟨bx, 9, none⟩ = some (.int .i64 (M : Int)) := by rw [← HM.out]; exact blk_cell hbk rfl
      have hszr : w2.heap.size ≤ wr.heap.size := hbt.size
      by_cases hlt : k < n
      · have c13 : wr.cell? ⟨bx, 13, none⟩ = some (.int .i64 x) := blk_cell hbk rfl
        have f13 : wr.frozen? ⟨bx, 13, none⟩ = false := by simp [World.frozen?, hbk]
        have HBW : Hid ((wr.setCell ⟨bx, 13, none⟩ (.int .i64 (k : Int))).heap[bx]? = some (.cells #[.int .u8 Z.s0, .int .u8 Z.s1, .int .u8 Z.s2, .int .u8 Z.s3, .int .u8 Z.s4, .int .u8 Z.s5, .int .u8 Z.s6, .int .u8 Z.s7, .int .i64 Z.K, .int .i64 Z.M, .int .i64 Z.B, .string Z.key, .int .i64 Z.size, .int .i64 (k : Int), .int .i64 Z.ep, .int .i64 Z.ct] 42 (0, 0))) := Lib.hid (heap_setCell_same wr bx 13 _ 42 _ hbk)
        have hO' := hO.keptRow (put_grown (p := bx) (i := 13) (.int .i64 (k : Int))) (ne_row hz2 hO.lt)
        have hsz' : w2.heap.size ≤ (wr.setCell ⟨bx, 13, none⟩ (.int .i64 (k : Int))).heap.size := by simpa using hszr
        have hln : (∀ q, _ = some q → w2.heap.size ≤ q) := fun q hq => (hO.lt q hq).1
        have HLN := Lib.hid hln
        have hNs : (wr.setCell ⟨bx, 13, none⟩ (.int .i64 (k : Int))).heap.size = wr.heap.size := by simp
        have HO2 := Lib.hid hO'
        clear hO hbk hbt hO' hln
        go_wp2_with (first | (refine wpList_loadH rfl (.tmp 2) rfl bx rfl #[.int .u8 Z.s0, .int .u8 Z.s1, .int .u8 Z.s2, .int .u8 Z.s3, .int .u8 Z.s4, .int .u8 Z.s5, .int .u8 Z.s6, .int .u8 Z.s7, .int .i64 Z.K, .int .i64 Z.M, .int .i64 Z.B, .string Z.key, .int .i64 Z.size, .int .i64 (k : Int), .int .i64 Z.ep, .int .i64 Z.ct] rfl HBW.out ?_) | (at_builtin; refine wpList_push _ rfl (.tmp 45) (.tmp 48) 45 rfl w2.heap.size 69 17 104 (.agg #[.int .u8 0, .int .u8 0, .int .u8 0, .int .u8 0, .int .u8 0, .int .u8 0, .int .u8 0, .int .u8 0, .int .i64 0, .int .i64 0, .int .i64 0, .string ⟨#[]⟩, .int .i64 0, .int .i64 0, .int .i64 0, .int .i64 0, .slice none 0 0]) #[.int .u8 Z.s0, .int .u8 Z.s1, .int .u8 Z.s2, .int .u8 Z.s3, .int .u8 Z.s4, .int .u8 Z.s5, .int .u8 Z.s6, .int .u8 Z.s7, .int .i64 Z.K, .int .i64 Z.M, .int .i64 Z.B, .string Z.key, .int .i64 Z.size, .int .i64 (k : Int), .int .i64 Z.ep, .int .i64 Z.ct, .slice none 0 0] Try.underlying45 shardInfo rfl (by decide) _ k _ rfl HO2.out hsz' wr.heap.size hNs rfl rfl rfl rfl (by omega) (by omega) ?_; intro v3 w3 hO3 hb3 hg3 _; have HO3 := Lib.hid hO3; have HBK3 : Hid (w3.heap[bx]? = some (.cells #[.int .u8 Z.s0, .int .u8 Z.s1, .int .u8 Z.s2, .int .u8 Z.s3, .int .u8 Z.s4, .int .u8 Z.s5, .int .u8 Z.s6, .int .u8 Z.s7, .int .i64 Z.K, .int .i64 Z.M, .int .i64 Z.B, .string Z.key, .int .i64 Z.size, .int .i64 (k : Int), .int .i64 Z.ep, .int .i64 Z.ct] 42 (0, 0))) := Lib.hid ((hb3.block bx hz2).trans HBW.out); have HBT3 := Lib.hid ((HBT.out.set (.inl rfl) (.int .i64 (k : Int))).grown hg3 fun q hq => .inl (HLN.out q hq)); clear hO3 hb3 hg3))
        go_roundg (n - (k + 1))
        case measure => omega
        case rel => exact ⟨k + 1, (k : Int), by omega, rfl, by go_num, HO3.out, HBK3.out, HBT3.out⟩
      · obtain rfl : n = k := by omega
        clear hk hlt
        obtain ⟨g, cg, rfl, hg2, hg3, hgc, _⟩ := hO.form hnp
        have HBW3 : Hid (Below w.heap.size w wr) := Lib.hid (HB2.out.trans (hbt.below (Nat.le_of_eq HBXX.out.symm) (Nat.le_of_eq HBXX.out.symm) HB2.out.size))
        have HTOP := Lib.hid hO.self
        clear hO hbk hbt
        go_wp2_with fail
        refine (first_any K _ (by omega)).mono ?_
        rintro e w4 ⟨AF, cF, rfl, hRF, hb4⟩
        have HRF := Lib.hid hRF
        have HB34 := Lib.hid hb4
        clear hRF hb4 cK cM
        go_wp2_with fail
        refine (weights_own AF n K cF el w4 (by omega) (by omega) (HRF.out.congr fun i hi => by rw [el_val (by omega)])).mono ?_
        rintro e w5 ⟨vW, SW, CW, O, rfl, hOW, hSh, hb5⟩
        obtain ⟨Aw, cw, rfl, hcw, hWT⟩ := hOW.rdmb
        have HWT := Lib.hid hWT; have HSH := Lib.hid hSh
        have HB35 : Hid (Below wr.heap.size wr w5) := Lib.hid (HB34.out.trans (hb5.mono HB34.out.size))
        have hg4 : g < w4.heap.size := Nat.lt_of_lt_of_le hg3 HB34.out.size
        have HL5 : Hid (Lls w5 w5.heap.size g n cg (fun t => { Z with idx := (t : Int) }) (fun _ => .slice none 0 0) (fun t => spT K Bk l t 0)) := Lib.hid ⟨HTOP.out.kept HB35.out, fun _ _ => OwnLL.nil _ _, (fun _ _ _ _ _ k e => by cases e)⟩
        have HBW5 : Hid (Below w.heap.size w w5) := Lib.hid (HBW3.out.trans (HB35.out.mono HBW3.out.size))
        have HBX5 : Hid (w5.heap[bx]? = some (.cells #[.int .u8 Z.s0, .int .u8 Z.s1, .int .u8 Z.s2, .int .u8 Z.s3, .int .u8 Z.s4, .int .u8 Z.s5, .int .u8 Z.s6, .int .u8 Z.s7, .int .i64 Z.K, .int .i64 Z.M, .int .i64 Z.B, .string Z.key, .int .i64 Z.size, .int .i64 x, .int .i64 Z.ep, .int .i64 Z.ct] 42 (0, 0))) := Lib.hid ((HB35.out.block bx (by omega)).trans HBK.out)
        have hg5 : g < w5.heap.size := Nat.lt_of_lt_of_le hg3 HB35.out.size
        have HCS : Hid (∀ wo, Bt w5 wo g g → ∀ j, j < nb → ∃ bs os, As = some ⟨bs, os, none⟩ ∧ bs < wo.heap.size ∧ wo.cell? ⟨bs, os + j, none⟩ = some (.int .i64 (blen K Bk l.length j : Nat))) := Lib.hid fun wo hbt j hj => by
          obtain ⟨bs, os, e, h1, h2⟩ := HRS.out j hj
          have h3 := HLO.out bs os e
          have h4 : wr.heap[bs]? = w2.heap[bs]? := HBT.out.block bs h1 (by have := HBXX.out; omega) (by have := HBXX.out; omega)
          have h5 := HB35.out.block bs (by omega)
          have h6 := hbt.block bs (by have := HB35.out.size; omega) (by omega) (by omega)
          exact ⟨bs, os, e, by have h7 := HB35.out.size; have h8 := hbt.size; omega, by rw [World.cell?_of_block (a := ⟨bs, os + j, none⟩) (h6.trans (h5.trans h4))]; exact h2⟩
        clear hOW hWT hSh hb5 HTOP HBK HRS HLO HRF HB34
        obtain ⟨Hs, hHs⟩ : ∃ Hs : Nat → Hd, Hs = fun t => { Z with idx := (t : Int) } := ⟨_, rfl⟩
        rw [← hHs] at HL5
        have HHS := Lib.hid hHs; clear hHs
        have hKp : 0 < K := by omega
        obtain ⟨B2, hB2⟩ : ∃ B2, B2 = w5.heap.size := ⟨_, rfl⟩
        rw [← hB2] at HL5
        have HB2E := Lib.hid hB2; clear hB2
        go_wp2
        go_loopg [12, 13, 14] nb (fun gk j' _ _ wr => ∃ (j : Nat) (V : Nat → Value), j ≤ nb ∧ gk = nb - j ∧ j' = .int .i64 j ∧ Lls wr B2 g n cg Hs V (fun t => spT K Bk l t j) ∧ Bt w5 wr g g)
        case atStart => exact ⟨0, _, Nat.zero_le _, rfl, rfl, HL5.out, Bt.refl _ _ _⟩
        case round =>
          clear HL5
          obtain ⟨j, V, hj, rfl, rfl, hLL, hbt⟩ := hrel
          obtain ⟨wo, rfl⟩ : ∃ wo : World, wo = wr := ⟨_, rfl⟩
          have HLL := Lib.hid hLL; have HBTo := Lib.hid hbt
          clear hLL hbt
          by_cases hlt : j < nb
          · obtain ⟨bs, os, rfl, hbs, hcs0⟩ := HCS.out wo HBTo.out j hlt
            obtain ⟨lk, hlk⟩ : ∃ lk, lk = blen K Bk l.length j := ⟨_, rfl⟩
            have hcs : wo.cell? ⟨bs, os + j, none⟩ = some (.int .i64 (lk : Int)) := by rw [hlk]; exact hcs0
            have hlkB : lk ≤ 65536 := by rw [hlk]; exact Nat.le_trans (blen_le (by omega)) (by omega)
            have hszo := HBTo.out.size
            have HBXo : Hid (wo.heap[bx]? = some (.cells #[.int .u8 Z.s0, .int .u8 Z.s1, .int .u8 Z.s2, .int .u8 Z.s3, .int .u8 Z.s4, .int .u8 Z.s5, .int .u8 Z.s6, .int .u8 Z.s7, .int .i64 Z.K, .int .i64 Z.M, .int .i64 Z.B, .string Z.key, .int .i64 Z.size, .int .i64 x, .int .i64 Z.ep, .int .i64 Z.ct] 42 (0, 0))) := Lib.hid ((HBTo.out.block bx (by omega) (by omega) (by omega)).trans HBX5.out)
            have KS : Hid (∀ w', Below wo.heap.size wo w' → w'.cell? ⟨bx, 8, none⟩ = some (.int .i64 (K : Int)) ∧ w'.cell? ⟨bx, 9, none⟩ = some (.int .i64 (M : Int)) ∧ w'.cell? ⟨bx, 10, none⟩ = some (.int .i64 (Bk : Int)) ∧ w'.cell? ⟨bs, os + j, none⟩ = some (.int .i64 (lk : Int))) := Lib.hid fun w' hb => by
              have e : ∀ q, w'.cell? ⟨bx, q, none⟩ = wo.cell? ⟨bx, q, none⟩ := fun q => hb.cell (by show bx < _; omega)
              refine ⟨?_, ?_, ?_, (hb.cell hbs).trans hcs⟩
              · rw [e, ← HK.out]; exact blk_cell HBXo.out rfl
              · rw [e, ← HM.out]; exact blk_cell HBXo.out rfl
              · rw [e, ← HBk.out]; exact blk_cell HBXo.out rfl
            have HWTo : Hid (RdMB wo w4.heap.size Aw n (fun _ => K) (fun i j => .int .i64 ((O i j).val : Nat))) := Lib.hid (HWT.out.bt hg4 HBTo.out)
            have HAo := Lib.hid (HA.out.below (HBW5.out.trans (HBTo.out.below (by have h1 := HBXX.out; omega) (by have h1 := HBXX.out; omega) HBW5.out.size)))
            have HROW := Lib.hid (fun (w' : World) (h1 : RL w' A l) => rowsOf_any K Bk j c (M : Int) A l w' (by omega) (by omega) (by omega) (by omega) (by omega) (by rw [← HNB.out]; exact hlt) h1)
            rw [← hlk] at HROW
            obtain ⟨D, hD⟩ : ∃ D : Nat → Nat → Fin 256, D = fun t c => el (sby K Bk l j t c) := ⟨_, rfl⟩
            have HCD : Hid (∀ w' A', RdM w' A' K (fun _ => lk) (fun i c => .int .u8 (sby K Bk l j i c : Nat)) → RdM w' A' K (fun _ => lk) (fun t c => .int .u8 ((D t c).val : Nat))) := Lib.hid fun w' A' h1 => h1.congr fun t _ c _ => by
              rw [hD]; show Value.int .u8 _ = Value.int .u8 (((el (sby K Bk l j t c)).val : Nat) : Int); rw [el_val (sby_lt HL.out _ _ _)]
            have HBY : Hid (∀ w' B v S C, OwnM w' B 43 5 v n S C (fun _ => lk) (fun i c => .int .u8 ((gE.s K (fun t => gE.m (O i t) (D t c))).val : Nat)) → OwnM w' B 43 5 v n S C (fun _ => lk) (fun i c => .int .u8 (wrd K (sby K Bk l j) i c : Nat))) := Lib.hid fun w' B v S C h1 => ⟨h1.1, fun i hi => (h1.2 i hi).congr fun c hc => by
              have e : (gE.s K fun t => gE.m (O i t) (D t c)).val = wrd K (sby K Bk l j) i c := by
                unfold wrd
                congr 1
                exact gE.s_congr fun t ht => by rw [ShP_first (by have := HNKM.out; omega) (by omega) hi (HSH.out i hi) t ht, hD]
              show [Value.int .u8 (((gE.s K fun t => gE.m (O i t) (D t c)).val : Nat) : Int)] = [Value.int .u8 ((wrd K (sby K Bk l j) i c : Nat) : Int)]
              rw [e]⟩
            have HLK := Lib.hid hlk
            clear hcs hcs0 hlk hD
            go_wp2_with fail
            refine wp_region_mix [(true, true, false), (true, true, false), (true, true, true), (true, true, false), (true, true, false), (true, true, false), (true, true, false), (true, true, false), (true, true, true), (false, false, false), (false, false, false), (false, true, false)] mixed (by kernel_rfl) (fun w4 => w4.cell? ⟨bx, 8, none⟩ = some (.int .i64 (K : Int)) ∧ w4.cell? ⟨bx, 9, none⟩ = some (.int .i64 (M : Int)) ∧ w4.cell? ⟨bx, 10, none⟩ = some (.int .i64 (Bk : Int)) ∧ w4.cell? ⟨bs, os + j, none⟩ = some (.int .i64 (lk : Int))) (KS.out _ (Below.refl _ _).drew) ?_
            intro hSw0
            simp only [hdM, tlM, List.cons_append, List.nil_append]
            repeat (first
              | (refine mix_look hSw0.out ?_ (by rfl) (fun w4 hSw => ?_) ?_; rotate_left; (focus (obtain ⟨s1, s2, s3, s4⟩ := hSw; go_simp; try with_reducible rfl)); simp only [Act.put, List.setIfInBounds_toArray, List.set_cons_zero, List.set_cons_succ])
              | (refine mix_pure ?_ (by rfl) (fun w4 => ?_) ?_; rotate_left; (focus (go_simp; try with_reducible rfl)); simp only [Act.put, List.setIfInBounds_toArray, List.set_cons_zero, List.set_cons_succ]))
            refine mix_step (fun K hK => ?_)
            go_simp
            refine (HROW.out _ (HAo.out.below (Below.refl _ _).drew)).mono ?_
            rintro e wq ⟨A5, c5, rfl, hR5, hb5⟩
            have HB5 : Hid (Below wo.heap.size wo wq) := Lib.hid ((Below.refl wo.heap.size wo).drew.trans hb5)
            have HR5 := Lib.hid (HCD.out _ _ hR5)
            clear hR5 hb5
            dsimp only
            refine hK.out _ _ (fun _ _ => KS.out _ HB5.out) ?_
            clear hK K
            try simp only [Act.put, List.setIfInBounds_toArray, List.set_cons_zero, List.set_cons_succ]
            refine mix_step (fun K hK => ?_)
            go_simp
            refine (by_own Aw A5 n _ cw c5 lk O D wq (by omega) (by omega) hKp (by omega) ((RdMB.rdm HWTo.out).below HB5.out) HR5.out).mono ?_
            rintro e w6 ⟨v6, S6, C6, rfl, hO6, hb6⟩
            have HB6 : Hid (Below wo.heap.size wo w6) := Lib.hid (HB5.out.trans (hb6.mono HB5.out.size))
            have HO6 := Lib.hid (HBY.out _ _ _ _ _ (OwnM.monoB hO6 HB5.out.size))
            clear hO6 hb6
            dsimp only
            refine hK.out _ _ (fun _ _ => KS.out _ HB6.out) ?_
            clear hK K
            try simp only [Act.put, List.setIfInBounds_toArray, List.set_cons_zero, List.set_cons_succ]
            repeat (refine mix_pure ?_ (by rfl) (fun w4 => ?_) ?_; rotate_left; (focus (go_simp; try with_reducible rfl)); simp only [Act.put, List.setIfInBounds_toArray, List.set_cons_zero, List.set_cons_succ])
            refine mix_nil ?_
            obtain ⟨gw, cW, rfl, hgw1, hgw2, _, _⟩ := HO6.out.1.form hnp
            have HL6 := Lib.hid (HLL.out.kept HB6.out)
            have HBT6 := Lib.hid (HBTo.out.kept HB6.out)
            have HV6 : Hid (∀ t, t < n → ∀ q, (V t).ownBlock = some q → q < wo.heap.size ∨ w6.heap.size ≤ q) := Lib.hid fun t ht q hq => by
              obtain ⟨ft, h1⟩ := (HLL.out.row t ht).top
              exact .inl (h1.lt q hq).2
            have hz6 := HB6.out.size
            clear HB5 HR5 HB6 HCD HBY HROW HAo HWTo KS HBXo HLL HBTo
            go_wp2
            have HJL := Lib.hid hlt
            clear hlt
            go_loopg [14] n (fun gk i' wr => ∃ (i : Nat) (V : Nat → Value), i ≤ n ∧ gk = n - i ∧ i' = .int .i64 i ∧ Lls wr B2 g n cg Hs V (fun t => if t < i then spT K Bk l t (j + 1) else spT K Bk l t j) ∧ Bt w5 wr g g ∧ (∀ t, t < n → ∀ q, (V t).ownBlock = some q → q < wo.heap.size ∨ w6.heap.size ≤ q) ∧ (∀ q, wo.heap.size ≤ q → q < w6.heap.size → wr.heap[q]? = w6.heap[q]?) ∧ w6.heap.size ≤ wr.heap.size)
            case atStart => exact ⟨0, V, Nat.zero_le _, rfl, rfl, HL6.out.congr fun t _ => by rw [if_neg (by omega)], HBT6.out, HV6.out, fun _ _ _ => rfl, Nat.le_refl _⟩
            case round =>
              clear HL6 HBT6 HV6
              obtain ⟨i, V, hi, rfl, rfl, hLL, hbt, hV, hmid, hsz⟩ := hrel
              have HLL := Lib.hid hLL; have HBTo := Lib.hid hbt; have HV := Lib.hid hV; have HMID := Lib.hid hmid
              clear hLL hbt hV hmid
              by_cases hlt : i < n
              · have hrow := HLL.out.row i hlt
                simp only [if_neg (Nat.lt_irrefl i)] at hrow
                obtain ⟨Av, cv, hVi, hcv, _⟩ := hrow.rd
                rw [spT_length] at hVi hcv
                obtain ⟨fV, hVo⟩ := hrow.top
                have c16 : wr.cell? ⟨g, i * 17 + 16, none⟩ = some (.slice Av j cv) := by
                  rw [HLL.out.top.cellN (fun _ _ => sdC_len _ _) hlt (show 16 < 17 by decide)]
                  show some (V i) = _
                  rw [hVi]
                have hbw : wr.heap[gw]? = w6.heap[gw]? := HMID.out gw hgw1 hgw2
                have cU : wr.cell? ⟨gw, i, none⟩ = some (.slice (S6 i) lk (C6 i)) := by
                  rw [World.cell?_of_block (a := ⟨gw, i, none⟩) hbw]; exact Own.cell1 HO6.out.1 hlt
                have hgr : g < wr.heap.size := by have := HBTo.out.size; omega
                have KS : Hid (∀ w', Below wr.heap.size wr w' → w'.cell? ⟨g, i * 17 + 16, none⟩ = some (.slice Av j cv) ∧ w'.cell? ⟨gw, i, none⟩ = some (.slice (S6 i) lk (C6 i))) := Lib.hid fun w' hb => ⟨(hb.cell hgr).trans c16, (hb.cell (by show gw < _; omega)).trans cU⟩
                obtain ⟨X, hX⟩ : ∃ X, X = spB K Bk l i j := ⟨_, rfl⟩
                obtain ⟨LLj, hLLj⟩ : ∃ L, L = spT K Bk l i j := ⟨_, rfl⟩
                have HXl : Hid (lk = X.length) := Lib.hid (by rw [hX, spB_length, HLK.out])
                have HLl : Hid (LLj.length ≤ 1000000000000) := Lib.hid (by rw [hLLj, spT_length]; omega)
                rw [← hLLj] at hrow
                rw [hVi] at hrow hVo
                have HLj : Hid (OwnLL wr.drew B2 (.slice Av j cv) LLj) := Lib.hid (hrow.kept (Below.refl wr.heap.size wr).drew)
                have hB2 : B2 ≤ wr.drew.heap.size := by show B2 ≤ wr.heap.size; have h1 := HB2E.out; have h2 := HBTo.out.size; omega
                have HRr : Hid (OwnB wr.drew B2 (.slice (S6 i) lk (C6 i)) X) := Lib.hid (by
                  have h1 := HO6.out.2 i hlt
                  have h2 : Own wr wo.heap.size 5 1 (.slice (S6 i) lk (C6 i)) lk (fun c => [.int .u8 (wrd K (sby K Bk l j) i c : Nat)]) := h1.blocks fun q hq => HMID.out q (h1.lt q hq).1 (h1.lt q hq).2
                  have h3 : OwnB wr wo.heap.size (.slice (S6 i) lk (C6 i)) X := OwnB.of (by
                    rw [← HXl.out]
                    exact h2.congr fun c hc => by rw [hX]; unfold spB; rw [mkL_get (by rw [← HLK.out]; exact hc)])
                  exact (h3.mono (by have h1 := HB2E.out; omega)).kept (Below.refl wr.heap.size wr).drew)
                have HGN : Hid (Value.ownBlock (.slice Av j cv) ≠ some g ∧ Value.ownBlock (.slice Av j cv) ≠ some gw) := Lib.hid ⟨(by
                  rcases own_ne hVo HLL.out.top (by decide) with h1 | h1
                  · rw [h1]; intro e; cases e
                  · exact h1), (by
                  intro e
                  rcases HV.out i hlt gw (by rw [hVi]; exact e) with h1 | h1 <;> omega)⟩
                have HS9 : Hid (∀ w', wr.drew.grownBy w' (Value.ownBlock (.slice Av j cv)) → w'.cell? ⟨g, i * 17 + 16, none⟩ = some (.slice Av j cv) ∧ w'.cell? ⟨gw, i, none⟩ = some (.slice (S6 i) lk (C6 i))) := Lib.hid fun w' hg =>
                  ⟨hg.cell (KS.out _ (Below.refl wr.heap.size wr).drew).1 (fun e => HGN.out.1 e.symm), hg.cell (KS.out _ (Below.refl wr.heap.size wr).drew).2 (fun e => HGN.out.2 e.symm)⟩
                have HNX : Hid (LLj ++ [X] = spT K Bk l i (j + 1)) := Lib.hid (by rw [hLLj, hX, ← spT_next])
                have HVI := Lib.hid hVi
                clear hrow hVi hVo hX hLLj c16 cU hbw hcv
                go_wp2_with fail
                refine wp_region_mix [(true, true, false), (true, true, false), (true, true, false), (true, true, false), (true, true, false), (true, true, false), (true, true, true), (true, true, false), (true, true, false), (true, true, false), (true, true, true), (false, false, false), (false, false, false), (false, true, false), (false, true, false), (false, false, true)] mixed (by kernel_rfl) (fun w4 => w4.cell? ⟨g, i * 17 + 16, none⟩ = some (.slice Av j cv) ∧ w4.cell? ⟨gw, i, none⟩ = some (.slice (S6 i) lk (C6 i))) (KS.out _ (Below.refl _ _).drew) ?_
                intro hSw0
                simp only [hdM, tlM, List.cons_append, List.nil_append]
                repeat (first
                  | (refine mix_look hSw0.out ?_ (by rfl) (fun w4 hSw => ?_) ?_; rotate_left; (focus (obtain ⟨s1, s2⟩ := hSw; go_simp; try with_reducible rfl)); simp only [Act.put, List.setIfInBounds_toArray, List.set_cons_zero, List.set_cons_succ])
                  | (refine mix_pure ?_ (by rfl) (fun w4 => ?_) ?_; rotate_left; (focus (go_simp; try with_reducible rfl)); simp only [Act.put, List.setIfInBounds_toArray, List.set_cons_zero, List.set_cons_succ]))
                refine mix_step (fun K hK => ?_)
                go_simp
                refine hK.out _ _ (fun _ _ => KS.out _ ((Below.refl wr.heap.size wr).drew.alloc (Nat.le_refl _) _)) ?_
                clear hK K
                try simp only [Act.put, List.setIfInBounds_toArray, List.set_cons_zero, List.set_cons_succ]
                refine mix_list (fun K hK => ?_)
                change wpList _ _ _ _ _ (World.alloc wr.drew _)
                refine wpList_pushLLh rfl (.tmp 86) (.tmp 91) rfl B2 (.slice Av j cv) LLj rfl HLj.out hB2 X HXl.out HRr.out _ rfl rfl HLl.out ?_
                intro v9 w9 hO9 hb9 hg9 hat9
                refine hK.out _ _ (fun _ _ => HS9.out _ hg9) ?_
                clear hK K
                try simp only [Act.put, List.setIfInBounds_toArray, List.set_cons_zero, List.set_cons_succ]
                repeat (refine mix_pure ?_ (by rfl) (fun w4 => ?_) ?_; rotate_left; (focus (go_simp; try with_reducible rfl)); simp only [Act.put, List.setIfInBounds_toArray, List.set_cons_zero, List.set_cons_succ])
                rw [HNX.out] at hO9
                obtain ⟨A9, c9, e9, _, _⟩ := hO9.rd
                rw [spT_length] at e9
                subst e9
                have hgs : wr.heap.size ≤ w9.heap.size := hg9.size
                have HT9 := Lib.hid ((HLL.out.top.kept (Below.refl wr.heap.size wr).drew).keptRow hg9 (.inr fun e => HGN.out.1 e.symm))
                have HLN := Lib.hid (((HLL.out.kept (Below.refl wr.heap.size wr).drew).push hlt hO9 (by rw [HVI.out]; exact hg9) (by rw [HVI.out]; exact hat9)).congr (LL' := fun t => if t < i + 1 then spT K Bk l t (j + 1) else spT K Bk l t j) fun t _ => by
                  by_cases e : t = i
                  · subst e; rw [upd_at, if_pos (by omega)]
                  · rw [upd_ne _ _ _ e]
                    by_cases e2 : t < i
                    · rw [if_pos e2, if_pos (by omega)]
                    · rw [if_neg e2, if_neg (by omega)])
                have HBTn := Lib.hid (((HBTo.out.kept (Below.refl wr.heap.size wr).drew).grown hg9 (fun q e => .inl (by obtain ⟨fq, h1⟩ := HLj.out.top; have h2 := (h1.lt q e).1; have h3 := HB2E.out; omega))).set (p := g) (i := i * 17 + 16) (.inl rfl) (.slice A9 (j + 1) c9))
                have HVn : Hid (∀ t, t < n → ∀ q, (upd V i (.slice A9 (j + 1) c9) t).ownBlock = some q → q < wo.heap.size ∨ w6.heap.size ≤ q) := Lib.hid fun t ht q hq => by
                  by_cases e : t = i
                  · subst e
                    rw [upd_at] at hq
                    rcases hat9 with h1 | ⟨q', h1, h2⟩
                    · rw [h1] at hq; exact HV.out t ht q (by rw [HVI.out]; exact hq)
                    · rw [h1] at hq; injection hq with hq
                      have h2 : wr.heap.size ≤ q' := h2
                      exact .inr (by omega)
                  · rw [upd_ne _ _ _ e] at hq; exact HV.out t ht q hq
                have HMn : Hid (∀ q, wo.heap.size ≤ q → q < w6.heap.size → (w9.setCell ⟨g, i * 17 + 16, none⟩ (.slice A9 (j + 1) c9)).heap[q]? = w6.heap[q]?) := Lib.hid fun q h1 h2 => by
                  rw [Below.heap_setCell _ _ _ _ (by show q ≠ g; omega), hg9.block q (by show q < wr.heap.size; omega) (fun e => by rcases HV.out i hlt q (by rw [HVI.out]; exact e.symm) with h3 | h3 <;> omega)]
                  exact HMID.out q h1 h2
                have c16 := (HS9.out _ hg9).1
                have f16 := own_free HT9.out (i * 17 + 16)
                have hszn : w6.heap.size ≤ (w9.setCell ⟨g, i * 17 + 16, none⟩ (.slice A9 (j + 1) c9)).heap.size := by simp; omega
                have HSZN := Lib.hid hszn
                clear hO9 hb9 hg9 hat9 hszn
                refine mix_step (fun K hK => ?_)
                go_simp
                refine hK.out _ _ (fun h => absurd h (by decide)) ?_
                clear hK K
                try simp only [Act.put, List.setIfInBounds_toArray, List.set_cons_zero, List.set_cons_succ]
                refine mix_nil ?_
                clear c16 f16
                go_wp2
                go_roundg (n - (i + 1))
                case measure => omega
                case rel => exact ⟨i + 1, _, by omega, rfl, by go_num, HLN.out, HBTn.out, HVn.out, HMn.out, HSZN.out⟩
              · obtain rfl : n = i := by omega
                have HLE := Lib.hid (HLL.out.congr (LL' := fun t => spT K Bk l t (j + 1)) fun t ht => by rw [if_pos ht])
                clear hi hlt HLL HV HMID
                go_wp2
                go_roundg (nb - (j + 1))
                case measure => have := HJL.out; omega
                case rel => exact ⟨j + 1, V, by have := HJL.out; omega, rfl, by go_num, HLE.out, HBTo.out⟩
          · obtain rfl : nb = j := by omega
            clear hj hlt
            go_wp2
            go_ret2
            have hbx := HBXX.out
            refine ⟨HBW5.out.trans (HBTo.out.below (by omega) (by omega) HBW5.out.size), fun h1 => absurd HE.out h1, fun _ => ⟨some ⟨g, 0, none⟩, cg, by rw [← HN.out]; rfl, ?_⟩⟩
            have h1 := HLL.out.rsd
            rw [HHS.out] at h1
            have hK' : Z.K.toNat = K := by rw [HK.out]; rfl
            have hB' : Z.B.toNat = Bk := by rw [HBk.out]; rfl
            rw [← HN.out, hK', hB']
            unfold spL
            rw [← HNB.out]
            exact h1
  · have HE := Lib.hid hE
    obtain ⟨E, hEE⟩ : ∃ E, E = checkE Z := ⟨_, rfl⟩
    have t1 : (E != 0) = true := by rw [bne_iff_ne, hEE]; exact hE
    have HEE := Lib.hid hEE
    clear hE hEE
    go_enter Try.func21, Try.ntmps21
    go_wp2_with (refine wpList_loadH rfl (.tmp 2) rfl w.heap.size rfl #[.int .u8 Z.s0, .int .u8 Z.s1, .int .u8 Z.s2, .int .u8 Z.s3, .int .u8 Z.s4, .int .u8 Z.s5, .int .u8 Z.s6, .int .u8 Z.s7, .int .i64 Z.K, .int .i64 Z.M, .int .i64 Z.B, .string Z.key, .int .i64 Z.size, .int .i64 Z.idx, .int .i64 Z.ep, .int .i64 Z.ct] rfl (by rw [← HBX.out]; exact heap_alloc_new w _) ?_)
    refine (rcheck_any Z _).mono ?_
    rintro e w1 ⟨rfl, hb1⟩
    have HB1 : Hid (Below w.heap.size w w1) := ((Below.refl _ _).alloc (Nat.le_refl _) _).trans (hb1.mono (by simp))
    rw [← HEE.out]
    clear hb1
    go_wp2
    go_ret2
    exact ⟨HB1.out, fun _ => by rw [← HEE.out]; rfl, fun h1 => absurd h1 HE.out⟩
end Go.Proofs.Ytjaaldandgfkgaa
