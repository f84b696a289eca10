/- stripe.Split: the walk. Conditions: bytes that memory bears. -/
import Derived.Test.YtjaaldandgfkgaaSpL
import Derived.Test.YtjaaldandgfkgaaCopB
import Derived.Test.YtjaaldandgfkgaaProdM
import Derived.Test.YtjaaldandgfkgaaClon
namespace Go.Proofs.Ytjaaldandgfkgaa
open Go.RowKit

/-- How many shards. -/
def shN (h : Hd) : Nat := h.K.toNat + h.M.toNat
/-- What Split answers: the shards, in memory of their own. -/
def SplPost (w : World) (h : Hd) (l : List Nat) (e : Ending) (w' : World) : Prop :=
  Below w.heap.size w w' ∧ (checkE h ≠ 0 → e = .returned (.tuple #[.slice none 0 0, .int .i64 (checkE h)])) ∧
  (checkE h = 0 → ∃ g V T, e = .returned (.tuple #[.slice (some ⟨g, 0, none⟩) (shN h) (shN h), .int .i64 0]) ∧ w.heap.size ≤ g ∧ OwnSd w' w.heap.size g (shN h) (shN h) (fun i => { h with idx := i }) V (fun i => spL h.K.toNat h.B.toNat l i) T)
theorem fsizes_ok (K M B s : Nat) (w : World) (h : sizeE K M B s = 0) :
    Calls Try.prog 47 #[.agg #[.int .i64 K, .int .i64 M, .int .i64 B], .int .i64 s] w fun e w' => ∃ A c, e = .returned (.tuple #[.slice A (nblk (K * B) s) c, .int .i64 0]) ∧ Rd w' A (nblk (K * B) s) (fun j => .int .i64 (blen K B s j : Nat)) ∧ Below w.heap.size w w' ∧ nblk (K * B) s ≤ c ∧ c ≤ maxLen := by
  refine (fsizes_all K M B s w).mono ?_
  rintro e w' ⟨v, rfl, hO, hb⟩
  have hn : sizeN (K : Int) (M : Int) (B : Int) (s : Int) = nblk (K * B) s := by unfold sizeN; rw [if_pos h]; rfl
  rw [hn] at hO
  obtain ⟨A, c, rfl, hc, hm, hr, _⟩ := hO.rd
  exact ⟨A, c, by rw [h], hr, hb, hc, hm⟩
theorem own_free {w : World} {B e sz g n c : Nat} {f : Nat → List Value} (h : Own w B e sz (.slice (some ⟨g, 0, none⟩) n c) n f) (i : Nat) : w.frozen? ⟨g, i, none⟩ = false := by
  obtain ⟨cur, hg, _⟩ := h.cur
  simp [World.frozen?, hg]
theorem Below.trans_row {w w1 w2 : World} {g B : Nat} (h : Below B w w1) (k : w1.grownBy w2 (some g)) (hg : B ≤ g) (hB : B ≤ w1.heap.size) : Below B w w2 :=
  ⟨k.os.trans h.os, k.tape.trans h.tape, k.output.trans h.output, Nat.le_trans h.size k.size, fun i hi => (k.block i (by omega) (fun e => by injection e with e; omega)).trans (h.block i hi)⟩
theorem dropS_rl {w : World} {bk bo k : Nat} {l : List Nat} (h : RL w (some ⟨bk, bo, none⟩) l) : RL w (some ⟨bk, bo + k, none⟩) (l.drop k) := fun i hi => by
  rw [List.length_drop] at hi
  obtain ⟨b', o', e, hb, hc⟩ := h (k + i) (by omega)
  injection e with e
  injection e with e1 e2
  subst e1 e2
  refine ⟨bk, bo + k, rfl, hb, ?_⟩
  rw [show bo + k + i = bo + (k + i) by omega, hc]
  show some (Value.int .u8 _) = some (Value.int .u8 _)
  rw [List.getD_eq_getElem?_getD, List.getD_eq_getElem?_getD, List.getElem?_drop]
theorem byteSz : (Try.prog.info? 5).map (·.size) = some 1 := by kernel_rfl
theorem getD_any {l : List Nat} (h : ∀ x ∈ l, x < 256) (i : Nat) : l.getD i 0 < 256 := by
  by_cases hi : i < l.length
  · exact getD_lt h hi
  · rw [getD_none (by omega)]; omega
theorem blk_cell {w : World} {g t i : Nat} {cs : Array Value} {v : Value} (h : w.heap[g]? = some (.cells cs t (0, 0))) (e : cs[i]? = some v) : w.cell? ⟨g, i, none⟩ = some v := by
  rw [cell_of_row w g i cs t (0, 0) h]; exact e
set_option maxRecDepth 100000 in
set_option maxHeartbeats 4000000 in
theorem split_any (h0 : Hd) (A : Option Addr) (c : Nat) (l : List Nat) (w : World) (hl : ∀ x ∈ l, x < 256) (hlen : l.length ≤ 140737488351232) (hlc : l.length ≤ c) (hcm : c ≤ maxLen) (hA : RL w A l) :
    Calls Try.prog 22 #[.agg #[.int .u8 h0.s0, .int .u8 h0.s1, .int .u8 h0.s2, .int .u8 h0.s3, .int .u8 h0.s4, .int .u8 h0.s5, .int .u8 h0.s6, .int .u8 h0.s7, .int .i64 h0.K, .int .i64 h0.M, .int .i64 h0.B, .string h0.key, .int .i64 h0.size, .int .i64 h0.idx, .int .i64 h0.ep, .int .i64 h0.ct], .slice A l.length c] w (SplPost w { h0 with size := (l.length : Int), idx := 0 } l) := by
  obtain ⟨Z, hh⟩ : ∃ Z : Hd, Z = { h0 with size := (l.length : Int), idx := 0 } := ⟨_, rfl⟩
  rw [← hh]
  have HBX := Lib.hid (show (#[.int .u8 h0.s0, .int .u8 h0.s1, .int .u8 h0.s2, .int .u8 h0.s3, .int .u8 h0.s4, .int .u8 h0.s5, .int .u8 h0.s6, .int .u8 h0.s7, .int .i64 h0.K, .int .i64 h0.M, .int .i64 h0.B, .string h0.key, .int .i64 (l.length : Int), .int .i64 0, .int .i64 h0.ep, .int .i64 h0.ct] : Array Value) = #[.int .u8 Z.s0, .int .u8 Z.s1, .int .u8 Z.s2, .int .u8 Z.s3, .int .u8 Z.s4, .int .u8 Z.s5, .int .u8 Z.s6, .int .u8 Z.s7, .int .i64 Z.K, .int .i64 Z.M, .int .i64 Z.B, .string Z.key, .int .i64 Z.size, .int .i64 Z.idx, .int .i64 Z.ep, .int .i64 Z.ct] by rw [hh])
  have hsz : Z.size = (l.length : Int) := by rw [hh]
  have HSZ := Lib.hid hsz; have HA := Lib.hid hA; have HL := Lib.hid hl
  unfold maxLen at hcm
  clear hh hsz hA hl
  by_cases hE : checkE Z = 0
  · obtain ⟨⟨m1, m2, m3, m4, m5, m6⟩, _, _, zE, _⟩ := check_facts hE
    have HSE := Lib.hid zE
    obtain ⟨K, hK⟩ : ∃ K : Nat, Z.K = (K : Int) := ⟨Z.K.toNat, by omega⟩
    obtain ⟨M, hM⟩ : ∃ M : Nat, Z.M = (M : Int) := ⟨Z.M.toNat, by omega⟩
    obtain ⟨Bk, hBk⟩ : ∃ Bk : Nat, Z.B = (Bk : Int) := ⟨Z.B.toNat, by omega⟩
    obtain ⟨n, hn⟩ : ∃ n : Nat, n = shN Z := ⟨_, rfl⟩
    have hnKM : n = K + M := by rw [hn]; unfold shN; omega
    obtain ⟨nb, hnb⟩ : ∃ nb : Nat, nb = nblk (K * Bk) l.length := ⟨_, rfl⟩
    have hz2 : sizeE (K : Int) (M : Int) (Bk : Int) (l.length : Int) = 0 := by rw [← hK, ← hM, ← hBk, ← HSZ.out]; exact zE
    have hnb4 : nb ≤ 4096 := by
      have := sizeN_le (K : Int) (M : Int) (Bk : Int) (l.length : Int)
      unfold sizeN at this
      rw [if_pos hz2] at this
      rw [hnb]; exact this
    have hls := (size_facts hz2).2.1
    rw [hK] at m2 m3 m4; rw [hM] at m1 m2 m4; rw [hBk] at m5 m6
    have HZ2 := Lib.hid hz2; have HNB := Lib.hid hnb; have HN := Lib.hid hn; have HNKM := Lib.hid hnKM
    have HK := Lib.hid hK; have HM := Lib.hid hM; have HBk := Lib.hid hBk; have HE := Lib.hid hE
    clear hz2 hnb hn hnKM hK hM hBk zE hE
    go_enter Try.func22, Try.ntmps22
    go_wp2_with (refine wpList_loadH rfl (.tmp 2) rfl w.heap.size rfl #[.int .u8 Z.s0, .int .u8 Z.s1, .int .u8 Z.s2, .int .u8 Z.s3, .int .u8 Z.s4, .int .u8 Z.s5, .int .u8 Z.s6, .int .u8 Z.s7, .int .i64 Z.K, .int .i64 Z.M, .int .i64 Z.B, .string Z.key, .int .i64 Z.size, .int .i64 Z.idx, .int .i64 Z.ep, .int .i64 Z.ct] rfl (by rw [← HBX.out]; exact heap_alloc_new w _) ?_)
    refine (fcheck_any Z _).mono ?_
    rintro e w1 ⟨rfl, hb1⟩
    have HB1 : Hid (Below w.heap.size w w1) := ((Below.refl _ _).alloc (Nat.le_refl _) _).trans (hb1.mono (by simp))
    have HBK1 : Hid (w1.heap[w.heap.size]? = some (.cells #[.int .u8 Z.s0, .int .u8 Z.s1, .int .u8 Z.s2, .int .u8 Z.s3, .int .u8 Z.s4, .int .u8 Z.s5, .int .u8 Z.s6, .int .u8 Z.s7, .int .i64 Z.K, .int .i64 Z.M, .int .i64 Z.B, .string Z.key, .int .i64 Z.size, .int .i64 Z.idx, .int .i64 Z.ep, .int .i64 Z.ct] 42 (0, 0))) := (hb1.block _ (by simp)).trans (by rw [← HBX.out]; exact heap_alloc_new w _)
    have hz1 : w.heap.size < w1.heap.size := by have := hb1.size; simp at this; omega
    rw [HE.out]
    have cK : w1.cell? ⟨w.heap.size, 8, none⟩ = some (.int .i64 (K : Int)) := by rw [← HK.out]; exact blk_cell HBK1.out rfl
    have cM : w1.cell? ⟨w.heap.size, 9, none⟩ = some (.int .i64 (M : Int)) := by rw [← HM.out]; exact blk_cell HBK1.out rfl
    clear hb1
    go_wp2_with fail
    refine (new_ok K M _ (by omega) (by omega) (by omega) (by omega)).mono ?_
    rintro e w2 ⟨p, rfl, hC, hp, hb2⟩
    have HC := Lib.hid hC
    have HB2 : Hid (Below w.heap.size w w2) := HB1.out.trans (hb2.mono (by omega))
    have HBK2 : Hid (w2.heap[w.heap.size]? = some (.cells #[.int .u8 Z.s0, .int .u8 Z.s1, .int .u8 Z.s2, .int .u8 Z.s3, .int .u8 Z.s4, .int .u8 Z.s5, .int .u8 Z.s6, .int .u8 Z.s7, .int .i64 Z.K, .int .i64 Z.M, .int .i64 Z.B, .string Z.key, .int .i64 Z.size, .int .i64 Z.idx, .int .i64 Z.ep, .int .i64 Z.ct] 42 (0, 0))) := (hb2.block _ hz1).trans HBK1.out
    have hz2 : w.heap.size < w2.heap.size := Nat.lt_of_lt_of_le hz1 hb2.size
    clear cK cM hC hb2 HBK1 hp
    have cK : w2.cell? ⟨w.heap.size, 8, none⟩ = some (.int .i64 (K : Int)) := by rw [← HK.out]; exact blk_cell HBK2.out rfl
    have cM : w2.cell? ⟨w.heap.size, 9, none⟩ = some (.int .i64 (M : Int)) := by rw [← HM.out]; exact blk_cell HBK2.out rfl
    have cB : w2.cell? ⟨w.heap.size, 10, none⟩ = some (.int .i64 (Bk : Int)) := by rw [← HBk.out]; exact blk_cell HBK2.out rfl
    have cS : w2.cell? ⟨w.heap.size, 12, none⟩ = some (.int .i64 (l.length : Int)) := by rw [← HSZ.out]; exact blk_cell HBK2.out rfl
    go_wp2_with fail
    refine (fsizes_ok K M Bk l.length _ HZ2.out).mono ?_
    rintro e w3 ⟨As, cs, rfl, hRs, hb3, hcs1, hcs2⟩
    rw [← HNB.out] at hRs hcs1 ⊢
    unfold maxLen at hcs2
    have HC3 := Lib.hid (HC.out.below hb3)
    have HRS := Lib.hid hRs
    have HB3 : Hid (Below w.heap.size w w3) := HB2.out.trans (hb3.mono (by omega))
    have HBK3 : Hid (w3.heap[w.heap.size]? = some (.cells #[.int .u8 Z.s0, .int .u8 Z.s1, .int .u8 Z.s2, .int .u8 Z.s3, .int .u8 Z.s4, .int .u8 Z.s5, .int .u8 Z.s6, .int .u8 Z.s7, .int .i64 Z.K, .int .i64 Z.M, .int .i64 Z.B, .string Z.key, .int .i64 Z.size, .int .i64 Z.idx, .int .i64 Z.ep, .int .i64 Z.ct] 42 (0, 0))) := (hb3.block _ hz2).trans HBK2.out
    have hz3 : w.heap.size < w3.heap.size := Nat.lt_of_lt_of_le hz2 hb3.size
    clear cK cM cB cS hRs hb3 HBK2 HC hz1 hz2 HB1 HB2
    have cK : w3.cell? ⟨w.heap.size, 8, none⟩ = some (.int .i64 (K : Int)) := by rw [← HK.out]; exact blk_cell HBK3.out rfl
    have cM : w3.cell? ⟨w.heap.size, 9, none⟩ = some (.int .i64 (M : Int)) := by rw [← HM.out]; exact blk_cell HBK3.out rfl
    have hKM : (K : Int) + (M : Int) = ((n : Nat) : Int) := by have := HNKM.out; omega
    have hn0 : n ≤ 255 := by have := HNKM.out; omega
    have hmk := run_make_rowM (P := Try.prog) 45 69 (.agg #[.int .u8 0, .int .u8 0, .int .u8 0, .int .u8 0, .int .u8 0, .int .u8 0, .int .u8 0, .int .u8 0, .int .i64 0, .int .i64 0, .int .i64 0, .string ⟨#[]⟩, .int .i64 0, .int .i64 0, .int .i64 0, .int .i64 0, .slice none 0 0]) 17 104 Try.underlying45 shardInfo .i64 .i64 n (by omega) (by omega)
    have HT4 := Lib.hid (made_shards w3 w3.heap.size n (Nat.le_refl _) (by unfold maxLen; omega))
    have HB4 := Lib.hid ((Below.refl w3.heap.size w3).alloc (Nat.le_refl _) (.cells (madeCells (.agg #[.int .u8 0, .int .u8 0, .int .u8 0, .int .u8 0, .int .u8 0, .int .u8 0, .int .u8 0, .int .u8 0, .int .i64 0, .int .i64 0, .int .i64 0, .string ⟨#[]⟩, .int .i64 0, .int .i64 0, .int .i64 0, .int .i64 0, .slice none 0 0] : Value).cells (n * 17)) 69))
    go_wp2
    clear hmk cK cM
    obtain ⟨g, hg⟩ : ∃ g, g = w3.heap.size := ⟨_, rfl⟩
    rw [← hg] at HT4 HB4 hz3 ⊢
    have HG := Lib.hid hg; clear hg
    go_loopg [12, 63] n (fun gk _ i wr => ∃ k : Nat, k ≤ n ∧ gk = n - k ∧ i = .int .i64 k ∧ Own wr g 69 17 (.slice (some ⟨g, 0, none⟩) n n) n (fun t => sdC (if t < k then { Z with idx := (t : Int) } else hd0) (.slice none 0 0)) ∧ Below g w3 wr)
    case atStart => exact ⟨0, Nat.zero_le _, rfl, rfl, HT4.out.congr fun t _ => by rw [if_neg (by omega)], HB4.out⟩
    case round =>
      clear HT4 HB4
      obtain ⟨k, hk, rfl, rfl, hT, hB⟩ := hrel
      by_cases hlt : k < n
      · have HBW : Hid (wr.heap[w.heap.size]? = some (.cells #[.int .u8 Z.s0, .int .u8 Z.s1, .int .u8 Z.s2, .int .u8 Z.s3, .int .u8 Z.s4, .int .u8 Z.s5, .int .u8 Z.s6, .int .u8 Z.s7, .int .i64 Z.K, .int .i64 Z.M, .int .i64 Z.B, .string Z.key, .int .i64 Z.size, .int .i64 Z.idx, .int .i64 Z.ep, .int .i64 Z.ct] 42 (0, 0))) := (hB.block _ hz3).trans HBK3.out
        obtain ⟨cur, hcur, hcs, _, _⟩ := hT.cur
        have HCU := Lib.hid hcur; have HT := Lib.hid hT; have HB := Lib.hid hB
        have hcs' : k * 17 + 16 ≤ cur.size := by rw [hcs]; omega
        have hgw : g ≤ wr.heap.size := by have h1 := HB.out.size; have h2 := HG.out; omega
        clear hcur hcs hT hB
        go_wp2_with (first | (refine wpList_loadH rfl (.tmp 2) rfl w.heap.size rfl #[.int .u8 Z.s0, .int .u8 Z.s1, .int .u8 Z.s2, .int .u8 Z.s3, .int .u8 Z.s4, .int .u8 Z.s5, .int .u8 Z.s6, .int .u8 Z.s7, .int .i64 Z.K, .int .i64 Z.M, .int .i64 Z.B, .string Z.key, .int .i64 Z.size, .int .i64 Z.idx, .int .i64 Z.ep, .int .i64 Z.ct] rfl HBW.out ?_) | (refine wpList_storePart rfl 42 (.tmp 70) (.tmp 68) rfl g (k * 17) #[.int .u8 Z.s0, .int .u8 Z.s1, .int .u8 Z.s2, .int .u8 Z.s3, .int .u8 Z.s4, .int .u8 Z.s5, .int .u8 Z.s6, .int .u8 Z.s7, .int .i64 Z.K, .int .i64 Z.M, .int .i64 Z.B, .string Z.key, .int .i64 Z.size, .int .i64 Z.idx, .int .i64 Z.ep, .int .i64 Z.ct] rfl rfl info_H 69 cur hcs' HCU.out rfl ?_; intro w4 hw4 hg4 hs4; have HT4 := Lib.hid ((HT.out.part (fun _ _ => sdC_len _ _) HCU.out hlt (j := 0) (cs := hdC Z) (show 0 + 16 ≤ 17 by decide) hw4).congr (g := fun t => sdC (if t < k then { Z with idx := (t : Int) } else if t = k then Z else hd0) (.slice none 0 0)) fun t _ => by (by_cases e : t = k; (subst e; rw [if_pos rfl, if_neg (Nat.lt_irrefl _), if_neg (Nat.lt_irrefl _), if_pos rfl]; rfl); (rw [if_neg e, if_neg e]))); have c13 : w4.cell? ⟨g, k * 17 + 13, none⟩ = some (.int .i64 Z.idx) := (by rw [HT4.out.cellN (fun _ _ => sdC_len _ _) hlt (show 13 < 17 by decide), if_neg (Nat.lt_irrefl _), if_pos rfl]; rfl); have f13 := own_free HT4.out (k * 17 + 13); have HB4 := Lib.hid (Below.trans_row HB.out hg4 (Nat.le_refl _) hgw); clear hw4 hg4 hs4))
        have HT5 := Lib.hid ((HT4.out.setN (fun _ _ => sdC_len _ _) hlt (show 13 < 17 by decide) (.int .i64 (k : Int))).congr (g := fun t => sdC (if t < k + 1 then { Z with idx := (t : Int) } else hd0) (.slice none 0 0)) fun t _ => by
          by_cases e : t = k
          · subst e; rw [if_pos rfl, if_neg (Nat.lt_irrefl _), if_pos rfl, if_pos (by omega)]; rfl
          · rw [if_neg e, if_neg e]
            by_cases e2 : t < k
            · rw [if_pos e2, if_pos (by omega)]
            · rw [if_neg e2, if_neg (by omega)])
        have HB5 := Lib.hid (HB4.out.setCell (p := ⟨g, k * 17 + 13, none⟩) (Nat.le_refl _) (.int .i64 (k : Int)))
        clear HT4 HB4
        go_roundg (n - (k + 1))
        case measure => omega
        case rel => exact ⟨k + 1, by omega, rfl, by go_num, HT5.out, HB5.out⟩
      · obtain rfl : n = k := by omega
        obtain ⟨w4, rfl⟩ : ∃ w4 : World, w4 = wr := ⟨_, rfl⟩
        have HT4 := Lib.hid (hT.congr (g := fun t => sdC { Z with idx := (t : Int) } (.slice none 0 0)) fun t ht => by rw [if_pos ht])
        have HG4 : Hid (g < w4.heap.size) := (hT.lt g rfl).2
        have HB4 : Hid (Below w.heap.size w w4) := HB3.out.trans (hB.mono (by omega))
        have HBK4 : Hid (w4.heap[w.heap.size]? = some (.cells #[.int .u8 Z.s0, .int .u8 Z.s1, .int .u8 Z.s2, .int .u8 Z.s3, .int .u8 Z.s4, .int .u8 Z.s5, .int .u8 Z.s6, .int .u8 Z.s7, .int .i64 Z.K, .int .i64 Z.M, .int .i64 Z.B, .string Z.key, .int .i64 Z.size, .int .i64 Z.idx, .int .i64 Z.ep, .int .i64 Z.ct] 42 (0, 0))) := (hB.block _ hz3).trans HBK3.out
        rw [HG.out] at hB
        have HC4 : Hid (CodeAt w4 p K n) := by rw [HNKM.out]; exact Lib.hid (HC3.out.below hB)
        have HB34 := Lib.hid hB
        have HRS4 := Lib.hid (HRS.out.below hB)
        have hz4 : w.heap.size < w4.heap.size := by have := HG4.out; omega
        clear hT hB hlt hk HC3 HB3 HBK3
        have cK : w4.cell? ⟨w.heap.size, 8, none⟩ = some (.int .i64 (K : Int)) := by rw [← HK.out]; exact blk_cell HBK4.out rfl
        have hmk1 := run_make_row' (P := Try.prog) 67 43 (.slice none 0 0) 24 Try.underlying67 bytesInfo rfl .i64 .i64 K (by omega) (by omega)
        have HR5 := Lib.hid (Rws.start w4 w4.heap.size K)
        have HB5 := Lib.hid ((Below.refl w4.heap.size w4).alloc (Nat.le_refl _) (.cells (madeCells #[.slice none 0 0] K) 43))
        go_wp2
        clear cK hmk1
        obtain ⟨b, hb⟩ : ∃ b, b = w4.heap.size := ⟨_, rfl⟩
        rw [← hb] at HR5 HB5 HG4 hz4 ⊢
        have HBB := Lib.hid hb; clear hb
        have HIN : Hid (0 < nb → ∃ b1 o1, A = some ⟨b1, o1, none⟩) := Lib.hid fun h => by
          have h1 := (lt_nblk (S := K * Bk) (s := l.length) (j := 0) (Nat.mul_pos (by omega) (by omega))).1 (by rw [← HNB.out]; exact h)
          obtain ⟨b1, o1, e, _⟩ := HA.out 0 (by omega)
          exact ⟨b1, o1, e⟩
        go_loopg [1, 15, 16, 17, 84] nb (fun gk t1 _ _ _ i wr => ∃ (j : Nat) (A1 : Option Addr) (n1 c1 : Nat) (V : Nat → Value), j ≤ nb ∧ gk = nb - j ∧ i = .int .i64 j ∧ t1 = .slice A1 n1 c1 ∧ n1 = l.length - cutP K Bk l.length j 0 ∧ n1 ≤ c1 ∧ c1 ≤ 9223372036854775807 ∧ (0 < nb → ∃ b1 o1, A1 = some ⟨b1, o1, none⟩) ∧ RL w A1 (l.drop (cutP K Bk l.length j 0)) ∧ Rws wr b b K V (fun t => rowT K Bk l t j) ∧ Below b w4 wr)
        case atStart => exact ⟨0, A, l.length, c, _, Nat.zero_le _, rfl, rfl, rfl, by rw [cutP_zero]; rfl, hlc, by omega, HIN.out, by rw [cutP_zero]; exact HA.out, HR5.out, HB5.out⟩
        case round =>
          clear HR5 HB5 HIN
          obtain ⟨j, A1, n1, c1, V, hj, rfl, rfl, rfl, hn1, hnc, hc1, hin, hr1, hR, hB⟩ := hrel
          obtain ⟨wo, rfl⟩ : ∃ wo : World, wo = wr := ⟨_, rfl⟩
          have HIN := Lib.hid hin; have HR1 := Lib.hid hr1; have HRW := Lib.hid hR; have HB := Lib.hid hB; have HN1 := Lib.hid hn1
          have HBKo : Hid (wo.heap[w.heap.size]? = some (.cells #[.int .u8 Z.s0, .int .u8 Z.s1, .int .u8 Z.s2, .int .u8 Z.s3, .int .u8 Z.s4, .int .u8 Z.s5, .int .u8 Z.s6, .int .u8 Z.s7, .int .i64 Z.K, .int .i64 Z.M, .int .i64 Z.B, .string Z.key, .int .i64 Z.size, .int .i64 Z.idx, .int .i64 Z.ep, .int .i64 Z.ct] 42 (0, 0))) := (hB.block _ hz4).trans HBK4.out
          have hBb := hB
          rw [HBB.out] at hBb
          have HRSo := Lib.hid (HRS4.out.below hBb)
          clear hin hr1 hR hB hn1 hBb
          by_cases hlt : j < nb
          · obtain ⟨bs, os, rfl, hbs, hcs⟩ := HRSo.out j hlt
            have cK : wo.cell? ⟨w.heap.size, 8, none⟩ = some (.int .i64 (K : Int)) := by rw [← HK.out]; exact blk_cell HBKo.out rfl
            obtain ⟨lk, hlk⟩ : ∃ lk, lk = blen K Bk l.length j := ⟨_, rfl⟩
            replace hcs : wo.cell? ⟨bs, os + j, none⟩ = some (.int .i64 (lk : Int)) := by rw [hlk]; exact hcs
            have hlkB : lk ≤ 65536 := by rw [hlk]; exact Nat.le_trans (blen_le (by omega)) (by omega)
            have HLK := Lib.hid hlk
            clear hlk
            go_wp2
            have hjlt := Lib.hid hlt
            clear hcs cK hlt
            go_loopg [1, 16, 17, 91] K (fun gk t1 _ _ i wr => ∃ (k : Nat) (A1 : Option Addr) (n1 c1 : Nat) (V : Nat → Value), k ≤ K ∧ gk = K - k ∧ i = .int .i64 k ∧ t1 = .slice A1 n1 c1 ∧ n1 = l.length - cutP K Bk l.length j k ∧ n1 ≤ c1 ∧ c1 ≤ 9223372036854775807 ∧ (0 < nb → ∃ b1 o1, A1 = some ⟨b1, o1, none⟩) ∧ RL w A1 (l.drop (cutP K Bk l.length j k)) ∧ Rws wr b b K V (fun t => if t < k then rowT K Bk l t (j + 1) else rowT K Bk l t j) ∧ Below b w4 wr)
            case atStart => exact ⟨0, A1, n1, c1, V, Nat.zero_le _, rfl, rfl, rfl, HN1.out, hnc, hc1, HIN.out, HR1.out, HRW.out.congr fun t _ => by rw [if_neg (by omega)], HB.out⟩
            case round =>
              clear HIN HR1 HRW HB HN1 hnc hc1
              obtain ⟨k, A1, n1, c1, V, hk, rfl, rfl, rfl, hn1, hnc, hc1, hin, hr1, hR, hB⟩ := hrel
              by_cases hlt : k < K
              · obtain ⟨b1, o1, rfl⟩ := hin (by have := hjlt.out; omega)
                have HR1 := Lib.hid hr1; have HRW := Lib.hid hR; have HB := Lib.hid hB; have HN1 := Lib.hid hn1
                clear hin hr1 hR hB hn1
                obtain ⟨m, hm⟩ : ∃ m, m = min lk n1 := ⟨_, rfl⟩
                have hm1 : m ≤ n1 := by omega
                have hm2 : m ≤ lk := by omega
                have hmi : (m : Int) = if (lk : Int) < (n1 : Int) then (lk : Int) else (n1 : Int) := by split <;> omega
                have HMI := Lib.hid hmi; clear hmi
                have HM1 := Lib.hid hm; clear hm
                have hmk := run_make_row' (P := Try.prog) 43 5 (.int .u8 0) 1 Try.underlying43 byteInfo rfl .i64 .i64 lk (by omega) (by omega)
                obtain ⟨pt, hpt⟩ : ∃ pt, pt = cutP K Bk l.length j k := ⟨_, rfl⟩
                rw [← hpt] at HR1 HN1
                have HPT := Lib.hid hpt; clear hpt
                obtain ⟨A2, hA2⟩ : ∃ A2, (if c1 = m then some (⟨b1, o1, none⟩ : Addr) else some ⟨b1, o1 + m, none⟩) = A2 := ⟨_, rfl⟩
                have HA2 : Hid ((RL w A2 (l.drop (pt + m))) ∧ ∃ b2 o2, A2 = some ⟨b2, o2, none⟩) := by
                  rw [← hA2]
                  by_cases e : c1 = m
                  · rw [if_pos e]
                    exact ⟨fun i hi => by rw [List.length_drop] at hi; have := HN1.out; omega, b1, o1, rfl⟩
                  · rw [if_neg e]
                    exact ⟨by rw [← List.drop_drop]; exact dropS_rl HR1.out, b1, o1 + m, rfl⟩
                have HSR : Hid (Rd wr (some ⟨b1, o1, none⟩) m (fun q => .int .u8 (((l.drop pt).getD q 0 : Nat) : Int))) := Lib.hid fun q hq => by
                  obtain ⟨b', o', e, h1, h2⟩ := HR1.out q (by rw [List.length_drop]; have := HN1.out; omega)
                  have hbz := (HB4.out.trans (HB.out.mono (by omega)))
                  exact ⟨b', o', e, Nat.lt_of_lt_of_le h1 hbz.size, (hbz.cell h1).trans h2⟩
                have hm0 : (0 : Int) ≤ (m : Int) := by omega
                have hmc : (m : Int) ≤ (c1 : Int) := by omega
                have hmn : (m : Int) ≤ (n1 : Int) := by omega
                have HSB := Lib.hid (fun (w' : World) (hw' : w'.rowIs wr.heap.size 5 lk (fun q => if q < m then .int .u8 (((l.drop pt).getD q 0 : Nat) : Int) else .int .u8 0)) => (show Src Try.prog 1 43 (.slice (some ⟨wr.heap.size, 0, none⟩) lk lk) lk ((mkL lk (sby K Bk l j k)).map bv) w' by
                  have h1 : RL w' (some ⟨wr.heap.size, 0, none⟩) (mkL lk (sby K Bk l j k)) := by
                    unfold RL
                    rw [mkL_length]
                    refine (row_rd hw').congr fun q hq => ?_
                    rw [mkL_get hq]
                    have h2 := sby_cut (K := K) (B := Bk) (l := l) (j := j) (i := k) (c := q) (m := m) (by rw [← HLK.out, ← HPT.out, ← HN1.out]; exact HM1.out) (by rw [← HLK.out]; exact hq)
                    rw [← HPT.out] at h2
                    rw [← h2]
                    split <;> rfl
                  have h2 := h1.src lk
                  rw [mkL_length] at h2
                  exact h2))
                have hLEN : (rowT K Bk l k j).length ≤ 400000000 := by
                  rw [rowT_length]
                  exact Nat.le_trans (sumN_le (b := Bk) (fun i => blen_le (by omega)) j) (Nat.le_trans (Nat.mul_le_mul (show j ≤ 4096 by have := hjlt.out; omega) (show Bk ≤ 65536 by omega)) (by decide))
                have hNX := Lib.hid (show rowT K Bk l k (j + 1) = rowT K Bk l k j ++ mkL lk (sby K Bk l j k) by rw [rowT_next, HLK.out])
                have hbw := HB.out.size
                have hb4 := HBB.out
                have hbwr : b ≤ wr.heap.size := by omega
                clear hbw hb4
                go_wp2_with (first | (refine wpList_min2 rfl (.tmp 100) (.tmp 101) #[3, 3] rfl (n1 : Int) (lk : Int) (m : Int) rfl rfl HMI.out ?_) | (with_reducible refine wpList_copyB rfl (.tmp 97) (.tmp 103) 43 43 rfl 5 wr.heap.size lk m lk c1 (some ⟨b1, o1, none⟩) 5 (fun _ => .int .u8 0) (fun q => .int .u8 (((l.drop pt).getD q 0 : Nat) : Int)) Try.underlying43 byteSz hm2 rfl rfl (World.rowIs_made _ _ _ _) (HSR.out.below ((Below.refl _ _).alloc (Nat.le_refl _) _)) (fun _ _ => rfl) ?_; intro w5 hw5 hg5; have HB5 := Lib.hid (Below.trans_row ((Below.refl wr.heap.size wr).alloc (Nat.le_refl _) _) hg5 (Nat.le_refl _) (by simp)); have HRW5 := Lib.hid (HRW.out.kept HB5.out); have HSR5 := Lib.hid (HSB.out w5 hw5); have cV := HRW5.out.top.cell hlt; have hown : OwnB w5 b (V k) (rowT K Bk l k j) := (by have h1 := HRW5.out.row k hlt; simp only [if_neg (Nat.lt_irrefl k)] at h1; exact h1); have hb5 : b ≤ w5.heap.size := Nat.le_trans hbwr HB5.out.size; clear hw5 hg5) | (at_builtin; refine wpList_appA rfl (.tmp 111) (.tmp 112) 43 rfl b (V k) (rowT K Bk l k j) rfl hown hb5 _ lk (mkL lk (sby K Bk l j k)) rfl HSR5.out (by omega) ?_; intro v6 w6 hO6 hb6 hg6 hat6; rw [← hNX.out] at hO6; have HRN := Lib.hid ((HRW5.out.app hlt hO6 hg6 hat6).congr (LL' := fun t => if t < k + 1 then rowT K Bk l t (j + 1) else rowT K Bk l t j) (fun t ht => (by (by_cases e : t = k; (subst e; rw [upd_at, if_pos (by omega)]); (rw [upd_ne _ _ _ e]; (by_cases e2 : t < k; (rw [if_pos e2, if_pos (by omega)]); (rw [if_neg e2, if_neg (by omega)]))))))); obtain ⟨A6, c6, e6, _, _, _, _⟩ := hO6.rd; subst e6; have ht6 := HRW5.out.top.of_block (hg6.block b HRW5.out.top.lt fun e => HRW5.out.off k hlt e.symm); have c6' := ht6.cell hlt; have f6' := ht6.frozen k; have HB6 := Lib.hid (HB.out.trans ((HB5.out.mono hbwr).trans hb6)); clear hown hO6 hg6 hat6 hb6 ht6))
                have HB7 := Lib.hid (HB6.out.setCell (p := ⟨b, k, none⟩) (Nat.le_refl _) (.slice A6 (rowT K Bk l k (j + 1)).length c6))
                have HCN : Hid (cutP K Bk l.length j (k + 1) = pt + m) := Lib.hid (by rw [cutP_next, ← HPT.out, ← HLK.out, ← HN1.out, ← HM1.out])
                clear HRW HB HRW5 HB6 HB5 HSB HSR HR1 cV c6' f6' hA2
                go_roundg (K - (k + 1))
                case measure => omega
                case rel => exact ⟨k + 1, A2, n1 - m, c1 - m, _, by omega, rfl, by go_num, rfl, by have h1 := HN1.out; have h2 := HPT.out; rw [HCN.out]; omega, by omega, by omega, fun _ => HA2.out.2, by rw [HCN.out]; exact HA2.out.1, HRN.out, HB7.out⟩
              · obtain rfl : K = k := by omega
                clear hk hlt
                have HR9 := Lib.hid (hR.congr (LL' := fun t => rowT K Bk l t (j + 1)) fun t ht => by rw [if_pos ht])
                have HE1 : Hid (cutP K Bk l.length j K = cutP K Bk l.length (j + 1) 0) := Lib.hid (cutP_row (by omega) (by omega) (by rw [← HNB.out]; exact hjlt.out))
                have HIN := Lib.hid hin; have HR1 := Lib.hid hr1; have HB := Lib.hid hB; have HN1 := Lib.hid hn1
                clear hin hr1 hR hB hn1
                go_wp2
                go_roundg (nb - (j + 1))
                case measure => have := hjlt.out; omega
                case rel => exact ⟨j + 1, A1, n1, c1, V, by have := hjlt.out; omega, rfl, by go_num, rfl, by rw [← HE1.out]; exact HN1.out, hnc, hc1, HIN.out, by rw [← HE1.out]; exact HR1.out, HR9.out, HB.out⟩
          · obtain rfl : nb = j := by omega
            clear hj hlt
            have HB4o : Hid (Below w4.heap.size w4 wo) := by rw [← HBB.out]; exact HB
            have HTT : Hid (sumN (blen K Bk l.length) nb ≤ 140737488351232) := Lib.hid (by
              have h1 := sumN_le (f := blen K Bk l.length) (b := Bk) (fun i => blen_le (by omega)) nb
              have h2 := Nat.mul_le_mul hnb4 (show Bk ≤ 65536 by omega)
              omega)
            go_wp2_with fail
            refine (enc_mx p K n (some ⟨b, 0, none⟩) K K (fun _ => sumN (blen K Bk l.length) nb) (fun i c => (rowT K Bk l i nb).getD c 0) wo (by omega) (by have := HNKM.out; omega) hn0 (by omega) (fun _ _ => HTT.out) (fun i _ c _ => getD_any (rowT_lt HL.out i nb) c) (HC4.out.below HB4o.out) (HRW.out.rdm fun i _ => rowT_length _ _ _ _ _)).mono ?_
            rintro e w7 ⟨er, A7, R7, c7, rfl, hP, hR7, hM7, hb7, -⟩
            obtain rfl : er = 0 := by
              rcases hP with ⟨h1, _⟩ | ⟨_, h1, _⟩ | ⟨_, _, h1⟩
              · exact absurd rfl h1
              · exact absurd (fun _ _ => rfl) h1
              · exact h1
            rw [if_pos rfl] at hR7
            obtain rfl : n = R7 := hR7.symm
            obtain ⟨tw, U, rfl, hc7, htw, hU, hMx⟩ := hM7 rfl
            obtain rfl : n = c7 := hc7.symm
            obtain ⟨T, hT⟩ : ∃ T, T = sumN (blen K Bk l.length) nb := ⟨_, rfl⟩
            rw [← hT] at hMx
            have HTE := Lib.hid hT
            have HTP : Hid (0 < nb → 0 < T) := Lib.hid fun h0 => by
              have h1 := (blen_facts (K := K) (B := Bk) (s := l.length) (j := 0) (by omega) (by omega) (by rw [← HNB.out]; exact h0)).1
              have h2 := sumN_mono (blen K Bk l.length) (show 1 ≤ nb from h0)
              have h3 : sumN (blen K Bk l.length) 1 = 0 + blen K Bk l.length 0 := rfl
              omega
            obtain ⟨S, hS⟩ : ∃ S : Nat → Nat, 0 < nb → Mx w7 wo.heap.size tw 43 5 n S T T (fun i c => .int .u8 (wrd K (fun i c => (rowT K Bk l i nb).getD c 0) i c)) ∧ U = fun i => .slice (some ⟨S i, 0, none⟩) T T := by
              by_cases h0 : 0 < nb
              · obtain ⟨S, h1⟩ := hMx (HTP.out h0)
                exact ⟨S, fun _ => h1⟩
              · exact ⟨fun _ => 0, fun h => absurd h h0⟩
            have HS := Lib.hid hS
            have hgb : g < wo.heap.size := by have h1 := HB.out.size; have h2 := HBB.out; have h3 := HG4.out; omega
            have hg7 : g < w7.heap.size := Nat.lt_of_lt_of_le hgb hb7.size
            have ht7 := hU.lt
            have hgt : g ≠ tw := by omega
            have HGT := Lib.hid (And.intro hg7 (And.intro ht7 (And.intro hgt (And.intro (show g < tw by omega) hgb))))
            have HB47 : Hid (Below w4.heap.size w4 w7) := HB4o.out.trans (hb7.mono HB4o.out.size)
            have HB37 : Hid (Below g w3 w7) := by
              refine Lib.hid (Below.trans (b := w4) ?_ (HB47.out.mono ?_))
              · rw [HG.out]; exact HB34.out
              · have h1 := HG4.out; have h2 := HBB.out; omega
            have HF7 : Hid (FinS w7 w7 g tw n 0 (fun t => { Z with idx := (t : Int) }) (fun _ => .slice none 0 0) U (fun _ => w7.heap.size) (fun t => spL K Bk l t) []) :=
              ⟨Bt.refl _ _ _, HT4.out.kept HB47.out, fun t ht => absurd ht (by omega), OwnLA.nil _ _ _, Nat.le_refl _, fun t ht => absurd ht (by omega), Nat.le_refl _, fun _ _ => rfl, hU⟩
            have HBW7 : Hid (Below w.heap.size w w7) := HB4.out.trans (HB47.out.mono (by have h2 := HBB.out; omega))
            clear hP hM7 hMx hS hb7 hU htw hT hgb hg7 ht7 hgt HRW HB HB4o HTT HR1 HIN HN1 HRSo HBKo
            go_wp2
            obtain ⟨Hs, hHs⟩ : ∃ Hs : Nat → Hd, Hs = fun t => { Z with idx := (t : Int) } := ⟨_, rfl⟩
            obtain ⟨BL, hBL⟩ : ∃ BL : Nat → List (List Nat), BL = fun t => spL K Bk l t := ⟨_, rfl⟩
            rw [← hHs, ← hBL] at HF7
            have HHS := Lib.hid hHs; have HBL := Lib.hid hBL; clear hHs hBL
            go_loopg [20, 22, 125] n (fun gk _ _ i wr => ∃ (k : Nat) (V U' : Nat → Value) (Tm : Nat → Nat), k ≤ n ∧ gk = n - k ∧ i = .int .i64 k ∧ FinS w7 wr g tw n k Hs V U' Tm BL [] ∧ ∀ t, k ≤ t → t < n → U' t = U t)
            case atStart => exact ⟨0, _, U, _, Nat.zero_le _, rfl, rfl, HF7.out, fun _ _ _ => rfl⟩
            case round =>
              clear HF7
              obtain ⟨k, V, U', Tm, hk, rfl, rfl, hF, hUU⟩ := hrel
              by_cases hlt : k < n
              · have HF := Lib.hid hF
                have HUU := Lib.hid (fun (t : Nat) (h1 : k < t) (h2 : t < n) => hUU t (by omega) h2)
                have HUk : Hid (0 < nb → ∃ A1, U' k = .slice A1 (T - sumN (blen K Bk l.length) 0) (T - sumN (blen K Bk l.length) 0) ∧ (0 < nb → A1 = some ⟨S k, sumN (blen K Bk l.length) 0, none⟩)) := Lib.hid fun h0 => by
                  refine ⟨some ⟨S k, 0, none⟩, ?_, fun _ => rfl⟩
                  rw [hUU k (Nat.le_refl _) hlt, (HS.out h0).2]; rfl
                have HLT := Lib.hid hlt
                clear hF hUU
                go_wp2
                clear hlt
                go_loopg [22, 130] nb (fun gk _ i wr => ∃ (j : Nat) (V U' : Nat → Value) (Tm : Nat → Nat), j ≤ nb ∧ gk = nb - j ∧ i = .int .i64 j ∧ FinS w7 wr g tw n k Hs V U' Tm BL (spT K Bk l k j) ∧ (∀ t, k < t → t < n → U' t = U t) ∧ (0 < nb → ∃ A1, U' k = .slice A1 (T - sumN (blen K Bk l.length) j) (T - sumN (blen K Bk l.length) j) ∧ (j < nb → A1 = some ⟨S k, sumN (blen K Bk l.length) j, none⟩)))
                case atStart => exact ⟨0, V, U', Tm, Nat.zero_le _, rfl, rfl, HF.out, HUU.out, HUk.out⟩
                case round =>
                  clear HF HUU HUk
                  obtain ⟨j, V, U', Tm, hj, rfl, rfl, hF, hUU, hUk⟩ := hrel
                  have HF := Lib.hid hF; have HUU := Lib.hid hUU
                  clear hF hUU
                  by_cases hlt : j < nb
                  · obtain ⟨A1, hU1, hA1⟩ := hUk (by omega)
                    obtain rfl := hA1 hlt
                    obtain ⟨g7, t7, gt7, gtw, ggb⟩ := HGT.out
                    have hkn := HLT.out
                    have HBg : Hid (Below g w3 wr) := HB37.out.trans (HF.out.bt.below (Nat.le_refl _) (by omega) (by omega))
                    obtain ⟨bs, os, rfl, hbs, hcs0⟩ := HRS.out j hlt
                    obtain ⟨lk, hlk⟩ : ∃ lk, lk = blen K Bk l.length j := ⟨_, rfl⟩
                    have hcs : wr.cell? ⟨bs, os + j, none⟩ = some (.int .i64 (lk : Int)) := by
                      rw [HBg.out.cell (by show bs < g; rw [HG.out]; exact hbs), hlk]; exact hcs0
                    obtain ⟨o, ho⟩ : ∃ o, o = sumN (blen K Bk l.length) j := ⟨_, rfl⟩
                    rw [← ho] at hU1
                    have hon : sumN (blen K Bk l.length) (j + 1) = o + lk := by rw [ho, hlk]; rfl
                    have hoT : o + lk ≤ T := by rw [← hon, HTE.out]; exact sumN_mono _ hlt
                    obtain ⟨rm, hrm⟩ : ∃ rm, rm = T - o := ⟨_, rfl⟩
                    rw [← hrm] at hU1
                    have hlr : lk ≤ rm := by omega
                    have hlkB : lk ≤ 65536 := by rw [hlk]; exact Nat.le_trans (blen_le (by omega)) (by omega)
                    obtain ⟨Av, cv, hVk, hcv, _⟩ := HF.out.now.ll.rd
                    rw [spT_length] at hVk hcv
                    have c16 : wr.cell? ⟨g, k * 17 + 16, none⟩ = some (.slice Av j cv) := by
                      rw [HF.out.top.cellN (fun _ _ => sdC_len _ _) hkn (show 16 < 17 by decide)]
                      show some (V k) = _
                      rw [hVk]
                    have cU : wr.cell? ⟨tw, k, none⟩ = some (.slice (some ⟨S k, o, none⟩) rm rm) := by rw [HF.out.word.cell hkn, hU1]
                    have KS : Hid (∀ w', Below wr.heap.size wr w' → w'.cell? ⟨g, k * 17 + 16, none⟩ = some (.slice Av j cv) ∧ w'.cell? ⟨tw, k, none⟩ = some (.slice (some ⟨S k, o, none⟩) rm rm)) := Lib.hid fun w' hb => by
                      have h1 := HF.out.bt.size
                      exact ⟨(hb.cell (by show g < _; omega)).trans c16, (hb.cell (by show tw < _; omega)).trans cU⟩
                    have HVK := Lib.hid hVk; have HU1 := Lib.hid hU1; have HLK := Lib.hid hlk; have HO := Lib.hid ho; have HON := Lib.hid hon; have HRM := Lib.hid hrm
                    clear hVk hU1 hlk ho hon hrm c16 cU hUk hcs0
                    obtain ⟨fW, hfW⟩ : ∃ fW : Nat → Nat, fW = fun c => wrd K (fun i c => (rowT K Bk l i nb).getD c 0) k (o + c) := ⟨_, rfl⟩
                    obtain ⟨X, hX⟩ : ∃ X, X = spB K Bk l k j := ⟨_, rfl⟩
                    obtain ⟨LLj, hLLj⟩ : ∃ L, L = spT K Bk l k j := ⟨_, rfl⟩
                    have HXl : Hid (lk = X.length) := Lib.hid (by rw [hX, spB_length, HLK.out])
                    have HLl : Hid (LLj.length ≤ 1000000000000) := Lib.hid (by rw [hLLj, spT_length]; omega)
                    have HFX : Hid (∀ c, c < lk → fW c = X.getD c 0) := Lib.hid fun c hc => by
                      rw [hfW, hX]
                      unfold spB
                      rw [mkL_get (by rw [← HLK.out]; exact hc)]
                      show wrd K _ k (o + c) = _
                      rw [HO.out]
                      exact spB_col hlt (by rw [← HLK.out]; exact hc)
                    have HCL : Hid (∀ w', Below wr.heap.size wr w' → Rd w' (some ⟨S k, o, none⟩) lk (fun c => .int .u8 (fW c : Nat))) := Lib.hid fun w' hb c hc => by
                      have h1 := (HS.out (by omega)).1
                      have h2 : wr.rowIs (S k) 5 T _ := HF.out.bt.row (h1.row k hkn) (by have := h1.los k hkn; omega) (h1.off k hkn)
                      refine ⟨S k, o, rfl, Nat.lt_of_lt_of_le h2.lt hb.size, ?_⟩
                      rw [hb.cell (by exact h2.lt), h2.cell (i := o + c) (by omega), hfW]
                    have HLA : Hid (∀ w', Below wr.heap.size wr w' → OwnLA w' (Tm k) wr.heap.size (.slice Av j cv) LLj) := Lib.hid fun w' hb => by
                      rw [hLLj, ← HVK.out]; exact HF.out.now.kept hb
                    have HOB : Hid (∀ w' B v, Own w' B 5 1 v lk (fun c => [.int .u8 (fW c : Nat)]) → OwnB w' B v X) := Lib.hid fun w' B v hO => by
                      refine OwnB.of ?_
                      rw [← HXl.out]
                      exact hO.congr fun c hc => by rw [HFX.out c hc]
                    have HNX : Hid (LLj ++ [X] = spT K Bk l k (j + 1)) := Lib.hid (by rw [hLLj, hX, ← spT_next])
                    have HTk : Hid (Tm k ≤ wr.heap.size) := Lib.hid HF.out.hi
                    have hTt := HF.out.tm k (Nat.le_refl _)
                    have hTg : g < Tm k := by omega
                    have hTw : tw < Tm k := by omega
                    clear hfW hX hLLj hTt
                    obtain ⟨A2, hA2⟩ : ∃ A2, (if rm = lk then some (⟨S k, o, none⟩ : Addr) else some ⟨S k, o + lk, none⟩) = A2 := ⟨_, rfl⟩
                    have hle1 : (lk : Int) ≤ (rm : Int) := by omega
                    have hle0 : (0 : Int) ≤ (lk : Int) := by omega
                    go_wp2_with fail
                    refine wp_region_mix [(true, true, false), (true, true, false), (true, true, false), (true, true, false), (true, true, false), (true, true, false), (true, true, true), (true, true, false), (true, true, false), (true, true, false), (true, true, true), (true, true, false), (true, true, false), (false, false, false), (false, false, false), (false, false, false), (false, true, false), (false, true, false), (false, false, true)] mixed (by kernel_rfl) (fun w4 => w4.cell? ⟨g, k * 17 + 16, none⟩ = some (.slice Av j cv) ∧ w4.cell? ⟨tw, k, none⟩ = some (.slice (some ⟨S k, o, none⟩) rm rm)) (KS.out _ (Below.refl _ _).drew) ?_
                    intro hSw0
                    simp only [hdM, tlM, List.cons_append, List.nil_append]
                    repeat (first
                      | (refine mix_look hSw0.out ?_ (by rfl) (fun w4 hSw => ?_) ?_; rotate_left; (focus (obtain ⟨s1, s2⟩ := hSw; go_simp; try with_reducible rfl)); simp only [Act.put, List.setIfInBounds_toArray, List.set_cons_zero, List.set_cons_succ])
                      | (refine mix_pure ?_ (by rfl) (fun w4 => ?_) ?_; rotate_left; (focus (go_simp; try with_reducible rfl)); simp only [Act.put, List.setIfInBounds_toArray, List.set_cons_zero, List.set_cons_succ]))
                    refine mix_step (fun K hK => ?_)
                    go_simp
                    refine (clone_any (some ⟨S k, o, none⟩) lk rm fW _ (by omega) (HCL.out _ (Below.refl _ _).drew)).mono ?_
                    rintro e w5 ⟨v5, rfl, hO5, hb5⟩
                    obtain ⟨A5, c5, rfl, _, _, _, _⟩ := hO5.rd
                    have HB5 : Hid (Below wr.heap.size wr w5) := Lib.hid ((Below.refl wr.heap.size wr).drew.trans hb5)
                    have HO5 := Lib.hid (HOB.out _ _ _ hO5)
                    have hz5 : wr.heap.size ≤ w5.heap.size := HB5.out.size
                    clear hO5 hb5
                    dsimp only
                    refine hK.out _ _ (fun _ _ => KS.out _ HB5.out) ?_
                    clear hK K
                    try simp only [Act.put, List.setIfInBounds_toArray, List.set_cons_zero, List.set_cons_succ]
                    refine mix_step (fun K hK => ?_)
                    go_simp
                    refine hK.out _ _ (fun _ _ => KS.out _ (HB5.out.alloc hz5 _)) ?_
                    clear hK K
                    try simp only [Act.put, List.setIfInBounds_toArray, List.set_cons_zero, List.set_cons_succ]
                    refine mix_list (fun K hK => ?_)
                    change wpList _ _ _ _ _ (World.alloc w5 _)
                    refine wpList_pushLA rfl (.tmp 140) (.tmp 148) rfl (Tm k) wr.heap.size (.slice Av j cv) LLj rfl (HLA.out _ HB5.out) (Nat.le_trans HTk.out hz5) HTk.out X HXl.out HO5.out _ rfl rfl HLl.out ?_
                    intro v6 w6 hO6 hb6 hg6 hat6
                    refine hK.out _ _ (fun _ _ => ⟨(hb6.cell hTg).trans (KS.out _ HB5.out).1, (hb6.cell hTw).trans (KS.out _ HB5.out).2⟩) ?_
                    clear hK K
                    try simp only [Act.put, List.setIfInBounds_toArray, List.set_cons_zero, List.set_cons_succ]
                    repeat (refine mix_pure ?_ (by rfl) (fun w4 => ?_) ?_; rotate_left; (focus (go_simp; try with_reducible rfl)); simp only [Act.put, List.setIfInBounds_toArray, List.set_cons_zero, List.set_cons_succ])
                    rw [HNX.out] at hO6
                    obtain ⟨A6, c6, e6, _, _⟩ := hO6.ll.rd
                    rw [spT_length] at e6
                    subst e6
                    have HF9 := Lib.hid (HF.out.push (u := .slice A2 (rm - lk) (rm - lk)) hkn gt7 g7 t7 HB5.out (by rw [HVK.out]; exact hg6) hO6)
                    have c16 : w6.cell? ⟨g, k * 17 + 16, none⟩ = some (.slice Av j cv) := (hb6.cell hTg).trans (KS.out _ HB5.out).1
                    have f16 : w6.frozen? ⟨g, k * 17 + 16, none⟩ = false := (hb6.frozen (p := ⟨g, k * 17 + 16, none⟩) hTg).trans ((HB5.out.frozen (p := ⟨g, k * 17 + 16, none⟩) (by have := HF.out.bt.size; show g < _; omega)).trans (own_free HF.out.top _))
                    have cW : w6.cell? ⟨tw, k, none⟩ = some (.slice (some ⟨S k, o, none⟩) rm rm) := (hb6.cell hTw).trans (KS.out _ HB5.out).2
                    have fW6 : w6.frozen? ⟨tw, k, none⟩ = false := (hb6.frozen (p := ⟨tw, k, none⟩) hTw).trans ((HB5.out.frozen (p := ⟨tw, k, none⟩) (by have := HF.out.bt.size; show tw < _; omega)).trans (HF.out.word.frozen k))
                    have cW8 : (w6.setCell ⟨g, k * 17 + 16, none⟩ (.slice A6 (j + 1) c6)).cell? ⟨tw, k, none⟩ = some (.slice (some ⟨S k, o, none⟩) rm rm) := (cell_set_ne _ (by show tw ≠ g; omega)).trans cW
                    have fW8 : (w6.setCell ⟨g, k * 17 + 16, none⟩ (.slice A6 (j + 1) c6)).frozen? ⟨tw, k, none⟩ = false := by
                      rw [← fW6]; exact World.frozen?_of_block (Below.heap_setCell _ _ _ _ (by show tw ≠ g; omega))
                    clear cW fW6 hO6 hb6 hg6 hat6
                    refine mix_step (fun K hK => ?_)
                    go_simp
                    refine hK.out _ _ (fun h => absurd h (by decide)) ?_
                    clear hK K
                    try simp only [Act.put, List.setIfInBounds_toArray, List.set_cons_zero, List.set_cons_succ]
                    refine mix_nil ?_
                    clear c16 f16
                    go_wp2_with fail
                    clear cW8 fW8
                    have HSM : Hid (j + 1 < nb → lk < rm) := Lib.hid fun h1 => by
                      have h2 := sumN_mono (blen K Bk l.length) (show j + 1 + 1 ≤ nb from h1)
                      have h3 : sumN (blen K Bk l.length) (j + 1 + 1) = sumN (blen K Bk l.length) (j + 1) + blen K Bk l.length (j + 1) := rfl
                      have h4 := (blen_facts (K := K) (B := Bk) (s := l.length) (j := j + 1) (by omega) (by omega) (by rw [← HNB.out]; exact h1)).1
                      have h5 := HON.out; have h6 := HTE.out; have h7 := HRM.out
                      omega
                    have HRE : Hid (T - sumN (blen K Bk l.length) (j + 1) = rm - lk) := Lib.hid (by rw [HON.out, HRM.out]; omega)
                    go_roundg (nb - (j + 1))
                    case measure => omega
                    case rel => exact ⟨j + 1, _, _, Tm, by omega, rfl, by go_num, HF9.out, fun t h1 h2 => by rw [upd_ne _ _ _ (by omega)]; exact HUU.out t h1 h2, fun _ => ⟨A2, by rw [upd_at, HRE.out], fun h1 => by rw [← hA2, if_neg (by have := HSM.out h1; omega), HON.out]⟩⟩
                  · obtain rfl : nb = j := by omega
                    have HFN : Hid (FinS w7 wr g tw n (k + 1) Hs V U' (upd Tm (k + 1) wr.heap.size) BL []) := Lib.hid (by
                      have h1 := HF.out
                      have h2 : spT K Bk l k nb = BL k := by rw [HBL.out, HNB.out]; rfl
                      rw [h2] at h1
                      exact h1.next)
                    clear HF hj hlt hUk
                    go_wp2
                    go_roundg (n - (k + 1))
                    case measure => have := HLT.out; omega
                    case rel => exact ⟨k + 1, V, U', _, by have := HLT.out; omega, rfl, by go_num, HFN.out, fun t h1 h2 => HUU.out t (by omega) h2⟩
              · obtain rfl : n = k := by omega
                have HFE := Lib.hid hF
                clear hF hUU hk hlt
                go_wp2
                go_ret2
                obtain ⟨g7, t7, gt7, gtw, ggb⟩ := HGT.out
                have hwg : w.heap.size ≤ g := by omega
                refine ⟨HBW7.out.trans (HFE.out.bt.below (by omega) (by omega) HBW7.out.size), fun h1 => absurd HE.out h1, fun _ => ⟨g, V, Tm, by rw [← HN.out]; rfl, hwg, ?_⟩⟩
                have h1 := HFE.out.sd g7 hwg
                rw [HHS.out, HBL.out] at h1
                have hK' : Z.K.toNat = K := by rw [HK.out]; rfl
                have hB' : Z.B.toNat = Bk := by rw [HBk.out]; rfl
                rw [← HN.out, hK', hB']
                exact h1
  · have HE := Lib.hid hE
    obtain ⟨E, hEE⟩ : ∃ E, E = checkE Z := ⟨_, rfl⟩
    have t1 : (E != 0) = true := by rw [bne_iff_ne, hEE]; exact hE
    have HEE := Lib.hid hEE
    clear hE hEE
    go_enter Try.func22, Try.ntmps22
    go_wp2_with (refine wpList_loadH rfl (.tmp 2) rfl w.heap.size rfl #[.int .u8 Z.s0, .int .u8 Z.s1, .int .u8 Z.s2, .int .u8 Z.s3, .int .u8 Z.s4, .int .u8 Z.s5, .int .u8 Z.s6, .int .u8 Z.s7, .int .i64 Z.K, .int .i64 Z.M, .int .i64 Z.B, .string Z.key, .int .i64 Z.size, .int .i64 Z.idx, .int .i64 Z.ep, .int .i64 Z.ct] rfl (by rw [← HBX.out]; exact heap_alloc_new w _) ?_)
    refine (fcheck_any Z _).mono ?_
    rintro e w1 ⟨rfl, hb1⟩
    have HB1 : Hid (Below w.heap.size w w1) := ((Below.refl _ _).alloc (Nat.le_refl _) _).trans (hb1.mono (by simp))
    rw [← HEE.out]
    clear hb1
    go_wp2
    go_ret2
    exact ⟨HB1.out, fun _ => by rw [← HEE.out]; rfl, fun h1 => absurd h1 HE.out⟩
end Go.Proofs.Ytjaaldandgfkgaa
