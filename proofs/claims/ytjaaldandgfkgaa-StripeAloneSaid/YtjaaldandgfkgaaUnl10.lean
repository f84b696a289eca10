/- unlike: where two lists of shards of one form differ. Conditions: shards that memory bears. -/
import Derived.Test.YtjaaldandgfkgaaAnk0
namespace Go.Proofs.Ytjaaldandgfkgaa
open Go.RowKit

def unP (BL1 BL2 : Nat → List (List Nat)) (k j q : Nat) : Bool := ((BL1 k).getD j []).getD q 0 != ((BL2 k).getD j []).getD q 0
/-- How many bytes are unlike in the block j of the shard k. -/
def unD (BL1 BL2 : Nat → List (List Nat)) (k j : Nat) : Nat := cntB (unP BL1 BL2 k j) ((BL1 k).getD j []).length
def unT (BL1 BL2 : Nat → List (List Nat)) (k j q c : Nat) : Nat := if c < j then unD BL1 BL2 k c else if c = j then cntB (unP BL1 BL2 k j) q else 0
theorem unT_zero (BL1 BL2 : Nat → List (List Nat)) (k c : Nat) : unT BL1 BL2 k 0 0 c = 0 := by
  unfold unT
  rw [if_neg (by omega)]
  split <;> rfl
theorem unT_next (BL1 BL2 : Nat → List (List Nat)) (k j c : Nat) : unT BL1 BL2 k (j + 1) 0 c = unT BL1 BL2 k j ((BL1 k).getD j []).length c := by
  unfold unT
  by_cases h1 : c < j
  · rw [if_pos h1, if_pos (by omega)]
  · rw [if_neg h1]
    by_cases h2 : c = j
    · rw [if_pos h2, if_pos (by omega), h2]; rfl
    · rw [if_neg h2, if_neg (by omega)]
      split <;> rfl
theorem unT_same {BL1 BL2 : Nat → List (List Nat)} {k j q : Nat} (h : unP BL1 BL2 k j q = false) (c : Nat) : unT BL1 BL2 k j (q + 1) c = unT BL1 BL2 k j q c := by
  unfold unT
  show (if c < j then _ else if c = j then cntB _ q + (if unP BL1 BL2 k j q = true then 1 else 0) else 0) = _
  rw [h]
  simp
theorem unT_more {BL1 BL2 : Nat → List (List Nat)} {k j q : Nat} (h : unP BL1 BL2 k j q = true) (c : Nat) : unT BL1 BL2 k j (q + 1) c = if c = j then unT BL1 BL2 k j q j + 1 else unT BL1 BL2 k j q c := by
  unfold unT
  show (if c < j then _ else if c = j then cntB _ q + (if unP BL1 BL2 k j q = true then 1 else 0) else 0) = _
  rw [h]
  by_cases e : c = j
  · subst e; simp
  · simp [e]
theorem unT_at (BL1 BL2 : Nat → List (List Nat)) (k j q : Nat) : unT BL1 BL2 k j q j ≤ q := by
  unfold unT
  rw [if_neg (by omega), if_pos rfl]
  exact cntB_le _ _
theorem unT_done {BL1 BL2 : Nat → List (List Nat)} {k m c : Nat} (h : c < m) : unT BL1 BL2 k m 0 c = unD BL1 BL2 k c := by
  unfold unT
  rw [if_pos h]
/-- What lies in memory of one shard. -/
theorem RSd.cells {w : World} {A : Option Addr} {n k : Nat} {H : Nat → Hd} {BL : Nat → List (List Nat)} (h : RSd w A n H BL) (hk : k < n) : ∃ b o a d, A = some ⟨b, o, none⟩ ∧ (∀ w', Below w.heap.size w w' → w'.cell? ⟨b, o + k * 17 + 16, none⟩ = some (.slice a (BL k).length d)) ∧
    ∀ j, j < (BL k).length → ∃ t p s e, a = some ⟨t, p, none⟩ ∧ (∀ w', Below w.heap.size w w' → w'.cell? ⟨t, p + j, none⟩ = some (.slice s ((BL k).getD j []).length e)) ∧
      ∀ q, q < ((BL k).getD j []).length → ∃ y z, s = some ⟨y, z, none⟩ ∧ ∀ w', Below w.heap.size w w' → w'.cell? ⟨y, z + q, none⟩ = some (.int .u8 ((((BL k).getD j []).getD q 0 : Nat) : Int)) := by
  obtain ⟨S, C, h1, h2⟩ := h
  obtain ⟨b, o, rfl⟩ := h1.ex_ hk
  refine ⟨b, o, S k, C k, rfl, fun w' hb => (h1.keep hb).list hk, fun j hj => ?_⟩
  obtain ⟨SS, CC, h3, h4⟩ := rdm_rll (h2 k hk).1
  obtain ⟨t, p, e1, hb1, hc1⟩ := h3 j hj
  refine ⟨t, p, SS j, CC j, e1, fun w' hb => (hb.cell (p := ⟨t, p + j, none⟩) hb1).trans hc1, fun q hq => ?_⟩
  obtain ⟨y, z, e2, hb2, hc2⟩ := h4 j hj q hq
  exact ⟨y, z, e2, fun w' hb => (hb.cell (p := ⟨y, z + q, none⟩) hb2).trans hc2⟩
theorem intsInfoU : (Try.prog.info? 25).map (fun i => (i.zero, i.size, i.bytes)) = some (some (.slice none 0 0), 1, 24) := by kernel_rfl
set_option maxRecDepth 100000 in
set_option maxHeartbeats 8000000 in
theorem unlikeS_any (X1 X2 : Option Addr) (n c1 c2 : Nat) (H1 H2 : Nat → Hd) (BL1 BL2 : Nat → List (List Nat)) (w : World) (hn : n ≤ 1000) (hL : ∀ i, i < n → (BL1 i).length ≤ 4097) (hLL : ∀ i, i < n → ∀ l ∈ BL1 i, l.length ≤ 65536) (hE : ∀ i, i < n → (BL2 i).length = (BL1 i).length ∧ ∀ j, j < (BL1 i).length → ((BL2 i).getD j []).length = ((BL1 i).getD j []).length)
    (h1 : RSd w X1 n H1 BL1) (h2 : RSd w X2 n H2 BL2) :
    Calls Try.prog 36 #[.slice X1 n c1, .slice X2 n c2] w fun e w' => ∃ A c, e = .returned (.slice A n c) ∧ RdM w' A n (fun i => (BL1 i).length) (fun i c => .int .i64 ((unD BL1 BL2 i c : Nat) : Int)) ∧ Below w.heap.size w w' := by
  have HA1 := Lib.hid h1; have HA2 := Lib.hid h2
  have HL := Lib.hid hL; have HLL := Lib.hid hLL; have HE := Lib.hid hE
  clear h1 h2 hL hLL hE
  go_enter Try.func36, Try.ntmps36
  go_wp2
  go_loopg [5, 6, 7, 8, 9] n (fun gk vo vi _ _ _ wr => ∃ (k : Nat) (S : Nat → Option Addr) (C : Nat → Nat), k ≤ n ∧ gk = n - k ∧ vi = .int .i64 k ∧ OwnM wr w.heap.size 25 3 vo k S C (fun i => (BL1 i).length) (fun i c => .int .i64 ((unD BL1 BL2 i c : Nat) : Int)) ∧ Below w.heap.size w wr)
  case atStart => exact ⟨0, fun _ => none, fun _ => 0, Nat.zero_le _, rfl, rfl, OwnM.nil _ _ _ _ _ _ _ _, Below.refl _ _⟩
  case round =>
    obtain ⟨k, S, C, hk, rfl, rfl, hO, hb⟩ := hrel
    by_cases hlt : k < n
    · obtain ⟨b1, o1, a1, d1, rfl, hl1, hm1⟩ := HA1.out.cells hlt
      obtain ⟨b2, o2, a2, d2, rfl, hl2, hm2⟩ := HA2.out.cells hlt
      obtain ⟨m, hm⟩ : ∃ m, m = (BL1 k).length := ⟨_, rfl⟩
      have hmb : m ≤ 4097 := by rw [hm]; exact HL.out k hlt
      have HMM := Lib.hid hm
      rw [(HE.out k hlt).1] at hl2 hm2
      rw [← hm] at hl1 hm1 hl2 hm2
      have cl1 := hl1 wr hb
      have HM1 := Lib.hid hm1; have HM2 := Lib.hid hm2; have HL1 := Lib.hid hl1; have HL2 := Lib.hid hl2
      have HO := Lib.hid hO; have HB := Lib.hid hb
      have hmk := run_make_row' (P := Try.prog) 25 3 (.int .i64 0) 8 Try.underlying25 intInfo rfl .i64 .i64 m (by omega) (by omega)
      have hz0 := Lib.hid (World.rowIs_made wr (.int .i64 0) m 3)
      have hb0 := Lib.hid ((Below.refl wr.heap.size wr).alloc (Nat.le_refl _) (.cells (madeCells #[.int .i64 0] m) 3))
      clear hm1 hm2 hl1 hl2 hO hb hm
      go_wp2_with fail
      clear hmk cl1
      obtain ⟨wo, hwo⟩ : ∃ wo, wo = wr := ⟨_, rfl⟩
      rw [← hwo] at hz0 hb0 HO HB ⊢
      clear hwo
      obtain ⟨rb, hrb⟩ : ∃ rb, rb = wo.heap.size := ⟨_, rfl⟩
      rw [← hrb] at hz0 hb0 ⊢
      have HRB := Lib.hid hrb
      clear hrb
      have HQ : Hid ((wo.alloc (.cells (madeCells #[.int .i64 0] m) 3)).rowIs rb 3 m (fun c => .int .i64 ((unT BL1 BL2 k 0 0 c : Nat) : Int))) := Lib.hid (hz0.out.congr fun c _ => by rw [unT_zero]; rfl)
      go_loopg [8, 9] m (fun gk vj _ wx => ∃ j : Nat, j ≤ m ∧ gk = m - j ∧ vj = .int .i64 j ∧ wx.rowIs rb 3 m (fun c => .int .i64 ((unT BL1 BL2 k j 0 c : Nat) : Int)) ∧ Below rb wo wx)
      case atStart => exact ⟨0, Nat.zero_le _, rfl, rfl, HQ.out, hb0.out⟩
      case round =>
        clear HQ hz0 hb0
        obtain ⟨j, hj, rfl, rfl, hQ, hbx⟩ := hrel
        have hbw : Below w.heap.size w wr := HB.out.trans (hbx.mono (by rw [HRB.out]; exact HB.out.size))
        have cl2 := HL2.out wr hbw
        by_cases hlj : j < m
        · obtain ⟨t1, p1, s1, e1, rfl, hr1, hy1⟩ := HM1.out j hlj
          obtain ⟨t2, p2, s2, e2, rfl, hr2, hy2⟩ := HM2.out j hlj
          obtain ⟨lx, hlx⟩ : ∃ lx, lx = ((BL1 k).getD j []).length := ⟨_, rfl⟩
          have hlxb : lx ≤ 65536 := by rw [hlx]; exact HLL.out k hlt _ (getD_memL (by rw [← HMM.out]; exact hlj))
          rw [(HE.out k hlt).2 j (by rw [← HMM.out]; exact hlj)] at hr2 hy2
          rw [← hlx] at hr1 hy1 hr2 hy2
          have HLX := Lib.hid hlx
          have HR1 := Lib.hid hr1; have HR2 := Lib.hid hr2; have HY1 := Lib.hid hy1; have HY2 := Lib.hid hy2
          have HQ := Lib.hid hQ; have HBX := Lib.hid hbx
          clear hlx hr1 hr2 hy1 hy2 hQ hbx hbw
          go_wp2
          go_loopg [9] lx (fun gk vq wx => ∃ q : Nat, q ≤ lx ∧ gk = lx - q ∧ vq = .int .i64 q ∧ wx.rowIs rb 3 m (fun c => .int .i64 ((unT BL1 BL2 k j q c : Nat) : Int)) ∧ Below rb wo wx)
          case atStart => exact ⟨0, Nat.zero_le _, rfl, rfl, HQ.out, HBX.out⟩
          case round =>
            clear HQ HBX cl2
            obtain ⟨q, hq, rfl, rfl, hQ, hbx⟩ := hrel
            have hbw : Below w.heap.size w wr := HB.out.trans (hbx.mono (by rw [HRB.out]; exact HB.out.size))
            have cl1 := HL1.out wr hbw
            have cl2 := HL2.out wr hbw
            have cr1 := HR1.out wr hbw
            have cr2 := HR2.out wr hbw
            by_cases hlq : q < lx
            · obtain ⟨y1, z1, rfl, hv1⟩ := HY1.out q hlq
              obtain ⟨y2, z2, rfl, hv2⟩ := HY2.out q hlq
              have cv1 := hv1 wr hbw
              have cv2 := hv2 wr hbw
              obtain ⟨x1, hx1⟩ : ∃ x, x = ((BL1 k).getD j []).getD q 0 := ⟨_, rfl⟩
              obtain ⟨x2, hx2⟩ : ∃ x, x = ((BL2 k).getD j []).getD q 0 := ⟨_, rfl⟩
              rw [← hx1] at cv1
              rw [← hx2] at cv2
              have KS : Hid (wr.cell? ⟨b1, o1 + k * 17 + 16, none⟩ = some (.slice (some ⟨t1, p1, none⟩) m d1) ∧ wr.cell? ⟨t1, p1 + j, none⟩ = some (.slice (some ⟨y1, z1, none⟩) lx e1) ∧ wr.cell? ⟨y1, z1 + q, none⟩ = some (.int .u8 (x1 : Nat)) ∧ wr.cell? ⟨b2, o2 + k * 17 + 16, none⟩ = some (.slice (some ⟨t2, p2, none⟩) m d2) ∧ wr.cell? ⟨t2, p2 + j, none⟩ = some (.slice (some ⟨y2, z2, none⟩) lx e2) ∧ wr.cell? ⟨y2, z2 + q, none⟩ = some (.int .u8 (x2 : Nat))) := Lib.hid ⟨cl1, cr1, cv1, cl2, cr2, cv2⟩
              have hfz := hQ.frozen j
              have hcj := hQ.cell hlj
              have hcb : unT BL1 BL2 k j q j ≤ 65536 := Nat.le_trans (unT_at _ _ _ _ _) (by omega)
              by_cases hxe : x1 = x2
              · have hne : ((x1 : Int) != (x2 : Int)) = false := by rw [hxe]; simp
                have HP : Hid (unP BL1 BL2 k j q = false) := Lib.hid (by unfold unP; rw [← hx1, ← hx2, hxe]; simp)
                have HQ2 := Lib.hid (hQ.congr (g := (fun c => .int .i64 ((unT BL1 BL2 k j (q + 1) c : Nat) : Int))) fun c _ => by rw [unT_same HP.out])
                have HBX := Lib.hid hbx
                clear hxe hQ hbx hbw hx1 hx2 hv1 hv2 hfz hcj hcb
                go_wp2_with fail
                clear cl1 cl2 cr1 cr2 cv1 cv2
                refine wp_region_mix [(true, true, false), (true, true, false), (true, true, false), (true, true, false), (true, true, true), (true, true, false), (true, true, false), (true, true, true), (true, true, false), (true, true, false), (true, true, true), (true, true, false), (true, true, false), (true, true, false), (true, true, false), (true, true, true), (true, true, false), (true, true, false), (true, true, true), (true, true, false), (true, true, false), (true, true, true), (true, true, false)] mixed (by kernel_rfl) (fun w4 => w4.cell? ⟨b1, o1 + k * 17 + 16, none⟩ = some (.slice (some ⟨t1, p1, none⟩) m d1) ∧ w4.cell? ⟨t1, p1 + j, none⟩ = some (.slice (some ⟨y1, z1, none⟩) lx e1) ∧ w4.cell? ⟨y1, z1 + q, none⟩ = some (.int .u8 (x1 : Nat)) ∧ w4.cell? ⟨b2, o2 + k * 17 + 16, none⟩ = some (.slice (some ⟨t2, p2, none⟩) m d2) ∧ w4.cell? ⟨t2, p2 + j, none⟩ = some (.slice (some ⟨y2, z2, none⟩) lx e2) ∧ w4.cell? ⟨y2, z2 + q, none⟩ = some (.int .u8 (x2 : Nat))) (KS.out) ?_
                intro hSw0
                simp only [hdM, tlM, List.cons_append, List.nil_append]
                repeat (first
                  | (refine mix_look hSw0.out ?_ (by rfl) (fun w4 hSw => ?_) ?_; rotate_left; (focus (obtain ⟨s1, s2, s3, s4, s5, s6⟩ := hSw; go_simp; try with_reducible rfl)); simp only [Act.put, List.setIfInBounds_toArray, List.set_cons_zero, List.set_cons_succ])
                  | (refine mix_pure ?_ (by rfl) (fun w4 => ?_) ?_; rotate_left; (focus (go_simp; try with_reducible rfl)); simp only [Act.put, List.setIfInBounds_toArray, List.set_cons_zero, List.set_cons_succ]))
                refine mix_nil ?_
                go_wp2
                go_roundg (lx - (q + 1))
                case measure => omega
                case rel => exact ⟨q + 1, by omega, rfl, by go_num, HQ2.out.drew, HBX.out.drew⟩
              · have hne : ((x1 : Int) != (x2 : Int)) = true := by rw [bne_iff_ne]; omega
                have HP : Hid (unP BL1 BL2 k j q = true) := Lib.hid (by unfold unP; rw [← hx1, ← hx2, bne_iff_ne]; exact hxe)
                have HQ2 := Lib.hid ((hQ.set j (.int .i64 ((unT BL1 BL2 k j q j + 1 : Nat) : Int))).congr (g := (fun c => .int .i64 ((unT BL1 BL2 k j (q + 1) c : Nat) : Int))) fun c _ => by
                  rw [unT_more HP.out]
                  by_cases e : c = j
                  · rw [if_pos e, if_pos e]
                  · rw [if_neg e, if_neg e])
                have HBX := Lib.hid (hbx.setCell (p := ⟨rb, j, none⟩) (Nat.le_refl _) (.int .i64 ((unT BL1 BL2 k j q j + 1 : Nat) : Int)))
                generalize unT BL1 BL2 k j q j = cn at *
                clear hxe hQ hbx hbw hx1 hx2 hv1 hv2
                go_wp2_with fail
                clear cl1 cl2 cr1 cr2 cv1 cv2
                refine wp_region_mix [(true, true, false), (true, true, false), (true, true, false), (true, true, false), (true, true, true), (true, true, false), (true, true, false), (true, true, true), (true, true, false), (true, true, false), (true, true, true), (true, true, false), (true, true, false), (true, true, false), (true, true, false), (true, true, true), (true, true, false), (true, true, false), (true, true, true), (true, true, false), (true, true, false), (true, true, true), (true, true, false)] mixed (by kernel_rfl) (fun w4 => w4.cell? ⟨b1, o1 + k * 17 + 16, none⟩ = some (.slice (some ⟨t1, p1, none⟩) m d1) ∧ w4.cell? ⟨t1, p1 + j, none⟩ = some (.slice (some ⟨y1, z1, none⟩) lx e1) ∧ w4.cell? ⟨y1, z1 + q, none⟩ = some (.int .u8 (x1 : Nat)) ∧ w4.cell? ⟨b2, o2 + k * 17 + 16, none⟩ = some (.slice (some ⟨t2, p2, none⟩) m d2) ∧ w4.cell? ⟨t2, p2 + j, none⟩ = some (.slice (some ⟨y2, z2, none⟩) lx e2) ∧ w4.cell? ⟨y2, z2 + q, none⟩ = some (.int .u8 (x2 : Nat))) (KS.out) ?_
                intro hSw0
                simp only [hdM, tlM, List.cons_append, List.nil_append]
                repeat (first
                  | (refine mix_look hSw0.out ?_ (by rfl) (fun w4 hSw => ?_) ?_; rotate_left; (focus (obtain ⟨s1, s2, s3, s4, s5, s6⟩ := hSw; go_simp; try with_reducible rfl)); simp only [Act.put, List.setIfInBounds_toArray, List.set_cons_zero, List.set_cons_succ])
                  | (refine mix_pure ?_ (by rfl) (fun w4 => ?_) ?_; rotate_left; (focus (go_simp; try with_reducible rfl)); simp only [Act.put, List.setIfInBounds_toArray, List.set_cons_zero, List.set_cons_succ]))
                refine mix_nil ?_
                go_wp2
                go_roundg (lx - (q + 1))
                case measure => omega
                case rel => exact ⟨q + 1, by omega, rfl, by go_num, HQ2.out.drew, HBX.out.drew⟩
            · obtain rfl : lx = q := by omega
              have HQ2 := Lib.hid (hQ.congr (g := (fun c => .int .i64 ((unT BL1 BL2 k (j + 1) 0 c : Nat) : Int))) fun c _ => by rw [unT_next, ← HLX.out])
              have HBX := Lib.hid hbx
              clear hQ hbx hbw
              go_wp2
              go_roundg (m - (j + 1))
              case measure => omega
              case rel => exact ⟨j + 1, by omega, rfl, by go_num, HQ2.out, HBX.out⟩
        · obtain rfl : m = j := by omega
          have hQk := hQ.congr (g := fun c => .int .i64 ((unD BL1 BL2 k c : Nat) : Int)) fun c hc => by rw [unT_done hc]
          have hO1 := (HO.out.kept (by rw [← HRB.out]; exact hbx)).next (some ⟨rb, 0, none⟩) m
          have hrb : w.heap.size ≤ rb := by rw [HRB.out]; exact HB.out.size
          have hr : Own wr w.heap.size 3 1 (.slice (upd S k (some ⟨rb, 0, none⟩) k) (BL1 k).length (upd C k m k)) (BL1 k).length (fun c => [.int .i64 ((unD BL1 BL2 k c : Nat) : Int)]) := by
            rw [upd_at, upd_at, ← HMM.out]; exact own_of_row hQk hrb (by unfold maxLen; omega)
          have hu : Hid ((#[Value.slice (some ⟨rb, 0, none⟩) m m] : Array Value).toList = [.slice (upd S k (some ⟨rb, 0, none⟩) k) (BL1 k).length (upd C k m k)]) := by rw [upd_at, upd_at, ← HMM.out]; rfl
          have hsz1 := hbw.size
          have HBW := Lib.hid hbw; have HR := Lib.hid hr; have HO1 := Lib.hid hO1
          clear hQ hQk hbx hbw hr hO1 HO
          go_wp2_with (at_builtin; refine wpList_push _ rfl (.tmp 100) (.tmp 102) 71 rfl w.heap.size 25 1 24 (.slice none 0 0) #[.slice (some ⟨rb, 0, none⟩) m m] Try.underlying71 intsInfoU rfl (by decide) _ k _ rfl HO1.out.1 hsz1 _ rfl rfl hu.out rfl rfl (by omega) (by omega) ?_)
          intro v' w2 hown2 hbel2 hg2 _
          have hO2 := HO1.out.push (by decide) HR.out hown2 hg2
          have hbF := HBW.out.trans hbel2
          clear HO1 HR hown2 hg2 hbel2 HBW cl2
          go_wp2
          go_roundg (n - (k + 1))
          case measure => omega
          case rel => exact ⟨k + 1, _, _, by omega, rfl, by go_num, hO2, hbF⟩
    · obtain rfl : n = k := by omega
      obtain ⟨A', c', hv, _, hR⟩ := hO.rdm
      subst hv
      have HR := Lib.hid hR; have HB := Lib.hid hb
      clear hO hR hb
      go_wp2
      go_ret
      exact ⟨A', c', rfl, HR.out, HB.out⟩
end Go.Proofs.Ytjaaldandgfkgaa
