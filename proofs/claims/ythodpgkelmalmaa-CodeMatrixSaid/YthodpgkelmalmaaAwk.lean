/- awake of the law's page: the walk. Conditions: none. -/
import Derived.Test.YthodpgkelmalmaaFit
namespace Go.Proofs.Ythodpgkelmalmaa
open Go.RowKit

def awD (i j : Nat) : Nat := if j = 0 then (if i = 0 then 5 else 7) else 1
def awT (i j : Nat) : Nat := if j = 0 then (if i = 0 then 5 else if i = 1 then 7 else 1) else 1
theorem awake_word : ∀ i, i < 3 → ∀ c, c < 2 → wrd 2 awD i c = awT i c := by decide +kernel
theorem lit2 (w : World) (x y : Nat) : (w.alloc (.cells #[.int .u8 (x : Nat), .int .u8 (y : Nat)] 5)).rowIs w.heap.size 5 2 (fun j => .int .u8 (if j = 0 then x else y : Nat)) :=
  World.rowIs_alloc w #[.int .u8 (x : Nat), .int .u8 (y : Nat)] 5 _ (by intro i hi; match i, hi with | 0, _ => rfl | 1, _ => rfl)
theorem size_alloc (w : World) (o : Obj) : (w.alloc o).heap.size = w.heap.size + 1 := by simp
set_option maxRecDepth 20000 in
set_option maxHeartbeats 1000000 in
theorem awake_any (w : World) : Calls Try.prog 24 #[] w fun e w' => e = .returned (.bool true) ∧ Below w.heap.size w w' := by
  go_enter Try.func24, Try.ntmps24
  go_wp2_with fail
  refine (new_ok 2 1 w (by decide) (by decide) (by decide) (by decide)).mono ?_
  rintro e w1 ⟨p, rfl, hC, hp, hb1⟩
  have HC := Lib.hid hC; have HB1 := Lib.hid hb1
  clear hC hb1
  have r1 := ((lit2 w1 5 1).alloc (.cells #[.int .u8 7, .int .u8 1] 5)).alloc (.cells #[.slice (some ⟨w1.heap.size, 0, none⟩) 2 2, .slice (some ⟨w1.heap.size + 1, 0, none⟩) 2 2] 24)
  have r2 := (lit2 (w1.alloc (.cells #[.int .u8 5, .int .u8 1] 5)) 7 1).alloc (.cells #[.slice (some ⟨w1.heap.size, 0, none⟩) 2 2, .slice (some ⟨w1.heap.size + 1, 0, none⟩) 2 2] 24)
  rw [size_alloc] at r2
  have r3 := World.rowIs_alloc ((w1.alloc (.cells #[.int .u8 5, .int .u8 1] 5)).alloc (.cells #[.int .u8 7, .int .u8 1] 5)) #[.slice (some ⟨w1.heap.size, 0, none⟩) 2 2, .slice (some ⟨w1.heap.size + 1, 0, none⟩) 2 2] 24 (fun i => .slice (some ⟨if i = 0 then w1.heap.size else w1.heap.size + 1, 0, none⟩) 2 2) (by intro i hi; match i, hi with | 0, _ => rfl | 1, _ => rfl)
  rw [size_alloc, size_alloc] at r3
  have hR : RdM (((w1.alloc (.cells #[.int .u8 5, .int .u8 1] 5)).alloc (.cells #[.int .u8 7, .int .u8 1] 5)).alloc (.cells #[.slice (some ⟨w1.heap.size, 0, none⟩) 2 2, .slice (some ⟨w1.heap.size + 1, 0, none⟩) 2 2] 24)) (some ⟨w1.heap.size + 1 + 1, 0, none⟩) 2 (fun _ => 2) (fun i j => .int .u8 (awD i j : Nat)) :=
    ⟨fun i => some ⟨if i = 0 then w1.heap.size else w1.heap.size + 1, 0, none⟩, fun _ => 2, row_rd r3, fun i hi => by
      match i, hi with
      | 0, _ => exact (row_rd r1).congr fun j _ => rfl
      | 1, _ => exact (row_rd r2).congr fun j _ => rfl⟩
  have hbA : Below w1.heap.size w1 (((w1.alloc (.cells #[.int .u8 5, .int .u8 1] 5)).alloc (.cells #[.int .u8 7, .int .u8 1] 5)).alloc (.cells #[.slice (some ⟨w1.heap.size, 0, none⟩) 2 2, .slice (some ⟨w1.heap.size + 1, 0, none⟩) 2 2] 24)) := (((Below.refl _ _).alloc (Nat.le_refl _) _).alloc (by rw [size_alloc]; omega) _).alloc (by rw [size_alloc, size_alloc]; omega) _
  have HR := Lib.hid hR; have HBA := Lib.hid hbA
  clear r1 r2 r3 hR hbA
  go_wp2_with fail
  refine (enc_any p 2 3 (some ⟨w1.heap.size + 1 + 1, 0, none⟩) 2 2 (fun _ => 2) awD _ (by decide) (by decide) (by decide) (by decide) (fun _ _ => by decide) (fun i _ j _ => by unfold awD; split <;> (try split) <;> decide) (HC.out.below HBA.out) HR.out).mono ?_
  rintro e w2 ⟨er, A2, R2, c2, rfl, hE, hR2, hM, hb2⟩
  have he : er = 0 := hE.uniq (.inr (.inr ⟨rfl, fun _ _ => rfl, rfl⟩))
  subst he
  rw [if_pos rfl] at hR2
  subst hR2
  have HM := Lib.hid hM; have HB2 := Lib.hid (HB1.out.trans ((HBA.out.trans (hb2.mono HBA.out.size)).mono HB1.out.size))
  clear hE hM hb2 HR HBA
  have r1 := (((lit2 w2 5 1).alloc (.cells #[.int .u8 7, .int .u8 1] 5)).alloc (.cells #[.int .u8 1, .int .u8 1] 5)).alloc (.cells #[.slice (some ⟨w2.heap.size, 0, none⟩) 2 2, .slice (some ⟨w2.heap.size + 1, 0, none⟩) 2 2, .slice (some ⟨w2.heap.size + 1 + 1, 0, none⟩) 2 2] 24)
  have r2 := ((lit2 (w2.alloc (.cells #[.int .u8 5, .int .u8 1] 5)) 7 1).alloc (.cells #[.int .u8 1, .int .u8 1] 5)).alloc (.cells #[.slice (some ⟨w2.heap.size, 0, none⟩) 2 2, .slice (some ⟨w2.heap.size + 1, 0, none⟩) 2 2, .slice (some ⟨w2.heap.size + 1 + 1, 0, none⟩) 2 2] 24)
  have r3 := (lit2 ((w2.alloc (.cells #[.int .u8 5, .int .u8 1] 5)).alloc (.cells #[.int .u8 7, .int .u8 1] 5)) 1 1).alloc (.cells #[.slice (some ⟨w2.heap.size, 0, none⟩) 2 2, .slice (some ⟨w2.heap.size + 1, 0, none⟩) 2 2, .slice (some ⟨w2.heap.size + 1 + 1, 0, none⟩) 2 2] 24)
  rw [size_alloc] at r2
  rw [size_alloc, size_alloc] at r3
  have r4 := World.rowIs_alloc (((w2.alloc (.cells #[.int .u8 5, .int .u8 1] 5)).alloc (.cells #[.int .u8 7, .int .u8 1] 5)).alloc (.cells #[.int .u8 1, .int .u8 1] 5)) #[.slice (some ⟨w2.heap.size, 0, none⟩) 2 2, .slice (some ⟨w2.heap.size + 1, 0, none⟩) 2 2, .slice (some ⟨w2.heap.size + 1 + 1, 0, none⟩) 2 2] 24 (fun i => .slice (some ⟨if i = 0 then w2.heap.size else if i = 1 then w2.heap.size + 1 else w2.heap.size + 1 + 1, 0, none⟩) 2 2) (by intro i hi; match i, hi with | 0, _ => rfl | 1, _ => rfl | 2, _ => rfl)
  rw [size_alloc, size_alloc, size_alloc] at r4
  have hR : RdM ((((w2.alloc (.cells #[.int .u8 5, .int .u8 1] 5)).alloc (.cells #[.int .u8 7, .int .u8 1] 5)).alloc (.cells #[.int .u8 1, .int .u8 1] 5)).alloc (.cells #[.slice (some ⟨w2.heap.size, 0, none⟩) 2 2, .slice (some ⟨w2.heap.size + 1, 0, none⟩) 2 2, .slice (some ⟨w2.heap.size + 1 + 1, 0, none⟩) 2 2] 24)) (some ⟨w2.heap.size + 1 + 1 + 1, 0, none⟩) 3 (fun _ => 2) (fun i j => .int .u8 (awT i j : Nat)) :=
    ⟨fun i => some ⟨if i = 0 then w2.heap.size else if i = 1 then w2.heap.size + 1 else w2.heap.size + 1 + 1, 0, none⟩, fun _ => 2, row_rd r4, fun i hi => by
      match i, hi with
      | 0, _ => exact (row_rd r1).congr fun j _ => rfl
      | 1, _ => exact (row_rd r2).congr fun j _ => rfl
      | 2, _ => exact (row_rd r3).congr fun j _ => by show Value.int .u8 ((if j = 0 then 1 else 1 : Nat) : Int) = Value.int .u8 ((awT 2 j : Nat) : Int); unfold awT; split <;> rfl⟩
  have hbA : Below w2.heap.size w2 ((((w2.alloc (.cells #[.int .u8 5, .int .u8 1] 5)).alloc (.cells #[.int .u8 7, .int .u8 1] 5)).alloc (.cells #[.int .u8 1, .int .u8 1] 5)).alloc (.cells #[.slice (some ⟨w2.heap.size, 0, none⟩) 2 2, .slice (some ⟨w2.heap.size + 1, 0, none⟩) 2 2, .slice (some ⟨w2.heap.size + 1 + 1, 0, none⟩) 2 2] 24)) := ((((Below.refl _ _).alloc (Nat.le_refl _) _).alloc (by rw [size_alloc]; omega) _).alloc (by rw [size_alloc, size_alloc]; omega) _).alloc (by rw [size_alloc, size_alloc, size_alloc]; omega) _
  have hT : ∀ i, i < 3 → ∀ j, j < 2 → awT i j < 256 := by decide
  have CS := Lib.hid (same_gen A2 (some ⟨w2.heap.size + 1 + 1 + 1, 0, none⟩) 3 c2 3 2 (wrd 2 awD) awT _ (by decide) (fun _ _ _ _ => wrd_lt) hT (RdM.below HM.out hbA) hR)
  rw [(sameB_iff (n := 3) (len := 2) (fun _ _ _ _ => wrd_lt) hT).2 awake_word] at CS
  have HBA := Lib.hid hbA
  clear r1 r2 r3 r4 hR hbA hT
  go_wp2_with fail
  refine CS.out.mono ?_
  rintro e w3 ⟨rfl, hd⟩
  have HBF := Lib.hid (HB2.out.trans ((HBA.out.trans ((hd.below _).mono HBA.out.size)).mono HB2.out.size))
  clear hd
  go_wp2
  go_ret
  exact ⟨rfl, HBF.out⟩
end Go.Proofs.Ythodpgkelmalmaa
