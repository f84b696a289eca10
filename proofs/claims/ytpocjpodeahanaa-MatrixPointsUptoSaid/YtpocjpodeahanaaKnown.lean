/- known: what every right program says first: the walk. Conditions: none. -/
import Derived.Test.YtpocjpodeahanaaOut2
namespace Go.Proofs.Ytpocjpodeahanaa
open Go.RowKit

/-- Four numbers as a matrix. -/
def q4 {α : Type} (a b c d : α) (i j : Nat) : α := if i = 0 then (if j = 0 then a else b) else (if j = 0 then c else d)
def litW {s : Nat} (w : World) (a b c d : Fin s) : World := (((w.alloc (.cells #[.int .i64 (a.val : Nat), .int .i64 (b.val : Nat)] 3)).alloc (.cells #[.int .i64 (c.val : Nat), .int .i64 (d.val : Nat)] 3)).alloc (.cells #[.slice (some ⟨w.heap.size, 0, none⟩) 2 2, .slice (some ⟨w.heap.size + 1, 0, none⟩) 2 2] 23))
theorem litI (w : World) {s : Nat} (x y : Fin s) : (w.alloc (.cells #[.int .i64 (x.val : Nat), .int .i64 (y.val : Nat)] 3)).rowIs w.heap.size 3 2 (fun j => .int .i64 ((if j = 0 then x else y).val : Nat)) :=
  World.rowIs_alloc w _ 3 _ (by intro i hi; match i, hi with | 0, _ => rfl | 1, _ => rfl)
theorem sizeAl (w : World) (o : Obj) : (w.alloc o).heap.size = w.heap.size + 1 := by simp
theorem lit22 {s : Nat} (w : World) (a b c d : Fin s) : MI (litW w a b c d) (some ⟨w.heap.size + 1 + 1, 0, none⟩) 2 (fun _ => 2) (fun i j => (q4 a b c d i j).val) := by
  have r1 := ((litI w a b).alloc (.cells #[.int .i64 (c.val : Nat), .int .i64 (d.val : Nat)] 3)).alloc (.cells #[.slice (some ⟨w.heap.size, 0, none⟩) 2 2, .slice (some ⟨w.heap.size + 1, 0, none⟩) 2 2] 23)
  have r2 := (litI (w.alloc (.cells #[.int .i64 (a.val : Nat), .int .i64 (b.val : Nat)] 3)) c d).alloc (.cells #[.slice (some ⟨w.heap.size, 0, none⟩) 2 2, .slice (some ⟨w.heap.size + 1, 0, none⟩) 2 2] 23)
  rw [sizeAl] at r2
  have r3 := World.rowIs_alloc ((w.alloc (.cells #[.int .i64 (a.val : Nat), .int .i64 (b.val : Nat)] 3)).alloc (.cells #[.int .i64 (c.val : Nat), .int .i64 (d.val : Nat)] 3)) #[.slice (some ⟨w.heap.size, 0, none⟩) 2 2, .slice (some ⟨w.heap.size + 1, 0, none⟩) 2 2] 23 (fun i => .slice (some ⟨if i = 0 then w.heap.size else w.heap.size + 1, 0, none⟩) 2 2) (by intro i hi; match i, hi with | 0, _ => rfl | 1, _ => rfl)
  rw [sizeAl, sizeAl] at r3
  exact ⟨fun i => some ⟨if i = 0 then w.heap.size else w.heap.size + 1, 0, none⟩, fun _ => 2, row_rd r3, fun i hi => by
      match i, hi with
      | 0, _ => exact (row_rd r1).congr fun j _ => rfl
      | 1, _ => exact (row_rd r2).congr fun j _ => rfl⟩
theorem lit22_below {s : Nat} (w : World) (a b c d : Fin s) : Below w.heap.size w (litW w a b c d) :=
  (((Below.refl _ _).alloc (Nat.le_refl _) _).alloc (by simp) _).alloc (by simp; omega) _
def kG : Nat → Nat → Fin 256 := q4 1 1 1 2
def kI : Nat → Nat → Fin 256 := q4 245 244 244 244
theorem kI_left : ∀ i, i < 2 → ∀ j, j < 2 → gE.mm 2 kI kG i j = gE.idm i j := by decide +kernel
theorem known_right : ∀ i, i < 2 → ∀ j, j < 2 → gE.mm 2 kG kI i j = gE.idm i j := by decide +kernel
theorem two_cols : colsN 2 (fun _ => 2) = 2 := rfl
theorem two_fault : faultE 2 (fun _ => 2) = 0 := by decide
theorem two_free : gE.Free 2 2 kG := Fd.free_of_right (F := gE) (n := 2) (X := kG) (G := kI) (fun i j hi hj => known_right i hi j hj)
theorem known_inv {er : Int} {X : Nat → Nat → Fin 256} (h : InvP gE 2 (fun _ => 2) kG er X) : er = 0 ∧ ∀ i, i < 2 → ∀ j, j < 2 → X i j = kI i j := by
  obtain ⟨h1, _, h3⟩ := h.free two_fault two_cols two_free
  exact ⟨h1, fun i hi j hj => (Fd.inv_uniq (F := gE) (n := 2) (Y := kI) (X := kG) (G := X) (fun i j hi hj => kI_left i hi j hj) h3 i j hi hj).symm⟩
theorem two_terr : terr 2 2 (fun _ => 2) (fun _ => 2) = 0 := by decide
theorem two_tk : tk 2 2 (fun _ => 2) (fun _ => 2) = 2 := by decide
theorem known_rank {st : Nat} (h : faultE 2 (fun _ => 2) = 0 → ∃ G' p, gE.RR 2 (colsN 2 (fun _ => 2)) (colsN 2 (fun _ => 2)) kG G' st p) : st = 2 := by
  obtain ⟨G', p, hR⟩ := h two_fault
  exact (hR.full_iff (Nat.le_refl _)).2 two_free
set_option maxRecDepth 20000 in
set_option maxHeartbeats 1000000 in
theorem known_any (w : World) : Calls Try.prog 67 #[] w fun e w' => e = .returned (.bool true) ∧ Below w.heap.size w w' := by
  have HR := Lib.hid (lit22 w (1 : Fin 256) 1 1 2)
  have HB := Lib.hid (lit22_below w (1 : Fin 256) 1 1 2)
  go_enter Try.func67, Try.ntmps67
  go_wp2_with fail
  refine (inverse_E (some ⟨w.heap.size + 1 + 1, 0, none⟩) 2 2 (fun _ => 2) kG (litW w (1 : Fin 256) 1 1 2) (by decide) (fun _ _ => by decide) HR.out).mono ?_
  rintro e w1 ⟨er, X, A1, c1, rfl, hIP, hb1, hX⟩
  obtain ⟨he, hXe⟩ := known_inv hIP
  subst he
  rw [if_pos rfl] at hX ⊢
  have HX : Hid (MI w1 A1 2 (fun _ => 2) (fun i j => (kI i j).val)) := hX.congr fun i hi j hj => by
    show Value.int .i64 ((X i j).val : Int) = Value.int .i64 ((kI i j).val : Int)
    rw [hXe i hi j hj]
  have HG := Lib.hid (MI.below HR.out (hb1.mono (Nat.le_refl _)))
  have HB1 := Lib.hid (HB.out.trans (hb1.mono HB.out.size))
  clear hIP hXe hX hb1 HR HB
  go_wp2_with fail
  refine (times_E (some ⟨w.heap.size + 1 + 1, 0, none⟩) A1 2 2 2 c1 (fun _ => 2) (fun _ => 2) kG kI _ (by decide) (fun _ _ => by decide) (by decide) (fun _ _ => by decide) HG.out HX.out).mono ?_
  rintro e w2 ⟨A2, c2, rfl, hM, hb2⟩
  rw [two_terr]
  rw [two_tk] at hM ⊢
  rw [two_cols] at hM
  have HM : Hid (MI w2 A2 2 (fun _ => 2) (fun i j => (gE.idm i j).val)) := hM.congr fun i hi j hj => by
    show Value.int .i64 ((gE.mm 2 kG kI i j).val : Int) = Value.int .i64 ((gE.idm i j).val : Int)
    rw [known_right i hi j hj]
  have HG2 := Lib.hid (MI.below HG.out hb2)
  have HX2 := Lib.hid (MI.below HX.out hb2)
  have HB2 := Lib.hid (HB1.out.trans (hb2.mono HB1.out.size))
  clear hM hb2 HG HX HB1
  go_wp2_with fail
  refine (ranks_E (some ⟨w.heap.size + 1 + 1, 0, none⟩) 2 2 (fun _ => 2) kG _ (by decide) (fun _ _ => by decide) HG2.out).mono ?_
  rintro e w3 ⟨st, rfl, hb3, hR⟩
  obtain rfl := known_rank hR
  rw [two_fault]
  have HX3 := Lib.hid (MI.below (MI.below HX2.out hb3) (lit22_below w3 (245 : Fin 256) 244 244 244))
  have HM3 := Lib.hid (MI.below (MI.below HM.out hb3) (lit22_below w3 (245 : Fin 256) 244 244 244))
  have HL := Lib.hid (lit22 w3 (245 : Fin 256) 244 244 244)
  have HB3 := Lib.hid ((HB2.out.trans (hb3.mono HB2.out.size)).trans ((lit22_below w3 (245 : Fin 256) 244 244 244).mono (HB2.out.trans (hb3.mono HB2.out.size)).size))
  clear hb3 hR HG2 HX2 HM HB2
  go_wp2_with fail
  refine (alike_any A1 (some ⟨w3.heap.size + 1 + 1, 0, none⟩) 2 c1 2 (fun _ => 2) (fun i j => (kI i j).val) (litW w3 (245 : Fin 256) 244 244 244) (by decide) (fun _ _ => by decide) HX3.out HL.out).mono ?_
  rintro e w4 ⟨rfl, hd⟩
  have HM4 := Lib.hid (MI.below HM3.out (hd.below _))
  have HB4 := Lib.hid (hd.below' HB3.out)
  clear hd HX3 HM3 HL HB3
  go_wp2_with fail
  refine (unit_any okE 2 _ (by decide)).mono ?_
  rintro e w5 ⟨A5, c5, rfl, hU, hb5⟩
  have HU := Lib.hid hU
  have HM5 := Lib.hid (MI.below HM4.out hb5)
  have HB5 := Lib.hid (HB4.out.trans (hb5.mono HB4.out.size))
  clear hU hb5 HM4 HB4
  go_wp2_with fail
  refine (alike_any A2 A5 2 c2 c5 (fun _ => 2) (fun i j => (gE.idm i j).val) _ (by decide) (fun _ _ => by decide) HM5.out HU.out).mono ?_
  rintro e w6 ⟨rfl, hd⟩
  go_wp2
  go_ret
  exact ⟨rfl, hd.below' HB5.out⟩
end Go.Proofs.Ytpocjpodeahanaa
