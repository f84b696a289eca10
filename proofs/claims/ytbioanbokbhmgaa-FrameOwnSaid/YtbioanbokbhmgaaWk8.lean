/- The shard that awake writes, as data. Conditions: none of any program. -/
import Derived.Test.YtbioanbokbhmgaaPar4
import Derived.Test.YtbioanbokbhmgaaLawFR
import Derived.Test.YtbioanbokbhmgaaLawFW
namespace Go.Proofs.Ytbioanbokbhmgaa
open Go.RowKit

def h0 : Hd := ⟨1, 1, 1, 1, 1, 1, 1, 1, 2, 1, 4, ⟨#[97]⟩, 10, 2, 3, 5⟩
def B0L : List (List Nat) := [[9, 8, 7, 6], [5]]
def b0L : List Nat := [67, 82, 78, 2, 1, 1, 1, 1, 1, 1, 1, 1, 2, 1, 4, 0, 0, 0, 10, 0, 0, 0, 2, 3, 0, 0, 0, 5, 0, 0, 0, 1, 48, 41, 1, 219, 97, 168, 11, 232, 241, 9, 8, 7, 6, 228, 113, 6, 2, 5, 149, 150, 29, 159]
def b1L : List Nat := [67, 82, 78, 2, 1, 1, 1, 1, 1, 1, 1, 1, 2, 1, 4, 0, 0, 0, 10, 0, 0, 0, 2, 3, 0, 0, 0, 5, 0, 0, 0, 1, 48, 41, 1, 219, 97, 168, 11, 232, 241, 9, 8, 7, 6, 228, 113, 6, 2, 5, 149, 150, 29, 158]
theorem h0_bytes : HdB h0 := by unfold HdB h0; decide
theorem h0_check : checkE h0 = 0 := by decide +kernel
theorem h0_fits : fitsB h0 B0L := ⟨by decide +kernel, fun j hj => by
  have h2 : j < 2 := hj
  have h3 : j = 0 ∨ j = 1 := by omega
  rcases h3 with rfl | rfl <;> decide +kernel⟩
theorem B0L_lt : ∀ l ∈ B0L, ∀ x ∈ l, x < 256 := by decide
theorem b0_lt : ∀ x ∈ b0L, x < 256 := by decide
theorem b1_lt : ∀ x ∈ b1L, x < 256 := by decide
theorem b0_form : formL h0 B0L = b0L := by decide +kernel
theorem b0_prs : prsE b0L = 0 := by rw [← b0_form]; exact (prs_form h0_bytes h0_check h0_fits B0L_lt).1
theorem b0_hd : prsH b0L = h0 := by
  unfold prsH
  rw [if_pos b0_prs, ← b0_form]
  exact (prs_form h0_bytes h0_check h0_fits B0L_lt).2
theorem b0_blk : prsB b0L = B0L := by
  unfold prsB
  rw [if_pos b0_prs]
  decide +kernel
theorem b1_prs : prsE b1L = 82 := by decide +kernel
theorem b1_head : headE b1L = 0 := by decide +kernel
theorem b1_spt : sptL b1L = [1] := by decide +kernel
theorem EncP_b0 {er : Int} {l : List Nat} (h : EncP h0 B0L er l) : er = 0 ∧ l = b0L := by
  rcases h with ⟨h, _⟩ | ⟨_, h, _⟩ | ⟨_, _, h1, h2⟩
  · exact absurd h0_check h
  · exact absurd h0_fits h
  · exact ⟨h1, h2.trans b0_form⟩
end Go.Proofs.Ytbioanbokbhmgaa

/- plain: the walk. Conditions: none. -/
namespace Go.Proofs.Ytbioanbokbhmgaa
open Go.RowKit

theorem own_lit {w : World} {B : Nat} {C : Array Value} {l : List Nat} {n : Nat} (hC : C.toList = l.map bv) (hn : n = l.length) (hl : l.length ≤ maxLen) (hB : B ≤ w.heap.size) : OwnB (w.alloc (.cells C 5)) B (.slice (some ⟨w.heap.size, 0, none⟩) n n) l := by
  subst hn
  refine OwnB.of ?_
  have hz : C.size = l.length := by rw [← Array.length_toList, hC, List.length_map]
  have h := World.rowIs_alloc w C 5 (fun i => .int .u8 ((l.getD i 0 : Nat) : Int)) (by
    intro i hi
    rw [hz] at hi
    have h1 : C.toList[i]? = (l.map bv)[i]? := by rw [hC]
    rw [Array.getElem?_toList, List.getElem?_map, List.getElem?_eq_getElem hi] at h1
    rw [h1]
    show some (Value.int .u8 _) = some (Value.int .u8 _)
    rw [getD_in hi])
  rw [hz] at h
  exact own_of_row h hB hl
theorem OwnLL.two {w : World} {B : Nat} {A1 A2 : Option Addr} {c1 c2 n1 n2 : Nat} {l1 l2 : List Nat} (hn1 : n1 = l1.length) (hn2 : n2 = l2.length) (h1 : OwnB w B (.slice A1 n1 c1) l1) (h2 : OwnB w B (.slice A2 n2 c2) l2) (hB : B ≤ w.heap.size) : OwnLL (w.alloc (.cells #[.slice A1 n1 c1, .slice A2 n2 c2] 47)) B (.slice (some ⟨w.heap.size, 0, none⟩) 2 2) [l1, l2] := by
  subst hn1 hn2
  refine ⟨fun i => if i = 0 then A1 else A2, fun i => if i = 0 then c1 else c2, ?_, fun i hi => ?_⟩
  · exact own_of_row (World.rowIs_alloc w #[.slice A1 l1.length c1, .slice A2 l2.length c2] 47 (fun i => .slice (if i = 0 then A1 else A2) (([l1, l2] : List (List Nat)).getD i []).length (if i = 0 then c1 else c2)) (by
      intro i hi
      match i, hi with
      | 0, _ => rfl
      | 1, _ => rfl)) hB (by decide)
  · have hi : i < 2 := hi
    have h3 : i = 0 ∨ i = 1 := by omega
    rcases h3 with rfl | rfl
    · exact h1.kept ((Below.refl _ _).alloc (Nat.le_refl _) _)
    · exact h2.kept ((Below.refl _ _).alloc (Nat.le_refl _) _)
theorem results_cell1 {P : Program} {fn : Func} {T : TypeId} {s : Tmp} {tmps : Array Value} {g : Nat} {cs : Array Value} {w : World} (hr : fn.results = #[.cell s T]) (hs : tmps.getD s undef = .pointer (some ⟨g, 0, none⟩)) (hl : (loadVar T ⟨g, 0, none⟩).run P w = .ok (.agg cs) w) :
    (results fn tmps).run P w = .ok (.agg cs) w := by
  simp only [Array.getD_eq_getD_getElem?] at hs
  simp [results, hr, hs, hl, asAddr]
theorem own_rl {w : World} {B n c : Nat} {A : Option Addr} {l : List Nat} (h : OwnB w B (.slice A n c) l) : RL w A l := by
  obtain ⟨A', c', e, _, _, r, _⟩ := h.rd
  injection e with e
  subst e
  exact r
theorem plain_own (W : World) (B s : Nat) (h : W.heap.size = s) (hB : B ≤ s) : OwnLL (((W.alloc (.cells #[.int .u8 9, .int .u8 8, .int .u8 7, .int .u8 6] 5)).alloc (.cells #[.int .u8 5] 5)).alloc (.cells #[.slice (some ⟨s, 0, none⟩) 4 4, .slice (some ⟨s + 1, 0, none⟩) 1 1] 47)) B (.slice (some ⟨s + 1 + 1, 0, none⟩) 2 2) B0L := by
  subst h
  have o1 := own_lit (w := W) (B := B) (C := #[.int .u8 9, .int .u8 8, .int .u8 7, .int .u8 6]) (l := [9, 8, 7, 6]) (n := 4) rfl rfl (by decide) hB
  have o2 := own_lit (w := W.alloc (.cells #[.int .u8 9, .int .u8 8, .int .u8 7, .int .u8 6] 5)) (B := B) (C := #[.int .u8 5]) (l := [5]) (n := 1) rfl rfl (by decide) (by simp; omega)
  have e1 : (W.alloc (.cells #[.int .u8 9, .int .u8 8, .int .u8 7, .int .u8 6] 5)).heap.size = W.heap.size + 1 := by simp
  rw [e1] at o2
  have o3 := OwnLL.two (l1 := [9, 8, 7, 6]) (l2 := [5]) rfl rfl (o1.kept ((Below.refl _ _).alloc (Nat.le_refl _) _)) o2 (by simp; omega)
  have e2 : ((W.alloc (.cells #[.int .u8 9, .int .u8 8, .int .u8 7, .int .u8 6] 5)).alloc (.cells #[.int .u8 5] 5)).heap.size = W.heap.size + 1 + 1 := by simp
  rw [e2] at o3
  exact o3
theorem own_form {w : World} {B : Nat} {v : Value} {l : List Nat} (h : OwnB w B v l) (hl : 0 < l.length) : ∃ g c, v = .slice (some ⟨g, 0, none⟩) l.length c ∧ B ≤ g ∧ g < w.heap.size ∧ (∀ i, w.frozen? ⟨g, i, none⟩ = false) ∧ l.length ≤ c := by
  obtain ⟨g, c, e, h1, h2, h3, h4⟩ := Own.form h.own hl
  exact ⟨g, c, e, h1, h2, h4, h3⟩
set_option maxRecDepth 100000 in
set_option maxHeartbeats 4000000 in
theorem plain_any (w : World) : Calls Try.prog 64 #[] w fun e w' => ∃ A c, e = .returned (.agg #[.int .u8 1, .int .u8 1, .int .u8 1, .int .u8 1, .int .u8 1, .int .u8 1, .int .u8 1, .int .u8 1, .int .i64 2, .int .i64 1, .int .i64 4, .string ⟨#[97]⟩, .int .i64 10, .int .i64 2, .int .i64 3, .int .i64 5, .slice A 2 c]) ∧ OwnLL w' w.heap.size (.slice A 2 c) B0L ∧ Below w.heap.size w w' := by
  go_enter Try.func64, Try.ntmps64
  go_wp2_with (refine wpList_storeS rfl (.tmp 0) (.tmp 21) rfl w.heap.size #[.int .u8 1, .int .u8 1, .int .u8 1, .int .u8 1, .int .u8 1, .int .u8 1, .int .u8 1, .int .u8 1, .int .i64 2, .int .i64 1, .int .i64 4, .string ⟨#[97]⟩, .int .i64 10, .int .i64 2, .int .i64 3, .int .i64 5, .slice (some ⟨w.heap.size + 1 + 1 + 1 + 1, 0, none⟩) 2 2] rfl rfl rfl #[.int .u8 0, .int .u8 0, .int .u8 0, .int .u8 0, .int .u8 0, .int .u8 0, .int .u8 0, .int .u8 0, .int .i64 0, .int .i64 0, .int .i64 0, .string ⟨#[]⟩, .int .i64 0, .int .i64 0, .int .i64 0, .int .i64 0, .slice none 0 0] rfl ?c1 rfl ?_; intro w9 h9 g9 z9)
  have hz : (((((w.alloc (.cells #[.int .u8 1, .int .u8 1, .int .u8 1, .int .u8 1, .int .u8 1, .int .u8 1, .int .u8 1, .int .u8 1, .int .i64 2, .int .i64 1, .int .i64 4, .string ⟨#[97]⟩, .int .i64 10, .int .i64 2, .int .i64 3, .int .i64 5, .slice (some ⟨w.heap.size + 1 + 1 + 1 + 1, 0, none⟩) 2 2] 46)).alloc (.cells #[.int .u8 1, .int .u8 1, .int .u8 1, .int .u8 1, .int .u8 1, .int .u8 1, .int .u8 1, .int .u8 1, .int .i64 2, .int .i64 1, .int .i64 4, .string ⟨#[97]⟩, .int .i64 10, .int .i64 2, .int .i64 3, .int .i64 5, .slice (some ⟨w.heap.size + 1 + 1 + 1 + 1, 0, none⟩) 2 2] 46)).alloc (.cells #[.int .u8 9, .int .u8 8, .int .u8 7, .int .u8 6] 5)).alloc (.cells #[.int .u8 5] 5)).alloc (.cells #[.slice (some ⟨w.heap.size + 1 + 1, 0, none⟩) 4 4, .slice (some ⟨w.heap.size + 1 + 1 + 1, 0, none⟩) 1 1] 47)).heap[w.heap.size]? = some (.cells #[.int .u8 1, .int .u8 1, .int .u8 1, .int .u8 1, .int .u8 1, .int .u8 1, .int .u8 1, .int .u8 1, .int .i64 2, .int .i64 1, .int .i64 4, .string ⟨#[97]⟩, .int .i64 10, .int .i64 2, .int .i64 3, .int .i64 5, .slice (some ⟨w.heap.size + 1 + 1 + 1 + 1, 0, none⟩) 2 2] 46 (0, 0)) := by
    refine ((((((Below.refl (w.alloc (.cells #[.int .u8 1, .int .u8 1, .int .u8 1, .int .u8 1, .int .u8 1, .int .u8 1, .int .u8 1, .int .u8 1, .int .i64 2, .int .i64 1, .int .i64 4, .string ⟨#[97]⟩, .int .i64 10, .int .i64 2, .int .i64 3, .int .i64 5, .slice (some ⟨w.heap.size + 1 + 1 + 1 + 1, 0, none⟩) 2 2] 46)).heap.size _).alloc (Nat.le_refl _) _).alloc (by simp) _).alloc (by simp) _).alloc (by simp) _).block w.heap.size (by simp)).trans (heap_alloc_new w _)
  have hl : (loadVar 46 ⟨w.heap.size, 0, none⟩).run Try.prog (((((w.alloc (.cells #[.int .u8 1, .int .u8 1, .int .u8 1, .int .u8 1, .int .u8 1, .int .u8 1, .int .u8 1, .int .u8 1, .int .i64 2, .int .i64 1, .int .i64 4, .string ⟨#[97]⟩, .int .i64 10, .int .i64 2, .int .i64 3, .int .i64 5, .slice (some ⟨w.heap.size + 1 + 1 + 1 + 1, 0, none⟩) 2 2] 46)).alloc (.cells #[.int .u8 1, .int .u8 1, .int .u8 1, .int .u8 1, .int .u8 1, .int .u8 1, .int .u8 1, .int .u8 1, .int .i64 2, .int .i64 1, .int .i64 4, .string ⟨#[97]⟩, .int .i64 10, .int .i64 2, .int .i64 3, .int .i64 5, .slice (some ⟨w.heap.size + 1 + 1 + 1 + 1, 0, none⟩) 2 2] 46)).alloc (.cells #[.int .u8 9, .int .u8 8, .int .u8 7, .int .u8 6] 5)).alloc (.cells #[.int .u8 5] 5)).alloc (.cells #[.slice (some ⟨w.heap.size + 1 + 1, 0, none⟩) 4 4, .slice (some ⟨w.heap.size + 1 + 1 + 1, 0, none⟩) 1 1] 47)) = .ok (.agg #[.int .u8 1, .int .u8 1, .int .u8 1, .int .u8 1, .int .u8 1, .int .u8 1, .int .u8 1, .int .u8 1, .int .i64 2, .int .i64 1, .int .i64 4, .string ⟨#[97]⟩, .int .i64 10, .int .i64 2, .int .i64 3, .int .i64 5, .slice (some ⟨w.heap.size + 1 + 1 + 1 + 1, 0, none⟩) 2 2]) _ := run_loadVar_row _ w.heap.size 46 46 _ (0, 0) _ hz Try.underlying46 rfl (by rw [info_S]; rfl)
  have hown := plain_own ((w.alloc (.cells #[.int .u8 1, .int .u8 1, .int .u8 1, .int .u8 1, .int .u8 1, .int .u8 1, .int .u8 1, .int .u8 1, .int .i64 2, .int .i64 1, .int .i64 4, .string ⟨#[97]⟩, .int .i64 10, .int .i64 2, .int .i64 3, .int .i64 5, .slice (some ⟨w.heap.size + 1 + 1 + 1 + 1, 0, none⟩) 2 2] 46)).alloc (.cells #[.int .u8 1, .int .u8 1, .int .u8 1, .int .u8 1, .int .u8 1, .int .u8 1, .int .u8 1, .int .u8 1, .int .i64 2, .int .i64 1, .int .i64 4, .string ⟨#[97]⟩, .int .i64 10, .int .i64 2, .int .i64 3, .int .i64 5, .slice (some ⟨w.heap.size + 1 + 1 + 1 + 1, 0, none⟩) 2 2] 46)) w.heap.size (w.heap.size + 1 + 1) (by simp) (by omega)
  have hb : Below w.heap.size w (((((w.alloc (.cells #[.int .u8 1, .int .u8 1, .int .u8 1, .int .u8 1, .int .u8 1, .int .u8 1, .int .u8 1, .int .u8 1, .int .i64 2, .int .i64 1, .int .i64 4, .string ⟨#[97]⟩, .int .i64 10, .int .i64 2, .int .i64 3, .int .i64 5, .slice (some ⟨w.heap.size + 1 + 1 + 1 + 1, 0, none⟩) 2 2] 46)).alloc (.cells #[.int .u8 1, .int .u8 1, .int .u8 1, .int .u8 1, .int .u8 1, .int .u8 1, .int .u8 1, .int .u8 1, .int .i64 2, .int .i64 1, .int .i64 4, .string ⟨#[97]⟩, .int .i64 10, .int .i64 2, .int .i64 3, .int .i64 5, .slice (some ⟨w.heap.size + 1 + 1 + 1 + 1, 0, none⟩) 2 2] 46)).alloc (.cells #[.int .u8 9, .int .u8 8, .int .u8 7, .int .u8 6] 5)).alloc (.cells #[.int .u8 5] 5)).alloc (.cells #[.slice (some ⟨w.heap.size + 1 + 1, 0, none⟩) 4 4, .slice (some ⟨w.heap.size + 1 + 1 + 1, 0, none⟩) 1 1] 47)) := (((((Below.refl _ _).alloc (Nat.le_refl _) _).alloc (by simp) _).alloc (by simp; omega) _).alloc (by simp; omega) _).alloc (by simp; omega) _
  exact bodyPost_ret (results_cell1 Try.results64 rfl hl) rfl ⟨_, _, rfl, hown, hb⟩
end Go.Proofs.Ytbioanbokbhmgaa

/- awake: the walk. Conditions: none. -/
namespace Go.Proofs.Ytbioanbokbhmgaa
open Go.RowKit

/-- A shard's value and its rows, as a fact. -/
def IsSd (v : Value) (w : World) : Prop := ∃ A c, v = .agg #[.int .u8 1, .int .u8 1, .int .u8 1, .int .u8 1, .int .u8 1, .int .u8 1, .int .u8 1, .int .u8 1, .int .i64 2, .int .i64 1, .int .i64 4, .string ⟨#[97]⟩, .int .i64 10, .int .i64 2, .int .i64 3, .int .i64 5, .slice A 2 c] ∧ RLL w A B0L
def Fact.sd : Fact := ⟨IsSd, fun _ _ _ ⟨A, c, e, h⟩ hb => ⟨A, c, e, h.below hb⟩⟩
theorem OwnB.set {w : World} {B g c n : Nat} {l : List Nat} (h : OwnB w B (.slice (some ⟨g, 0, none⟩) n c) l) (hn : n = l.length) {i : Nat} (hi : i < n) (x : Nat) : OwnB (w.setCell ⟨g, i, none⟩ (.int .u8 (x : Int))) B (.slice (some ⟨g, 0, none⟩) n c) (l.set i x) := by
  subst hn
  refine OwnB.of ?_
  rw [List.length_set]
  refine (Own.set1 h.own hi (.int .u8 (x : Int))).congr fun j hj => ?_
  by_cases e : j = i
  · subst e; simp [List.getD_eq_getElem?_getD, hj]
  · rw [if_neg e]
    simp [List.getD_eq_getElem?_getD, Ne.symm e]
theorem h0_wf : HdW h0 := by
  refine ⟨rfl, rfl, rfl, rfl, rfl, rfl, rfl, rfl, rfl, rfl, rfl, rfl, rfl, rfl, rfl, by decide⟩
set_option maxRecDepth 100000 in
set_option maxHeartbeats 8000000 in
theorem awake_any (w : World) : Calls Try.prog 35 #[] w fun e w' => e = .returned (.bool true) ∧ Below w.heap.size w w' := by
  go_enter Try.func35, Try.ntmps35
  go_wp2_with fail
  refine (plain_any w).mono ?_
  rintro e w1 ⟨A1, c1, rfl, hO1, hb1⟩
  obtain ⟨A1', c1', e1, _, hr1⟩ := hO1.rd
  injection e1 with e1 e2 e3
  clear e2
  subst e1 e3
  have HF := Lib.hid hb1
  have HR1 := Lib.hid hr1
  have hs1 := hb1.size
  clear hO1 hr1 hb1
  go_wp2_with fail
  refine (enc_any h0 A1 c1 B0L w1 h0_bytes B0L_lt (by decide) (by decide) HR1.out).mono ?_
  rintro e w2 ⟨o, er, l, rfl, hP, hO, hb2⟩
  obtain ⟨rfl, rfl⟩ := EncP_b0 hP
  obtain ⟨g, c, rfl, hBg, hgl, hfz, hnc⟩ := own_form hO (by decide)
  have HF := Lib.hid (HF.out.trans (hb2.mono HF.out.size))
  have hOB := hO.mono hs1
  have HOB := Lib.hid (show OwnB w2 w.heap.size (.slice (some ⟨g, 0, none⟩) 54 c) b0L from hOB)
  have hcm : c ≤ maxLen := by obtain ⟨A', c', e', _, hm, _⟩ := hO.rd; injection e' with _ _ e3; omega
  have hnc : 54 ≤ c := hnc
  have hs2 := HF.out.size
  clear hO hOB hP hb2 hfz
  rw [show b0L.length = 54 from rfl]
  go_wp2_with fail
  refine (num_any 0 w2).mono ?_
  rintro e w3 ⟨rfl, rfl⟩
  go_wp2_with fail
  have hP := prs_any opn_all (some ⟨g, 0, none⟩) c b0L w2 b0_lt (by decide) hnc hcm (own_rl HOB.out)
  unfold PrsPost at hP
  rw [b0_hd, b0_prs, b0_blk, show b0L.length = 54 from rfl] at hP
  refine hP.mono ?_
  rintro e w3 ⟨v3, rfl, hO3, hb3⟩
  clear hP
  obtain ⟨A3, c3, e3, _, hr3⟩ := hO3.rd
  subst e3
  have HF := Lib.hid (HF.out.trans (hb3.mono HF.out.size))
  have HOB := Lib.hid (HOB.out.kept hb3)
  have HR3a := Lib.hid hr3
  have hgl3 : g < w3.heap.size := Nat.lt_of_lt_of_le hgl hb3.size
  clear hO3 hr3 hb3
  go_wp2_with (refine wpList_storeNewS rfl (.tmp 3) (.tmp 25) rfl #[.int .u8 1, .int .u8 1, .int .u8 1, .int .u8 1, .int .u8 1, .int .u8 1, .int .u8 1, .int .u8 1, .int .i64 2, .int .i64 1, .int .i64 4, .string ⟨#[97]⟩, .int .i64 10, .int .i64 2, .int .i64 3, .int .i64 5, .slice A3 2 c3] rfl rfl rfl rfl rfl ?_)
  have hbn := (Below.refl w3.heap.size w3).alloc (Nat.le_refl _) (.cells #[.int .u8 1, .int .u8 1, .int .u8 1, .int .u8 1, .int .u8 1, .int .u8 1, .int .u8 1, .int .u8 1, .int .i64 2, .int .i64 1, .int .i64 4, .string ⟨#[97]⟩, .int .i64 10, .int .i64 2, .int .i64 3, .int .i64 5, .slice A3 2 c3] 46)
  have HF := Lib.hid (HF.out.trans (hbn.mono HF.out.size))
  have HOB := Lib.hid (HOB.out.kept hbn)
  have hr3 := HR3a.out.below hbn
  have hz3 := heap_alloc_new w3 (.cells #[.int .u8 1, .int .u8 1, .int .u8 1, .int .u8 1, .int .u8 1, .int .u8 1, .int .u8 1, .int .u8 1, .int .i64 2, .int .i64 1, .int .i64 4, .string ⟨#[97]⟩, .int .i64 10, .int .i64 2, .int .i64 3, .int .i64 5, .slice A3 2 c3] 46)
  have hgl4 : g < (w3.alloc (.cells #[.int .u8 1, .int .u8 1, .int .u8 1, .int .u8 1, .int .u8 1, .int .u8 1, .int .u8 1, .int .u8 1, .int .i64 2, .int .i64 1, .int .i64 4, .string ⟨#[97]⟩, .int .i64 10, .int .i64 2, .int .i64 3, .int .i64 5, .slice A3 2 c3] 46)).heap.size := by simp; omega
  obtain ⟨b3, hb3e⟩ : ∃ b3, b3 = w3.heap.size := ⟨_, rfl⟩
  rw [← hb3e] at hz3 ⊢
  clear hb3e hbn
  generalize w3.alloc (.cells #[.int .u8 1, .int .u8 1, .int .u8 1, .int .u8 1, .int .u8 1, .int .u8 1, .int .u8 1, .int .u8 1, .int .i64 2, .int .i64 1, .int .i64 4, .string ⟨#[97]⟩, .int .i64 10, .int .i64 2, .int .i64 3, .int .i64 5, .slice A3 2 c3] 46) = w4 at *
  have HZ3 := Lib.hid (fun (w' : World) (h : Below w4.heap.size w4 w') => (h.block b3 (Array.getElem?_eq_some_iff.1 hz3).1).trans hz3)
  have HR3 := Lib.hid (fun (w' : World) (h : Below w4.heap.size w4 w') => hr3.below h)
  clear hz3 hr3
  refine wp_region_factsG [.is (.int .i64 0), .is (.int .i64 0), .is (.bool false), .is (.bool false), .sd, .sd, .is (.bool true), .is (.bool false), .is (.bool false)] mixed (by kernel_rfl) (fun hdr => ⟨?_, ?_, ?_, ?_, ?_, ?_, ?_, ?_, ?_, trivial⟩) (fun wE hbE => ?_)
  · intro a w2 hb hs K hK
    repeat (intro _)
    refine ⟨?_⟩
    have h4 : a.tmps[4]?.getD undef = .int .i64 0 := hs 4 (by kernel_rfl)
    rw [if_pos (by rfl)]
    go_simp
    exact hK.out _ _ (Below.refl _ _) rfl
  · intro a w2 hb hs K hK
    repeat (intro _)
    refine ⟨?_⟩
    have h27 : a.tmps[27]?.getD undef = .int .i64 0 := by assumption
    rw [if_pos (by rfl)]
    go_simp
    refine (num_any 0 w2).mono ?_
    rintro e w3 ⟨rfl, rfl⟩
    exact hK.out _ _ (Below.refl _ _) rfl
  · intro a w2 hb hs K hK
    repeat (intro _)
    refine ⟨?_⟩
    have h28 : a.tmps[28]?.getD undef = .int .i64 0 := by assumption
    rw [if_pos (by rfl)]
    go_simp
    exact hK.out _ _ (Below.refl _ _) rfl
  · intro a w2 hb hs K hK
    repeat (intro _)
    refine ⟨?_⟩
    have h29 : a.tmps[29]?.getD undef = .bool false := by assumption
    rw [if_pos (by rfl)]
    go_simp
    exact hK.out _ _ (Below.refl _ _) rfl
  · intro a w2 hb hs K hK
    repeat (intro _)
    refine ⟨?_⟩
    have h3 : a.tmps[3]?.getD undef = .pointer (some ⟨b3, 0, none⟩) := hs 3 (by kernel_rfl)
    have hz3 := HZ3.out w2 (hdr.out.trans (hb.mono hdr.out.size))
    have hr3 := HR3.out w2 (hdr.out.trans (hb.mono hdr.out.size))
    obtain ⟨c0, c1, c2, c3, c4, c5, c6, c7, c8, c9, c10, c11, c12, c13, c14, c15, c16⟩ := cells_ofS hz3
    have hgd : a.tmps[30]?.getD undef = .bool false := by assumption
    rw [if_pos (wanted_yes (j := 3) (b := false) rfl rfl rfl hgd)]
    go_simp
    exact hK.out _ _ (Below.refl _ _) ⟨_, _, rfl, hr3⟩
  · intro a w2 hb hs K hK
    repeat (intro _)
    refine ⟨?_⟩
    have hgd : a.tmps[30]?.getD undef = .bool false := by assumption
    rw [if_pos (wanted_yes (j := 3) (b := false) rfl rfl rfl hgd)]
    go_simp
    refine (plain_any w2).mono ?_
    rintro e w3 ⟨A, c, rfl, hO, hb3⟩
    obtain ⟨A', c', e', _, hr⟩ := hO.rd
    injection e' with e1 e2 e3
    clear e2
    subst e1 e3
    exact hK.out _ _ hb3 ⟨_, _, rfl, hr⟩
  · intro a w2 hb hs K hK
    repeat (intro _)
    refine ⟨?_⟩
    obtain ⟨A31, c31, h31, r31⟩ : IsSd (a.tmps[31]?.getD undef) w2 := by assumption
    obtain ⟨A32, c32, h32, r32⟩ : IsSd (a.tmps[32]?.getD undef) w2 := by assumption
    have hgd : a.tmps[30]?.getD undef = .bool false := by assumption
    rw [if_pos (wanted_yes (j := 3) (b := false) rfl rfl rfl hgd)]
    go_simp
    refine (same_any h0 h0 A31 A32 c31 c32 B0L B0L w2 h0_wf h0_wf (by decide) B0L_lt B0L_lt r31 r32 (by decide)).mono ?_
    rintro e w3 ⟨q, rfl, hq, hb3⟩
    obtain rfl : q = true := hq.2 ⟨rfl, rfl⟩
    exact hK.out _ _ hb3 rfl
  · intro a w2 hb hs K hK
    repeat (intro _)
    refine ⟨?_⟩
    have h33 : a.tmps[33]?.getD undef = .bool true := by assumption
    have hgd : a.tmps[30]?.getD undef = .bool false := by assumption
    rw [if_pos (wanted_yes (j := 3) (b := false) rfl rfl rfl hgd)]
    go_simp
    exact hK.out _ _ (Below.refl _ _) rfl
  · intro a w2 hb hs K hK
    repeat (intro _)
    refine ⟨?_⟩
    have h30 : a.tmps[30]?.getD undef = .bool false := by assumption
    have h34 : a.tmps[34]?.getD undef = .bool false := by assumption
    rw [if_pos (by rfl)]
    go_simp
    exact hK.out _ _ (Below.refl _ _) rfl
  intro v0 f0 v1 f1 v2 f2 v3 f3 v4 f4 v5 f5 v6 f6 v7 f7 v8 f8
  refine NoPanic.normal ?_
  simp only [Act.put, List.setIfInBounds_toArray, List.set_cons_zero, List.set_cons_succ]
  obtain rfl : v8 = .bool false := f8
  clear f0 f1 f2 f3 f4 f5 f6 f7
  have HF := Lib.hid (HF.out.trans (hbE.mono HF.out.size))
  have HOB := Lib.hid (HOB.out.kept hbE)
  have hgl5 := Nat.lt_of_lt_of_le hgl4 hbE.size
  clear hbE HZ3 HR3
  obtain ⟨w5, hw5⟩ : ∃ w5, w5 = wE := ⟨_, rfl⟩
  rw [← hw5] at HF HOB hgl5 ⊢
  clear hw5
  have hcell : w5.cell? ⟨g, 53, none⟩ = some (.int .u8 159) := Own.cell1 HOB.out.own (i := 53) (by decide)
  have hfz : w5.frozen? ⟨g, 53, none⟩ = false := (Own.form HOB.out.own (by decide)).elim fun g' h => h.elim fun c' h => by
    obtain ⟨e, _, _, _, h4⟩ := h
    injection e with e
    injection e with e
    injection e with e
    subst e
    exact h4 53
  have hxor : bits .xor .u8 159 1 = 158 := by decide
  have h53 : (53 : Int) < 54 := by decide
  have HOB1 := Lib.hid (show OwnB (w5.setCell ⟨g, 53, none⟩ (.int .u8 158)) w.heap.size (.slice (some ⟨g, 0, none⟩) 54 c) b1L from OwnB.set HOB.out rfl (i := 53) (by decide) 158)
  have HF6 := Lib.hid (HF.out.setCell (p := ⟨g, 53, none⟩) (by show w.heap.size ≤ g; omega) (.int .u8 158))
  go_wp2_with fail
  obtain ⟨w6, hw6⟩ : ∃ w6, w6 = w5.setCell ⟨g, 53, none⟩ (.int .u8 158) := ⟨_, rfl⟩
  have hgl6 : g < w6.heap.size := by rw [hw6]; simpa using hgl5
  rw [← hw6] at HOB1 HF6 ⊢
  clear hw6 hcell hfz hxor h53 HOB HF
  have HF := HF6
  clear HF6
  have hP := prs_any opn_all (some ⟨g, 0, none⟩) c b1L w6 b1_lt (by decide) hnc hcm (own_rl HOB1.out)
  unfold PrsPost at hP
  rw [show prsH b1L = zeroHd by unfold prsH; rw [if_neg (by rw [b1_prs]; decide)], b1_prs, show prsB b1L = [] by unfold prsB; rw [if_neg (by rw [b1_prs]; decide)], show b1L.length = 54 from rfl] at hP
  refine hP.mono ?_
  rintro e w7 ⟨v7, rfl, hO7, hb7⟩
  clear hP
  obtain ⟨A7, c7, e7, _, hr7⟩ := hO7.rd
  subst e7
  have HF := Lib.hid (HF.out.trans (hb7.mono HF.out.size))
  have HOB := Lib.hid (HOB1.out.kept hb7)
  clear hO7 hr7 hb7 HOB1
  go_wp2_with (refine wpList_storeNewS rfl (.tmp 5) (.tmp 45) rfl #[.int .u8 0, .int .u8 0, .int .u8 0, .int .u8 0, .int .u8 0, .int .u8 0, .int .u8 0, .int .u8 0, .int .i64 0, .int .i64 0, .int .i64 0, .string ⟨#[]⟩, .int .i64 0, .int .i64 0, .int .i64 0, .int .i64 0, .slice A7 0 c7] rfl rfl rfl rfl rfl ?_)
  have hbn := (Below.refl w7.heap.size w7).alloc (Nat.le_refl _) (.cells #[.int .u8 0, .int .u8 0, .int .u8 0, .int .u8 0, .int .u8 0, .int .u8 0, .int .u8 0, .int .u8 0, .int .i64 0, .int .i64 0, .int .i64 0, .string ⟨#[]⟩, .int .i64 0, .int .i64 0, .int .i64 0, .int .i64 0, .slice A7 0 c7] 46)
  have HF := Lib.hid (HF.out.trans (hbn.mono HF.out.size))
  have HOB := Lib.hid (HOB.out.kept hbn)
  clear hbn
  obtain ⟨w8, hw8⟩ : ∃ w8, w8 = w7.alloc (.cells #[.int .u8 0, .int .u8 0, .int .u8 0, .int .u8 0, .int .u8 0, .int .u8 0, .int .u8 0, .int .u8 0, .int .i64 0, .int .i64 0, .int .i64 0, .string ⟨#[]⟩, .int .i64 0, .int .i64 0, .int .i64 0, .int .i64 0, .slice A7 0 c7] 46) := ⟨_, rfl⟩
  rw [← hw8] at HF HOB ⊢
  clear hw8
  go_wp2_with fail
  have hP := spt_any opn_all (some ⟨g, 0, none⟩) c b1L w8 b1_lt (by decide) hnc hcm (own_rl HOB.out)
  unfold SptPost at hP
  rw [b1_head, b1_spt, show b1L.length = 54 from rfl] at hP
  refine hP.mono ?_
  rintro e w9 ⟨v9, rfl, hO9, hb9⟩
  clear hP
  obtain ⟨A9, c9, e9, _, _, hr9, _⟩ := Own.rd hO9
  subst e9
  have HF := Lib.hid (HF.out.trans (hb9.mono HF.out.size))
  have HR9 := Lib.hid (show Rd w9 A9 1 (fun i => .int .i64 (1 : Int)) from hr9.congr fun i hi => by
    have : i = 0 := by have : i < 1 := hi; omega
    subst this; rfl)
  clear hO9 hr9 hb9 HOB
  go_wp2_with fail
  refine (num_any 82 w9).mono ?_
  rintro e w10 ⟨rfl, rfl⟩
  go_wp2_with fail
  refine (num_any 0 w9).mono ?_
  rintro e w10 ⟨rfl, rfl⟩
  go_wp2_with fail
  have hbn := (Below.refl w9.heap.size w9).alloc (Nat.le_refl _) (.cells #[.int .i64 1] 3)
  have hrn : Rd (w9.alloc (.cells #[.int .i64 1] 3)) (some ⟨w9.heap.size, 0, none⟩) 1 (fun i => .int .i64 (1 : Int)) := row_rd (World.rowIs_alloc w9 #[.int .i64 1] 3 (fun i => .int .i64 (1 : Int)) (by
    intro i hi
    have : i = 0 := by have : i < 1 := hi; omega
    subst this; rfl))
  refine (sameInts_any A9 _ 1 c9 _ (fun _ => (1 : Int)) _ (by decide) (HR9.out.below hbn) hrn).mono ?_
  rintro e w10 ⟨rfl, hd⟩
  have HF := Lib.hid (hd.below' (HF.out.trans (hbn.mono HF.out.size)))
  clear hd hbn hrn
  go_wp2_with fail
  go_ret
  exact ⟨rfl, HF.out⟩
end Go.Proofs.Ytbioanbokbhmgaa

/- A guarded operation that is wanted, walked as a bare one. Conditions: as the theorem has them. -/
namespace Go.Proofs.Ytbioanbokbhmgaa
open Go.RowKit

theorem wpList_bare {P : Program} {ops : Array Oper} {rest : List Oper} {o : Oper} {a : Act} {w : World} {Q : Exit → Act → World → Prop} {j d : Nat} {b : Bool} {oj : Oper} (hg : o.guard = some (j, b)) (hj : ops[j]? = some oj) (hd : oj.dst = some d) (hv : a.tmps[d]?.getD undef = .bool b)
    (h : wpList P ops Q ({ o with guard := none } :: rest) a w) : wpList P ops Q (o :: rest) a w := by
  have h1 : Region.wanted o (yielded ops a.tmps) = true := wanted_yes hg hj hd hv
  unfold wpList at h ⊢
  rw [if_pos h1]
  rw [if_pos (show Region.wanted { o with guard := none } (yielded ops a.tmps) = true from rfl)] at h
  exact h
/-- A conversion that is known, in a region that draws its order. -/
theorem wp_conv {P : Program} {o : Oper} {a : Act} {w : World} {K : Act → World → Prop} {Q : Exit → Act → World → Prop} (t1 t2 : TypeId) (x : Operand) (ho : o.op = .convert t1 t2 x) (v u : Value) (hx : a.eval x = v) (hc : (convert t1 t2 v).run P w = .ok u w) (h : K (a.put o.dst u) w) : o.wp P a w K Q := by
  unfold Oper.wp execOp
  simp only [ho, hx, Sem.run_bind, Sem.run_pure, Result.andThen_ok, hc]
  exact h
/-- What stands ready of the head's parts. -/
theorem prsH_bytes {b : List Nat} (hx : ∀ x ∈ b, x < 256) : HdB (prsH b) := by
  unfold prsH; split
  · exact hdOf_bytes hx
  · unfold HdB zeroHd; decide
theorem blksL_short {b : List Nat} : ∀ n, ∀ l ∈ blksL b n, l.length ≤ b.length
  | 0, l, h => by simp [blksL] at h
  | n + 1, l, h => by
    rcases List.mem_append.1 (show l ∈ blksL b n ++ [sl b (offF (hdOf b) n) (lenF (hdOf b) n)] from h) with h | h
    · exact blksL_short n l h
    · simp at h; subst h; unfold sl; rw [List.length_take, List.length_drop]; omega
theorem prsB_short {b : List Nat} : ∀ l ∈ prsB b, l.length ≤ b.length := by
  unfold prsB; split
  · exact blksL_short _
  · intro l h; cases h
/-- Bytes that Parse takes. -/
theorem prs_take {b : List Nat} (hx : ∀ x ∈ b, x < 256) (h : prsE b = 0) : headE b = 0 ∧ rdH b = prsH b ∧ sptL b = [] ∧ checkE (prsH b) = 0 ∧ ∀ er l, EncP (prsH b) (prsB b) er l → er = 0 ∧ l = b := by
  obtain ⟨he, hf, hF⟩ := prs_back hx h
  have hP : prsH b = hdOf b := if_pos h
  have hB : prsB b = blksL b (sizeN (hdOf b).K (hdOf b).M (hdOf b).B (hdOf b).size) := if_pos h
  have hc : checkE (hdOf b) = 0 := (headE_facts he).2.2.2.2.2
  refine ⟨he, ?_, ?_, by rw [hP]; exact hc, fun er l hE => ?_⟩
  · rw [hP]; exact if_pos he
  · unfold sptL
    rw [if_pos he]
    by_cases hb : badL b (sizeN (hdOf b).K (hdOf b).M (hdOf b).B (hdOf b).size) = []
    · exact hb
    · exfalso
      unfold prsE at h
      rw [if_neg (by simpa using he)] at h
      split at h
      · omega
      · split at h
        · omega
        · simp at h
  · rw [hP, hB] at hE
    rcases hE with ⟨h1, _⟩ | ⟨_, h1, _⟩ | ⟨_, _, h1, h2⟩
    · exact absurd hc h1
    · exact absurd hf h1
    · exact ⟨h1, h2.trans hF⟩
/-- Bytes that Parse refuses. -/
theorem prs_refuse {b : List Nat} (h : prsE b ≠ 0) : prsH b = zeroHd ∧ prsB b = [] := ⟨if_neg h, if_neg h⟩
theorem prs_head {b : List Nat} (h : headE b ≠ 0) : prsE b = headE b ∧ rdH b = zeroHd ∧ sptL b = [] := by
  refine ⟨?_, if_neg h, if_neg h⟩
  unfold prsE; rw [if_pos h]
theorem prs_which {b : List Nat} (h : prsE b ≠ 0) (he : headE b = 0) : rdH b = hdOf b ∧ 0 ≤ lenE (hdOf b) ∧ ((prsE b = 70 ∧ (b.length : Int) < lenE (hdOf b)) ∨ (prsE b = 72 ∧ lenE (hdOf b) < (b.length : Int)) ∨ (prsE b = 82 ∧ (b.length : Int) = lenE (hdOf b) ∧ 0 < (sptL b).length)) := by
  have hn : 0 ≤ lenE (hdOf b) := by unfold lenE; split <;> omega
  refine ⟨if_pos he, hn, ?_⟩
  unfold prsE at h ⊢
  rw [if_neg (by simpa using he)] at h ⊢
  by_cases h1 : b.length < (lenE (hdOf b)).toNat
  · rw [if_pos h1]; exact .inl ⟨rfl, by omega⟩
  rw [if_neg h1] at h ⊢
  by_cases h2 : (lenE (hdOf b)).toNat < b.length
  · rw [if_pos h2]; exact .inr (.inl ⟨rfl, by omega⟩)
  rw [if_neg h2] at h ⊢
  by_cases h3 : ¬ badL b (sizeN (hdOf b).K (hdOf b).M (hdOf b).B (hdOf b).size) = []
  · rw [if_pos h3]
    refine .inr (.inr ⟨rfl, by omega, ?_⟩)
    unfold sptL
    rw [if_pos he]
    exact List.length_pos_iff.2 h3
  · rw [if_neg h3] at h; exact absurd rfl h
end Go.Proofs.Ytbioanbokbhmgaa
