/- What Powers answers: rows that lie apart. Conditions: numbers below 256. -/
import Derived.Test.YtpocjpodeahanaaAp3A
import Derived.Test.YtpocjpodeahanaaLawPow
import Derived.Test.YtpocjpodeahanaaSolO
namespace Go.Proofs.Ytpocjpodeahanaa
open Go.RowKit

theorem getD_mapR {n : Nat} {f : Nat → Rw} {j : Nat} (hj : j < n) : ((List.range n).map f).getD j rw0 = f j := by simp [List.getD, hj]
theorem Mx.ar {w : World} {B b tR e n c : Nat} {S : Nat → Nat} {f : Nat → Nat → Value} (h : Mx w B b tR e n S c c f) (hn : n ≤ maxLen) (hc : c ≤ maxLen) :
    ∃ R : List Rw, R.length = n ∧ OwnR w B tR (.slice (some ⟨b, 0, none⟩) R.length R.length) R ∧ AR w B e (fun k => B ≤ k ∧ k < w.heap.size) R ∧ ∀ r ∈ R, r.n = c := by
  have hlen : ((List.range n).map fun i => (⟨some ⟨S i, 0, none⟩, c, c, f i⟩ : Rw)).length = n := by simp
  have hrow : ∀ i, i < n → Own w B e 1 (.slice (some ⟨S i, 0, none⟩) c c) c (fun q => [f i q]) := fun i hi => own_of_row (h.row i hi) (h.los i hi) hc
  refine ⟨(List.range n).map fun i => ⟨some ⟨S i, 0, none⟩, c, c, f i⟩, hlen, OwnR.of ?_, ⟨fun r hr => ?_, ?_, fun r hr k hk => ?_⟩, fun r hr => ?_⟩
  · rw [hlen]
    exact (own_of_row h.top h.lob hn).congr fun i hi => by rw [getD_mapR hi]
  · obtain ⟨i, hi, rfl⟩ := List.mem_map.1 hr
    exact hrow i (List.mem_range.1 hi)
  · rw [List.pairwise_map]
    exact List.pairwise_iff_getElem.2 fun i j hi hj hij k hk e2 => by
      rw [List.getElem_range] at hk e2
      have e3 : some (S i) = some k := hk
      have e4 : some (S j) = some k := e2
      injection e3 with e3
      injection e4 with e4
      have := h.inj i j (by simpa using hi) (by simpa using hj) (by omega)
      omega
  · obtain ⟨i, hi, rfl⟩ := List.mem_map.1 hr
    exact (hrow i (List.mem_range.1 hi)).lt k hk
  · obtain ⟨i, hi, rfl⟩ := List.mem_map.1 hr
    rfl
set_option maxHeartbeats 400000 in
theorem powE_own (A : Option Addr) (n c : Nat) (g : Nat → Nat) (w : World) (hg : ∀ i, i < n → g i < 256) (hA : Rd w A n fun i => .int .u8 (g i)) :
    Calls Try.prog 37 #[.slice A n c, .int .i64 4, .int .u8 1] w fun e w' => ∃ (R : List Rw) (Av : Option Addr) (cv : Nat), e = .returned (.tuple #[.slice Av (pk n 4) cv, .int .i64 (perr n 4)]) ∧ R.length = pk n 4 ∧ OwnR w' w.heap.size 62 (.slice Av R.length cv) R ∧ AR w' w.heap.size 34 (fun k => w.heap.size ≤ k ∧ k < w'.heap.size) R ∧ (∀ r ∈ R, r.n = 4) ∧
      ME w' Av (pk n 4) (fun _ => 4) (fun i j => pw 256 1 (g i) j) ∧ Below w.heap.size w w' := by
  by_cases h2 : 255 < n
  · obtain ⟨e1, e2⟩ := perr_big (n := n) (cols := 4) (by decide) (.inr h2)
    refine (powE_bign A n c 4 1 w (by decide) (by decide) h2).mono ?_
    rintro e w' ⟨rfl, hb⟩
    rw [e1, e2]
    exact ⟨[], none, 0, rfl, rfl, OwnR.nil _ _ _, AR.nil _ _ _ _, fun r hr => by (cases hr), ⟨fun _ => none, fun _ => 0, Rd.zero _ _ _, fun i hi => absurd hi (by omega)⟩, hb⟩
  · obtain ⟨e1, e2⟩ := perr_ok (n := n) (cols := 4) (by decide) (by omega)
    refine (powE A n c 4 1 g w (by omega) (by decide) (by decide) hg hA).mono ?_
    rintro e w' ⟨b, S, rfl, hM, hb⟩
    obtain ⟨R, h1, h2, h3, h4⟩ := hM.ar (by unfold maxLen; omega) (by unfold maxLen; omega)
    rw [e1, e2]
    rw [h1] at h2
    refine ⟨R, some ⟨b, 0, none⟩, n, rfl, h1, by rw [h1]; exact h2, h3, h4, ⟨fun i => some ⟨S i, 0, none⟩, fun _ => 4, row_rd hM.top, fun i hi => row_rd (hM.row i hi)⟩, hb⟩
end Go.Proofs.Ytpocjpodeahanaa
