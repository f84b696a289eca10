/- bytes.Clone: the walk. Conditions: a length that memory bears. -/
import Derived.Test.YtjaaldandgfkgaaLnt0
namespace Go.Proofs.Ytjaaldandgfkgaa
open Go.RowKit

set_option maxRecDepth 20000 in
set_option maxHeartbeats 1000000 in
theorem clone_any (A : Option Addr) (n c : Nat) (f : Nat → Nat) (w : World) (hn : n ≤ 140737488351232) (hA : Rd w A n fun i => .int .u8 (f i : Nat)) :
    Calls Try.prog 56 #[.slice A n c] w fun e w' => ∃ v, e = .returned v ∧ Own w' w.heap.size 5 1 v n (fun j => [.int .u8 (f j : Nat)]) ∧ Below w.heap.size w w' := by
  rcases A with _ | ad
  · have hn0 : n = 0 := by
      rcases Nat.eq_zero_or_pos n with h | h
      · exact h
      · obtain ⟨_, _, e, _⟩ := hA 0 h; cases e
    subst hn0
    clear hA
    have hnil : ∀ w, (binOp .eql 43 (.slice none 0 c) (.slice none 0 0)).run Try.prog w = .ok (.bool true) w := fun w => Go.Lib.run_eql_slice_nil (P := Try.prog) w 43 5 none 0 c 0 0 Try.underlying43
    go_enter Try.func56, Try.ntmps56
    go_wp2
    go_ret
    exact ⟨_, rfl, Own.nil _ _ _ _ _, Below.refl _ _⟩
  · have HA := Lib.hid hA
    have hnil : ∀ w, (binOp .eql 43 (.slice (some ad) n c) (.slice none 0 0)).run Try.prog w = .ok (.bool false) w := fun w => Go.Lib.run_eql_slice_nil (P := Try.prog) w 43 5 (some ad) n c 0 0 Try.underlying43
    have hcells : Hid (∀ (j : Nat) (u : Value), ((List.range n).map fun j => Value.int .u8 (f j : Nat))[j]? = some u → (w.alloc (.cells #[] 5)).cell? (ad.add j) = some u) := fun j u hj => by
      have hlt : j < n := by have := (List.getElem?_eq_some_iff.1 hj).1; simpa using this
      obtain ⟨b', o', e1, hb', hc⟩ := hA j hlt
      injection e1 with e1; subst e1
      have hadd : (⟨b', o', none⟩ : Addr).add j = ⟨b', o' + j, none⟩ := by unfold Addr.add; split <;> simp_all
      rw [hadd, ((Below.refl w.heap.size w).alloc (Nat.le_refl _) _).cell hb', hc]; simpa [hlt] using hj
    have hown : Own (w.alloc (.cells #[] 5)) w.heap.size 5 1 (.slice (some ⟨w.heap.size, 0, none⟩) 0 0) 0 (fun _ => [.int .u8 0]) := own_of_row (World.rowIs_alloc w #[] 5 (fun _ => .int .u8 0) (by intro i hi; simp at hi)) (Nat.le_refl _) (by decide)
    have HOWN := Lib.hid hown
    obtain ⟨i0, hi, hz0, hz1, hz2⟩ := info_parts byteInfo
    have HI := Lib.hid hi; have HZ0 := Lib.hid hz0; have HZ1 := Lib.hid hz1; have HZ2 := Lib.hid hz2
    clear hA hown hi hz0 hz1 hz2
    go_enter Try.func56, Try.ntmps56
    go_wp2_with (at_builtin; refine wpList_append_own (w.alloc (.cells #[] 5)) rfl (.tmp 5) (.tmp 6) 43 rfl w.heap.size 5 i0 (.int .u8 0) 1 1 Try.underlying43 HI.out HZ0.out HZ1.out HZ2.out rfl (by decide) (.slice (some ⟨w.heap.size, 0, none⟩) 0 0) 0 [] rfl HOWN.out ad n c ((List.range n).map fun j => Value.int .u8 (f j : Nat)) rfl (by simp) hcells.out ?_ (by unfold maxLen; omega) (by omega) (by simp) ?_)
    · intro u hu
      obtain ⟨j, hj, rfl⟩ := List.mem_map.1 hu
      rfl
    · intro v' w' hown' hg _
      have hO : Own w' w.heap.size 5 1 v' n (fun j => [.int .u8 (f j : Nat)]) := by
        unfold Own; rw [flat1]; simpa using hown'
      have hbF : Below w.heap.size w w' := ((Below.refl w.heap.size w).alloc (Nat.le_refl _) (.cells #[] 5)).grown hg (by simp) (fun q hq => by simp [Value.ownBlock] at hq; omega)
      clear hown' hg
      go_wp2
      go_ret
      exact ⟨_, rfl, hO, hbF⟩
end Go.Proofs.Ytjaaldandgfkgaa
