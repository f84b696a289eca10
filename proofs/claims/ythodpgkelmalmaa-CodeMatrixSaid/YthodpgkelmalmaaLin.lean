/- The word of a sum, of scaled rows, of turned rows; in plain. Conditions: none. -/
import Derived.Test.YthodpgkelmalmaaTurn2
namespace Go.Proofs.Ythodpgkelmalmaa
open Go.RowKit

theorem el_fin (x : Fin 256) : el x.val = x := Fin.ext (el_val x.isLt)
theorem wrd_el {k : Nat} {g : Nat → Nat → Nat} {i c : Nat} : el (wrd k g i c) = gE.s k (fun t => gE.m (gE.cM el k i t) (el (g t c))) := el_fin _
theorem wrd_plus {k : Nat} {a b : Nat → Nat → Nat} {i c : Nat} : wrd k (fun j c => (gE.a (el (a j c)) (el (b j c))).val) i c = (gE.a (el (wrd k a i c)) (el (wrd k b i c))).val := by
  rw [wrd_el, wrd_el, ← gE.s_a]
  show (gE.s k _).val = _
  rw [gE.s_congr (g := fun t => gE.a (gE.m (gE.cM el k i t) (el (a t c))) (gE.m (gE.cM el k i t) (el (b t c)))) fun t _ => by rw [el_fin, gE.dist]]
theorem wrd_scale {k : Nat} {a : Nat → Nat → Nat} {s : Fin 256} {i c : Nat} : wrd k (fun j c => (gE.m (el (a j c)) s).val) i c = (gE.m (el (wrd k a i c)) s).val := by
  rw [wrd_el, gE.s_m']
  show (gE.s k _).val = _
  rw [gE.s_congr (g := fun t => gE.m (gE.m (gE.cM el k i t) (el (a t c))) s) fun t _ => by rw [el_fin, gE.m_assoc]]
theorem wrd_lo {k : Nat} {a : Nat → Nat → Nat} {i c : Nat} (hi : i < k) (h : a i c < 256) : wrd k a i c = a i c := by
  unfold wrd
  rw [gE.s_one hi]
  · show (gE.m (if i < k then gE.idm i i else _) _).val = _
    rw [if_pos hi]
    unfold Fd.idm
    rw [if_pos rfl, gE.u_m, el_val h]
  · intro j _ hne
    show gE.m (if i < k then gE.idm i j else _) _ = _
    rw [if_pos hi]
    unfold Fd.idm
    rw [if_neg (fun e => hne e.symm), gE.z_m]
theorem wrd_turn {k q : Nat} {a : Nat → Nat → Nat} {d : Nat → Nat} {i c : Nat} (hq : q < k) (ha : ∀ j, j < k → a j c < 256) (hd : d c < 256) : tw k q (wrd k a) d i c = wrd k (fun j c => if j = q then d c else a j c) i c := by
  unfold tw
  by_cases h1 : i = q
  · subst h1
    rw [if_pos rfl, wrd_lo hq (by rw [if_pos rfl]; exact hd), if_pos rfl]
  · rw [if_neg h1]
    by_cases h2 : i < k
    · rw [if_pos h2, wrd_lo h2 (ha i h2), wrd_lo h2 (by rw [if_neg h1]; exact ha i h2), if_neg h1]
    · rw [if_neg h2, wrd_lo hq (ha q hq), wrd_el]
      unfold wrd
      congr 1
      rw [gE.s_out hq (fun t => gE.m (gE.cM el k i t) (el (a t c))), gE.s_out hq (fun t => gE.m (gE.cM el k i t) (el (if t = q then d c else a t c)))]
      have h3 : (gE.s k fun t => if t = q then gE.z else gE.m (gE.cM el k i t) (el (if t = q then d c else a t c))) = gE.s k fun t => if t = q then gE.z else gE.m (gE.cM el k i t) (el (a t c)) := gE.s_congr fun t _ => by
        by_cases e : t = q
        · rw [if_pos e, if_pos e]
        · rw [if_neg e, if_neg e, if_neg e]
      rw [h3, if_pos rfl, gE.dist]
      generalize (gE.s k fun t => if t = q then gE.z else gE.m (gE.cM el k i t) (el (a t c))) = R
      generalize gE.m (gE.cM el k i q) (el (a q c)) = X
      generalize gE.m (gE.cM el k i q) (el (d c)) = Y
      rw [gE.a_assoc, gE.a_left R X Y, ← gE.a_assoc X X, gE.a_self, gE.z_a, gE.a_comm]
end Go.Proofs.Ythodpgkelmalmaa
