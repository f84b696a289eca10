/- Steps for shards in drawn regions: a head is loaded, two heads are compared. Conditions: as the theorems have them. -/
import Derived.Test.YtjaaldandgfkgaaShM
import Derived.Test.YtjaaldandgfkgaaSameS
namespace Go.Proofs.Ytjaaldandgfkgaa
open Go.RowKit

theorem wp_neqAgg {P : Program} {o : Oper} {a : Act} {w : World} {K : Act → World → Prop} {Q : Exit → Act → World → Prop} (t : TypeId) (x y : Operand) (ho : o.op = .binOp .neq t x y t)
    (cs ds : Array Value) (hx : a.eval x = .agg cs) (hy : a.eval y = .agg ds) (hq : P.eqGuardType P.depth t = false) (r : Bool) (he : (Op.equalIn 10000 t (.agg cs) (.agg ds)).run P w = .ok r w)
    (h : K (a.put o.dst (.bool (!r))) w) : o.wp P a w K Q := by
  have he2 : (Op.equal t (.agg cs) (.agg ds)).run P w = .ok r w := he
  unfold Oper.wp execOp
  simp only [ho, hx, hy]
  simp [eqGuard, binOp, hq, he2, Sem.run_bind, Result.andThen]
  exact h
theorem wp_loadAgg {P : Program} {o : Oper} {a : Act} {w : World} {K : Act → World → Prop} {Q : Exit → Act → World → Prop} (ty : TypeId) (x : Operand) (ho : o.op = .load ty x)
    (ad : Addr) (hx : a.eval x = .pointer (some ad)) (cs : Array Value) (d : TypeDesc) (hc : ∀ j v, cs.toList[j]? = some v → w.cell? (ad.add j) = some v) (hu : P.underlying ty = some d) (hd : (match d with | .struct _ | .array _ _ => true | _ => false) = true) (hi : (P.info? ty).map (·.size) = some cs.size)
    (h : K (a.put o.dst (.agg cs)) w) : o.wp P a w K Q := by
  unfold Oper.wp execOp
  simp only [ho, hx, Instr.loadAt, Instr.sureAddr, Sem.run_bind, Sem.run_pure, Result.andThen_ok, run_loadVar_at w ad ty cs d hc hu hd hi]
  exact h
theorem add_addr (b o j : Nat) : (⟨b, o, none⟩ : Addr).add j = ⟨b, o + j, none⟩ := by unfold Addr.add; split <;> simp_all
theorem sd_hd {h : Hd} {v u : Value} {j : Nat} (e : (hdC h)[j]? = some u) : (sdC h v)[j]? = some u := by
  have hj : j < 16 := (List.getElem?_eq_some_iff.1 e).1
  have h1 : sdC h v = hdC h ++ [v] := rfl
  rw [h1, List.getElem?_append_left (by exact hj)]; exact e
theorem RdC.head {w : World} {b o n i : Nat} {H : Nat → Hd} {V : Nat → Value} (h : RdC w (some ⟨b, o, none⟩) n (fun i => sdC (H i) (V i))) (hi : i < n) : ∀ j u, (hdC (H i))[j]? = some u → w.cell? ((⟨b, o + i * 17, none⟩ : Addr).add j) = some u := fun j u e => by
  obtain ⟨b', o', e1, _, h1⟩ := h i hi
  injection e1 with e1
  injection e1 with e1 e2
  subst e1 e2
  rw [add_addr]
  exact h1 j u (sd_hd e)
theorem RdC.list {w : World} {b o n i : Nat} {H : Nat → Hd} {V : Nat → Value} (h : RdC w (some ⟨b, o, none⟩) n (fun i => sdC (H i) (V i))) (hi : i < n) : w.cell? ⟨b, o + i * 17 + 16, none⟩ = some (V i) := by
  obtain ⟨b', o', e1, _, h1⟩ := h i hi
  injection e1 with e1
  injection e1 with e1 e2
  subst e1 e2
  exact h1 16 _ rfl
theorem RdC.lt {w : World} {b o n i : Nat} {F : Nat → List Value} (h : RdC w (some ⟨b, o, none⟩) n F) (hi : i < n) : b < w.heap.size := by
  obtain ⟨b', o', e1, h1, _⟩ := h i hi
  injection e1 with e1
  injection e1 with e1 e2
  subst e1 e2
  exact h1
theorem RdC.ex_ {w : World} {A : Option Addr} {n i : Nat} {F : Nat → List Value} (h : RdC w A n F) (hi : i < n) : ∃ b o, A = some ⟨b, o, none⟩ := by
  obtain ⟨b, o, e, _⟩ := h i hi
  exact ⟨b, o, e⟩
theorem rdm_rll {w : World} {A : Option Addr} {LL : List (List Nat)} (h : RLL w A LL) : RdM w A LL.length (fun i => (LL.getD i []).length) (fun i j => .int .u8 ((LL.getD i []).getD j 0 : Nat)) := h
theorem getD_memL {LL : List (List Nat)} {i : Nat} (h : i < LL.length) : LL.getD i [] ∈ LL := by
  rw [List.getD_eq_getElem?_getD, List.getElem?_eq_getElem h]; exact List.getElem_mem h
theorem head_same {h : Hd} (H : HdW h) (w : World) : (Op.equalIn 10000 42 (HdV h) (HdV h)).run Try.prog w = .ok true w := by
  obtain ⟨r, hr, e⟩ := head_eql H H w
  rw [hr, e.2 rfl]
end Go.Proofs.Ytjaaldandgfkgaa
