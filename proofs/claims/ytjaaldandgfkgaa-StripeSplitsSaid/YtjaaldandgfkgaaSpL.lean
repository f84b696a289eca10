/- Memory words for the document's Split: shards whose lists of blocks grow beside each other. Conditions: as the theorems have them. -/
import Derived.Test.YtjaaldandgfkgaaSpF
namespace Go.Proofs.Ytjaaldandgfkgaa
open Go.RowKit

/-- Shards under way: the list g, each one's list of rows owned from B on, no two in one block. -/
structure Lls (w : World) (B g n c : Nat) (H : Nat → Hd) (V : Nat → Value) (LL : Nat → List (List Nat)) : Prop where
  top : Own w g 69 17 (.slice (some ⟨g, 0, none⟩) n c) n (fun t => sdC (H t) (V t))
  row : ∀ t, t < n → OwnLL w B (V t) (LL t)
  apart : ∀ s t, s < n → t < n → s ≠ t → ∀ k, (V s).ownBlock = some k → (V t).ownBlock ≠ some k
theorem OwnLL.top {w : World} {B : Nat} {v : Value} {LL : List (List Nat)} (h : OwnLL w B v LL) : ∃ f : Nat → List Value, Own w B 43 1 v LL.length f := by
  obtain ⟨S, C, h1, _⟩ := h
  exact ⟨_, h1⟩
theorem OwnLL.keptRow {w w' : World} {B B' m : Nat} {v u : Value} {f : Nat → List Value} {LL : List (List Nat)} (h : OwnLL w B v LL) (hu : Own w B' 43 1 u m f) (hg : w.grownBy w' u.ownBlock) (hv : v.ownBlock = none ∨ v.ownBlock ≠ u.ownBlock) : OwnLL w' B v LL := by
  obtain ⟨S, C, h1, h2⟩ := h
  exact ⟨S, C, h1.keptRow hg hv, fun i hi => (h2 i hi).keptRow hg (own_ne (h2 i hi).own hu (by decide))⟩
theorem OwnLL.other {w : World} {B B' g m i : Nat} {v u : Value} {f : Nat → List Value} {LL : List (List Nat)} (h : OwnLL w B v LL) (hu : Own w B' 69 17 u m f) (hg : u.ownBlock = some g) (x : Value) : OwnLL (w.setCell ⟨g, i, none⟩ x) B v LL := by
  obtain ⟨S, C, h1, h2⟩ := h
  have hp : w.grownBy (w.setCell ⟨g, i, none⟩ x) u.ownBlock := by rw [hg]; exact put_grown x
  exact ⟨S, C, h1.keptRow hp (own_ne h1 hu (by decide)), fun i hi => (h2 i hi).keptRow hp (own_ne (h2 i hi).own hu (by decide))⟩
theorem Lls.kept {w w' : World} {B g n c : Nat} {H : Nat → Hd} {V : Nat → Value} {LL : Nat → List (List Nat)} (h : Lls w B g n c H V LL) (hb : Below w.heap.size w w') : Lls w' B g n c H V LL :=
  ⟨h.top.kept hb, fun t ht => (h.row t ht).kept hb, h.apart⟩
theorem Lls.congr {w : World} {B g n c : Nat} {H : Nat → Hd} {V : Nat → Value} {LL LL' : Nat → List (List Nat)} (h : Lls w B g n c H V LL) (e : ∀ t, t < n → LL t = LL' t) : Lls w B g n c H V LL' :=
  ⟨h.top, fun t ht => by rw [← e t ht]; exact h.row t ht, h.apart⟩
theorem Lls.push {w w' : World} {B g n c i : Nat} {H : Nat → Hd} {V : Nat → Value} {LL : Nat → List (List Nat)} {v' : Value} {L' : List (List Nat)} (h : Lls w B g n c H V LL) (hi : i < n) (hL : OwnLL w' B v' L') (hg : w.grownBy w' (V i).ownBlock)
    (hat : v'.ownBlock = (V i).ownBlock ∨ ∃ k, v'.ownBlock = some k ∧ w.heap.size ≤ k) : Lls (w'.setCell ⟨g, i * 17 + 16, none⟩ v') B g n c H (upd V i v') (upd LL i L') := by
  obtain ⟨fi, hVi⟩ := (h.row i hi).top
  have htop : Own w' g 69 17 (.slice (some ⟨g, 0, none⟩) n c) n (fun t => sdC (H t) (V t)) := h.top.keptRow hg (own_ne h.top hVi (by decide))
  have hap : ∀ t, t < n → t ≠ i → ∀ k, (V t).ownBlock = some k → v'.ownBlock ≠ some k := fun t ht hne k hk e2 => by
    rcases hat with e | ⟨k', e, hk'⟩
    · exact h.apart t i ht hi hne k hk (e ▸ e2)
    · obtain ⟨ft, hVt⟩ := (h.row t ht).top
      rw [e] at e2; injection e2 with e2
      have := (hVt.lt k hk).2
      omega
  refine ⟨?_, fun t ht => ?_, fun s t hs ht hne k hk => ?_⟩
  · exact (htop.setN (fun _ _ => sdC_len _ _) hi (show 16 < 17 by decide) v').congr fun t _ => by
      by_cases e : t = i
      · subst e; rw [if_pos rfl, upd_at]; rfl
      · rw [if_neg e, upd_ne _ _ _ e]
  · by_cases e : t = i
    · subst e
      rw [upd_at, upd_at]
      exact hL.other htop rfl v'
    · rw [upd_ne _ _ _ e, upd_ne _ _ _ e]
      refine OwnLL.other ((h.row t ht).keptRow hVi hg ?_) htop rfl v'
      cases ho : (V t).ownBlock with
      | none => exact .inl rfl
      | some k => exact .inr fun e2 => h.apart t i ht hi e k ho e2.symm
  · by_cases es : s = i
    · subst es
      rw [upd_at] at hk
      rw [upd_ne _ _ _ (Ne.symm hne)]
      intro e2
      exact hap t ht (Ne.symm hne) k e2 hk
    · rw [upd_ne _ _ _ es] at hk
      by_cases et : t = i
      · subst et; rw [upd_at]; exact hap s hs es k hk
      · rw [upd_ne _ _ _ et]; exact h.apart s t hs ht hne k hk
theorem Lls.rsd {w : World} {B g n c : Nat} {H : Nat → Hd} {V : Nat → Value} {LL : Nat → List (List Nat)} (h : Lls w B g n c H V LL) : RSd w (some ⟨g, 0, none⟩) n H LL := by
  have hv : ∀ i, ∃ A c, i < n → V i = .slice A (LL i).length c ∧ RLL w A (LL i) := fun i => by
    by_cases hi : i < n
    · obtain ⟨A, c, e, _, hr⟩ := (h.row i hi).rd
      exact ⟨A, c, fun _ => ⟨e, hr⟩⟩
    · exact ⟨none, 0, fun h => absurd h hi⟩
  refine ⟨fun i => Classical.choose (hv i), fun i => Classical.choose (Classical.choose_spec (hv i)), ?_, fun i hi => (Classical.choose_spec (Classical.choose_spec (hv i)) hi).2⟩
  exact (h.top.rdC fun i _ => sdC_len _ _).congr fun i hi => by rw [(Classical.choose_spec (Classical.choose_spec (hv i)) hi).1]
/-- Rows that can be read and lie from B on. -/
def RdMB (w : World) (B : Nat) (A : Option Addr) (n : Nat) (L : Nat → Nat) (f : Nat → Nat → Value) : Prop :=
  ∃ (S : Nat → Option Addr) (C : Nat → Nat), Rd w A n (fun i => .slice (S i) (L i) (C i)) ∧ (∀ b o, A = some ⟨b, o, none⟩ → B ≤ b) ∧ ∀ i, i < n → Rd w (S i) (L i) (f i) ∧ ∀ b o, S i = some ⟨b, o, none⟩ → B ≤ b
theorem OwnM.rdmb {w : World} {B tR e : Nat} {v : Value} {k : Nat} {S : Nat → Option Addr} {C : Nat → Nat} {L : Nat → Nat} {f : Nat → Nat → Value} (h : OwnM w B tR e v k S C L f) : ∃ A c, v = .slice A k c ∧ k ≤ c ∧ RdMB w B A k L f := by
  obtain ⟨A, c, hv, hc, _, hr, hlo⟩ := h.1.rd
  refine ⟨A, c, hv, hc, S, C, hr, hlo, fun i hi => ?_⟩
  obtain ⟨A', c', e, _, _, hr', hlo'⟩ := (h.2 i hi).rd
  injection e with e _ _
  rw [e]; exact ⟨hr', hlo'⟩
theorem RdMB.rdm {w : World} {B : Nat} {A : Option Addr} {n : Nat} {L : Nat → Nat} {f : Nat → Nat → Value} (h : RdMB w B A n L f) : RdM w A n L f := by
  obtain ⟨S, C, h1, _, h2⟩ := h
  exact ⟨S, C, h1, fun i hi => (h2 i hi).1⟩
theorem Rd.bt {w w' : World} {B g : Nat} {A : Option Addr} {n : Nat} {f : Nat → Value} (h : Rd w A n f) (hlo : ∀ b o, A = some ⟨b, o, none⟩ → B ≤ b) (hg : g < B) (hb : Bt w w' g g) : Rd w' A n f := fun i hi => by
  obtain ⟨b, o, e, hlt, hc⟩ := h i hi
  have := hlo b o e
  have hs := hb.size
  exact ⟨b, o, e, by omega, by rw [World.cell?_of_block (hb.block b hlt (by omega) (by omega))]; exact hc⟩
theorem RdMB.bt {w w' : World} {B g : Nat} {A : Option Addr} {n : Nat} {L : Nat → Nat} {f : Nat → Nat → Value} (h : RdMB w B A n L f) (hg : g < B) (hb : Bt w w' g g) : RdMB w' B A n L f := by
  obtain ⟨S, C, h1, h2, h3⟩ := h
  exact ⟨S, C, h1.bt h2 hg hb, h2, fun i hi => ⟨(h3 i hi).1.bt (h3 i hi).2 hg hb, (h3 i hi).2⟩⟩
theorem wpList_pushLLh {w : World} {ops : Array Oper} {rest : List Oper} {o : Oper} {a : Act} {Q : Exit → Act → World → Prop} {A : Option Addr} {c n : Nat} (hgd : o.guard = none) (s xo : Operand)
    (ho : o.op = .call { callee := .builtin .append, args := #[s, xo], argTypes := #[67, 67] }) (B : Nat) (v : Value) (LL : List (List Nat)) (hv : a.eval s = v) (hown : OwnLL w B v LL) (hB : B ≤ w.heap.size)
    (l : List Nat) (hn : n = l.length) (hrow : OwnB w B (.slice A n c) l) (N : Nat) (hN : w.heap.size = N) (hx : a.eval xo = .slice (some ⟨N, 0, none⟩) 1 1) (hlen : LL.length ≤ 1000000000000)
    (h : ∀ v' w', OwnLL w' B v' (LL ++ [l]) → Below B w w' → w.grownBy w' v.ownBlock → (v'.ownBlock = v.ownBlock ∨ ∃ k, v'.ownBlock = some k ∧ w.heap.size ≤ k) → wpList Try.prog ops Q rest (a.put o.dst v') w') : wpList Try.prog ops Q (o :: rest) a (w.alloc (.cells #[.slice A n c] 43)) := by
  subst hn
  obtain ⟨S, C, h1, h2⟩ := hown
  have h1' : Own w B 43 1 v LL.length (fun i => [.slice (upd S LL.length A i) ((LL ++ [l]).getD i []).length (upd C LL.length c i)]) := h1.congr fun i hi => by
    rw [upd_ne _ _ _ (by omega), upd_ne _ _ _ (by omega), getD_app_l hi]
  refine wpList_push w hgd s xo 67 ho B 43 1 24 (.slice none 0 0) #[.slice A l.length c] Try.underlying67 rowsInf rfl (by decide) v LL.length _ hv h1' hB N hN hx
    (by rw [upd_at, upd_at, getD_app_r]) rfl rfl (by omega) (by omega) ?_
  intro v' w' hown' hb hg hat
  refine h v' w' ⟨upd S LL.length A, upd C LL.length c, by rw [List.length_append]; exact hown', fun i hi => ?_⟩ hb hg (hat.imp id fun e => ⟨_, e, by omega⟩)
  have hi : i < LL.length + 1 := by rw [List.length_append] at hi; exact hi
  by_cases e : i = LL.length
  · subst e
    rw [upd_at, upd_at, getD_app_r]
    exact hrow.keptRow hg (own_ne hrow.own h1 (by decide))
  · rw [upd_ne _ _ _ e, upd_ne _ _ _ e, getD_app_l (by omega)]
    exact (h2 i (by omega)).keptRow hg (own_ne (h2 i (by omega)).own h1 (by decide))
end Go.Proofs.Ytjaaldandgfkgaa
