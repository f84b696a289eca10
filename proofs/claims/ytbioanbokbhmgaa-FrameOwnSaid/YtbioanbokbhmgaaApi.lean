/- append, told apart: into the room that is there, or into a new block that leaves the old ones as they are; slices that were kept while one was grown. Conditions: lengths that memory bears. -/
import Derived.Test.YtbioanbokbhmgaaMem2
import Derived.OwnWalk
import Derived.Deep.DeepAppendWide
import Derived.Deep.AppendSrc
import Derived.Test.YtbioanbokbhmgaaFactG
import Derived.Test.YtbioanbokbhmgaaStrN
namespace Go.Proofs.Ytbioanbokbhmgaa
open Go.RowKit

/-- What an append leaves. -/
def Grw (w w' : World) (v v' : Value) : Prop := (v'.ownBlock = v.ownBlock ∧ w.grownBy w' v.ownBlock) ∨ ∃ b, v'.ownBlock = some b ∧ w.heap.size ≤ b ∧ w.grownBy w' none
section
variable {P : Program}
theorem run_append_own_srcX (w : World) (base : Nat) (t tx ty e : TypeId) (i : TypeInfo) (z : Value) (size bytes : Nat) (ht : P.underlying t = some (.slice e)) (hi : P.info? e = some i) (hz : i.zero = some z)
    (hsize : i.size = size) (hby : i.bytes = bytes) (hzs : z.cells.size = size)
    (v : Value) (n : Nat) (xs : List Value) (hown : w.ownsRow base e size v n xs) (x : Value) (m : Nat) (news : List Value) (hs : Src P size tx x m news w)
    (h63 : n + m ≤ maxLen) (hbytes : (n + m) * bytes ≤ 140737488355328 ∨ ((n + m) + (n + m) / 4 + 192) * bytes ≤ 281474976710656) (hbase : base ≤ w.heap.size) :
    ∃ v' w', (Builtin.append_ #[t, tx] ty #[v, x]).run P w = .ok v' w' ∧ w'.ownsRow base e size v' (n + m) (xs ++ news) ∧ ((v'.ownBlock = v.ownBlock ∧ w.grownBy w' v.ownBlock) ∨ (v'.ownBlock = some w.heap.size ∧ w.grownBy w' none)) := by
  subst hsize
  subst hby
  have hsmall : ((n + m : Nat) : Int) ≤ 9223372036854775807 := by simp only [maxLen] at h63; omega
  have hl := hs.newsLen
  have hlen : (xs ++ news).length = (n + m) * i.size := by rw [List.length_append, hown.1, hl, Nat.add_mul]
  have grown : ∀ (old : Nat) (row : Option Nat),
      (w.drew.alloc (.cells ((xs ++ news).toArray ++ Builtin.zeroCells z.cells (grownCap w (n + m) old e - (n + m))) e)).ownsRow base e i.size
        (.slice (some ⟨w.heap.size, 0, none⟩) (n + m) (grownCap w (n + m) old e)) (n + m) (xs ++ news) ∧
      w.grownBy (w.drew.alloc (.cells ((xs ++ news).toArray ++ Builtin.zeroCells z.cells (grownCap w (n + m) old e - (n + m))) e)) row := by
    intro old row
    have hge := grownCap_ge w (n + m) old e
    have hcm : grownCap w (n + m) old e ≤ maxLen := grownCap_le_maxLen w (n + m) old e h63
    refine ⟨⟨hlen, .inr ⟨w.heap.size, _, _, rfl, hbase, heap_alloc_new w.drew _, hge, hcm, ?_, ?_⟩⟩, ⟨rfl, rfl, rfl, by simp, fun k hk _ => heap_alloc_old w.drew _ hk⟩⟩
    · simp only [Array.size_append, List.size_toArray, size_zeroCells, hzs, hlen, ← Nat.add_mul]
      congr 1
      omega
    · simp only [Array.toList_append]
      rw [← hlen]
      exact List.take_left
  rcases hown.2 with ⟨rfl, rfl⟩ | ⟨g, cap, cur, rfl, hbg, hg, hnc, hcm, hcs, htake⟩
  · have hx : xs = [] := List.eq_nil_of_length_eq_zero (by simpa using hown.1)
    subst hx
    by_cases hm : m = 0
    · subst hm
      have hn : news = [] := List.eq_nil_of_length_eq_zero (by simpa using hl)
      subst hn
      have hc := hs.cells
      refine ⟨.slice none 0 0, w, ?_, World.ownsRow_nil w base e i.size, .inl ⟨rfl, ⟨rfl, rfl, rfl, Nat.le_refl _, fun _ _ _ => rfl⟩⟩⟩
      rcases hs.kind with ⟨e', hk⟩ | hk <;> simp [Builtin.append_, run_underlying ht, run_underlying hk, sizeOf, typeInfo, hi, hs.len, hc]
    · have hr := run_append_grow_src (P := P) w t tx ty e i z ht hi hz none 0 0 [] (by simp [Builtin.firstCells]) x m news hs (by omega) (by omega) (hbytes.elim (growslice_fits (by omega)) (growslice_fits_wide (by omega)))
      have hgr := grown 0 none
      simp only [Nat.zero_add, List.nil_append] at hgr hr ⊢
      exact ⟨_, _, hr, hgr.1, .inr ⟨rfl, hgr.2⟩⟩
  · by_cases hroom : n + m ≤ cap
    · have hfit : n * i.size + news.length ≤ cur.size := by rw [hl, hcs, ← Nat.add_mul]; exact Nat.mul_le_mul_right _ hroom
      have hst := run_storeCells_at P g (n * i.size) e news 0 cur w hg (by simpa using hfit) hs.one
      simp only [Nat.add_zero] at hst
      have hr : (Builtin.append_ #[t, tx] ty #[.slice (some ⟨g, 0, none⟩) n cap, x]).run P w =
          .ok (.slice (some ⟨g, 0, none⟩) (n + m) cap) (w.setRow g (cur.toList.take (n * i.size) ++ news ++ cur.toList.drop (n * i.size + news.length)).toArray) := by
        rcases hs.kind with ⟨e', hk⟩ | hk <;> simp [Builtin.append_, run_underlying ht, run_underlying hk, sizeOf, typeInfo, hi, hs.len, hroom, hs.cells, Addr.add_lit, hst]
      refine ⟨_, _, hr, ⟨hlen, .inr ⟨g, cap, _, rfl, hbg, setRow_heap w g cur _ e _ hg, hroom, hcm, ?_, ?_⟩⟩, .inl ⟨rfl, ⟨rfl, rfl, rfl, by simp, fun k _ hk => setRow_other w g k _ (fun e => hk (by simp [Value.ownBlock, e]))⟩⟩⟩
      · simp only [List.size_toArray, List.length_append, List.length_take, List.length_drop, Array.length_toList]
        omega
      · rw [htake, ← hlen]
        exact List.take_left
    · have holds : ∀ j u, xs[j]? = some u → w.drew.cell? ((⟨g, 0, none⟩ : Addr).add j) = some u := hown.cells (g := g) rfl
      have hold := run_firstCells_some (P := P) w.drew i.size n ⟨g, 0, none⟩ n cap xs hown.1 holds
      have hr := run_append_grow_src (P := P) w t tx ty e i z ht hi hz (some ⟨g, 0, none⟩) n cap xs hold x m news hs (by omega) (by omega) (hbytes.elim (growslice_fits (by omega)) (growslice_fits_wide (by omega)))
      have hgr := grown cap none
      exact ⟨_, _, hr, hgr.1, .inr ⟨rfl, hgr.2⟩⟩
theorem wpList_append_srcX {w : World} {ops : Array Oper} {rest : List Oper} {o : Oper} {a : Act} {Q : Exit → Act → World → Prop} (hgd : o.guard = none) (s xo : Operand) (t tx : TypeId)
    (ho : o.op = .call { callee := .builtin .append, args := #[s, xo], argTypes := #[t, tx] })
    (base : Nat) (e : TypeId) (z : Value) (size bytes : Nat) (ht : P.underlying t = some (.slice e)) (hinfo : (P.info? e).map (fun i => (i.zero, i.size, i.bytes)) = some (some z, size, bytes)) (hzs : z.cells.size = size)
    (v : Value) (n : Nat) (xs : List Value) (hv : a.eval s = v) (hown : w.ownsRow base e size v n xs) (x : Value) (m : Nat) (news : List Value) (hx : a.eval xo = x) (hs : Src P size tx x m news w)
    (h63 : n + m ≤ maxLen) (hbytes : (n + m) * bytes ≤ 140737488355328 ∨ ((n + m) + (n + m) / 4 + 192) * bytes ≤ 281474976710656) (hbase : base ≤ w.heap.size)
    (h : ∀ v' w', w'.ownsRow base e size v' (n + m) (xs ++ news) → ((v'.ownBlock = v.ownBlock ∧ w.grownBy w' v.ownBlock) ∨ (v'.ownBlock = some w.heap.size ∧ w.grownBy w' none)) → wpList P ops Q rest (a.put o.dst v') w') : wpList P ops Q (o :: rest) a w := by
  obtain ⟨i, hi, hz0, hz1, hz2⟩ := info_parts hinfo
  refine wpList_plain hgd fun K hK => ?_
  obtain ⟨v', w', hr, h2, h3⟩ := run_append_own_srcX (P := P) w base t tx o.type e i z size bytes ht hi hz0 hz1 hz2 hzs v n xs hown x m news hs h63 hbytes hbase
  unfold Oper.wp execOp
  simp only [ho, resolve, invoke, builtin, Sem.run_bind, Sem.run_pure, Result.andThen_ok, List.map_toArray, List.map_cons, List.map_nil, hv, hx, hr]
  exact hK _ _ (h v' w' h2 h3)
/-- 'out = append(out, x)': x is C's cells; k elements stood there; a new block leaves all old ones as they are. -/
theorem wpList_pushX (w : World) {ops : Array Oper} {rest : List Oper} {o : Oper} {a : Act} {Q : Exit → Act → World → Prop} (hgd : o.guard = none) (s x : Operand) (t : TypeId)
    (ho : o.op = .call { callee := .builtin .append, args := #[s, x], argTypes := #[t, t] })
    (B e sz bytes : Nat) (z : Value) (C : Array Value) (ht : P.underlying t = some (.slice e)) (hinfo : (P.info? e).map (fun i => (i.zero, i.size, i.bytes)) = some (some z, sz, bytes)) (hzs : z.cells.size = sz)
    (v : Value) (k : Nat) (f : Nat → List Value) (hs : a.eval s = v) (hown : Own w B e sz v k f) (hB : B ≤ w.heap.size)
    (N : Nat) (hN : w.heap.size = N) (hx : a.eval x = .slice (some ⟨N, 0, none⟩) 1 1) (hu : C.toList = f k) (hC : C.size = sz) (h1 : C.toList.all Value.oneCell' = true)
    (hk : k < 1000000000000000000) (hbytes : (k + 1) * bytes ≤ 140737488355328)
    (h : ∀ v' w', Own w' B e sz v' (k + 1) f → Below B w w' → Grw w w' v v' → wpList P ops Q rest (a.put o.dst v') w') :
    wpList P ops Q (o :: rest) a (w.alloc (.cells C e)) := by
  subst hN
  have hlen : C.toList.length = sz := by simpa using hC
  refine wpList_append_srcX hgd s x t t ho B e z sz bytes ht hinfo hzs v k _ hs (World.ownsRow.alloc hown _) _ 1 C.toList hx
    (Src.ofSlice _ ht _ _ _ _ (by rw [hlen, Nat.one_mul]) (fun j u hu => cells_new _ _ _ j u hu) (fun u hu => List.all_eq_true.1 h1 u hu)) (by unfold maxLen; omega) (.inl hbytes) (by simp; omega) ?_
  intro v' w' h1' hat
  have hO : Own w' B e sz v' (k + 1) f := Own.push (by rw [← hu]; exact h1')
  have hgr : ∀ r : Option Nat, (w.alloc (.cells C e)).grownBy w' r → w.grownBy w' r := fun r hg => ⟨hg.os, hg.tape, hg.output, by have := hg.size; simp at this; omega, fun i hi hne => by
    rw [hg.block i (by simp; omega) hne]; exact Below.heap_alloc _ _ _ hi⟩
  rcases hat with ⟨e1, hg⟩ | ⟨e1, hg⟩
  · exact h v' w' hO ((Below.refl _ _).grown (hgr _ hg) hB fun g hg => (hown.lt g hg).1) (.inl ⟨e1, hgr _ hg⟩)
  · refine h v' w' hO ((Below.refl _ _).grown (hgr _ hg) hB fun g hg => by cases hg) (.inr ⟨_, e1, ?_, hgr _ hg⟩)
    simp
end
theorem flatA_len {sz : Nat} {f : Nat → List Value} : ∀ {n : Nat}, (∀ i, i < n → (f i).length = sz) → ((List.range n).flatMap f).length = n * sz
  | 0, _ => by simp
  | n + 1, h => by
    rw [List.range_succ, List.flatMap_append, List.length_append, flatA_len fun i hi => h i (by omega), Nat.add_mul]
    simp [h n (by omega)]
theorem flatA_get {sz : Nat} {f : Nat → List Value} : ∀ {n i j : Nat}, (∀ i, i < n → (f i).length = sz) → i < n → j < sz → ((List.range n).flatMap f)[i * sz + j]? = (f i)[j]?
  | n + 1, i, j, h, hi, hj => by
    have hl := flatA_len fun i hi => h i (show i < n + 1 by omega)
    have hln : ((List.range n).flatMap f).length = n * sz := flatA_len fun i hi => h i (by omega)
    rw [List.range_succ, List.flatMap_append]
    by_cases e : i = n
    · subst e
      rw [List.getElem?_append_right (by omega), hln]
      simp
    · have h1 : (i + 1) * sz ≤ n * sz := Nat.mul_le_mul_right _ (by omega)
      rw [Nat.add_mul] at h1
      rw [List.getElem?_append_left (by omega)]
      exact flatA_get (fun i hi => h i (by omega)) (by omega) hj
theorem Own.cellA {w : World} {B e sz g c n : Nat} {f : Nat → List Value} (h : Own w B e sz (.slice (some ⟨g, 0, none⟩) n c) n f) (hf : ∀ i, (f i).length = sz) {i j : Nat} {u : Value} (hi : i < n) (hu : (f i)[j]? = some u) : w.cell? ⟨g, i * sz + j, none⟩ = some u := by
  have hj : j < sz := by rw [← hf i]; exact (List.getElem?_eq_some_iff.1 hu).1
  have h1 : (i + 1) * sz ≤ n * sz := Nat.mul_le_mul_right _ hi
  rw [Nat.add_mul] at h1
  rw [World.ownsRow.cellAt h (i * sz + j) (by omega), flatA_get (fun i _ => hf i) hi hj, hu]
/-- A slice of L elements of sz cells each that can be read. -/
def RdN (w : World) (sz : Nat) (A : Option Addr) (L : Nat) (G : Nat → List Value) : Prop := ∀ j, j < L → ∃ b o, A = some ⟨b, o, none⟩ ∧ b < w.heap.size ∧ ∀ c u, (G j)[c]? = some u → w.cell? ⟨b, o + j * sz + c, none⟩ = some u
theorem RdN.rd {w : World} {A : Option Addr} {L : Nat} {f : Nat → Value} (h : RdN w 1 A L fun j => [f j]) : Rd w A L f := fun j hj => by
  obtain ⟨b, o, e, hb, hc⟩ := h j hj
  exact ⟨b, o, e, hb, by have h1 := hc 0 (f j) rfl; rwa [Nat.mul_one, Nat.add_zero] at h1⟩
theorem RdN.same {w w' : World} {sz : Nat} {A : Option Addr} {L : Nat} {G : Nat → List Value} (h : RdN w sz A L G) (hsz : w.heap.size ≤ w'.heap.size) (hb : ∀ s o, A = some ⟨s, o, none⟩ → s < w.heap.size → w'.heap[s]? = w.heap[s]?) : RdN w' sz A L G := fun j hj => by
  obtain ⟨b, o, ea, hlt, hc⟩ := h j hj
  exact ⟨b, o, ea, by omega, fun c u hu => by rw [World.cell?_of_block (a := ⟨b, o + j * sz + c, none⟩) (hb b o ea hlt)]; exact hc c u hu⟩
/-- Where an owned slice lies. -/
theorem Own.addr {w : World} {B e sz n c : Nat} {A : Option Addr} {f : Nat → List Value} (h : Own w B e sz (.slice A n c) n f) : (A = none ∧ n = 0) ∨ ∃ g, A = some ⟨g, 0, none⟩ ∧ B ≤ g ∧ g < w.heap.size := by
  rcases h.2 with ⟨hx, hn⟩ | ⟨g, cap, cur, hx, hB, hh, _⟩
  · injection hx with hx
    exact .inl ⟨hx, hn⟩
  · injection hx with hx
    exact .inr ⟨g, hx, hB, (Array.getElem?_eq_some_iff.1 hh).1⟩
theorem Own.rdN {w : World} {B e sz n c : Nat} {A : Option Addr} {f : Nat → List Value} (h : Own w B e sz (.slice A n c) n f) (hf : ∀ i, (f i).length = sz) : RdN w sz A n f := fun j hj => by
  rcases h.addr with ⟨_, e2⟩ | ⟨g, rfl, _, hg⟩
  · omega
  · exact ⟨g, 0, rfl, hg, fun c u hu => by rw [Nat.zero_add]; exact h.cellA hf hj hu⟩
/-- A slice that was kept while the chain v (n elements of the list i) is grown: it reads what its list t says; where it lies in the block that is being grown, it is a beginning of it. -/
def It (w : World) (sz : Nat) (v : Value) (n i : Nat) (F : Nat → Nat → List Value) (A : Option Addr) (L t : Nat) : Prop :=
  RdN w sz A L (F t) ∧ ∀ s o, A = some ⟨s, o, none⟩ → s < w.heap.size ∧ (v.ownBlock = some s → t = i ∧ L ≤ n ∧ o = 0)
theorem It.same {w w' : World} {sz : Nat} {v : Value} {n i : Nat} {F : Nat → Nat → List Value} {A : Option Addr} {L t : Nat} (h : It w sz v n i F A L t) (hsz : w.heap.size ≤ w'.heap.size) (hb : ∀ s o, A = some ⟨s, o, none⟩ → s < w.heap.size → w'.heap[s]? = w.heap[s]?) : It w' sz v n i F A L t :=
  ⟨h.1.same hsz hb, fun s o ea => ⟨Nat.lt_of_lt_of_le (h.2 s o ea).1 hsz, (h.2 s o ea).2⟩⟩
theorem It.below {w w' : World} {sz : Nat} {v : Value} {n i : Nat} {F : Nat → Nat → List Value} {A : Option Addr} {L t : Nat} (h : It w sz v n i F A L t) (hb : Below w.heap.size w w') : It w' sz v n i F A L t :=
  h.same hb.size fun s _ _ hs => hb.block s hs
/-- Another list grows. -/
theorem It.other {w w' : World} {sz : Nat} {v : Value} {n i : Nat} {F : Nat → Nat → List Value} {A : Option Addr} {L t : Nat} {r : Option Nat} (h : It w sz v n i F A L t) (hne : ∀ s o, A = some ⟨s, o, none⟩ → r ≠ some s) (hg : w.grownBy w' r) : It w' sz v n i F A L t :=
  h.same hg.size fun s o ea hs => hg.block s hs fun e1 => hne s o ea e1.symm
theorem Grw.gr {w w' : World} {v v' : Value} (h : Grw w w' v v') : w.grownBy w' v.ownBlock := by
  rcases h with ⟨_, h⟩ | ⟨_, _, _, h⟩
  · exact h
  · exact ⟨h.os, h.tape, h.output, h.size, fun k hk _ => h.block k hk (by simp)⟩
/-- Who lay apart from it still does. -/
theorem Grw.ne {w w' : World} {v v' : Value} {s : Nat} (h : Grw w w' v v') (hs : s < w.heap.size) (hn : v.ownBlock ≠ some s) : v'.ownBlock ≠ some s := by
  rcases h with ⟨e, _⟩ | ⟨b, e, hb, _⟩
  · rw [e]; exact hn
  · rw [e]; intro e2; injection e2 with e2; omega
/-- The chain grows by one. -/
theorem It.push {w w' : World} {B e sz : Nat} {v v' : Value} {n i : Nat} {F : Nat → Nat → List Value} {A : Option Addr} {L t : Nat} (hF : ∀ t j, (F t j).length = sz) (h : It w sz v n i F A L t) (ho : Own w' B e sz v' (n + 1) (F i)) (hc : Grw w w' v v') : It w' sz v' (n + 1) i F A L t := by
  rcases hc with ⟨e1, hg⟩ | ⟨b, e1, hb, hg⟩
  · obtain ⟨g, c, rfl, _, hgl, _⟩ := ho.form (Nat.succ_pos n)
    have e1' : v.ownBlock = some g := by rw [← e1]; rfl
    refine ⟨fun j hj => ?_, fun s o ea => ?_⟩
    · obtain ⟨b, o, ea, hlt, hcc⟩ := h.1 j hj
      by_cases hs : b = g
      · subst hs
        obtain ⟨rfl, hL, rfl⟩ := (h.2 b o ea).2 e1'
        exact ⟨b, 0, ea, hgl, fun c u hu => by rw [Nat.zero_add]; exact ho.cellA (hF t) (by omega) hu⟩
      · have hbl := hg.block b hlt (fun e2 => hs (by rw [e1'] at e2; injection e2))
        exact ⟨b, o, ea, by have := hg.size; omega, fun c u hu => by rw [World.cell?_of_block (a := ⟨b, o + j * sz + c, none⟩) hbl]; exact hcc c u hu⟩
    · obtain ⟨hs1, h2⟩ := h.2 s o ea
      refine ⟨by have := hg.size; omega, fun e2 => ?_⟩
      have e3 : some g = some s := e2
      injection e3 with e3
      subst e3
      obtain ⟨h3, h4, h5⟩ := h2 e1'
      exact ⟨h3, by omega, h5⟩
  · have h2 := h.same hg.size fun s _ _ hs => hg.block s hs (by simp)
    refine ⟨h2.1, fun s o ea => ⟨(h2.2 s o ea).1, fun e2 => ?_⟩⟩
    have := (h.2 s o ea).1
    rw [e1] at e2
    injection e2 with e2
    omega
/-- The next chain. -/
theorem It.next {w : World} {sz : Nat} {v v2 : Value} {n n2 i i2 : Nat} {F : Nat → Nat → List Value} {A : Option Addr} {L t : Nat} (h : It w sz v n i F A L t) (h2 : ∀ s o, A = some ⟨s, o, none⟩ → v2.ownBlock = some s → t = i2 ∧ L ≤ n2 ∧ o = 0) : It w sz v2 n2 i2 F A L t :=
  ⟨h.1, fun s o ea => ⟨(h.2 s o ea).1, h2 s o ea⟩⟩
/-- An owned row is an item. -/
theorem It.of_own {w : World} {B e sz n i L t c : Nat} {v : Value} {F : Nat → Nat → List Value} {A : Option Addr} (hF : ∀ t j, (F t j).length = sz) (h : Own w B e sz (.slice A L c) L (F t)) (hv : ∀ s, A = some ⟨s, 0, none⟩ → v.ownBlock = some s → t = i ∧ L ≤ n) : It w sz v n i F A L t := by
  refine ⟨h.rdN (hF t), fun s o ea => ?_⟩
  rcases h.addr with ⟨e2, _⟩ | ⟨g, e2, _, hg⟩
  · rw [e2] at ea; cases ea
  · rw [e2] at ea
    injection ea with ea
    injection ea with ea eb
    subst ea eb
    exact ⟨hg, fun e3 => ⟨(hv g e2 e3).1, (hv g e2 e3).2, rfl⟩⟩
/-- From w to w' no block was written but those of R and new ones. -/
structure Only (R : Nat → Prop) (w w' : World) : Prop where
  os : w'.os = w.os
  tape : w'.tape = w.tape
  output : w'.output = w.output
  size : w.heap.size ≤ w'.heap.size
  block : ∀ k, k < w.heap.size → ¬ R k → w'.heap[k]? = w.heap[k]?
theorem Only.refl (R : Nat → Prop) (w : World) : Only R w w := ⟨rfl, rfl, rfl, Nat.le_refl _, fun _ _ _ => rfl⟩
theorem Only.below {R : Nat → Prop} {w0 w w' : World} (h : Only R w0 w) (hb : Below w.heap.size w w') : Only R w0 w' :=
  ⟨hb.os.trans h.os, hb.tape.trans h.tape, hb.output.trans h.output, Nat.le_trans h.size hb.size, fun k hk hR => by rw [hb.block k (by have := h.size; omega)]; exact h.block k hk hR⟩
theorem Only.grown {R : Nat → Prop} {w0 w w' : World} {r : Option Nat} (h : Only R w0 w) (hg : w.grownBy w' r) (hr : ∀ k, r = some k → R k ∨ w0.heap.size ≤ k) : Only R w0 w' :=
  ⟨hg.os.trans h.os, hg.tape.trans h.tape, hg.output.trans h.output, Nat.le_trans h.size hg.size, fun k hk hR => by
    rw [hg.block k (by have := h.size; omega) (fun e => by rcases hr k e.symm with h1 | h1; exact hR h1; omega)]; exact h.block k hk hR⟩
theorem Only.setCell {R : Nat → Prop} {w0 w : World} (h : Only R w0 w) {p : Addr} (hp : R p.block ∨ w0.heap.size ≤ p.block) (u : Value) : Only R w0 (w.setCell p u) :=
  h.grown (r := some p.block) ⟨rfl, rfl, rfl, by simp, fun k _ hk => Below.heap_setCell _ _ _ _ (fun e => hk (by rw [e]))⟩ fun k e => by injection e with e; subst e; exact hp
theorem Only.toBelow {R : Nat → Prop} {w w' : World} {B : Nat} (h : Only R w w') (hR : ∀ k, R k → B ≤ k) (hB : B ≤ w.heap.size) : Below B w w' :=
  ⟨h.os, h.tape, h.output, h.size, fun k hk => h.block k (by omega) fun e => by have := hR k e; omega⟩
theorem Only.own {R : Nat → Prop} {w w' : World} {B e sz n : Nat} {v : Value} {f : Nat → List Value} (h : Only R w w') (ho : Own w B e sz v n f) (hr : ∀ k, v.ownBlock = some k → ¬ R k) : Own w' B e sz v n f := by
  refine ⟨ho.1, ?_⟩
  rcases ho.2 with h1 | ⟨g, cap, cur, rfl, hB, hh, h1⟩
  · exact .inl h1
  · exact .inr ⟨g, cap, cur, rfl, hB, (h.block g (Array.getElem?_eq_some_iff.1 hh).1 (hr g rfl)).trans hh, h1⟩
theorem Only.mono {R R' : Nat → Prop} {w w' : World} (h : Only R w w') (hr : ∀ k, R k → R' k) : Only R' w w' := ⟨h.os, h.tape, h.output, h.size, fun k hk hR => h.block k hk fun e => hR (hr k e)⟩
theorem Only.trans {R : Nat → Prop} {a b c : World} (h : Only R a b) (h2 : Only R b c) : Only R a c :=
  ⟨h2.os.trans h.os, h2.tape.trans h.tape, h2.output.trans h.output, Nat.le_trans h.size h2.size, fun k hk hR => (h2.block k (by have := h.size; omega) hR).trans (h.block k hk hR)⟩
/-- The blocks of N rows. -/
def RB (N : Nat) (S : Nat → Option Addr) (k : Nat) : Prop := ∃ t o, t < N ∧ S t = some ⟨k, o, none⟩
/-- Rows that lie apart. -/
def Apt (N : Nat) (S : Nat → Option Addr) : Prop := ∀ s t, s < N → t < N → ∀ k o o', S s = some ⟨k, o, none⟩ → S t = some ⟨k, o', none⟩ → s = t
end Go.Proofs.Ytbioanbokbhmgaa

/- Lists that are grown one by one while their beginnings are kept: the state. Conditions: rows that lie apart. -/
namespace Go.Proofs.Ytbioanbokbhmgaa
open Go.RowKit

theorem Own.blkA {w : World} {B e sz n c s : Nat} {A : Option Addr} {f : Nat → List Value} (h : Own w B e sz (.slice A n c) n f) (hs : (Value.slice A n c).ownBlock = some s) : A = some ⟨s, 0, none⟩ := by
  rcases h.addr with ⟨rfl, _⟩ | ⟨g, rfl, _, _⟩
  · cases hs
  · have e : some g = some s := hs
    injection e with e
    rw [e]
theorem Own.off {w : World} {B e sz n c s o : Nat} {A : Option Addr} {f : Nat → List Value} (h : Own w B e sz (.slice A n c) n f) (hs : A = some ⟨s, o, none⟩) : o = 0 ∧ (Value.slice A n c).ownBlock = some s := by
  rcases h.addr with ⟨rfl, _⟩ | ⟨g, rfl, _, _⟩
  · cases hs
  · injection hs with hs
    injection hs with e1 e2
    exact ⟨e2.symm, by rw [← e1]; rfl⟩
theorem ne_or {a b : Option Nat} (h : ∀ s, b = some s → a ≠ some s) : a = none ∨ a ≠ b := by
  cases b with
  | none => cases a with
    | none => exact .inl rfl
    | some _ => exact .inr (by simp)
  | some s => exact .inr (h s rfl)
/-- Between two chains: the lists from i on are as they were. -/
structure GB (w0 w : World) (B0 sz e eh ti N : Nat) (S : Nat → Option Addr) (L C : Nat → Nat) (F : Nat → Nat → List Value) (i ql qw : Nat) (vl vw : Value) (SL : Nat → Option Addr) (LL CL I : Nat → Nat) : Prop where
  rows : ∀ t, i ≤ t → t < N → Own w B0 e sz (.slice (S t) (L t) (C t)) (L t) (F t)
  base : ∀ t, t < N → It w sz (.slice none 0 0) 0 0 F (S t) (L t) t
  inb : ∀ t, t < N → ∀ s o, S t = some ⟨s, o, none⟩ → s < w0.heap.size
  long : Own w w0.heap.size eh 1 vl ql (fun m => [.slice (SL m) (LL m) (CL m)])
  who : Own w w0.heap.size ti 1 vw qw (fun m => [.int .i64 ((I m : Nat) : Int)])
  kept : ∀ m, m < ql → I m < N ∧ It w sz (.slice none 0 0) 0 0 F (SL m) (LL m) (I m) ∧ ∀ t, i ≤ t → t < N → ∀ k o o', S t = some ⟨k, o, none⟩ → SL m ≠ some ⟨k, o', none⟩
  dkl : ∀ m, m < ql → ∀ s o, SL m = some ⟨s, o, none⟩ → vl.ownBlock ≠ some s
  dkw : ∀ m, m < ql → ∀ s o, SL m = some ⟨s, o, none⟩ → vw.ownBlock ≠ some s
  lenb : ∀ m, m < ql → LL m ≤ 1000000000000000
  only : Only (RB N S) w0 w
/-- While the list i is grown: v, of n elements, is what has come of it. -/
structure GS (w0 w : World) (B0 sz e eh ti N : Nat) (S : Nat → Option Addr) (L C : Nat → Nat) (F : Nat → Nat → List Value) (i n : Nat) (v : Value) (ql qw : Nat) (vl vw : Value) (SL : Nat → Option Addr) (LL CL I : Nat → Nat) : Prop where
  own : Own w B0 e sz v n (F i)
  blk : ∀ s, v.ownBlock = some s → (∃ o, S i = some ⟨s, o, none⟩) ∨ w0.heap.size ≤ s
  rows : ∀ t, i < t → t < N → Own w B0 e sz (.slice (S t) (L t) (C t)) (L t) (F t)
  base : ∀ t, t < N → It w sz v n i F (S t) (L t) t
  inb : ∀ t, t < N → ∀ s o, S t = some ⟨s, o, none⟩ → s < w0.heap.size
  long : Own w w0.heap.size eh 1 vl ql (fun m => [.slice (SL m) (LL m) (CL m)])
  who : Own w w0.heap.size ti 1 vw qw (fun m => [.int .i64 ((I m : Nat) : Int)])
  kept : ∀ m, m < ql → I m < N ∧ It w sz v n i F (SL m) (LL m) (I m) ∧ ∀ t, i < t → t < N → ∀ k o o', S t = some ⟨k, o, none⟩ → SL m ≠ some ⟨k, o', none⟩
  dvl : ∀ s, v.ownBlock = some s → vl.ownBlock ≠ some s
  dvw : ∀ s, v.ownBlock = some s → vw.ownBlock ≠ some s
  dkl : ∀ m, m < ql → ∀ s o, SL m = some ⟨s, o, none⟩ → vl.ownBlock ≠ some s
  dkw : ∀ m, m < ql → ∀ s o, SL m = some ⟨s, o, none⟩ → vw.ownBlock ≠ some s
  lenb : ∀ m, m < ql → LL m ≤ 1000000000000000
  only : Only (RB N S) w0 w
section
variable {w0 w w' : World} {B0 sz e eh ti N i n ql qw : Nat} {S SL : Nat → Option Addr} {L C LL CL I : Nat → Nat} {F : Nat → Nat → List Value} {v v' vl vl' vw vw' : Value}
theorem GB.start (h : GB w0 w B0 sz e eh ti N S L C F i ql qw vl vw SL LL CL I) (hA : Apt N S) (hi : i < N) : GS w0 w B0 sz e eh ti N S L C F i (L i) (.slice (S i) (L i) (C i)) ql qw vl vw SL LL CL I := by
  have ho := h.rows i (Nat.le_refl _) hi
  refine ⟨ho, fun s hs => .inl ⟨0, ho.blkA hs⟩, fun t ht => h.rows t (Nat.le_of_lt ht), fun t ht => (h.base t ht).next fun s o ea hs => ?_, h.inb, h.long, h.who, fun m hm => ?_, fun s hs => ?_, fun s hs => ?_, h.dkl, h.dkw, h.lenb, h.only⟩
  · have h1 := ho.blkA hs
    have e1 := hA t i ht hi s o 0 ea h1
    subst e1
    exact ⟨rfl, Nat.le_refl _, (ho.off ea).1⟩
  · obtain ⟨k1, k2, k3⟩ := h.kept m hm
    exact ⟨k1, k2.next fun s o ea hs => absurd ea (k3 i (Nat.le_refl _) hi s 0 o (ho.blkA hs)), fun t ht => k3 t (Nat.le_of_lt ht)⟩
  · have h1 := h.inb i hi s 0 (ho.blkA hs)
    intro e1
    have := (h.long.lt s e1).1
    omega
  · have h1 := h.inb i hi s 0 (ho.blkA hs)
    intro e1
    have := (h.who.lt s e1).1
    omega
theorem GS.stop (h : GS w0 w B0 sz e eh ti N S L C F i n v ql qw vl vw SL LL CL I) : GB w0 w B0 sz e eh ti N S L C F (i + 1) ql qw vl vw SL LL CL I := by
  refine ⟨fun t ht => h.rows t (by omega), fun t ht => (h.base t ht).next fun s o _ hs => (by cases hs), h.inb, h.long, h.who, fun m hm => ?_, h.dkl, h.dkw, h.lenb, h.only⟩
  obtain ⟨k1, k2, k3⟩ := h.kept m hm
  exact ⟨k1, k2.next fun s o _ hs => (by cases hs), fun t ht => k3 t (by omega)⟩
/-- What lies elsewhere stays. -/
theorem GS.row_ne (h : GS w0 w B0 sz e eh ti N S L C F i n v ql qw vl vw SL LL CL I) (hA : Apt N S) (hi : i < N) {t : Nat} (ht : i < t) (htN : t < N) : ∀ s, v.ownBlock = some s → (Value.slice (S t) (L t) (C t)).ownBlock ≠ some s := fun s hs e1 => by
  have e2 := (h.rows t ht htN).blkA e1
  rcases h.blk s hs with ⟨o, e3⟩ | e3
  · have := hA t i htN hi s 0 o e2 e3
    omega
  · have := h.inb t htN s 0 e2
    omega
theorem GS.push (hF : ∀ t j, (F t j).length = sz) (h : GS w0 w B0 sz e eh ti N S L C F i n v ql qw vl vw SL LL CL I) (hA : Apt N S) (hi : i < N) (ho : Own w' B0 e sz v' (n + 1) (F i)) (hg : Grw w w' v v') : GS w0 w' B0 sz e eh ti N S L C F i (n + 1) v' ql qw vl vw SL LL CL I := by
  have h0 := h.only.size
  have hd : ∀ (x : Value), (∀ s, x.ownBlock = some s → s < w.heap.size) → (∀ s, v.ownBlock = some s → x.ownBlock ≠ some s) → ∀ s, v'.ownBlock = some s → x.ownBlock ≠ some s := fun x hx hv s hs e1 => by
    rcases hg with ⟨e2, _⟩ | ⟨b, e2, hb, _⟩
    · rw [e2] at hs
      exact hv s hs e1
    · rw [e2] at hs
      injection hs with hs
      have := hx s e1
      omega
  refine ⟨ho, fun s hs => ?_, fun t ht htN => (h.rows t ht htN).keptRow hg.gr (ne_or (h.row_ne hA hi ht htN)), fun t ht => (h.base t ht).push hF ho hg, h.inb, h.long.keptRow hg.gr (ne_or h.dvl), h.who.keptRow hg.gr (ne_or h.dvw), fun m hm => ?_, hd vl (fun s e1 => (h.long.lt s e1).2) h.dvl, hd vw (fun s e1 => (h.who.lt s e1).2) h.dvw, h.dkl, h.dkw, h.lenb, h.only.grown hg.gr fun k e1 => ?_⟩
  · rcases hg with ⟨e2, _⟩ | ⟨b, e2, hb, _⟩
    · rw [e2] at hs
      exact h.blk s hs
    · rw [e2] at hs
      injection hs with hs
      exact .inr (by omega)
  · obtain ⟨k1, k2, k3⟩ := h.kept m hm
    exact ⟨k1, k2.push hF ho hg, k3⟩
  · rcases h.blk k e1 with ⟨o, e3⟩ | e3
    · exact .inl ⟨i, o, hi, e3⟩
    · exact .inr e3
/-- A beginning is kept. -/
theorem GS.keepL {A : Option Addr} {c : Nat} (hF : ∀ t j, (F t j).length = sz) (h : GS w0 w B0 sz e eh ti N S L C F i n (.slice A n c) ql ql vl vw SL LL CL I) (hA : Apt N S) (hi : i < N) (hne : eh ≠ ti) (hnb : n ≤ 1000000000000000)
    (ho : Own w' w0.heap.size eh 1 vl' (ql + 1) (fun m => [.slice (upd SL ql A m) (upd LL ql n m) (upd CL ql c m)])) (hg : Grw w w' vl vl') : GS w0 w' B0 sz e eh ti N S L C F i n (.slice A n c) (ql + 1) ql vl' vw (upd SL ql A) (upd LL ql n) (upd CL ql c) (upd I ql i) := by
  have h0 := h.only.size
  have hv : ∀ s, vl.ownBlock = some s → (Value.slice A n c).ownBlock ≠ some s := fun s hs e1 => h.dvl s e1 hs
  have hown' := h.own.keptRow hg.gr (ne_or hv)
  have hb : ∀ t, t < N → ∀ s o, S t = some ⟨s, o, none⟩ → vl.ownBlock ≠ some s := fun t ht s o es e1 => by
    have h1 := h.inb t ht s o es
    have h2 := (h.long.lt s e1).1
    omega
  have hvb : ∀ s o, A = some ⟨s, o, none⟩ → (Value.slice A n c).ownBlock = some s := fun s o ea => (h.own.off ea).2
  refine ⟨hown', h.blk, fun t ht htN => (h.rows t ht htN).keptRow hg.gr (ne_or fun s hs e1 => ?_), fun t ht => (h.base t ht).other (hb t ht) hg.gr, h.inb, ho, (h.who.keptRow hg.gr ?_).congr fun m hm => by rw [upd_ne _ _ _ (by omega)], fun m hm => ?_, fun s hs => hg.ne ?_ (h.dvl s hs), h.dvw, fun m hm s o ea => ?_, fun m hm s o ea => ?_, fun m hm => ?_, h.only.grown hg.gr fun k e1 => .inr (h.long.lt k e1).1⟩
  · exact hb t htN s 0 ((h.rows t ht htN).blkA e1) hs
  · exact own_ne h.who h.long (fun e1 => hne e1.symm)
  · by_cases em : m = ql
    · subst em
      rw [upd_at, upd_at, upd_at]
      refine ⟨hi, It.of_own hF hown' (fun s _ _ => ⟨rfl, Nat.le_refl _⟩), fun t ht htN k o o' es ea => ?_⟩
      rcases h.blk k (hvb k o' ea) with ⟨o2, e3⟩ | e3
      · have := hA t i htN hi k o o2 es e3
        omega
      · have := h.inb t htN k o es
        omega
    · rw [upd_ne _ _ _ em, upd_ne _ _ _ em, upd_ne _ _ _ em]
      obtain ⟨k1, k2, k3⟩ := h.kept m (by omega)
      exact ⟨k1, k2.other (h.dkl m (by omega)) hg.gr, k3⟩
  · exact (h.own.lt s hs).2
  · by_cases em : m = ql
    · subst em
      rw [upd_at] at ea
      exact hg.ne (h.own.lt s (hvb s o ea)).2 (h.dvl s (hvb s o ea))
    · rw [upd_ne _ _ _ em] at ea
      exact hg.ne ((h.kept m (by omega)).2.1.2 s o ea).1 (h.dkl m (by omega) s o ea)
  · by_cases em : m = ql
    · subst em
      rw [upd_at] at ea
      exact h.dvw s (hvb s o ea)
    · rw [upd_ne _ _ _ em] at ea
      exact h.dkw m (by omega) s o ea
  · by_cases em : m = ql
    · subst em
      rw [upd_at]; exact hnb
    · rw [upd_ne _ _ _ em]
      exact h.lenb m (by omega)
/-- Whose it is, is kept. -/
theorem GS.keepW (h : GS w0 w B0 sz e eh ti N S L C F i n v ql qw vl vw SL LL CL I) (_hA : Apt N S) (hne : eh ≠ ti) (ho : Own w' w0.heap.size ti 1 vw' (qw + 1) (fun m => [.int .i64 ((I m : Nat) : Int)])) (hg : Grw w w' vw vw') : GS w0 w' B0 sz e eh ti N S L C F i n v ql (qw + 1) vl vw' SL LL CL I := by
  have hb : ∀ t, t < N → ∀ s o, S t = some ⟨s, o, none⟩ → vw.ownBlock ≠ some s := fun t ht s o es e1 => by
    have h1 := h.inb t ht s o es
    have h2 := (h.who.lt s e1).1
    omega
  refine ⟨h.own.keptRow hg.gr (ne_or fun s hs e1 => h.dvw s e1 hs), h.blk, fun t ht htN => (h.rows t ht htN).keptRow hg.gr (ne_or fun s hs e1 => ?_), fun t ht => (h.base t ht).other (hb t ht) hg.gr, h.inb, h.long.keptRow hg.gr (own_ne h.long h.who hne), ho, fun m hm => ?_, h.dvl, fun s hs => hg.ne (h.own.lt s hs).2 (h.dvw s hs), h.dkl, fun m hm s o ea => hg.ne ((h.kept m hm).2.1.2 s o ea).1 (h.dkw m hm s o ea), h.lenb, h.only.grown hg.gr fun k e1 => .inr (h.who.lt k e1).1⟩
  · exact hb t htN s 0 ((h.rows t ht htN).blkA e1) hs
  · obtain ⟨k1, k2, k3⟩ := h.kept m hm
    exact ⟨k1, k2.other (h.dkw m hm) hg.gr, k3⟩
end
end Go.Proofs.Ytbioanbokbhmgaa

/- Lists that are grown one by one, the elements named as they come. Conditions: rows that lie apart. -/
namespace Go.Proofs.Ytbioanbokbhmgaa
open Go.RowKit

theorem RdN.congr {w : World} {sz L : Nat} {A : Option Addr} {G G' : Nat → List Value} (h : RdN w sz A L G) (e : ∀ q, q < L → G' q = G q) : RdN w sz A L G' := fun j hj => by
  obtain ⟨b, o, ea, hb, hc⟩ := h j hj
  exact ⟨b, o, ea, hb, fun c u hu => hc c u (by rw [← e j hj]; exact hu)⟩
/-- GS, and no beginning that was kept of the list i is longer than what has come of it. -/
def GX (w0 w : World) (B0 sz e eh ti N : Nat) (S : Nat → Option Addr) (L C : Nat → Nat) (F : Nat → Nat → List Value) (i n : Nat) (v : Value) (ql qw : Nat) (vl vw : Value) (SL : Nat → Option Addr) (LL CL I : Nat → Nat) : Prop :=
  GS w0 w B0 sz e eh ti N S L C F i n v ql qw vl vw SL LL CL I ∧ L i ≤ n ∧ ∀ m, m < ql → I m = i → LL m ≤ n
theorem GX.congrF {w0 w : World} {B0 sz e eh ti N i n ql qw : Nat} {S SL : Nat → Option Addr} {L C LL CL I : Nat → Nat} {F F' : Nat → Nat → List Value} {v vl vw : Value} (h : GX w0 w B0 sz e eh ti N S L C F i n v ql qw vl vw SL LL CL I) (h1 : ∀ t q, t ≠ i → F' t q = F t q) (h2 : ∀ q, q < n → F' i q = F i q) : GX w0 w B0 sz e eh ti N S L C F' i n v ql qw vl vw SL LL CL I := by
  obtain ⟨g, hL, hI⟩ := h
  have hall : ∀ t k, (t = i → k ≤ n) → ∀ q, q < k → F' t q = F t q := fun t k hk q hq => by
    by_cases e : t = i
    · subst e; exact h2 q (Nat.lt_of_lt_of_le hq (hk rfl))
    · exact h1 t q e
  refine ⟨⟨g.own.congr fun q hq => (h2 q hq).symm, g.blk, fun t ht htN => (g.rows t ht htN).congr fun q _ => (h1 t q (by omega)).symm, fun t ht => ⟨(g.base t ht).1.congr (hall t _ fun e => by rw [e]; exact hL), (g.base t ht).2⟩, g.inb, g.long, g.who, fun m hm => ?_, g.dvl, g.dvw, g.dkl, g.dkw, g.lenb, g.only⟩, hL, hI⟩
  obtain ⟨k1, k2, k3⟩ := g.kept m hm
  exact ⟨k1, ⟨k2.1.congr (hall _ _ (hI m hm)), k2.2⟩, k3⟩
section
variable {w0 w w' : World} {B0 sz e eh ti N i n ql qw : Nat} {S SL : Nat → Option Addr} {L C LL CL I : Nat → Nat} {F : Nat → Nat → List Value} {v v' vl vl' vw vw' : Value}
theorem GB.startX (h : GB w0 w B0 sz e eh ti N S L C F i ql qw vl vw SL LL CL I) (hA : Apt N S) (hi : i < N) (hI : ∀ m, m < ql → I m < i) : GX w0 w B0 sz e eh ti N S L C F i (L i) (.slice (S i) (L i) (C i)) ql qw vl vw SL LL CL I :=
  ⟨h.start hA hi, Nat.le_refl _, fun m hm e => by have := hI m hm; omega⟩
theorem GX.push (hF : ∀ t j, (F t j).length = sz) (h : GX w0 w B0 sz e eh ti N S L C F i n v ql qw vl vw SL LL CL I) (hA : Apt N S) (hi : i < N) (ho : Own w' B0 e sz v' (n + 1) (F i)) (hg : Grw w w' v v') : GX w0 w' B0 sz e eh ti N S L C F i (n + 1) v' ql qw vl vw SL LL CL I :=
  ⟨h.1.push hF hA hi ho hg, by have := h.2.1; omega, fun m hm e => by have := h.2.2 m hm e; omega⟩
theorem GX.keepL {A : Option Addr} {c : Nat} (hF : ∀ t j, (F t j).length = sz) (h : GX w0 w B0 sz e eh ti N S L C F i n (.slice A n c) ql ql vl vw SL LL CL I) (hA : Apt N S) (hi : i < N) (hne : eh ≠ ti) (hnb : n ≤ 1000000000000000)
    (ho : Own w' w0.heap.size eh 1 vl' (ql + 1) (fun m => [.slice (upd SL ql A m) (upd LL ql n m) (upd CL ql c m)])) (hg : Grw w w' vl vl') : GX w0 w' B0 sz e eh ti N S L C F i n (.slice A n c) (ql + 1) ql vl' vw (upd SL ql A) (upd LL ql n) (upd CL ql c) (upd I ql i) :=
  ⟨h.1.keepL hF hA hi hne hnb ho hg, h.2.1, fun m hm e => by
    by_cases em : m = ql
    · subst em; rw [upd_at]; exact Nat.le_refl _
    · rw [upd_ne _ _ _ em] at e ⊢
      exact h.2.2 m (by omega) e⟩
theorem GX.keepW (h : GX w0 w B0 sz e eh ti N S L C F i n v ql qw vl vw SL LL CL I) (hA : Apt N S) (hne : eh ≠ ti) (ho : Own w' w0.heap.size ti 1 vw' (qw + 1) (fun m => [.int .i64 ((I m : Nat) : Int)])) (hg : Grw w w' vw vw') : GX w0 w' B0 sz e eh ti N S L C F i n v ql (qw + 1) vl vw' SL LL CL I :=
  ⟨h.1.keepW hA hne ho hg, h.2⟩
end
end Go.Proofs.Ytbioanbokbhmgaa

/- Rows that are written full; elements that lie in a block of their own each, made as they come. Conditions: rows that lie apart. -/
namespace Go.Proofs.Ytbioanbokbhmgaa
open Go.RowKit

theorem Own.setOtherX {w : World} {B e sz n : Nat} {v : Value} {f : Nat → List Value} (h : Own w B e sz v n f) {a : Addr} (ha : v.ownBlock ≠ some a.block) (u : Value) : Own (w.setCell a u) B e sz v n f :=
  h.keptRow (r := some a.block) ⟨rfl, rfl, rfl, by simp, fun k _ hk => Below.heap_setCell _ _ _ _ (fun e => hk (by rw [e]))⟩ (.inr ha)
def MK (w0 w : World) (B0 e N : Nat) (S : Nat → Option Addr) (L C : Nat → Nat) (f : Nat → Nat → Value) : Prop := (∀ t, t < N → Own w B0 e 1 (.slice (S t) (L t) (C t)) (L t) (fun q => [f t q])) ∧ Only (RB N S) w0 w
theorem MK.congr {w0 w : World} {B0 e N : Nat} {S : Nat → Option Addr} {L C : Nat → Nat} {f f' : Nat → Nat → Value} (h : MK w0 w B0 e N S L C f) (hf : ∀ t, t < N → ∀ q, q < L t → f' t q = f t q) : MK w0 w B0 e N S L C f' :=
  ⟨fun t ht => (h.1 t ht).congr fun q hq => by rw [hf t ht q hq], h.2⟩
theorem MK.set {w0 w : World} {B0 e N g i j : Nat} {S : Nat → Option Addr} {L C : Nat → Nat} {f f' : Nat → Nat → Value} {u : Value} (h : MK w0 w B0 e N S L C f) (hA : Apt N S) (hi : i < N) (hj : j < L i) (hg : S i = some ⟨g, 0, none⟩) (hf : ∀ t, t < N → ∀ q, q < L t → f' t q = if t = i ∧ q = j then u else f t q) : MK w0 (w.setCell ⟨g, j, none⟩ u) B0 e N S L C f' := by
  refine ⟨fun t ht => ?_, h.2.setCell (.inl ⟨i, 0, hi, hg⟩) u⟩
  by_cases et : t = i
  · subst et
    have ho := h.1 t ht
    rw [hg] at ho ⊢
    refine (ho.set1 hj u).congr fun q hq => ?_
    rw [hf t ht q hq]
    by_cases eq : q = j
    · rw [if_pos eq, if_pos ⟨rfl, eq⟩]
    · rw [if_neg eq, if_neg (fun e => eq e.2)]
  · refine (Own.setOtherX (h.1 t ht) (a := ⟨g, j, none⟩) (fun e1 => et (hA t i ht hi g 0 0 ((h.1 t ht).blkA e1) hg)) u).congr fun q hq => ?_
    rw [hf t ht q hq, if_neg (fun e => et e.1)]
theorem MK.below {w0 w w' : World} {B0 e N : Nat} {S : Nat → Option Addr} {L C : Nat → Nat} {f : Nat → Nat → Value} (h : MK w0 w B0 e N S L C f) (hb : Below w.heap.size w w') : MK w0 w' B0 e N S L C f :=
  ⟨fun t ht => (h.1 t ht).kept hb, h.2.below hb⟩
theorem top_ne {w : World} {B0 Bt e eh N n : Nat} {S : Nat → Option Addr} {L C : Nat → Nat} {f : Nat → Nat → Value} {v : Value} {F : Nat → List Value} (hT : Own w Bt eh 1 v n F) (hR : ∀ t, t < N → Own w B0 e 1 (.slice (S t) (L t) (C t)) (L t) (fun q => [f t q])) (hne : eh ≠ e) : ∀ k, v.ownBlock = some k → ¬ RB N S k := fun k hk ⟨t, o, ht, hs⟩ => by
  have h2 := ((hR t ht).off hs).2
  rcases own_ne hT (hR t ht) hne with h | h
  · rw [hk] at h; cases h
  · exact h (by rw [hk, h2])
/-- Elements that lie in a block of their own each: what stands in these. -/
def EB (w0 w : World) (B : Nat) (P : Nat → Nat → Prop) (bk : Nat → Nat → Nat) (el : Nat → Nat → Array Value) : Prop :=
  ∀ t q, P t q → w0.heap.size ≤ bk t q ∧ w.heap[bk t q]? = some (.cells (el t q) B)
def upd2 (bk : Nat → Nat → Nat) (i j b : Nat) (t q : Nat) : Nat := if t = i ∧ q = j then b else bk t q
theorem upd2_at (bk : Nat → Nat → Nat) (i j b : Nat) : upd2 bk i j b i j = b := by simp [upd2]
theorem upd2_ne (bk : Nat → Nat → Nat) (i j b : Nat) {t q : Nat} (h : ¬ (t = i ∧ q = j)) : upd2 bk i j b t q = bk t q := by simp [upd2, h]
section
variable {w0 w w' : World} {B : Nat} {P P' : Nat → Nat → Prop} {bk : Nat → Nat → Nat} {el : Nat → Nat → Array Value}
theorem EB.lt (h : EB w0 w B P bk el) {t q : Nat} (hp : P t q) : bk t q < w.heap.size := (Array.getElem?_eq_some_iff.1 (h t q hp).2).1
theorem EB.mono (h : EB w0 w B P bk el) (hp : ∀ t q, P' t q → P t q) : EB w0 w B P' bk el := fun t q h1 => h t q (hp t q h1)
theorem EB.below (h : EB w0 w B P bk el) (hb : Below w.heap.size w w') : EB w0 w' B P bk el := fun t q hp => ⟨(h t q hp).1, by rw [hb.block _ (h.lt hp)]; exact (h t q hp).2⟩
theorem EB.setCell (h : EB w0 w B P bk el) {p : Addr} (hp : p.block < w0.heap.size) (u : Value) : EB w0 (w.setCell p u) B P bk el := fun t q hpq => by
  obtain ⟨h1, h2⟩ := h t q hpq
  exact ⟨h1, by rw [Below.heap_setCell _ _ _ _ (show bk t q ≠ p.block by omega)]; exact h2⟩
theorem EB.grw {B0 e sz n : Nat} {f : Nat → List Value} {v v' : Value} (h : EB w0 w B P bk el) (ho : Own w B0 e sz v n f) (hne : e ≠ B) (hg : Grw w w' v v') : EB w0 w' B P bk el := fun t q hp => by
  obtain ⟨h1, h2⟩ := h t q hp
  refine ⟨h1, ?_⟩
  rw [hg.gr.block _ (h.lt hp) fun e1 => ?_]
  · exact h2
  · rcases ho.2 with ⟨rfl, _⟩ | ⟨g, cap, cur, rfl, _, hh, _⟩
    · cases e1
    · have e2 : some (bk t q) = some g := e1
      injection e2 with e2
      rw [e2, hh] at h2
      injection h2 with h2
      injection h2 with _ h2 _
      exact hne h2
theorem EB.new (h : EB w0 w B P bk el) (hs : w0.heap.size ≤ w.heap.size) {i j : Nat} {C : Array Value} (hC : el i j = C) (hp : ∀ t q, P' t q → P t q ∨ (t = i ∧ q = j)) : EB w0 (w.alloc (.cells C B)) B P' (upd2 bk i j w.heap.size) el := fun t q hpq => by
  by_cases e : t = i ∧ q = j
  · obtain ⟨rfl, rfl⟩ := e
    rw [upd2_at, hC]
    exact ⟨hs, heap_alloc_new w _⟩
  · rw [upd2_ne _ _ _ _ e]
    have h1 := (hp t q hpq).resolve_right e
    exact ⟨(h t q h1).1, by rw [heap_alloc_old w _ (h.lt h1)]; exact (h t q h1).2⟩
/-- What an element's place holds. -/
theorem EB.cell (h : EB w0 w B P bk el) {t q c : Nat} {u : Value} (hp : P t q) (hu : (el t q)[c]? = some u) : w.cell? ⟨bk t q, c, none⟩ = some u := by
  have h1 := cell_of_row w (bk t q) c (el t q) B (0, 0) (h t q hp).2
  rw [h1, hu]
end
def eV (el : Nat → Nat → Array Value) (bk : Nat → Nat → Nat) (t q : Nat) : Value := .slice (some ⟨bk t q, 0, none⟩) (el t q).size (el t q).size
def eF (el : Nat → Nat → Array Value) (bk : Nat → Nat → Nat) (t q : Nat) : List Value := [eV el bk t q]
theorem eF_len (el : Nat → Nat → Array Value) (bk : Nat → Nat → Nat) (t q : Nat) : (eF el bk t q).length = 1 := rfl
/-- The lists up to i have got elements of their own, j places of the list i. -/
def eM (f : Nat → Nat → Value) (el : Nat → Nat → Array Value) (bk : Nat → Nat → Nat) (i j t q : Nat) : Value := if t < i ∨ (t = i ∧ q < j) then eV el bk t q else f t q
def eP (N : Nat) (L : Nat → Nat) (i j t q : Nat) : Prop := t < N ∧ q < L t ∧ (t < i ∨ (t = i ∧ q < j))
/-- Each list is grown by W, k of the list i's own. -/
def eQ (N W : Nat) (L : Nat → Nat) (i k t q : Nat) : Prop := t < N ∧ (q < L t ∨ (t < i ∧ q < L t + W) ∨ (t = i ∧ q < L t + k))
/-- Both of the first phase. -/
def MEl (w0 w : World) (B0 e B N : Nat) (S : Nat → Option Addr) (L C : Nat → Nat) (f : Nat → Nat → Value) (el : Nat → Nat → Array Value) (i j : Nat) : Prop :=
  ∃ bk, MK w0 w B0 e N S L C (eM f el bk i j) ∧ EB w0 w B (eP N L i j) bk el
section
variable {w0 w w' : World} {B0 e B N g i j : Nat} {S : Nat → Option Addr} {L C : Nat → Nat} {f : Nat → Nat → Value} {el : Nat → Nat → Array Value}
theorem MEl.start (hR : ∀ t, t < N → Own w B0 e 1 (.slice (S t) (L t) (C t)) (L t) (fun q => [f t q])) : MEl w w B0 e B N S L C f el 0 0 :=
  ⟨fun _ _ => 0, MK.congr ⟨hR, Only.refl _ _⟩ fun t _ q _ => by unfold eM; rw [if_neg (by omega)], fun t q hp => by unfold eP at hp; omega⟩
theorem MEl.only (h : MEl w0 w B0 e B N S L C f el i j) : Only (RB N S) w0 w := h.elim fun _ h => h.1.2
theorem MEl.addr (h : MEl w0 w B0 e B N S L C f el i j) {t : Nat} (ht : t < N) : (S t = none ∧ L t = 0) ∨ ∃ g, S t = some ⟨g, 0, none⟩ ∧ B0 ≤ g ∧ g < w.heap.size := h.elim fun _ h => (h.1.1 t ht).addr
theorem MEl.row (h : MEl w0 w B0 e B N S L C f el i j) (hL : L i ≤ j) : MEl w0 w B0 e B N S L C f el (i + 1) 0 := by
  obtain ⟨bk, h1, h2⟩ := h
  refine ⟨bk, h1.congr fun t _ q hq => ?_, h2.mono fun t q hp => ?_⟩
  · unfold eM
    by_cases c : t < i ∨ (t = i ∧ q < j)
    · rw [if_pos c, if_pos (by omega)]
    · rw [if_neg c, if_neg (by
        rintro (h2 | ⟨_, h2⟩)
        · have : t = i := by omega
          subst this
          omega
        · omega)]
  · obtain ⟨p1, p2, p3⟩ := hp
    refine ⟨p1, p2, ?_⟩
    by_cases e : t = i
    · subst e; exact .inr ⟨rfl, by omega⟩
    · exact .inl (by omega)
theorem MEl.set (h : MEl w0 w B0 e B N S L C f el i j) (hA : Apt N S) (hi : i < N) (hj : j < L i) (hg : S i = some ⟨g, 0, none⟩) (hgl : g < w0.heap.size) {A : Array Value} {n : Nat} (hel : el i j = A) (hn : A.size = n) :
    MEl w0 ((w.setCell ⟨g, j, none⟩ (.slice (some ⟨w.heap.size, 0, none⟩) n n)).alloc (.cells A B)) B0 e B N S L C f el i (j + 1) := by
  obtain ⟨bk, h1, h2⟩ := h
  have hsz : (w.setCell ⟨g, j, none⟩ (.slice (some ⟨w.heap.size, 0, none⟩) n n)).heap.size = w.heap.size := by simp
  have h3 := (h2.setCell (p := ⟨g, j, none⟩) hgl (.slice (some ⟨w.heap.size, 0, none⟩) n n)).new (P' := eP N L i (j + 1)) (by rw [hsz]; exact h1.2.size) hel fun t q hp => by
    unfold eP at hp ⊢
    by_cases c : t = i ∧ q = j
    · exact .inr c
    · exact .inl (by omega)
  rw [hsz] at h3
  refine ⟨upd2 bk i j w.heap.size, (h1.set hA hi hj hg fun t _ q _ => ?_).below ((Below.refl _ _).alloc (Nat.le_refl _) _), h3⟩
  · unfold eM
    by_cases c : t = i ∧ q = j
    · obtain ⟨rfl, rfl⟩ := c
      rw [if_pos (by omega), if_pos ⟨rfl, rfl⟩]
      unfold eV
      rw [upd2_at, hel, hn]
    · rw [if_neg c]
      by_cases c1 : t < i ∨ (t = i ∧ q < j)
      · rw [if_pos c1, if_pos (by omega)]
        unfold eV
        rw [upd2_ne _ _ _ _ c]
      · rw [if_neg c1, if_neg (by omega)]
end
theorem GS.below {w0 w w' : World} {B0 sz e eh ti N i n ql qw : Nat} {S SL : Nat → Option Addr} {L C LL CL I : Nat → Nat} {F : Nat → Nat → List Value} {v vl vw : Value} (h : GS w0 w B0 sz e eh ti N S L C F i n v ql qw vl vw SL LL CL I) (hb : Below w.heap.size w w') : GS w0 w' B0 sz e eh ti N S L C F i n v ql qw vl vw SL LL CL I :=
  ⟨h.own.kept hb, h.blk, fun t ht htN => (h.rows t ht htN).kept hb, fun t ht => (h.base t ht).below hb, h.inb, h.long.kept hb, h.who.kept hb, fun m hm => ⟨(h.kept m hm).1, (h.kept m hm).2.1.below hb, (h.kept m hm).2.2⟩, h.dvl, h.dvw, h.dkl, h.dkw, h.lenb, h.only.below hb⟩
/-- The lists before i are grown, what was kept of them is no longer than that. -/
def KX (W : Nat) (L LL I : Nat → Nat) (i ql : Nat) : Prop := ∀ m, m < ql → I m < i ∧ LL m ≤ L (I m) + W
def HB (w0 w : World) (B0 e B eh ti N W : Nat) (S : Nat → Option Addr) (L C : Nat → Nat) (el : Nat → Nat → Array Value) (i ql : Nat) (vl vw : Value) (SL : Nat → Option Addr) (LL CL I : Nat → Nat) (bk : Nat → Nat → Nat) : Prop :=
  GB w0 w B0 1 e eh ti N S L C (eF el bk) i ql ql vl vw SL LL CL I ∧ EB w0 w B (eQ N W L i 0) bk el ∧ KX W L LL I i ql
def HS (w0 w : World) (B0 e B eh ti N W : Nat) (S : Nat → Option Addr) (L C : Nat → Nat) (el : Nat → Nat → Array Value) (i k : Nat) (v : Value) (ql qw : Nat) (vl vw : Value) (SL : Nat → Option Addr) (LL CL I : Nat → Nat) (bk : Nat → Nat → Nat) (p : Nat) : Prop :=
  GX w0 w B0 1 e eh ti N S L C (eF el bk) i (L i + k) v ql qw vl vw SL LL CL I ∧ EB w0 w B (eQ N W L i p) bk el ∧ KX W L LL I (i + 1) ql
section
variable {w0 w w' : World} {B0 e B eh ti N W i k ql qw p : Nat} {S SL : Nat → Option Addr} {L C LL CL I : Nat → Nat} {f : Nat → Nat → Value} {el : Nat → Nat → Array Value} {bk : Nat → Nat → Nat} {v v' vl vl' vw vw' : Value}
theorem MEl.grow (h : MEl w0 w B0 e B N S L C f el N 0) (hin : ∀ t, t < N → ∀ s o, S t = some ⟨s, o, none⟩ → s < w0.heap.size) : ∃ bk, HB w0 w B0 e B eh ti N W S L C el 0 0 (.slice none 0 0) (.slice none 0 0) (fun _ => none) (fun _ => 0) (fun _ => 0) (fun _ => 0) bk := by
  obtain ⟨bk, h1, h2⟩ := h
  have hrow : ∀ t, t < N → Own w B0 e 1 (.slice (S t) (L t) (C t)) (L t) (eF el bk t) := fun t ht => (h1.1 t ht).congr fun q hq => by
    unfold eM eF
    rw [if_pos (.inl ht)]
  exact ⟨bk, ⟨fun t _ => hrow t, fun t ht => It.of_own (eF_len el bk) (hrow t ht) (fun s _ hs => by cases hs), hin, Own.nil _ _ _ _ _, Own.nil _ _ _ _ _, fun m hm => absurd hm (Nat.not_lt_zero _), fun m hm => absurd hm (Nat.not_lt_zero _), fun m hm => absurd hm (Nat.not_lt_zero _), fun m hm => absurd hm (Nat.not_lt_zero _), h1.2⟩, h2.mono fun t q hp => by unfold eQ at hp; unfold eP; omega, fun m hm => absurd hm (Nat.not_lt_zero _)⟩
theorem HB.start (h : HB w0 w B0 e B eh ti N W S L C el i ql vl vw SL LL CL I bk) (hA : Apt N S) (hi : i < N) : HS w0 w B0 e B eh ti N W S L C el i 0 (.slice (S i) (L i) (C i)) ql ql vl vw SL LL CL I bk 0 :=
  ⟨h.1.startX hA hi fun m hm => (h.2.2 m hm).1, h.2.1, fun m hm => ⟨by have := (h.2.2 m hm).1; omega, (h.2.2 m hm).2⟩⟩
theorem HS.stop (h : HS w0 w B0 e B eh ti N W S L C el i k v ql ql vl vw SL LL CL I bk W) : HB w0 w B0 e B eh ti N W S L C el (i + 1) ql vl vw SL LL CL I bk :=
  ⟨h.1.1.stop, h.2.1.mono fun t q hp => by
    unfold eQ at hp ⊢
    by_cases e : t = i
    · subst e; omega
    · omega, h.2.2⟩
/-- An element is made. -/
theorem HS.elem (h : HS w0 w B0 e B eh ti N W S L C el i k v ql qw vl vw SL LL CL I bk k) {A : Array Value} (hel : el i (L i + k) = A) : HS w0 (w.alloc (.cells A B)) B0 e B eh ti N W S L C el i k v ql qw vl vw SL LL CL I (upd2 bk i (L i + k) w.heap.size) (k + 1) :=
  ⟨GX.congrF ⟨h.1.1.below ((Below.refl _ _).alloc (Nat.le_refl _) _), h.1.2⟩ (fun t q ht => by unfold eF eV; rw [upd2_ne _ _ _ _ (fun c => ht c.1)]) (fun q hq => by unfold eF eV; rw [upd2_ne _ _ _ _ (fun c => by omega)]),
    h.2.1.new h.1.1.only.size hel fun t q hp => by
      unfold eQ at hp ⊢
      by_cases c : t = i ∧ q = L i + k
      · exact .inr c
      · refine .inl ⟨hp.1, ?_⟩
        by_cases e : t = i
        · subst e; omega
        · omega, h.2.2⟩
theorem HS.push (h : HS w0 w B0 e B eh ti N W S L C el i k v ql qw vl vw SL LL CL I bk p) (hA : Apt N S) (hi : i < N) (hne : e ≠ B) (ho : Own w' B0 e 1 v' (L i + k + 1) (eF el bk i)) (hg : Grw w w' v v') : HS w0 w' B0 e B eh ti N W S L C el i (k + 1) v' ql qw vl vw SL LL CL I bk p :=
  ⟨h.1.push (eF_len el bk) hA hi ho hg, h.2.1.grw h.1.1.own hne hg, h.2.2⟩
theorem HS.keepL {A : Option Addr} {c n : Nat} (h : HS w0 w B0 e B eh ti N W S L C el i k (.slice A n c) ql ql vl vw SL LL CL I bk p) (hn : n = L i + k) (hA : Apt N S) (hi : i < N) (hne : eh ≠ ti) (hne2 : eh ≠ B) (hk : k ≤ W) (hnb : n ≤ 1000000000000000)
    (ho : Own w' w0.heap.size eh 1 vl' (ql + 1) (fun m => [.slice (upd SL ql A m) (upd LL ql n m) (upd CL ql c m)])) (hg : Grw w w' vl vl') : HS w0 w' B0 e B eh ti N W S L C el i k (.slice A n c) (ql + 1) ql vl' vw (upd SL ql A) (upd LL ql n) (upd CL ql c) (upd I ql i) bk p := by
  subst hn
  refine ⟨h.1.keepL (eF_len el bk) hA hi hne hnb ho hg, h.2.1.grw h.1.1.long hne2 hg, fun m hm => ?_⟩
  by_cases em : m = ql
  · subst em; rw [upd_at, upd_at]; exact ⟨Nat.lt_succ_self _, by omega⟩
  · rw [upd_ne _ _ _ em, upd_ne _ _ _ em]; exact h.2.2 m (by omega)
theorem HS.keepW (h : HS w0 w B0 e B eh ti N W S L C el i k v ql qw vl vw SL LL CL I bk p) (hA : Apt N S) (hne : eh ≠ ti) (hne2 : ti ≠ B) (ho : Own w' w0.heap.size ti 1 vw' (qw + 1) (fun m => [.int .i64 ((I m : Nat) : Int)])) (hg : Grw w w' vw vw') : HS w0 w' B0 e B eh ti N W S L C el i k v ql (qw + 1) vl vw' SL LL CL I bk p :=
  ⟨h.1.keepW hA hne ho hg, h.2.1.grw h.1.1.who hne2 hg, h.2.2⟩
/-- What stands at a place of a list that was kept. -/
theorem HB.item (h : HB w0 w B0 e B eh ti N W S L C el N ql vl vw SL LL CL I bk) {m j : Nat} (hm : m < ql) (hj : j < LL m) : I m < N ∧ ∃ b o, SL m = some ⟨b, o, none⟩ ∧ b < w.heap.size ∧ w.cell? ⟨b, o + j, none⟩ = some (eV el bk (I m) j) ∧ w.heap[bk (I m) j]? = some (.cells (el (I m) j) B) ∧ bk (I m) j < w.heap.size := by
  obtain ⟨k1, k2, _⟩ := h.1.kept m hm
  obtain ⟨b, o, e1, hb, hc⟩ := k2.1.rd j hj
  have hq : eQ N W L N 0 (I m) j := ⟨k1, by have := (h.2.2 m hm).2; omega⟩
  exact ⟨k1, b, o, e1, hb, hc, (h.2.1 _ _ hq).2, h.2.1.lt hq⟩
/-- What stands at a place of a list as it was. -/
theorem HB.old (h : HB w0 w B0 e B eh ti N W S L C el N ql vl vw SL LL CL I bk) {t j : Nat} (ht : t < N) (hj : j < L t) : ∃ b o, S t = some ⟨b, o, none⟩ ∧ b < w.heap.size ∧ w.cell? ⟨b, o + j, none⟩ = some (eV el bk t j) ∧ w.heap[bk t j]? = some (.cells (el t j) B) ∧ bk t j < w.heap.size := by
  obtain ⟨b, o, e1, hb, hc⟩ := (h.1.base t ht).1.rd j hj
  have hq : eQ N W L N 0 t j := ⟨ht, .inl hj⟩
  exact ⟨b, o, e1, hb, hc, (h.2.1 _ _ hq).2, h.2.1.lt hq⟩
end
end Go.Proofs.Ytbioanbokbhmgaa

/- Rows gathered into a list: owned, no two in one block; append of many elements. Conditions: rows that lie apart. -/
namespace Go.Proofs.Ytbioanbokbhmgaa
open Go.RowKit

/-- A row: where it lies, its length, its room, its elements. -/
structure Rw where
  A : Option Addr
  n : Nat
  c : Nat
  f : Nat → Value
def rw0 : Rw := ⟨none, 0, 0, fun _ => undef⟩
def Rw.v (r : Rw) : Value := .slice r.A r.n r.c
/-- Rows: owned, no two in one block, all in blocks of U. -/
structure AR (w : World) (B e : Nat) (U : Nat → Prop) (R : List Rw) : Prop where
  row : ∀ r ∈ R, Own w B e 1 (.slice r.A r.n r.c) r.n (fun q => [r.f q])
  apart : R.Pairwise fun a b => ∀ k, a.v.ownBlock = some k → b.v.ownBlock ≠ some k
  inU : ∀ r ∈ R, ∀ k, r.v.ownBlock = some k → U k
theorem Own.blkX {w w' : World} {B e sz n : Nat} {v : Value} {f : Nat → List Value} (h : Own w B e sz v n f) (hb : ∀ k, v.ownBlock = some k → w'.heap[k]? = w.heap[k]?) : Own w' B e sz v n f := by
  obtain ⟨h1, h2⟩ := h
  refine ⟨h1, ?_⟩
  rcases h2 with h2 | ⟨g, cap, cur, rfl, hg, hh, hn, hc, hcur, htake⟩
  · exact .inl h2
  · exact .inr ⟨g, cap, cur, rfl, hg, by rw [hb g rfl]; exact hh, hn, hc, hcur, htake⟩
section
variable {w w' : World} {B B' e : Nat} {U U' V : Nat → Prop} {R R' : List Rw}
theorem AR.nil (w : World) (B e : Nat) (U : Nat → Prop) : AR w B e U [] := ⟨fun r h => by (cases h), .nil, fun r h => by (cases h)⟩
theorem AR.app (h : AR w B e U R) (h' : AR w B e U' R') (hd : ∀ k, U k → ¬ U' k) (hU : ∀ k, U k → V k) (hU' : ∀ k, U' k → V k) : AR w B e V (R ++ R') := by
  refine ⟨fun r hr => ?_, List.pairwise_append.2 ⟨h.apart, h'.apart, fun a ha b hb k hk e => hd k (h.inU a ha k hk) (h'.inU b hb k e)⟩, fun r hr k hk => ?_⟩
  · rcases List.mem_append.1 hr with hr | hr
    · exact h.row r hr
    · exact h'.row r hr
  · rcases List.mem_append.1 hr with hr | hr
    · exact hU k (h.inU r hr k hk)
    · exact hU' k (h'.inU r hr k hk)
theorem AR.mono (h : AR w B e U R) (hU : ∀ k, U k → V k) : AR w B e V R := ⟨h.row, h.apart, fun r hr k hk => hU k (h.inU r hr k hk)⟩
theorem AR.monoB (h : AR w B e U R) (hB : B' ≤ B) : AR w B' e U R := ⟨fun r hr => (h.row r hr).mono hB, h.apart, h.inU⟩
theorem AR.kept (h : AR w B e U R) (hb : Below w.heap.size w w') : AR w' B e U R := ⟨fun r hr => (h.row r hr).kept hb, h.apart, h.inU⟩
theorem AR.blocks (h : AR w B e U R) (hb : ∀ k, U k → w'.heap[k]? = w.heap[k]?) : AR w' B e U R := ⟨fun r hr => (h.row r hr).blkX fun k hk => hb k (h.inU r hr k hk), h.apart, h.inU⟩
theorem AR.one {A : Option Addr} {n c : Nat} {f : Nat → Value} (h : Own w B e 1 (.slice A n c) n (fun q => [f q])) (hU : ∀ k, (Value.slice A n c).ownBlock = some k → U k) : AR w B e U [⟨A, n, c, f⟩] :=
  ⟨fun r hr => by rw [List.mem_singleton] at hr; subst hr; exact h, List.pairwise_singleton _ _, fun r hr => by rw [List.mem_singleton] at hr; subst hr; exact hU⟩
theorem rget {R : List Rw} {t : Nat} (ht : t < R.length) : R.getD t rw0 ∈ R := by
  rw [List.getD_eq_getElem?_getD, List.getElem?_eq_getElem ht]
  exact List.getElem_mem ht
theorem AR.own (h : AR w B e U R) : ∀ t, t < R.length → Own w B e 1 (.slice (R.getD t rw0).A (R.getD t rw0).n (R.getD t rw0).c) (R.getD t rw0).n (fun q => [(R.getD t rw0).f q]) := fun _ ht => h.row _ (rget ht)
theorem AR.apt (h : AR w B e U R) : Apt R.length (fun t => (R.getD t rw0).A) := by
  have key : ∀ s t, s < t → t < R.length → ∀ k o o', (R.getD s rw0).A = some ⟨k, o, none⟩ → (R.getD t rw0).A = some ⟨k, o', none⟩ → False := fun s t hst ht k o o' es et => by
    have h1 := (h.own s (by omega)).off es
    have h2 := (h.own t ht).off et
    have h3 := List.pairwise_iff_getElem.1 h.apart s t (by omega) ht hst k
    have e1 : R.getD s rw0 = R[s] := by rw [List.getD_eq_getElem?_getD, List.getElem?_eq_getElem (by omega)]; rfl
    have e2 : R.getD t rw0 = R[t] := by rw [List.getD_eq_getElem?_getD, List.getElem?_eq_getElem ht]; rfl
    rw [e1] at h1
    rw [e2] at h2
    exact h3 h1.2 h2.2
  intro s t hs ht k o o' es et
  rcases Nat.lt_trichotomy s t with h1 | h1 | h1
  · exact (key s t h1 ht k o o' es et).elim
  · exact h1
  · exact (key t s h1 hs k o' o et es).elim
theorem AR.rb (h : AR w B e U R) {k : Nat} (hk : RB R.length (fun t => (R.getD t rw0).A) k) : U k := by
  obtain ⟨t, o, ht, hs⟩ := hk
  exact h.inU _ (rget ht) k ((h.own t ht).off hs).2
end
/-- The list of the rows' headers. -/
def OwnR (w : World) (B eh : Nat) (v : Value) (R : List Rw) : Prop := w.ownsRow B eh 1 v R.length (R.map Rw.v)
theorem mapR (R : List Rw) : (List.range R.length).flatMap (fun t => [(R.getD t rw0).v]) = R.map Rw.v := by
  rw [flat1]
  apply List.ext_getElem?
  intro i
  by_cases hi : i < R.length
  · simp [hi, List.getD]
  · simp [hi]
section
variable {w w' : World} {B B' eh : Nat} {v : Value} {R : List Rw}
theorem OwnR.own (h : OwnR w B eh v R) : Own w B eh 1 v R.length (fun t => [.slice (R.getD t rw0).A (R.getD t rw0).n (R.getD t rw0).c]) := by
  unfold Own
  unfold OwnR at h
  rw [← mapR] at h
  exact h
theorem OwnR.of (h : Own w B eh 1 v R.length (fun t => [.slice (R.getD t rw0).A (R.getD t rw0).n (R.getD t rw0).c])) : OwnR w B eh v R := by
  unfold Own at h
  unfold OwnR
  rw [← mapR]
  exact h
theorem OwnR.nil (w : World) (B eh : Nat) : OwnR w B eh (.slice none 0 0) [] := World.ownsRow_nil _ _ _ _
theorem OwnR.kept (h : OwnR w B eh v R) (hb : Below w.heap.size w w') : OwnR w' B eh v R := OwnR.of (h.own.kept hb)
theorem OwnR.mono (h : OwnR w B eh v R) (hB : B' ≤ B) : OwnR w B' eh v R := OwnR.of (h.own.mono hB)
theorem OwnR.lt (h : OwnR w B eh v R) : ∀ k, v.ownBlock = some k → B ≤ k ∧ k < w.heap.size := World.ownsRow.lt h
end
theorem Only.trans' {Q X : Nat → Prop} {a b c : World} (h : Only Q a b) (h2 : Only X b c) (hX : ∀ k, X k → Q k) : Only Q a c := h.trans (h2.mono hX)
/-- Rows of another kind were written. -/
theorem Own.past {w w' : World} {B B0 e e' sz sz2 n N : Nat} {v : Value} {F : Nat → List Value} {S : Nat → Option Addr} {L C : Nat → Nat} {G : Nat → Nat → List Value} (h : Own w B e' sz v n F) (hR : ∀ t, t < N → Own w B0 e sz2 (.slice (S t) (L t) (C t)) (L t) (G t)) (hne : e' ≠ e) (ho : Only (RB N S) w w') : Own w' B e' sz v n F :=
  ho.own h fun k hk ⟨t, o, ht, hs⟩ => by
    have h2 := ((hR t ht).off hs).2
    rcases own_ne h (hR t ht) hne with h3 | h3
    · rw [hk] at h3; cases h3
    · exact h3 (by rw [hk, h2])
theorem AR.past {w w' : World} {B B0 e e' N : Nat} {U : Nat → Prop} {R : List Rw} {S : Nat → Option Addr} {L C : Nat → Nat} {G : Nat → Nat → List Value} (h : AR w B e' U R) (hR : ∀ t, t < N → Own w B0 e 1 (.slice (S t) (L t) (C t)) (L t) (G t)) (hne : e' ≠ e) (ho : Only (RB N S) w w') : AR w' B e' U R :=
  ⟨fun r hr => Own.past (h.row r hr) hR hne ho, h.apart, h.inU⟩
theorem OwnR.past {w w' : World} {B B0 e e' N : Nat} {v : Value} {R : List Rw} {S : Nat → Option Addr} {L C : Nat → Nat} {G : Nat → Nat → List Value} (h : OwnR w B e' v R) (hR : ∀ t, t < N → Own w B0 e 1 (.slice (S t) (L t) (C t)) (L t) (G t)) (hne : e' ≠ e) (ho : Only (RB N S) w w') : OwnR w' B e' v R :=
  OwnR.of (Own.past h.own hR hne ho)
/-- An array of headers that was just made. -/
theorem OwnR.made (w : World) (eh : Nat) (C : Array Value) (m : Nat) (R : List Rw) (hC : C.toList = R.map Rw.v) (hm : m = R.length) (hl : R.length ≤ maxLen) : OwnR (w.alloc (.cells C eh)) w.heap.size eh (.slice (some ⟨w.heap.size, 0, none⟩) m m) R := by
  subst hm
  have hs : C.size = R.length := by rw [← Array.length_toList, hC, List.length_map]
  refine ⟨by simp, .inr ⟨w.heap.size, R.length, C, rfl, Nat.le_refl _, heap_alloc_new w _, Nat.le_refl _, hl, by omega, ?_⟩⟩
  rw [hC, List.take_of_length_le (by simp)]
theorem Below.setC {w w' : World} {B : Nat} (h : Below B w w') {q : Addr} (hq : B ≤ q.block) (u : Value) : Below B w (w'.setCell q u) :=
  ⟨h.os, h.tape, h.output, by have := h.size; simp; omega, fun k hk => (Below.heap_setCell _ _ _ _ (by omega)).trans (h.block k hk)⟩
/-- What a slice of slices yields to an append. -/
theorem rows_src {P : Program} {w : World} {tx eh c : Nat} {A : Option Addr} {R : List Rw} (hk : P.underlying tx = some (.slice eh)) (h : Rd w A R.length (fun j => (R.getD j rw0).v)) : Src P 1 tx (.slice A R.length c) R.length (R.map Rw.v) w := by
  cases A with
  | none =>
    cases R with
    | nil => exact Src.ofNil w hk c
    | cons x l => obtain ⟨b, o, e, _⟩ := h 0 (by simp); cases e
  | some ad =>
    refine Src.ofSlice w hk ad R.length c (R.map Rw.v) (by simp) ?_ ?_
    · intro j u hu
      have hlt : j < R.length := by have := (List.getElem?_eq_some_iff.1 hu).1; simpa using this
      obtain ⟨b', o', e1, _, hc⟩ := h j hlt
      injection e1 with e1; subst e1
      have hadd : (⟨b', o', none⟩ : Addr).add j = ⟨b', o' + j, none⟩ := by unfold Addr.add; split <;> simp_all
      rw [hadd, hc]
      rw [List.getElem?_map, List.getElem?_eq_getElem hlt, Option.map_some] at hu
      show some (R.getD j rw0).v = some u
      rw [List.getD_eq_getElem?_getD, List.getElem?_eq_getElem hlt, ← hu]
      rfl
    · intro u hu
      obtain ⟨_, _, rfl⟩ := List.mem_map.1 hu
      rfl
section
variable {P : Program}
/-- 'append(all, rows...)'. -/
theorem wpList_appR {w : World} {ops : Array Oper} {rest : List Oper} {o : Oper} {a : Act} {Q : Exit → Act → World → Prop} {A : Option Addr} {c : Nat} (hgd : o.guard = none) (s xo : Operand) (t : TypeId)
    (ho : o.op = .call { callee := .builtin .append, args := #[s, xo], argTypes := #[t, t] })
    (B eh : Nat) (ht : P.underlying t = some (.slice eh)) (hinfo : (P.info? eh).map (fun i => (i.zero, i.size, i.bytes)) = some (some (.slice none 0 0), 1, 24))
    (v : Value) (R R' : List Rw) (hv : a.eval s = v) (hown : OwnR w B eh v R) (hB : B ≤ w.heap.size) (hx : a.eval xo = .slice A R'.length c) (hs : Rd w A R'.length (fun j => (R'.getD j rw0).v)) (hlen : R.length + R'.length ≤ 1000000000000)
    (h : ∀ v' w', OwnR w' B eh v' (R ++ R') → Below B w w' → ((v'.ownBlock = v.ownBlock ∧ w.grownBy w' v.ownBlock) ∨ (v'.ownBlock = some w.heap.size ∧ w.grownBy w' none)) → wpList P ops Q rest (a.put o.dst v') w') :
    wpList P ops Q (o :: rest) a w := by
  refine wpList_append_srcX hgd s xo t t ho B eh (.slice none 0 0) 1 24 ht hinfo (by decide) v R.length (R.map Rw.v) hv hown _ R'.length (R'.map Rw.v) hx (rows_src ht hs) (by unfold maxLen; omega) (.inl (by omega)) hB ?_
  intro v' w' h1 h2
  have h3 : OwnR w' B eh v' (R ++ R') := by
    unfold OwnR
    rw [List.length_append, List.map_append]
    exact h1
  refine h v' w' h3 ?_ h2
  rcases h2 with ⟨_, hg⟩ | ⟨_, hg⟩
  · exact (Below.refl _ _).grown hg hB fun g hg => (hown.lt g hg).1
  · exact (Below.refl _ _).grown hg hB fun g hg => by cases hg
/-- 'append(all, a, b, ..)': the rows stand in an array that was just made. -/
theorem wpList_appC (w : World) {ops : Array Oper} {rest : List Oper} {o : Oper} {a : Act} {Q : Exit → Act → World → Prop} (hgd : o.guard = none) (s xo : Operand) (t : TypeId)
    (ho : o.op = .call { callee := .builtin .append, args := #[s, xo], argTypes := #[t, t] })
    (B eh : Nat) (ht : P.underlying t = some (.slice eh)) (hinfo : (P.info? eh).map (fun i => (i.zero, i.size, i.bytes)) = some (some (.slice none 0 0), 1, 24))
    (v : Value) (R R' : List Rw) (C : Array Value) (m : Nat) (hC : C.toList = R'.map Rw.v) (hm : m = R'.length) (hv : a.eval s = v) (hown : OwnR w B eh v R) (hB : B ≤ w.heap.size) (N : Nat) (hN : w.heap.size = N) (hx : a.eval xo = .slice (some ⟨N, 0, none⟩) m m) (hlen : R.length + R'.length ≤ 1000000000000)
    (h : ∀ v' w', OwnR w' B eh v' (R ++ R') → Below B w w' → Grw w w' v v' → wpList P ops Q rest (a.put o.dst v') w') :
    wpList P ops Q (o :: rest) a (w.alloc (.cells C eh)) := by
  subst hN hm
  refine wpList_append_srcX hgd s xo t t ho B eh (.slice none 0 0) 1 24 ht hinfo (by decide) v R.length (R.map Rw.v) hv (World.ownsRow.alloc hown _) _ R'.length (R'.map Rw.v) hx
    (Src.ofSlice _ ht _ _ _ _ (by simp) (fun j u hu => cells_new _ _ _ j u (by rw [hC]; exact hu)) (fun u hu => by obtain ⟨_, _, rfl⟩ := List.mem_map.1 hu; rfl)) (by unfold maxLen; omega) (.inl (by omega)) (by simp; omega) ?_
  intro v' w' h1 h2
  have h3 : OwnR w' B eh v' (R ++ R') := by
    unfold OwnR
    rw [List.length_append, List.map_append]
    exact h1
  have hgr : ∀ r : Option Nat, (w.alloc (.cells C eh)).grownBy w' r → w.grownBy w' r := fun r hg => ⟨hg.os, hg.tape, hg.output, by have := hg.size; simp at this; omega, fun i hi hne => by
    rw [hg.block i (by simp; omega) hne]; exact Below.heap_alloc _ _ _ hi⟩
  rcases h2 with ⟨e1, hg⟩ | ⟨e1, hg⟩
  · exact h v' w' h3 ((Below.refl _ _).grown (hgr _ hg) hB fun g hg => (hown.lt g hg).1) (.inl ⟨e1, hgr _ hg⟩)
  · refine h v' w' h3 ((Below.refl _ _).grown (hgr _ hg) hB fun g hg => by cases hg) (.inr ⟨_, e1, ?_, hgr _ hg⟩)
    simp
end
end Go.Proofs.Ytbioanbokbhmgaa

/- What the apart texts share. Conditions: none. -/
namespace Go.Proofs.Ytbioanbokbhmgaa
open Go.RowKit

theorem apInts : (Try.prog.info? 30).map (fun i => (i.zero, i.size, i.bytes)) = some (some (.slice none 0 0), 1, 24) := by kernel_rfl
theorem apInt : (Try.prog.info? 3).map (fun i => (i.zero, i.size, i.bytes)) = some (some (.int .i64 0), 1, 8) := by kernel_rfl
theorem own_freeX {w : World} {B e sz g n c : Nat} {f : Nat → List Value} (h : Own w B e sz (.slice (some ⟨g, 0, none⟩) n c) n f) (i : Nat) : w.frozen? ⟨g, i, none⟩ = false := by
  rcases h.2 with ⟨e, _⟩ | ⟨b, cap, cur, e, _, hg, _⟩
  · cases e
  · injection e with e
    injection e with e
    injection e with e _
    subst e
    simp [World.frozen?, hg]
theorem wanted_unX {ops : Array Oper} {o oj : Oper} {a : Act} {j d : Nat} {b : Bool} (hg : o.guard = some (j, b)) (hj : ops[j]? = some oj) (hd : oj.dst = some d) (hv : a.tmps[d]?.getD undef = undef) : ¬ Region.wanted o (yielded ops a.tmps) = true := by
  cases h : a.tmps[d]? with
  | none => simp [Region.wanted, hg, yielded, hj, hd, h]
  | some v =>
    rw [h] at hv
    simp only [Option.getD_some] at hv
    subst hv
    simp [Region.wanted, hg, yielded, hj, hd, h, undef]
/-- A new slice of these cells. -/
def Fact.sl (C : Array Value) (m : Nat) (T : Nat) : Fact :=
  ⟨fun v w => ∃ g, v = .slice (some ⟨g, 0, none⟩) m m ∧ w.heap[g]? = some (.cells C T), fun v w w' ⟨g, e1, e2⟩ hb => ⟨g, e1, by rw [hb.block g (Array.getElem?_eq_some_iff.1 e2).1]; exact e2⟩⟩
/-- The bytes of a block. -/
theorem rd_blk {w : World} {g T : Nat} {C : Array Value} {n : Nat} {f : Nat → Value} (h : w.heap[g]? = some (.cells C T)) (hC : ∀ i, i < n → C[i]? = some (f i)) : Rd w (some ⟨g, 0, none⟩) n f := fun i hi =>
  ⟨g, 0, rfl, (Array.getElem?_eq_some_iff.1 h).1, by rw [Nat.zero_add, cell_of_row w g i C T (0, 0) h]; exact hC i hi⟩
end Go.Proofs.Ytbioanbokbhmgaa
