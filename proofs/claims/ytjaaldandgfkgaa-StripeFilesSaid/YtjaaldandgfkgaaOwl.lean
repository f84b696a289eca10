/- Bytes in memory as lists: read, owned; append of a slice or a string of bytes; of new bytes. Conditions: lengths that memory bears. -/
import Derived.Test.YtjaaldandgfkgaaMulE
import Derived.Deep.DeepAppendWide
import Derived.Deep.AppendSrc
import Derived.Test.YtjaaldandgfkgaaFactG
import Derived.Lib.ConvBytes
namespace Go.Proofs.Ytjaaldandgfkgaa
open Go.RowKit

section
variable {P : Program}
/-- append of whatever yields cells onto what the call has built. -/
theorem run_append_own_src (w : World) (base : Nat) (t tx ty e : TypeId) (i : TypeInfo) (z : Value) (size bytes : Nat) (ht : P.underlying t = some (.slice e)) (hi : P.info? e = some i) (hz : i.zero = some z)
 (hsize : i.size = size) (hby : i.bytes = bytes) (hzs : z.cells.size = size)
 (v : Value) (n : Nat) (xs : List Value) (hown : w.ownsRow base e size v n xs) (x : Value) (m : Nat) (news : List Value) (hs : Src P size tx x m news w)
 (h63 : n + m ≤ maxLen) (hbytes : (n + m) * bytes ≤ 140737488355328 ∨ ((n + m) + (n + m) / 4 + 192) * bytes ≤ 281474976710656) (hbase : base ≤ w.heap.size) :
 ∃ v' w', (Builtin.append_ #[t, tx] ty #[v, x]).run P w = .ok v' w' ∧ w'.ownsRow base e size v' (n + m) (xs ++ news) ∧ w.grownBy w' v.ownBlock ∧ (v'.ownBlock = v.ownBlock ∨ v'.ownBlock = some w.heap.size) := by
 subst hsize
 subst hby
 have hsmall : ((n + m : Nat) : Int) ≤ 9223372036854775807 := by simp only [maxLen] at h63; omega
 have hl := hs.newsLen
 have hlen : (xs ++ news).length = (n + m) * i.size := by rw [List.length_append, hown.1, hl, Nat.add_mul]
 have grown : ∀ (old : Nat) (row : Option Nat),
  (w.drew.alloc (.cells ((xs ++ news).toArray ++ Builtin.zeroCells z.cells (grownCap w (n + m) old e - (n + m))) e)).ownsRow base e i.size
   (.slice (some ⟨w.heap.size, 0, none⟩) (n + m) (grownCap w (n + m) old e)) (n + m) (xs ++ news) ∧
  w.grownBy (w.drew.alloc (.cells ((xs ++ news).toArray ++ Builtin.zeroCells z.cells (grownCap w (n + m) old e - (n + m))) e)) row := by
  intro old row
  have hge := grownCap_ge w (n + m) old e
  have hcm : grownCap w (n + m) old e ≤ maxLen := grownCap_le_maxLen w (n + m) old e h63
  refine ⟨⟨hlen, .inr ⟨w.heap.size, _, _, rfl, hbase, heap_alloc_new w.drew _, hge, hcm, ?_, ?_⟩⟩, ⟨rfl, rfl, rfl, by simp, fun k hk _ => heap_alloc_old w.drew _ hk⟩⟩
  · simp only [Array.size_append, List.size_toArray, size_zeroCells, hzs, hlen, ← Nat.add_mul]
    congr 1
    omega
  · simp only [Array.toList_append]
    rw [← hlen]
    exact List.take_left
 rcases hown.2 with ⟨rfl, rfl⟩ | ⟨g, cap, cur, rfl, hbg, hg, hnc, hcm, hcs, htake⟩
 · have hx : xs = [] := List.eq_nil_of_length_eq_zero (by simpa using hown.1)
   subst hx
   by_cases hm : m = 0
   · subst hm
     have hn : news = [] := List.eq_nil_of_length_eq_zero (by simpa using hl)
     subst hn
     have hc := hs.cells
     refine ⟨.slice none 0 0, w, ?_, World.ownsRow_nil w base e i.size, ⟨rfl, rfl, rfl, Nat.le_refl _, fun _ _ _ => rfl⟩, .inl rfl⟩
     rcases hs.kind with ⟨e', hk⟩ | hk <;> simp [Builtin.append_, run_underlying ht, run_underlying hk, sizeOf, typeInfo, hi, hs.len, hc]
   · have hr := run_append_grow_src (P := P) w t tx ty e i z ht hi hz none 0 0 [] (by simp [Builtin.firstCells]) x m news hs (by omega) (by omega) (hbytes.elim (growslice_fits (by omega)) (growslice_fits_wide (by omega)))
     have hgr := grown 0 (Value.ownBlock (.slice none 0 0))
     simp only [Nat.zero_add, List.nil_append] at hgr hr ⊢
     exact ⟨_, _, hr, hgr.1, hgr.2, .inr rfl⟩
 · by_cases hroom : n + m ≤ cap
   · have hfit : n * i.size + news.length ≤ cur.size := by rw [hl, hcs, ← Nat.add_mul]; exact Nat.mul_le_mul_right _ hroom
     have hst := run_storeCells_at P g (n * i.size) e news 0 cur w hg (by simpa using hfit) hs.one
     simp only [Nat.add_zero] at hst
     have hr : (Builtin.append_ #[t, tx] ty #[.slice (some ⟨g, 0, none⟩) n cap, x]).run P w =
      .ok (.slice (some ⟨g, 0, none⟩) (n + m) cap) (w.setRow g (cur.toList.take (n * i.size) ++ news ++ cur.toList.drop (n * i.size + news.length)).toArray) := by
      rcases hs.kind with ⟨e', hk⟩ | hk <;> simp [Builtin.append_, run_underlying ht, run_underlying hk, sizeOf, typeInfo, hi, hs.len, hroom, hs.cells, Addr.add_lit, hst]
     refine ⟨_, _, hr, ⟨hlen, .inr ⟨g, cap, _, rfl, hbg, setRow_heap w g cur _ e _ hg, hroom, hcm, ?_, ?_⟩⟩, ⟨rfl, rfl, rfl, by simp, fun k _ hk => setRow_other w g k _ (fun e => hk (by simp [Value.ownBlock, e]))⟩, .inl rfl⟩
     · simp only [List.size_toArray, List.length_append, List.length_take, List.length_drop, Array.length_toList]
       omega
     · rw [htake, ← hlen]
       exact List.take_left
   · have holds : ∀ j u, xs[j]? = some u → w.drew.cell? ((⟨g, 0, none⟩ : Addr).add j) = some u := hown.cells (g := g) rfl
     have hold := run_firstCells_some (P := P) w.drew i.size n ⟨g, 0, none⟩ n cap xs hown.1 holds
     have hr := run_append_grow_src (P := P) w t tx ty e i z ht hi hz (some ⟨g, 0, none⟩) n cap xs hold x m news hs (by omega) (by omega) (hbytes.elim (growslice_fits (by omega)) (growslice_fits_wide (by omega)))
     have hgr := grown cap (Value.ownBlock (.slice (some ⟨g, 0, none⟩) n cap))
     exact ⟨_, _, hr, hgr.1, hgr.2, .inr rfl⟩
theorem wpList_append_srcW {w : World} {ops : Array Oper} {rest : List Oper} {o : Oper} {a : Act} {Q : Exit → Act → World → Prop} (hgd : o.guard = none) (s xo : Operand) (t tx : TypeId)
 (ho : o.op = .call { callee := .builtin .append, args := #[s, xo], argTypes := #[t, tx] })
 (base : Nat) (e : TypeId) (z : Value) (size bytes : Nat) (ht : P.underlying t = some (.slice e)) (hinfo : (P.info? e).map (fun i => (i.zero, i.size, i.bytes)) = some (some z, size, bytes)) (hzs : z.cells.size = size)
 (v : Value) (n : Nat) (xs : List Value) (hv : a.eval s = v) (hown : w.ownsRow base e size v n xs) (x : Value) (m : Nat) (news : List Value) (hx : a.eval xo = x) (hs : Src P size tx x m news w)
 (h63 : n + m ≤ maxLen) (hbytes : (n + m) * bytes ≤ 140737488355328 ∨ ((n + m) + (n + m) / 4 + 192) * bytes ≤ 281474976710656) (hbase : base ≤ w.heap.size)
 (h : ∀ v' w', w'.ownsRow base e size v' (n + m) (xs ++ news) → w.grownBy w' v.ownBlock → (v'.ownBlock = v.ownBlock ∨ v'.ownBlock = some w.heap.size) → wpList P ops Q rest (a.put o.dst v') w') : wpList P ops Q (o :: rest) a w := by
 obtain ⟨i, hi, hz0, hz1, hz2⟩ := info_parts hinfo
 refine wpList_plain hgd fun K hK => ?_
 obtain ⟨v', w', hr, h2, h3, h4⟩ := run_append_own_src (P := P) w base t tx o.type e i z size bytes ht hi hz0 hz1 hz2 hzs v n xs hown x m news hs h63 hbytes hbase
 unfold Oper.wp execOp
 simp only [ho, resolve, invoke, builtin, Sem.run_bind, Sem.run_pure, Result.andThen_ok, List.map_toArray, List.map_cons, List.map_nil, hv, hx, hr]
 exact hK _ _ (h v' w' h2 h3 h4)
theorem wpList_append_src {w : World} {ops : Array Oper} {rest : List Oper} {o : Oper} {a : Act} {Q : Exit → Act → World → Prop} (hgd : o.guard = none) (s xo : Operand) (t tx : TypeId)
 (ho : o.op = .call { callee := .builtin .append, args := #[s, xo], argTypes := #[t, tx] })
 (base : Nat) (e : TypeId) (z : Value) (size bytes : Nat) (ht : P.underlying t = some (.slice e)) (hinfo : (P.info? e).map (fun i => (i.zero, i.size, i.bytes)) = some (some z, size, bytes)) (hzs : z.cells.size = size)
 (v : Value) (n : Nat) (xs : List Value) (hv : a.eval s = v) (hown : w.ownsRow base e size v n xs) (x : Value) (m : Nat) (news : List Value) (hx : a.eval xo = x) (hs : Src P size tx x m news w)
 (h63 : n + m ≤ maxLen) (hbytes : (n + m) * bytes ≤ 140737488355328) (hbase : base ≤ w.heap.size)
 (h : ∀ v' w', w'.ownsRow base e size v' (n + m) (xs ++ news) → w.grownBy w' v.ownBlock → wpList P ops Q rest (a.put o.dst v') w') : wpList P ops Q (o :: rest) a w :=
 wpList_append_srcW hgd s xo t tx ho base e z size bytes ht hinfo hzs v n xs hv hown x m news hx hs h63 (.inl hbytes) hbase fun v' w' h1 h2 _ => h v' w' h1 h2
end

/-! ### bytes -/
def bv (x : Nat) : Value := .int .u8 (x : Int)
/-- A slice of bytes that can be read: its bytes. -/
def RL (w : World) (A : Option Addr) (l : List Nat) : Prop := Rd w A l.length fun i => .int .u8 ((l.getD i 0 : Nat) : Int)
theorem RL.below {w w' : World} {A : Option Addr} {l : List Nat} (h : RL w A l) (hb : Below w.heap.size w w') : RL w' A l := Rd.below h hb
theorem RL.nil (w : World) (A : Option Addr) : RL w A [] := Rd.zero _ _ _
theorem getD_in {l : List Nat} {k : Nat} (hk : k < l.length) : l.getD k 0 = l[k] := by simp [List.getD, hk]
theorem getD_lt {l : List Nat} {b k : Nat} (h : ∀ x ∈ l, x < b) (hk : k < l.length) : l.getD k 0 < b := by
 rw [getD_in hk]; exact h _ (List.getElem_mem hk)
theorem take_next {l : List Nat} {k : Nat} (hk : k < l.length) : l.take (k + 1) = l.take k ++ [l.getD k 0] := by
 rw [getD_in hk, List.take_append_getElem hk]
theorem map_getD (l : List Nat) (g : Nat → Value) : (List.range l.length).map (fun i => g (l.getD i 0)) = l.map g := by
 apply List.ext_getElem?
 intro i
 by_cases hi : i < l.length
 · simp [hi, List.getD]
 · simp [hi]
/-- What the call has built: these bytes. -/
def OwnB (w : World) (B : Nat) (v : Value) (l : List Nat) : Prop := w.ownsRow B 5 1 v l.length (l.map bv)
theorem OwnB.own {w : World} {B : Nat} {v : Value} {l : List Nat} (h : OwnB w B v l) : Own w B 5 1 v l.length (fun i => [.int .u8 ((l.getD i 0 : Nat) : Int)]) := by
 unfold Own
 rw [flat1, show (List.range l.length).map (fun i => Value.int .u8 ((l.getD i 0 : Nat) : Int)) = l.map bv from map_getD l bv]
 exact h
theorem OwnB.of {w : World} {B : Nat} {v : Value} {l : List Nat} (h : Own w B 5 1 v l.length (fun i => [.int .u8 ((l.getD i 0 : Nat) : Int)])) : OwnB w B v l := by
 unfold Own at h
 rw [flat1, show (List.range l.length).map (fun i => Value.int .u8 ((l.getD i 0 : Nat) : Int)) = l.map bv from map_getD l bv] at h
 exact h
theorem OwnB.nil (w : World) (B : Nat) : OwnB w B (.slice none 0 0) [] := World.ownsRow_nil _ _ _ _
theorem OwnB.kept {w w' : World} {B : Nat} {v : Value} {l : List Nat} (h : OwnB w B v l) (hb : Below w.heap.size w w') : OwnB w' B v l := OwnB.of (h.own.kept hb)
theorem OwnB.keptRow {w w' : World} {B : Nat} {v : Value} {l : List Nat} (h : OwnB w B v l) {r : Option Nat} (hg : w.grownBy w' r) (hr : v.ownBlock = none ∨ v.ownBlock ≠ r) : OwnB w' B v l := World.ownsRow.kept h hg hr
theorem OwnB.mono {w : World} {B B' : Nat} {v : Value} {l : List Nat} (h : OwnB w B v l) (hB : B' ≤ B) : OwnB w B' v l := OwnB.of (h.own.mono hB)
theorem OwnB.lt {w : World} {B : Nat} {v : Value} {l : List Nat} (h : OwnB w B v l) : ∀ k, v.ownBlock = some k → B ≤ k ∧ k < w.heap.size := World.ownsRow.lt h
/-- An owned slice, read. -/
theorem OwnB.rd {w : World} {B : Nat} {v : Value} {l : List Nat} (h : OwnB w B v l) : ∃ A c, v = .slice A l.length c ∧ l.length ≤ c ∧ c ≤ maxLen ∧ RL w A l ∧ (∀ b o, A = some ⟨b, o, none⟩ → B ≤ b) := h.own.rd
theorem RL.src {w : World} {A : Option Addr} {l : List Nat} (h : RL w A l) (c : Nat) : Src Try.prog 1 43 (.slice A l.length c) l.length (l.map bv) w := by
 cases A with
 | none =>
  cases l with
  | nil => exact Src.ofNil w Try.underlying43 c
  | cons x l => obtain ⟨b, o, e, _⟩ := h 0 (by simp); cases e
 | some ad =>
  refine Src.ofSlice w Try.underlying43 ad l.length c (l.map bv) (by simp) ?_ ?_
  · intro j u hu
    have hlt : j < l.length := by have := (List.getElem?_eq_some_iff.1 hu).1; simpa using this
    obtain ⟨b', o', e1, _, hc⟩ := h j hlt
    injection e1 with e1; subst e1
    have hadd : (⟨b', o', none⟩ : Addr).add j = ⟨b', o' + j, none⟩ := by unfold Addr.add; split <;> simp_all
    rw [hadd, hc]
    simp only [List.getElem?_map, List.getElem?_eq_getElem hlt, Option.map_some, Option.some.injEq] at hu
    show some (Value.int .u8 ((l.getD j 0 : Nat) : Int)) = some u
    rw [getD_in hlt, ← hu]
    rfl
  · intro u hu
    obtain ⟨_, _, rfl⟩ := List.mem_map.1 hu
    rfl
/-- A string's bytes. -/
def bl (s : ByteArray) : List Nat := s.data.toList.map (·.toNat)
theorem bl_length (s : ByteArray) : (bl s).length = s.size := by unfold bl; rw [List.length_map]; exact Array.length_toList
theorem bl_lt (s : ByteArray) : ∀ x ∈ bl s, x < 256 := by
 intro x hx
 obtain ⟨b, _, rfl⟩ := List.mem_map.1 hx
 exact UInt8.toNat_lt b
theorem str_src (w : World) (s : ByteArray) : Src Try.prog 1 9 (.string s) s.size ((bl s).map bv) w := by
 have h := Src.ofString (P := Try.prog) w Try.underlying9 s
 have e : byteCells s = (bl s).map bv := by unfold byteCells bl bv; rw [List.map_map]; rfl
 rw [e] at h
 exact h
theorem byteInf : (Try.prog.info? 5).map (fun i => (i.zero, i.size, i.bytes)) = some (some (.int .u8 0), 1, 1) := by kernel_rfl
/-- 'append(out, x...)': bytes. -/
theorem wpList_appB {w : World} {ops : Array Oper} {rest : List Oper} {o : Oper} {a : Act} {Q : Exit → Act → World → Prop} (hgd : o.guard = none) (s xo : Operand) (tx : TypeId)
 (ho : o.op = .call { callee := .builtin .append, args := #[s, xo], argTypes := #[43, tx] }) (B : Nat) (v : Value) (l : List Nat) (hv : a.eval s = v) (hown : OwnB w B v l) (hB : B ≤ w.heap.size)
 (x : Value) (m : Nat) (xs : List Nat) (hx : a.eval xo = x) (hs : Src Try.prog 1 tx x m (xs.map bv) w) (hlen : l.length + m ≤ 140737488355328)
 (h : ∀ v' w', OwnB w' B v' (l ++ xs) → Below B w w' → w.grownBy w' v.ownBlock → wpList Try.prog ops Q rest (a.put o.dst v') w') : wpList Try.prog ops Q (o :: rest) a w := by
 have hm : xs.length = m := by have := hs.newsLen; simpa using this
 refine wpList_append_src hgd s xo 43 tx ho B 5 (.int .u8 0) 1 1 Try.underlying43 byteInf rfl v l.length (l.map bv) hv hown x m (xs.map bv) hx hs (by unfold maxLen; omega) (by omega) hB ?_
 intro v' w' h1 h2
 refine h v' w' ?_ ((Below.refl _ _).grown h2 hB fun g hg => (hown.lt g hg).1) h2
 unfold OwnB
 rw [List.map_append, List.length_append, hm]
 exact h1
/-- The same, of more bytes than an address space holds, within growslice's own test. -/
theorem wpList_appW {w : World} {ops : Array Oper} {rest : List Oper} {o : Oper} {a : Act} {Q : Exit → Act → World → Prop} (hgd : o.guard = none) (s xo : Operand) (tx : TypeId)
 (ho : o.op = .call { callee := .builtin .append, args := #[s, xo], argTypes := #[43, tx] }) (B : Nat) (v : Value) (l : List Nat) (hv : a.eval s = v) (hown : OwnB w B v l) (hB : B ≤ w.heap.size)
 (x : Value) (m : Nat) (xs : List Nat) (hx : a.eval xo = x) (hs : Src Try.prog 1 tx x m (xs.map bv) w) (hlen : l.length + m ≤ 200000000000000)
 (h : ∀ v' w', OwnB w' B v' (l ++ xs) → Below B w w' → w.grownBy w' v.ownBlock → wpList Try.prog ops Q rest (a.put o.dst v') w') : wpList Try.prog ops Q (o :: rest) a w := by
 have hm : xs.length = m := by have := hs.newsLen; simpa using this
 refine wpList_append_srcW hgd s xo 43 tx ho B 5 (.int .u8 0) 1 1 Try.underlying43 byteInf rfl v l.length (l.map bv) hv hown x m (xs.map bv) hx hs (by unfold maxLen; omega) (.inr (by omega)) hB ?_
 intro v' w' h1 h2 _
 refine h v' w' ?_ ((Below.refl _ _).grown h2 hB fun g hg => (hown.lt g hg).1) h2
 unfold OwnB
 rw [List.map_append, List.length_append, hm]
 exact h1
/-- append of bytes, and where its answer lies. -/
theorem wpList_appA {w : World} {ops : Array Oper} {rest : List Oper} {o : Oper} {a : Act} {Q : Exit → Act → World → Prop} (hgd : o.guard = none) (s xo : Operand) (tx : TypeId)
 (ho : o.op = .call { callee := .builtin .append, args := #[s, xo], argTypes := #[43, tx] }) (B : Nat) (v : Value) (l : List Nat) (hv : a.eval s = v) (hown : OwnB w B v l) (hB : B ≤ w.heap.size)
 (x : Value) (m : Nat) (xs : List Nat) (hx : a.eval xo = x) (hs : Src Try.prog 1 tx x m (xs.map bv) w) (hlen : l.length + m ≤ 140737488355328)
 (h : ∀ v' w', OwnB w' B v' (l ++ xs) → Below B w w' → w.grownBy w' v.ownBlock → (v'.ownBlock = v.ownBlock ∨ v'.ownBlock = some w.heap.size) → wpList Try.prog ops Q rest (a.put o.dst v') w') : wpList Try.prog ops Q (o :: rest) a w := by
 have hm : xs.length = m := by have := hs.newsLen; simpa using this
 refine wpList_append_srcW hgd s xo 43 tx ho B 5 (.int .u8 0) 1 1 Try.underlying43 byteInf rfl v l.length (l.map bv) hv hown x m (xs.map bv) hx hs (by unfold maxLen; omega) (.inl (by omega)) hB ?_
 intro v' w' h1 h2 hat
 refine h v' w' ?_ ((Below.refl _ _).grown h2 hB fun g hg => (hown.lt g hg).1) h2 hat
 unfold OwnB
 rw [List.map_append, List.length_append, hm]
 exact h1
/-- 'append(out, x, ..)': new bytes, laid in a block of their own. -/
theorem wpList_pushB {w : World} {C : Array Value} {ops : Array Oper} {rest : List Oper} {o : Oper} {a : Act} {Q : Exit → Act → World → Prop} (hgd : o.guard = none) (s xo : Operand)
 (ho : o.op = .call { callee := .builtin .append, args := #[s, xo], argTypes := #[43, 43] }) (B : Nat) (v : Value) (l : List Nat) (hv : a.eval s = v) (hown : OwnB w B v l) (hB : B ≤ w.heap.size)
 (N m : Nat) (xs : List Nat) (hN : w.heap.size = N) (hx : a.eval xo = .slice (some ⟨N, 0, none⟩) m m) (hC : C.toList = xs.map bv) (hm : xs.length = m) (hlen : l.length + m ≤ 140737488355328)
 (h : ∀ v' w', OwnB w' B v' (l ++ xs) → Below B w w' → w.grownBy w' v.ownBlock → wpList Try.prog ops Q rest (a.put o.dst v') w') : wpList Try.prog ops Q (o :: rest) a (w.alloc (.cells C 5)) := by
 subst hN
 subst hm
 refine wpList_append_src hgd s xo 43 43 ho B 5 (.int .u8 0) 1 1 Try.underlying43 byteInf rfl v l.length (l.map bv) hv (World.ownsRow.alloc hown _) _ xs.length (xs.map bv) hx
  (Src.ofSlice _ Try.underlying43 _ _ _ _ (by simp) (fun j u hu => cells_new _ _ _ j u (by rw [hC]; exact hu)) (fun u hu => by obtain ⟨_, _, rfl⟩ := List.mem_map.1 hu; rfl)) (by unfold maxLen; omega) (by omega) (by simp; omega) ?_
 intro v' w' h1 hg
 have hg' : w.grownBy w' v.ownBlock := ⟨hg.os, hg.tape, hg.output, by have := hg.size; simp at this; omega, fun i hi hne => by
  rw [hg.block i (by simp; omega) hne]; exact Below.heap_alloc _ _ _ hi⟩
 refine h v' w' ?_ ((Below.refl _ _).grown hg' hB fun g hg => (hown.lt g hg).1) hg'
 unfold OwnB
 rw [List.map_append, List.length_append]
 exact h1
end Go.Proofs.Ytjaaldandgfkgaa

/- More of bytes in memory: a string's bytes in new memory, rows of bytes, append onto a full slice that is read. Conditions: none of any program. -/
namespace Go.Proofs.Ytjaaldandgfkgaa
open Go.RowKit

theorem mixed : Try.prog.follows .mixedOrders = true := by kernel_rfl
theorem conv_bytes (w : World) (s : ByteArray) : ∃ A c w', (convert 9 43 (.string s)).run Try.prog w = .ok (.slice A s.size c) w' ∧ RL w' A (bl s) ∧ Below w.heap.size w w' := by
 refine ⟨_, _, _, Lib.run_convert_string_bytes w 9 43 5 s Try.underlying9 Try.underlying43 Try.underlying5, ?_, ?_⟩
 · intro i hi
   rw [bl_length] at hi
   refine ⟨_, _, rfl, by rw [Lib.bytesWorld_size]; omega, ?_⟩
   rw [Nat.zero_add, Lib.bytesWorld_cell w _ s i hi]
   unfold bl
   have hs : i < s.data.toList.length := by rw [Array.length_toList]; exact hi
   have hs2 : i < s.data.size := hi
   simp [List.getD, Array.getElem?_eq_getElem hs2]
 · refine ⟨by simp [Lib.bytesWorld, World.freeze, World.alloc, World.drew, -World.alloc_eq, -World.drew_eq], by simp [Lib.bytesWorld, World.freeze, World.alloc, World.drew, -World.alloc_eq, -World.drew_eq], by simp [Lib.bytesWorld, World.freeze, World.alloc, World.drew, -World.alloc_eq, -World.drew_eq], by rw [Lib.bytesWorld_size]; omega, fun k hk => Lib.bytesWorld_at_old w _ s k hk⟩
/-- Rows of bytes, read. -/
def RLL (w : World) (A : Option Addr) (LL : List (List Nat)) : Prop :=
 ∃ (S : Nat → Option Addr) (C : Nat → Nat), Rd w A LL.length (fun i => .slice (S i) (LL.getD i []).length (C i)) ∧ ∀ i, i < LL.length → RL w (S i) (LL.getD i [])
theorem RLL.below {w w' : World} {A : Option Addr} {LL : List (List Nat)} (h : RLL w A LL) (hb : Below w.heap.size w w') : RLL w' A LL := by
 obtain ⟨S, C, h1, h2⟩ := h
 exact ⟨S, C, h1.below hb, fun i hi => (h2 i hi).below hb⟩
theorem RLL.nil (w : World) (A : Option Addr) : RLL w A [] := ⟨fun _ => none, fun _ => 0, Rd.zero _ _ _, fun i hi => absurd hi (by simp)⟩
/-- A value is a slice of these bytes. -/
def IsRL (l : List Nat) (v : Value) (w : World) : Prop := ∃ A c, v = .slice A l.length c ∧ RL w A l
theorem IsRL.below {l : List Nat} {v : Value} {w w' : World} (h : IsRL l v w) (hb : Below w.heap.size w w') : IsRL l v w' := by
 obtain ⟨A, c, e, h⟩ := h
 exact ⟨A, c, e, h.below hb⟩
def IsRLL (LL : List (List Nat)) (v : Value) (w : World) : Prop := ∃ A c, v = .slice A LL.length c ∧ RLL w A LL
def IsOwnB (B : Nat) (l : List Nat) (v : Value) (w : World) : Prop := OwnB w B v l
def Fact.rl (l : List Nat) : Fact := ⟨IsRL l, fun _ _ _ h hb => h.below hb⟩
def Fact.rll (LL : List (List Nat)) : Fact := ⟨IsRLL LL, fun _ _ _ ⟨A, c, e, h⟩ hb => ⟨A, c, e, h.below hb⟩⟩
def Fact.own (B : Nat) (l : List Nat) : Fact := ⟨IsOwnB B l, fun _ _ _ h hb => OwnB.kept h hb⟩
theorem OwnB.isRL {w : World} {B : Nat} {v : Value} {l : List Nat} (h : OwnB w B v l) : IsRL l v w := by
 obtain ⟨A, c, e, _, _, hr, _⟩ := h.rd
 exact ⟨A, c, e, hr⟩
/-- Each value of the list is a slice of the bytes beside it. -/
def All2 (w : World) : List Value → List (List Nat) → Prop
 | [], [] => True
 | v :: vs, l :: ls => IsRL l v w ∧ All2 w vs ls
 | _, _ => False
theorem All2.len {w : World} : ∀ {vs : List Value} {ls : List (List Nat)}, All2 w vs ls → vs.length = ls.length
 | [], [], _ => rfl
 | _ :: _, _ :: _, h => by simp [h.2.len]
theorem All2.get {w : World} : ∀ {vs : List Value} {ls : List (List Nat)}, All2 w vs ls → ∀ i, i < ls.length → ∃ v, vs[i]? = some v ∧ IsRL (ls.getD i []) v w
 | v :: _, l :: _, h, 0, _ => ⟨v, rfl, h.1⟩
 | [], [], _, _, hi => absurd hi (by simp)
 | _ :: vs, _ :: ls, h, i + 1, hi => by
  obtain ⟨v, h1, h2⟩ := h.2.get i (by simpa using hi)
  exact ⟨v, by simpa using h1, by simpa using h2⟩
theorem rll_new {w : World} {vs : List Value} {LL : List (List Nat)} (h : All2 w vs LL) : RLL (w.alloc (.cells vs.toArray 43)) (some ⟨w.heap.size, 0, none⟩) LL := by
 have hb := (Below.refl w.heap.size w).alloc (Nat.le_refl _) (.cells vs.toArray 43)
 have hg : ∀ i, ∃ (S : Option Addr) (c : Nat), i < LL.length → vs[i]? = some (.slice S (LL.getD i []).length c) ∧ RL w S (LL.getD i []) := fun i => by
  by_cases hi : i < LL.length
  · obtain ⟨v, h1, A, c, e, h2⟩ := h.get i hi
    exact ⟨A, c, fun _ => ⟨by rw [h1, e], h2⟩⟩
  · exact ⟨none, 0, fun h => absurd h hi⟩
 obtain ⟨S, hS⟩ := Classical.axiomOfChoice hg
 obtain ⟨C, hC⟩ := Classical.axiomOfChoice hS
 refine ⟨S, C, fun i hi => ⟨_, _, rfl, by simp, ?_⟩, fun i hi => (hC i hi).2.below hb⟩
 have := cells_new w vs.toArray 43 i _ (by simpa using (hC i hi).1)
 have hadd : (⟨w.heap.size, 0, none⟩ : Addr).add i = ⟨w.heap.size, 0 + i, none⟩ := by unfold Addr.add; split <;> simp_all
 rw [hadd] at this
 exact this
theorem isRLL_new {w : World} {C : Array Value} {n : Nat} {LL : List (List Nat)} (h : All2 w C.toList LL) (hn : n = LL.length) : IsRLL LL (.slice (some ⟨w.heap.size, 0, none⟩) n n) (w.alloc (.cells C 43)) := by
 subst hn
 exact ⟨_, _, rfl, rll_new h⟩
/-- New bytes, laid in a block of their own. -/
theorem rl_new {w : World} {C : Array Value} {l : List Nat} (T : Nat) (hC : C.toList = l.map bv) : RL (w.alloc (.cells C T)) (some ⟨w.heap.size, 0, none⟩) l := by
 intro i hi
 refine ⟨_, _, rfl, by simp, ?_⟩
 have := cells_new w C T i (bv (l.getD i 0)) (by rw [hC, List.getElem?_map, List.getElem?_eq_getElem hi, getD_in hi]; rfl)
 have hadd : (⟨w.heap.size, 0, none⟩ : Addr).add i = ⟨w.heap.size, 0 + i, none⟩ := by unfold Addr.add; split <;> simp_all
 rw [hadd] at this
 exact this
/-- append onto a full slice that is read: new memory. -/
theorem wp_appFull {w : World} {o : Oper} {a : Act} {K : Act → World → Prop} {Q : Exit → Act → World → Prop} (s xo : Operand) (tx : TypeId)
 (ho : o.op = .call { callee := .builtin .append, args := #[s, xo], argTypes := #[43, tx] }) (ad : Addr) (l : List Nat) (hv : a.eval s = .slice (some ad) l.length l.length) (hl : RL w (some ad) l)
 (x : Value) (m : Nat) (xs : List Nat) (hx : a.eval xo = x) (hs : Src Try.prog 1 tx x m (xs.map bv) w) (hm0 : 0 < m) (hlen : l.length + m ≤ 140737488355328)
 (h : ∀ v' w', OwnB w' w.heap.size v' (l ++ xs) → Below w.heap.size w w' → K (a.put o.dst v') w') : o.wp Try.prog a w K Q := by
 have hm : xs.length = m := by have := hs.newsLen; simpa using this
 obtain ⟨i, hi, hz0, hz1, hz2⟩ := info_parts byteInf
 have h63 : l.length + m ≤ maxLen := by unfold maxLen; omega
 have hcells : ∀ j u, (l.map bv)[j]? = some u → w.drew.cell? (ad.add j) = some u := by
  intro j u hu
  have hlt : j < l.length := by have := (List.getElem?_eq_some_iff.1 hu).1; simpa using this
  obtain ⟨b', o', e1, _, hc⟩ := hl j hlt
  have hadd : (⟨b', o', none⟩ : Addr).add j = ⟨b', o' + j, none⟩ := by clear hlen h63 hm0; unfold Addr.add; split <;> simp_all
  rw [Option.some.inj e1, hadd]
  simp only [List.getElem?_map, List.getElem?_eq_getElem hlt, Option.map_some, Option.some.injEq] at hu
  show w.cell? _ = some u
  rw [hc, ← hu]
  show some (Value.int .u8 ((l.getD j 0 : Nat) : Int)) = _
  rw [getD_in hlt]; rfl
 have hold := run_firstCells_some (P := Try.prog) w.drew 1 l.length ad l.length l.length (l.map bv) (by simp) hcells
 have k1 : l.length < l.length + m := by omega
 have k2 : ((l.length + m : Nat) : Int) ≤ 9223372036854775807 := by have h := hlen; omega
 have k3 : (l.length + m) * i.bytes ≤ 140737488355328 := by rw [hz2, Nat.mul_one]; exact hlen
 have hr := run_append_grow_src (P := Try.prog) w 43 tx o.type 5 i (.int .u8 0) Try.underlying43 hi hz0 (some ad) l.length l.length (l.map bv) (by rw [hz1]; exact hold) x m (xs.map bv) (by rw [hz1]; exact hs) k1 k2 (growslice_fits k1 k3)
 unfold Oper.wp execOp
 simp only [ho, resolve, invoke, builtin, Sem.run_bind, Sem.run_pure, Result.andThen_ok, List.map_toArray, List.map_cons, List.map_nil, hv, hx, hr]
 refine h _ _ ?_ ?_
 · have hge := grownCap_ge w (l.length + m) l.length 5
   unfold OwnB
   rw [List.length_append, hm]
   refine ⟨by simp [hm], .inr ⟨w.heap.size, _, _, rfl, Nat.le_refl _, heap_alloc_new w.drew _, hge, grownCap_le_maxLen w _ _ _ h63, ?_, ?_⟩⟩
   · have : (Value.int IntKind.u8 0).cells.size = 1 := rfl
     simp only [Array.size_append, List.size_toArray, size_zeroCells, this, List.length_append, List.length_map, hm, Nat.mul_one]
     omega
   · simp only [Array.toList_append]
     rw [List.map_append, List.take_append_of_le_length (by simp [hm]), List.take_of_length_le (by simp [hm])]
 · exact ((Dr.refl w).drew.below w.heap.size).trans ((Below.refl w.heap.size w.drew).alloc (Nat.le_refl _) _)
theorem slot_eval (a : Act) (s : Nat) : a.eval (.tmp s) = a.tmps[s]?.getD undef := by simp [Act.eval]
end Go.Proofs.Ytjaaldandgfkgaa

/- Rows of bytes that the call owns: append of a row. Conditions: none of any program. -/
namespace Go.Proofs.Ytjaaldandgfkgaa
open Go.RowKit

theorem rowsInf : (Try.prog.info? 43).map (fun i => (i.zero, i.size, i.bytes)) = some (some (.slice none 0 0), 1, 24) := by kernel_rfl
/-- Rows that the call has made, each memory of its own. -/
def OwnLL (w : World) (B : Nat) (v : Value) (LL : List (List Nat)) : Prop :=
 ∃ (S : Nat → Option Addr) (C : Nat → Nat), Own w B 43 1 v LL.length (fun i => [.slice (S i) (LL.getD i []).length (C i)]) ∧ ∀ i, i < LL.length → OwnB w B (.slice (S i) (LL.getD i []).length (C i)) (LL.getD i [])
theorem OwnLL.nil (w : World) (B : Nat) : OwnLL w B (.slice none 0 0) [] := ⟨fun _ => none, fun _ => 0, Own.nil _ _ _ _ _, fun i hi => absurd hi (by simp)⟩
theorem OwnLL.kept {w w' : World} {B : Nat} {v : Value} {LL : List (List Nat)} (h : OwnLL w B v LL) (hb : Below w.heap.size w w') : OwnLL w' B v LL := by
 obtain ⟨S, C, h1, h2⟩ := h
 exact ⟨S, C, h1.kept hb, fun i hi => (h2 i hi).kept hb⟩
theorem OwnLL.mono {w : World} {B B' : Nat} {v : Value} {LL : List (List Nat)} (h : OwnLL w B v LL) (hB : B' ≤ B) : OwnLL w B' v LL := by
 obtain ⟨S, C, h1, h2⟩ := h
 exact ⟨S, C, h1.mono hB, fun i hi => (h2 i hi).mono hB⟩
theorem OwnLL.rd {w : World} {B : Nat} {v : Value} {LL : List (List Nat)} (h : OwnLL w B v LL) : ∃ A c, v = .slice A LL.length c ∧ LL.length ≤ c ∧ RLL w A LL := by
 obtain ⟨S, C, h1, h2⟩ := h
 obtain ⟨A, c, hv, hc, _, hr, _⟩ := h1.rd
 refine ⟨A, c, hv, hc, S, C, hr, fun i hi => ?_⟩
 obtain ⟨A', c', e, _, _, hr', _⟩ := (h2 i hi).rd
 injection e with e _ _
 rw [e]; exact hr'
theorem getD_app_l {α : Type} {l : List α} {x d : α} {i : Nat} (h : i < l.length) : (l ++ [x]).getD i d = l.getD i d := by simp [List.getD, List.getElem?_append_left h]
theorem getD_app_r {α : Type} {l : List α} {x d : α} : (l ++ [x]).getD l.length d = x := by simp [List.getD]
theorem wpList_pushLL {w : World} {ops : Array Oper} {rest : List Oper} {o : Oper} {a : Act} {Q : Exit → Act → World → Prop} {A : Option Addr} {c n : Nat} (hgd : o.guard = none) (s xo : Operand)
 (ho : o.op = .call { callee := .builtin .append, args := #[s, xo], argTypes := #[67, 67] }) (B : Nat) (v : Value) (LL : List (List Nat)) (hv : a.eval s = v) (hown : OwnLL w B v LL) (hB : B ≤ w.heap.size)
 (l : List Nat) (hn : n = l.length) (hrow : OwnB w B (.slice A n c) l) (N : Nat) (hN : w.heap.size = N) (hx : a.eval xo = .slice (some ⟨N, 0, none⟩) 1 1) (hlen : LL.length ≤ 1000000000000)
 (h : ∀ v' w', OwnLL w' B v' (LL ++ [l]) → Below B w w' → wpList Try.prog ops Q rest (a.put o.dst v') w') : wpList Try.prog ops Q (o :: rest) a (w.alloc (.cells #[.slice A n c] 43)) := by
 subst hn
 obtain ⟨S, C, h1, h2⟩ := hown
 have h1' : Own w B 43 1 v LL.length (fun i => [.slice (upd S LL.length A i) ((LL ++ [l]).getD i []).length (upd C LL.length c i)]) := h1.congr fun i hi => by
  rw [upd_ne _ _ _ (by omega), upd_ne _ _ _ (by omega), getD_app_l hi]
 refine wpList_push w hgd s xo 67 ho B 43 1 24 (.slice none 0 0) #[.slice A l.length c] Try.underlying67 rowsInf rfl (by decide) v LL.length _ hv h1' hB N hN hx
  (by rw [upd_at, upd_at, getD_app_r]) rfl rfl (by omega) (by omega) ?_
 intro v' w' hown' hb hg _
 refine h v' w' ⟨upd S LL.length A, upd C LL.length c, by rw [List.length_append]; exact hown', fun i hi => ?_⟩ hb
 have hi : i < LL.length + 1 := by rw [List.length_append] at hi; exact hi
 by_cases e : i = LL.length
 · subst e
   rw [upd_at, upd_at, getD_app_r]
   exact hrow.keptRow hg (own_ne hrow.own h1 (by decide))
 · rw [upd_ne _ _ _ e, upd_ne _ _ _ e, getD_app_l (by omega)]
   exact (h2 i (by omega)).keptRow hg (own_ne (h2 i (by omega)).own h1 (by decide))
theorem OwnLL.one {w : World} {B : Nat} {A : Option Addr} {c n : Nat} {l : List Nat} (hn : n = l.length) (hrow : OwnB w B (.slice A n c) l) (hB : B ≤ w.heap.size) : OwnLL (w.alloc (.cells #[.slice A n c] 43)) B (.slice (some ⟨w.heap.size, 0, none⟩) 1 1) [l] := by
 subst hn
 refine ⟨fun _ => A, fun _ => c, ?_, fun i hi => ?_⟩
 · exact own_of_row (World.rowIs_alloc w #[.slice A l.length c] 43 (fun i => .slice A (([l] : List (List Nat)).getD i []).length c) (by
    intro i hi
    match i, hi with
    | 0, _ => rfl)) hB (by decide)
 · have hi : i < 1 := hi
   have : i = 0 := by omega
   subst this
   exact hrow.kept ((Below.refl _ _).alloc (Nat.le_refl _) _)
end Go.Proofs.Ytjaaldandgfkgaa
