/- Bytes in memory as lists: read, owned; append of a slice or a string of bytes; of new bytes. Conditions: lengths that memory bears. -/
import Derived.Test.YtbioanbokbhmgaaAppN
import Derived.Deep.DeepAppendWide
import Derived.Deep.AppendSrc
namespace Go.Proofs.Ytbioanbokbhmgaa
open Go.RowKit

section
variable {P : Program}
/-- append of whatever yields cells onto what the call has built. -/
theorem run_append_own_src (w : World) (base : Nat) (t tx ty e : TypeId) (i : TypeInfo) (z : Value) (size bytes : Nat) (ht : P.underlying t = some (.slice e)) (hi : P.info? e = some i) (hz : i.zero = some z)
    (hsize : i.size = size) (hby : i.bytes = bytes) (hzs : z.cells.size = size)
    (v : Value) (n : Nat) (xs : List Value) (hown : w.ownsRow base e size v n xs) (x : Value) (m : Nat) (news : List Value) (hs : Src P size tx x m news w)
    (h63 : n + m ≤ maxLen) (hbytes : (n + m) * bytes ≤ 140737488355328 ∨ ((n + m) + (n + m) / 4 + 192) * bytes ≤ 281474976710656) (hbase : base ≤ w.heap.size) :
    ∃ v' w', (Builtin.append_ #[t, tx] ty #[v, x]).run P w = .ok v' w' ∧ w'.ownsRow base e size v' (n + m) (xs ++ news) ∧ w.grownBy w' v.ownBlock ∧ (v'.ownBlock = v.ownBlock ∨ v'.ownBlock = some w.heap.size) := by
  subst hsize
  subst hby
  have hsmall : ((n + m : Nat) : Int) ≤ 9223372036854775807 := by simp only [maxLen] at h63; omega
  have hl := hs.newsLen
  have hlen : (xs ++ news).length = (n + m) * i.size := by rw [List.length_append, hown.1, hl, Nat.add_mul]
  have grown : ∀ (old : Nat) (row : Option Nat),
      (w.drew.alloc (.cells ((xs ++ news).toArray ++ Builtin.zeroCells z.cells (grownCap w (n + m) old e - (n + m))) e)).ownsRow base e i.size
        (.slice (some ⟨w.heap.size, 0, none⟩) (n + m) (grownCap w (n + m) old e)) (n + m) (xs ++ news) ∧
      w.grownBy (w.drew.alloc (.cells ((xs ++ news).toArray ++ Builtin.zeroCells z.cells (grownCap w (n + m) old e - (n + m))) e)) row := by
    intro old row
    have hge := grownCap_ge w (n + m) old e
    have hcm : grownCap w (n + m) old e ≤ maxLen := grownCap_le_maxLen w (n + m) old e h63
    refine ⟨⟨hlen, .inr ⟨w.heap.size, _, _, rfl, hbase, heap_alloc_new w.drew _, hge, hcm, ?_, ?_⟩⟩, ⟨rfl, rfl, rfl, by simp, fun k hk _ => heap_alloc_old w.drew _ hk⟩⟩
    · simp only [Array.size_append, List.size_toArray, size_zeroCells, hzs, hlen, ← Nat.add_mul]
      congr 1
      omega
    · simp only [Array.toList_append]
      rw [← hlen]
      exact List.take_left
  rcases hown.2 with ⟨rfl, rfl⟩ | ⟨g, cap, cur, rfl, hbg, hg, hnc, hcm, hcs, htake⟩
  · have hx : xs = [] := List.eq_nil_of_length_eq_zero (by simpa using hown.1)
    subst hx
    by_cases hm : m = 0
    · subst hm
      have hn : news = [] := List.eq_nil_of_length_eq_zero (by simpa using hl)
      subst hn
      have hc := hs.cells
      refine ⟨.slice none 0 0, w, ?_, World.ownsRow_nil w base e i.size, ⟨rfl, rfl, rfl, Nat.le_refl _, fun _ _ _ => rfl⟩, .inl rfl⟩
      rcases hs.kind with ⟨e', hk⟩ | hk <;> simp [Builtin.append_, run_underlying ht, run_underlying hk, sizeOf, typeInfo, hi, hs.len, hc]
    · have hr := run_append_grow_src (P := P) w t tx ty e i z ht hi hz none 0 0 [] (by simp [Builtin.firstCells]) x m news hs (by omega) (by omega) (hbytes.elim (growslice_fits (by omega)) (growslice_fits_wide (by omega)))
      have hgr := grown 0 (Value.ownBlock (.slice none 0 0))
      simp only [Nat.zero_add, List.nil_append] at hgr hr ⊢
      exact ⟨_, _, hr, hgr.1, hgr.2, .inr rfl⟩
  · by_cases hroom : n + m ≤ cap
    · have hfit : n * i.size + news.length ≤ cur.size := by rw [hl, hcs, ← Nat.add_mul]; exact Nat.mul_le_mul_right _ hroom
      have hst := run_storeCells_at P g (n * i.size) e news 0 cur w hg (by simpa using hfit) hs.one
      simp only [Nat.add_zero] at hst
      have hr : (Builtin.append_ #[t, tx] ty #[.slice (some ⟨g, 0, none⟩) n cap, x]).run P w =
          .ok (.slice (some ⟨g, 0, none⟩) (n + m) cap) (w.setRow g (cur.toList.take (n * i.size) ++ news ++ cur.toList.drop (n * i.size + news.length)).toArray) := by
        rcases hs.kind with ⟨e', hk⟩ | hk <;> simp [Builtin.append_, run_underlying ht, run_underlying hk, sizeOf, typeInfo, hi, hs.len, hroom, hs.cells, Addr.add_lit, hst]
      refine ⟨_, _, hr, ⟨hlen, .inr ⟨g, cap, _, rfl, hbg, setRow_heap w g cur _ e _ hg, hroom, hcm, ?_, ?_⟩⟩, ⟨rfl, rfl, rfl, by simp, fun k _ hk => setRow_other w g k _ (fun e => hk (by simp [Value.ownBlock, e]))⟩, .inl rfl⟩
      · simp only [List.size_toArray, List.length_append, List.length_take, List.length_drop, Array.length_toList]
        omega
      · rw [htake, ← hlen]
        exact List.take_left
    · have holds : ∀ j u, xs[j]? = some u → w.drew.cell? ((⟨g, 0, none⟩ : Addr).add j) = some u := hown.cells (g := g) rfl
      have hold := run_firstCells_some (P := P) w.drew i.size n ⟨g, 0, none⟩ n cap xs hown.1 holds
      have hr := run_append_grow_src (P := P) w t tx ty e i z ht hi hz (some ⟨g, 0, none⟩) n cap xs hold x m news hs (by omega) (by omega) (hbytes.elim (growslice_fits (by omega)) (growslice_fits_wide (by omega)))
      have hgr := grown cap (Value.ownBlock (.slice (some ⟨g, 0, none⟩) n cap))
      exact ⟨_, _, hr, hgr.1, hgr.2, .inr rfl⟩
theorem wpList_append_srcW {w : World} {ops : Array Oper} {rest : List Oper} {o : Oper} {a : Act} {Q : Exit → Act → World → Prop} (hgd : o.guard = none) (s xo : Operand) (t tx : TypeId)
    (ho : o.op = .call { callee := .builtin .append, args := #[s, xo], argTypes := #[t, tx] })
    (base : Nat) (e : TypeId) (z : Value) (size bytes : Nat) (ht : P.underlying t = some (.slice e)) (hinfo : (P.info? e).map (fun i => (i.zero, i.size, i.bytes)) = some (some z, size, bytes)) (hzs : z.cells.size = size)
    (v : Value) (n : Nat) (xs : List Value) (hv : a.eval s = v) (hown : w.ownsRow base e size v n xs) (x : Value) (m : Nat) (news : List Value) (hx : a.eval xo = x) (hs : Src P size tx x m news w)
    (h63 : n + m ≤ maxLen) (hbytes : (n + m) * bytes ≤ 140737488355328 ∨ ((n + m) + (n + m) / 4 + 192) * bytes ≤ 281474976710656) (hbase : base ≤ w.heap.size)
    (h : ∀ v' w', w'.ownsRow base e size v' (n + m) (xs ++ news) → w.grownBy w' v.ownBlock → (v'.ownBlock = v.ownBlock ∨ v'.ownBlock = some w.heap.size) → wpList P ops Q rest (a.put o.dst v') w') : wpList P ops Q (o :: rest) a w := by
  obtain ⟨i, hi, hz0, hz1, hz2⟩ := info_parts hinfo
  refine wpList_plain hgd fun K hK => ?_
  obtain ⟨v', w', hr, h2, h3, h4⟩ := run_append_own_src (P := P) w base t tx o.type e i z size bytes ht hi hz0 hz1 hz2 hzs v n xs hown x m news hs h63 hbytes hbase
  unfold Oper.wp execOp
  simp only [ho, resolve, invoke, builtin, Sem.run_bind, Sem.run_pure, Result.andThen_ok, List.map_toArray, List.map_cons, List.map_nil, hv, hx, hr]
  exact hK _ _ (h v' w' h2 h3 h4)
theorem wpList_append_src {w : World} {ops : Array Oper} {rest : List Oper} {o : Oper} {a : Act} {Q : Exit → Act → World → Prop} (hgd : o.guard = none) (s xo : Operand) (t tx : TypeId)
    (ho : o.op = .call { callee := .builtin .append, args := #[s, xo], argTypes := #[t, tx] })
    (base : Nat) (e : TypeId) (z : Value) (size bytes : Nat) (ht : P.underlying t = some (.slice e)) (hinfo : (P.info? e).map (fun i => (i.zero, i.size, i.bytes)) = some (some z, size, bytes)) (hzs : z.cells.size = size)
    (v : Value) (n : Nat) (xs : List Value) (hv : a.eval s = v) (hown : w.ownsRow base e size v n xs) (x : Value) (m : Nat) (news : List Value) (hx : a.eval xo = x) (hs : Src P size tx x m news w)
    (h63 : n + m ≤ maxLen) (hbytes : (n + m) * bytes ≤ 140737488355328) (hbase : base ≤ w.heap.size)
    (h : ∀ v' w', w'.ownsRow base e size v' (n + m) (xs ++ news) → w.grownBy w' v.ownBlock → wpList P ops Q rest (a.put o.dst v') w') : wpList P ops Q (o :: rest) a w :=
  wpList_append_srcW hgd s xo t tx ho base e z size bytes ht hinfo hzs v n xs hv hown x m news hx hs h63 (.inl hbytes) hbase fun v' w' h1 h2 _ => h v' w' h1 h2
end

/-! ### bytes -/
def bv (x : Nat) : Value := .int .u8 (x : Int)
/-- A slice of bytes that can be read: its bytes. -/
def RL (w : World) (A : Option Addr) (l : List Nat) : Prop := Rd w A l.length fun i => .int .u8 ((l.getD i 0 : Nat) : Int)
theorem RL.below {w w' : World} {A : Option Addr} {l : List Nat} (h : RL w A l) (hb : Below w.heap.size w w') : RL w' A l := Rd.below h hb
theorem RL.nil (w : World) (A : Option Addr) : RL w A [] := Rd.zero _ _ _
theorem getD_in {l : List Nat} {k : Nat} (hk : k < l.length) : l.getD k 0 = l[k] := by simp [List.getD, hk]
theorem getD_lt {l : List Nat} {b k : Nat} (h : ∀ x ∈ l, x < b) (hk : k < l.length) : l.getD k 0 < b := by
  rw [getD_in hk]; exact h _ (List.getElem_mem hk)
theorem take_next {l : List Nat} {k : Nat} (hk : k < l.length) : l.take (k + 1) = l.take k ++ [l.getD k 0] := by
  rw [getD_in hk, List.take_append_getElem hk]
theorem map_getD (l : List Nat) (g : Nat → Value) : (List.range l.length).map (fun i => g (l.getD i 0)) = l.map g := by
  apply List.ext_getElem?
  intro i
  by_cases hi : i < l.length
  · simp [hi, List.getD]
  · simp [hi]
/-- What the call has built: these bytes. -/
def OwnB (w : World) (B : Nat) (v : Value) (l : List Nat) : Prop := w.ownsRow B 5 1 v l.length (l.map bv)
theorem OwnB.own {w : World} {B : Nat} {v : Value} {l : List Nat} (h : OwnB w B v l) : Own w B 5 1 v l.length (fun i => [.int .u8 ((l.getD i 0 : Nat) : Int)]) := by
  unfold Own
  rw [flat1, show (List.range l.length).map (fun i => Value.int .u8 ((l.getD i 0 : Nat) : Int)) = l.map bv from map_getD l bv]
  exact h
theorem OwnB.of {w : World} {B : Nat} {v : Value} {l : List Nat} (h : Own w B 5 1 v l.length (fun i => [.int .u8 ((l.getD i 0 : Nat) : Int)])) : OwnB w B v l := by
  unfold Own at h
  rw [flat1, show (List.range l.length).map (fun i => Value.int .u8 ((l.getD i 0 : Nat) : Int)) = l.map bv from map_getD l bv] at h
  exact h
theorem OwnB.nil (w : World) (B : Nat) : OwnB w B (.slice none 0 0) [] := World.ownsRow_nil _ _ _ _
theorem OwnB.kept {w w' : World} {B : Nat} {v : Value} {l : List Nat} (h : OwnB w B v l) (hb : Below w.heap.size w w') : OwnB w' B v l := OwnB.of (h.own.kept hb)
theorem OwnB.keptRow {w w' : World} {B : Nat} {v : Value} {l : List Nat} (h : OwnB w B v l) {r : Option Nat} (hg : w.grownBy w' r) (hr : v.ownBlock = none ∨ v.ownBlock ≠ r) : OwnB w' B v l := World.ownsRow.kept h hg hr
theorem OwnB.mono {w : World} {B B' : Nat} {v : Value} {l : List Nat} (h : OwnB w B v l) (hB : B' ≤ B) : OwnB w B' v l := OwnB.of (h.own.mono hB)
theorem OwnB.lt {w : World} {B : Nat} {v : Value} {l : List Nat} (h : OwnB w B v l) : ∀ k, v.ownBlock = some k → B ≤ k ∧ k < w.heap.size := World.ownsRow.lt h
/-- An owned slice, read. -/
theorem OwnB.rd {w : World} {B : Nat} {v : Value} {l : List Nat} (h : OwnB w B v l) : ∃ A c, v = .slice A l.length c ∧ l.length ≤ c ∧ c ≤ maxLen ∧ RL w A l ∧ (∀ b o, A = some ⟨b, o, none⟩ → B ≤ b) := h.own.rd
theorem RL.src {w : World} {A : Option Addr} {l : List Nat} (h : RL w A l) (c : Nat) : Src Try.prog 1 47 (.slice A l.length c) l.length (l.map bv) w := by
  cases A with
  | none =>
    cases l with
    | nil => exact Src.ofNil w Try.underlying47 c
    | cons x l => obtain ⟨b, o, e, _⟩ := h 0 (by simp); cases e
  | some ad =>
    refine Src.ofSlice w Try.underlying47 ad l.length c (l.map bv) (by simp) ?_ ?_
    · intro j u hu
      have hlt : j < l.length := by have := (List.getElem?_eq_some_iff.1 hu).1; simpa using this
      obtain ⟨b', o', e1, _, hc⟩ := h j hlt
      injection e1 with e1; subst e1
      have hadd : (⟨b', o', none⟩ : Addr).add j = ⟨b', o' + j, none⟩ := by unfold Addr.add; split <;> simp_all
      rw [hadd, hc]
      simp only [List.getElem?_map, List.getElem?_eq_getElem hlt, Option.map_some, Option.some.injEq] at hu
      show some (Value.int .u8 ((l.getD j 0 : Nat) : Int)) = some u
      rw [getD_in hlt, ← hu]
      rfl
    · intro u hu
      obtain ⟨_, _, rfl⟩ := List.mem_map.1 hu
      rfl
/-- A string's bytes. -/
def bl (s : ByteArray) : List Nat := s.data.toList.map (·.toNat)
theorem bl_length (s : ByteArray) : (bl s).length = s.size := by unfold bl; rw [List.length_map]; exact Array.length_toList
theorem bl_lt (s : ByteArray) : ∀ x ∈ bl s, x < 256 := by
  intro x hx
  obtain ⟨b, _, rfl⟩ := List.mem_map.1 hx
  exact UInt8.toNat_lt b
theorem str_src (w : World) (s : ByteArray) : Src Try.prog 1 9 (.string s) s.size ((bl s).map bv) w := by
  have h := Src.ofString (P := Try.prog) w Try.underlying9 s
  have e : byteCells s = (bl s).map bv := by unfold byteCells bl bv; rw [List.map_map]; rfl
  rw [e] at h
  exact h
theorem byteInf : (Try.prog.info? 5).map (fun i => (i.zero, i.size, i.bytes)) = some (some (.int .u8 0), 1, 1) := by kernel_rfl
/-- 'append(out, x...)': bytes. -/
theorem wpList_appB {w : World} {ops : Array Oper} {rest : List Oper} {o : Oper} {a : Act} {Q : Exit → Act → World → Prop} (hgd : o.guard = none) (s xo : Operand) (tx : TypeId)
    (ho : o.op = .call { callee := .builtin .append, args := #[s, xo], argTypes := #[47, tx] }) (B : Nat) (v : Value) (l : List Nat) (hv : a.eval s = v) (hown : OwnB w B v l) (hB : B ≤ w.heap.size)
    (x : Value) (m : Nat) (xs : List Nat) (hx : a.eval xo = x) (hs : Src Try.prog 1 tx x m (xs.map bv) w) (hlen : l.length + m ≤ 140737488355328)
    (h : ∀ v' w', OwnB w' B v' (l ++ xs) → Below B w w' → w.grownBy w' v.ownBlock → wpList Try.prog ops Q rest (a.put o.dst v') w') : wpList Try.prog ops Q (o :: rest) a w := by
  have hm : xs.length = m := by have := hs.newsLen; simpa using this
  refine wpList_append_src hgd s xo 47 tx ho B 5 (.int .u8 0) 1 1 Try.underlying47 byteInf rfl v l.length (l.map bv) hv hown x m (xs.map bv) hx hs (by unfold maxLen; omega) (by omega) hB ?_
  intro v' w' h1 h2
  refine h v' w' ?_ ((Below.refl _ _).grown h2 hB fun g hg => (hown.lt g hg).1) h2
  unfold OwnB
  rw [List.map_append, List.length_append, hm]
  exact h1
/-- The same, of more bytes than an address space holds, within growslice's own test. -/
theorem wpList_appW {w : World} {ops : Array Oper} {rest : List Oper} {o : Oper} {a : Act} {Q : Exit → Act → World → Prop} (hgd : o.guard = none) (s xo : Operand) (tx : TypeId)
    (ho : o.op = .call { callee := .builtin .append, args := #[s, xo], argTypes := #[47, tx] }) (B : Nat) (v : Value) (l : List Nat) (hv : a.eval s = v) (hown : OwnB w B v l) (hB : B ≤ w.heap.size)
    (x : Value) (m : Nat) (xs : List Nat) (hx : a.eval xo = x) (hs : Src Try.prog 1 tx x m (xs.map bv) w) (hlen : l.length + m ≤ 200000000000000)
    (h : ∀ v' w', OwnB w' B v' (l ++ xs) → Below B w w' → w.grownBy w' v.ownBlock → wpList Try.prog ops Q rest (a.put o.dst v') w') : wpList Try.prog ops Q (o :: rest) a w := by
  have hm : xs.length = m := by have := hs.newsLen; simpa using this
  refine wpList_append_srcW hgd s xo 47 tx ho B 5 (.int .u8 0) 1 1 Try.underlying47 byteInf rfl v l.length (l.map bv) hv hown x m (xs.map bv) hx hs (by unfold maxLen; omega) (.inr (by omega)) hB ?_
  intro v' w' h1 h2 _
  refine h v' w' ?_ ((Below.refl _ _).grown h2 hB fun g hg => (hown.lt g hg).1) h2
  unfold OwnB
  rw [List.map_append, List.length_append, hm]
  exact h1
/-- append of bytes, and where its answer lies. -/
theorem wpList_appA {w : World} {ops : Array Oper} {rest : List Oper} {o : Oper} {a : Act} {Q : Exit → Act → World → Prop} (hgd : o.guard = none) (s xo : Operand) (tx : TypeId)
    (ho : o.op = .call { callee := .builtin .append, args := #[s, xo], argTypes := #[47, tx] }) (B : Nat) (v : Value) (l : List Nat) (hv : a.eval s = v) (hown : OwnB w B v l) (hB : B ≤ w.heap.size)
    (x : Value) (m : Nat) (xs : List Nat) (hx : a.eval xo = x) (hs : Src Try.prog 1 tx x m (xs.map bv) w) (hlen : l.length + m ≤ 140737488355328)
    (h : ∀ v' w', OwnB w' B v' (l ++ xs) → Below B w w' → w.grownBy w' v.ownBlock → (v'.ownBlock = v.ownBlock ∨ v'.ownBlock = some w.heap.size) → wpList Try.prog ops Q rest (a.put o.dst v') w') : wpList Try.prog ops Q (o :: rest) a w := by
  have hm : xs.length = m := by have := hs.newsLen; simpa using this
  refine wpList_append_srcW hgd s xo 47 tx ho B 5 (.int .u8 0) 1 1 Try.underlying47 byteInf rfl v l.length (l.map bv) hv hown x m (xs.map bv) hx hs (by unfold maxLen; omega) (.inl (by omega)) hB ?_
  intro v' w' h1 h2 hat
  refine h v' w' ?_ ((Below.refl _ _).grown h2 hB fun g hg => (hown.lt g hg).1) h2 hat
  unfold OwnB
  rw [List.map_append, List.length_append, hm]
  exact h1
/-- 'append(out, x, ..)': new bytes, laid in a block of their own. -/
theorem wpList_pushB {w : World} {C : Array Value} {ops : Array Oper} {rest : List Oper} {o : Oper} {a : Act} {Q : Exit → Act → World → Prop} (hgd : o.guard = none) (s xo : Operand)
    (ho : o.op = .call { callee := .builtin .append, args := #[s, xo], argTypes := #[47, 47] }) (B : Nat) (v : Value) (l : List Nat) (hv : a.eval s = v) (hown : OwnB w B v l) (hB : B ≤ w.heap.size)
    (N m : Nat) (xs : List Nat) (hN : w.heap.size = N) (hx : a.eval xo = .slice (some ⟨N, 0, none⟩) m m) (hC : C.toList = xs.map bv) (hm : xs.length = m) (hlen : l.length + m ≤ 140737488355328)
    (h : ∀ v' w', OwnB w' B v' (l ++ xs) → Below B w w' → w.grownBy w' v.ownBlock → wpList Try.prog ops Q rest (a.put o.dst v') w') : wpList Try.prog ops Q (o :: rest) a (w.alloc (.cells C 5)) := by
  subst hN
  subst hm
  refine wpList_append_src hgd s xo 47 47 ho B 5 (.int .u8 0) 1 1 Try.underlying47 byteInf rfl v l.length (l.map bv) hv (World.ownsRow.alloc hown _) _ xs.length (xs.map bv) hx
    (Src.ofSlice _ Try.underlying47 _ _ _ _ (by simp) (fun j u hu => cells_new _ _ _ j u (by rw [hC]; exact hu)) (fun u hu => by obtain ⟨_, _, rfl⟩ := List.mem_map.1 hu; rfl)) (by unfold maxLen; omega) (by omega) (by simp; omega) ?_
  intro v' w' h1 hg
  have hg' : w.grownBy w' v.ownBlock := ⟨hg.os, hg.tape, hg.output, by have := hg.size; simp at this; omega, fun i hi hne => by
    rw [hg.block i (by simp; omega) hne]; exact Below.heap_alloc _ _ _ hi⟩
  refine h v' w' ?_ ((Below.refl _ _).grown hg' hB fun g hg => (hown.lt g hg).1) hg'
  unfold OwnB
  rw [List.map_append, List.length_append]
  exact h1
end Go.Proofs.Ytbioanbokbhmgaa
