/- Rows of bytes and a slice of bytes as arguments, opened; their sizes. Conditions: none. -/
import Derived.Test.YtbioanbokbhmgaaRow
import Derived.Test.YtbioanbokbhmgaaMem2
import Derived.SizedLaws
import Derived.ChangeSlices
namespace Go.Proofs.Ytbioanbokbhmgaa
open Go.ChangeShapes Go.WideShapes Go.ChangeAt Go.RowKit Go.Joins Go.Deep

theorem rd_of_add {w : World} {a : Addr} {n : Nat} {f : Nat → Value} (h : ∀ i, i < n → w.cell? (a.add i) = some (f i)) : Rd w (some a) n f := fun i hi => by
  have h0 : w.cell? a = some (f 0) := by simpa [Addr.add] using h 0 (by omega)
  have hs : a.spot = none := World.cell?_spot h0
  obtain ⟨b, o, sp⟩ := a
  simp only at hs
  subst hs
  have hb : b < w.heap.size := by
    unfold World.cell? at h0
    cases hh : w.heap[b]? with
    | none => simp [hh] at h0
    | some x => exact (Array.getElem?_eq_some_iff.1 hh).1
  have hadd : (⟨b, o, none⟩ : Addr).add i = ⟨b, o + i, none⟩ := by unfold Addr.add; split <;> simp_all
  exact ⟨b, o, rfl, hb, by rw [← hadd]; exact h i hi⟩

section
variable {H : Type} {enc : TypeId × Value → H} {P : Program} {w : World} {base : Nat} {held : Bool}
theorem weights_part {t0 : TypeId} {ts : List TypeId} {ds parts : List (DataW H)} {fs : Array Field} (h : (DataW.weightsEach P (t0 :: ts) (.agg parts :: ds)).all (· ≤ reachBytes) = true) (hs : P.underlying t0 = some (.struct fs))
    {j : Nat} {t : TypeId} {d : DataW H} (ht : (fs.toList.map (·.type))[j]? = some t) (hd : parts[j]? = some d) : ∀ n ∈ d.weights P t, n ≤ reachBytes := fun n hn => by
  have := List.all_eq_true.1 h n (by
    simp only [DataW.weightsEach, List.mem_append]
    left
    simp only [DataW.weights, hs]
    exact DataW.weights_mem_each ht hd n hn)
  simpa using this
theorem weights_second {t0 t1 : TypeId} {ts : List TypeId} {d0 d1 : DataW H} {ds : List (DataW H)} (h : (DataW.weightsEach P (t0 :: t1 :: ts) (d0 :: d1 :: ds)).all (· ≤ reachBytes) = true) : ∀ n ∈ d1.weights P t1, n ≤ reachBytes := fun n hn => by
  have := List.all_eq_true.1 h n (by
    simp only [DataW.weightsEach, List.mem_append]
    exact Or.inr (Or.inl hn))
  simpa using this
theorem weightsAll_mem {e : TypeId} : ∀ {es : List (DataW H)} {d : DataW H}, d ∈ es → ∀ n ∈ d.weights P e, n ∈ DataW.weightsAll P e es
  | d0 :: es, d, hd, n, hn => by
    simp only [DataW.weightsAll, List.mem_append]
    rcases List.mem_cons.1 hd with h | h
    · subst h; exact Or.inl hn
    · exact Or.inr (weightsAll_mem h n hn)
theorem weights_slice {t e : TypeId} {es sp : List (DataW H)} (hu : P.underlying t = some (.slice e)) (h : ∀ n ∈ (DataW.slice es sp).weights P t, n ≤ reachBytes) :
    (es.length + sp.length) * P.bytesOf e ≤ reachBytes ∧ ∀ d ∈ es, ∀ n ∈ d.weights P e, n ≤ reachBytes :=
  ⟨h _ (by simp [DataW.weights, hu]), fun d hd n hn => h n (by
    simp only [DataW.weights, hu, List.mem_cons, List.mem_append]
    exact Or.inr (Or.inl (weightsAll_mem hd n hn)))⟩
theorem reach_le : reachBytes ≤ 140737488351232 := by decide

theorem open_vec {t e : TypeId} {fuel : Nat} {v : Value} {x : DataW H × List MemPlace} (ht : P.underlying t = some (.slice e)) (he : P.underlying e = some (.int .i64)) (hc : P.cellsOf e = 1) (h8 : P.bytesOf e = 8)
    (h : DataW.trod enc P w base (fun _ => true) held fuel t [v] = some x) (hw : ∀ n ∈ x.1.weights P t, n ≤ reachBytes) :
    ∃ (A : Option Addr) (n c : Nat) (f : Nat → Int), v = .slice A n c ∧ Rd w A n (fun i => .int .i64 (f i)) ∧ n * 8 ≤ 140737488351232 := by
  rcases open_ints ht he hc h with ⟨h1, _⟩ | ⟨a, len, cap, zs, h1, _, h2, _, h3, rfl, h4, _⟩
  · simp only [List.cons.injEq, and_true] at h1
    exact ⟨none, 0, 0, fun _ => 0, h1, Rd.zero _ _ _, by omega⟩
  · simp only [List.cons.injEq, and_true] at h1
    simp only [if_true] at h3
    have hb := (weights_slice ht hw).1
    rw [h8] at hb
    have hr := reach_le
    simp [lits] at hb
    exact ⟨some a, len, cap, fun i => zs.getD i 0, h1, rd_of_add fun i hi => h4 i (by omega), by omega⟩

theorem byte_wf {n : Int} (h : (Lit.int .u8 n).wf = true) : 0 ≤ n ∧ n < 256 := by
  simp [Lit.wf, IntKind.min, IntKind.max, IntKind.signed, IntKind.bits] at h
  omega
theorem getD_mem {Z : List Int} {j : Nat} (h : j < Z.length) : Z.getD j 0 ∈ Z := by
  rw [List.getD_eq_getElem?_getD, List.getElem?_eq_getElem h]
  exact List.getElem_mem h
theorem open_bvec {t e : TypeId} {fuel : Nat} {v : Value} {x : DataW H × List MemPlace} (ht : P.underlying t = some (.slice e)) (he : P.underlying e = some (.int .u8)) (hc : P.cellsOf e = 1) (h1' : P.bytesOf e = 1)
    (h : DataW.trod enc P w base (fun _ => true) held fuel t [v] = some x) (hw : ∀ n ∈ x.1.weights P t, n ≤ reachBytes) :
    ∃ (A : Option Addr) (n c : Nat) (f : Nat → Nat), v = .slice A n c ∧ n ≤ c ∧ c ≤ maxLen ∧ Rd w A n (fun i => .int .u8 (f i : Nat)) ∧ n ≤ 140737488351232 ∧ ∀ i, i < n → f i < 256 := by
  rcases open_ints ht he hc h with ⟨h1, _⟩ | ⟨a, len, cap, zs, h1, _, h2, hcm, h3, rfl, h4, h5⟩
  · simp only [List.cons.injEq, and_true] at h1
    exact ⟨none, 0, 0, fun _ => 0, h1, Nat.le_refl _, by unfold maxLen; omega, Rd.zero _ _ _, by omega, fun i hi => absurd hi (by omega)⟩
  · simp only [List.cons.injEq, and_true] at h1
    simp only [if_true] at h3
    have hb := (weights_slice ht hw).1
    rw [h1'] at hb
    have hr := reach_le
    simp [lits] at hb
    have hf : ∀ i, i < len → 0 ≤ zs.getD i 0 ∧ zs.getD i 0 < 256 := fun i hi => byte_wf (h5 _ (getD_mem (by omega)))
    refine ⟨some a, len, cap, fun i => (zs.getD i 0).toNat, h1, h2, hcm, (rd_of_add (f := fun i => .int .u8 (zs.getD i 0)) fun i hi => h4 i (by omega)).congr fun i hi => ?_, by omega, fun i hi => ?_⟩
    · have := hf i hi
      show Value.int .u8 _ = Value.int .u8 _
      rw [Int.toNat_of_nonneg this.1]
    · have := hf i hi
      show (zs.getD i 0).toNat < 256
      omega

theorem open_bmat {t e q : TypeId} {fuel : Nat} {v : Value} {x : DataW H × List MemPlace} (ht : P.underlying t = some (.slice e)) (he : P.underlying e = some (.slice q)) (hq : P.underlying q = some (.int .u8)) (ce : P.cellsOf e = 1) (cq : P.cellsOf q = 1) (h24 : P.bytesOf e = 24) (h8 : P.bytesOf q = 1)
    (h : DataW.trod enc P w base (fun _ => true) held fuel t [v] = some x) (hw : ∀ n ∈ x.1.weights P t, n ≤ reachBytes) :
    ∃ (A : Option Addr) (n c : Nat) (L : Nat → Nat) (f : Nat → Nat → Nat), v = .slice A n c ∧ RdM w A n L (fun i j => .int .u8 (f i j : Nat)) ∧ n * 24 ≤ 140737488351232 ∧ (∀ i, i < n → L i ≤ 140737488351232) ∧ ∀ i, i < n → ∀ j, j < L i → f i j < 256 := by
  have hr := reach_le
  rcases open_int_rows ht he hq ce cq h with ⟨h1, _⟩ | ⟨a, len, cap, A, L, C, Z, h1, _, h2, _, rfl, h3⟩
  · simp only [List.cons.injEq, and_true] at h1
    exact ⟨none, 0, 0, fun _ => 0, fun _ _ => 0, h1, RdM.zero _ _ _ _, by omega, fun i hi => absurd hi (by omega), fun i hi => absurd hi (by omega)⟩
  · simp only [List.cons.injEq, and_true] at h1
    obtain ⟨hb, hrow⟩ := weights_slice ht hw
    rw [h24] at hb
    simp at hb
    have hf : ∀ i, i < len → ∀ j, j < L i → 0 ≤ (Z i).getD j 0 ∧ (Z i).getD j 0 < 256 := fun i hi j hj => by
      obtain ⟨_, hLC, _, hZ, hwf, _, _⟩ := h3 i (by omega)
      exact byte_wf (hwf _ (getD_mem (by omega)))
    refine ⟨some a, len, cap, L, fun i j => ((Z i).getD j 0).toNat, h1, ⟨A, C, rd_of_add fun i hi => (h3 i (by omega)).1, fun i hi => ?_⟩, by omega, fun i hi => ?_, fun i hi j hj => ?_⟩
    · obtain ⟨_, hLC, _, _, _, hn, ha⟩ := h3 i (by omega)
      cases hA : A i with
      | none => 
        have : L i = 0 := by have := hn hA; omega
        rw [this]; exact Rd.zero _ _ _
      | some a' =>
        refine (rd_of_add (f := fun j => .int .u8 ((Z i).getD j 0)) fun j hj => (ha a' hA).2 j (by omega)).congr fun j hj => ?_
        have := hf i hi j hj
        show Value.int .u8 _ = Value.int .u8 _
        rw [Int.toNat_of_nonneg this.1]
    · obtain ⟨_, hLC, _, hZ, _, hn, ha⟩ := h3 i (by omega)
      cases hA : A i with
      | none => have := hn hA; omega
      | some a' =>
        have hm : (intRow .u8 (A i) (L i) (Z i) : DataW H) ∈ (List.range len).map fun r => (intRow .u8 (A r) (L r) (Z r) : DataW H) := List.mem_map.2 ⟨i, List.mem_range.2 hi, rfl⟩
        have hwi := hrow _ hm
        simp only [intRow, hA] at hwi
        have hb2 := (weights_slice he hwi).1
        rw [h8] at hb2
        simp [lits] at hb2
        omega
    · have := hf i hi j hj
      show ((Z i).getD j 0).toNat < 256
      omega
end
end Go.Proofs.Ytbioanbokbhmgaa
