/- The reader of bytes: Bytes, Open: the walks. Conditions: that there are so many bytes. -/
import Derived.Test.YtbioanbokbhmgaaRdt
namespace Go.Proofs.Ytbioanbokbhmgaa
open Go.RowKit

theorem setCell_same {w : World} {a : Addr} {v : Value} (h : w.cell? a = some v) (hf : w.frozen? a = false) : w.setCell a v = w := by
  have _ := hf
  obtain ⟨b, o, sp⟩ := a
  have hs : sp = none := World.cell?_spot h
  subst hs
  unfold World.cell? at h
  cases hb : w.heap[b]? with
  | none => simp [hb] at h
  | some x =>
    rw [hb] at h
    cases x with
    | cells c t f =>
      have hlt := (Array.getElem?_eq_some_iff.1 hb).1
      have hc : c[o]? = some v := by simpa using h
      have hset : c.setIfInBounds o v = c := by
        apply Array.ext_getElem?
        intro i
        rw [Array.getElem?_setIfInBounds]
        by_cases e : o = i
        · subst e; simp only [if_true]; split
          · exact hc.symm
          · rw [Array.getElem?_eq_none (by omega)]
        · rw [if_neg e]
      have hm : (w.setCell ⟨b, o, none⟩ v).heap = w.heap := by
        apply Array.ext_getElem?
        intro i
        by_cases e : b = i
        · subst e; simp [World.setCell, hb, Array.getElem?_modify, hset]
        · exact Below.heap_setCell _ _ _ _ (fun e' => e e'.symm)
      show ({ w with heap := (w.setCell ⟨b, o, none⟩ v).heap } : World) = w
      rw [hm]
    | _ => simp at h
set_option maxRecDepth 100000 in
set_option maxHeartbeats 2000000 in
theorem by_any (r : Nat) (A : Option Addr) (b : List Nat) (c p n pn pr pv : Nat) (w : World) (hR : RdAt w r A b c p) (hboxn : w.cell? ⟨pn, 0, none⟩ = some (.int .i64 (n : Int))) (hbox : w.cell? ⟨pr, 0, none⟩ = some (.pointer (some ⟨r, 0, none⟩))) (hv : w.heap[pv]? = some (.cells #[.slice none 0 0] 47 (0, 0)))
    (hne : pv ≠ r) (_hnn : pn ≠ r) (_hnr : pr ≠ r) (h0 : 0 < n) (hn : p + n ≤ b.length) (hbl : b.length ≤ 140737488351232) (hc : c ≤ maxLen) :
    Calls Try.prog 80 #[.pointer (some ⟨pn, 0, none⟩), .pointer (some ⟨pr, 0, none⟩), .pointer (some ⟨pv, 0, none⟩)] w fun e w' => e = .returned (.tuple #[]) ∧ ∃ w1 o, w.grownBy w1 (some r) ∧ RdAt w1 r A b c (p + n) ∧ OwnB w1 w.heap.size o (sl b p n) ∧ w' = w1.setCell ⟨pv, 0, none⟩ o := by
  have HTK := Lib.hid (take_any r A b c p n w hR h0 hn (by omega) hc)
  have HR := Lib.hid hR
  have HV := Lib.hid hv
  have hpr : pr < w.heap.size := by
    cases h : w.heap[pr]? with
    | none => simp [World.cell?, h] at hbox
    | some x => exact (Array.getElem?_eq_some_iff.1 h).1
  have hge : (0 : Int) ≤ (n : Int) := by omega
  have hcv : IntKind.u64.wrap (n : Int) = (n : Int) := by rw [IntKind.wrap_u64]; omega
  clear hR hv
  go_enter Try.func80, Try.ntmps80
  go_wp2_with fail
  refine (must_any 2 w).mono ?_
  rintro e w0 ⟨rfl, rfl⟩
  go_wp2_with fail
  refine HTK.out.mono ?_
  rintro e w1 ⟨A1, c1, rfl, r1, hR1, hg1⟩
  have hsl := sl_length hn
  have HR1 := Lib.hid hR1; have HG1 := Lib.hid hg1; have Hr1 := Lib.hid r1
  clear r1 hR1 hg1 hboxn hbox
  obtain ⟨l, hl⟩ : ∃ l, l = sl b p n := ⟨_, rfl⟩
  rw [← hl] at Hr1 hsl ⊢
  have hll : l.length ≤ 140737488351232 := by omega
  have HLL := Lib.hid hl
  clear hl hsl
  go_wp2_with fail
  refine (clone_any A1 c1 l w1 hll Hr1.out).mono ?_
  rintro e w2 ⟨o, rfl, hO, hb2⟩
  have hsz := HG1.out.size
  have HO := Lib.hid (hO.mono hsz)
  have HG2 := Lib.hid (G.trans HG1.out (G.below (r := some r) hb2))
  have HR2 := Lib.hid (HR1.out.below hb2)
  have hv2 : w2.heap[pv]? = some (.cells #[.slice none 0 0] 47 (0, 0)) := by
    rw [HG2.out.block pv (Array.getElem?_eq_some_iff.1 HV.out).1 (fun e => hne (Option.some.inj e))]; exact HV.out
  have hpc : w2.cell? ⟨pv, 0, none⟩ = some (.slice none 0 0) := by simp [World.cell?, hv2]
  have hpf : w2.frozen? ⟨pv, 0, none⟩ = false := by simp [World.frozen?, hv2]
  obtain ⟨Ao, co, eo, _, _, _, _⟩ := hO.rd
  subst eo
  clear hO hb2 hv2
  go_wp2
  go_end0
  exact ⟨rfl, w2, _, HG2.out, HR2.out, by rw [← HLL.out]; exact HO.out, rfl⟩
set_option maxRecDepth 100000 in
set_option maxHeartbeats 2000000 in
theorem bytes_any (r : Nat) (A : Option Addr) (b : List Nat) (c p n : Nat) (w : World) (hR : RdAt w r A b c p) (h0 : 0 < n) (hn : p + n ≤ b.length) (hbl : b.length ≤ 140737488351232) (hc : c ≤ maxLen) :
    Calls Try.prog 74 #[.pointer (some ⟨r, 0, none⟩), .int .i64 (n : Int)] w fun e w' => ∃ A' c', e = .returned (.slice A' (sl b p n).length c') ∧ RL w' A' (sl b p n) ∧ RdAt w' r A b c (p + n) ∧ w.grownBy w' (some r) := by
  have hmf : ∀ (fn : Fn) (first cap : Array Value) (w : World), (Instr.makeFunc fn first cap).run Try.prog w = .ok (.func fn first cap) w := fun _ _ _ _ => rfl
  have hbA := (((Below.refl w.heap.size w).alloc (Nat.le_refl _) (.cells #[.pointer (some ⟨r, 0, none⟩)] 117)).alloc (by simp) (.cells #[.int .i64 (n : Int)] 3)).alloc (by simp; omega) (.cells #[.slice none 0 0] 47)
  have hlt := hR.lt
  have HR := Lib.hid hR
  go_enter Try.func74, Try.ntmps74
  go_wp2_with fail
  obtain ⟨wA, hwA⟩ : ∃ wA, wA = ((w.alloc (.cells #[.pointer (some ⟨r, 0, none⟩)] 117)).alloc (.cells #[.int .i64 (n : Int)] 3)).alloc (.cells #[.slice none 0 0] 47) := ⟨_, rfl⟩
  have hbox : wA.cell? ⟨w.heap.size, 0, none⟩ = some (.pointer (some ⟨r, 0, none⟩)) := by rw [hwA]; go_simp
  have hboxn : wA.cell? ⟨w.heap.size + 1, 0, none⟩ = some (.int .i64 (n : Int)) := by rw [hwA]; go_simp
  have hvar : wA.heap[w.heap.size + 1 + 1]? = some (.cells #[.slice none 0 0] 47 (0, 0)) := by
    rw [hwA]
    have := heap_alloc_new ((w.alloc (.cells #[.pointer (some ⟨r, 0, none⟩)] 117)).alloc (.cells #[.int .i64 (n : Int)] 3)) (.cells #[.slice none 0 0] 47 (0, 0))
    simpa using this
  have hsz : wA.heap.size = w.heap.size + 3 := by rw [hwA]; simp
  rw [← hwA] at hbA ⊢
  clear hwA hR
  refine (reading_any r A b c p 80 #[.pointer (some ⟨w.heap.size + 1, 0, none⟩), .pointer (some ⟨w.heap.size, 0, none⟩), .pointer (some ⟨w.heap.size + 1 + 1, 0, none⟩)] wA
    (fun w2 w' => ∃ w1 o, w2.grownBy w1 (some r) ∧ RdAt w1 r A b c (p + n) ∧ OwnB w1 w2.heap.size o (sl b p n) ∧ w' = w1.setCell ⟨w.heap.size + 1 + 1, 0, none⟩ o)
    (HR.out.below hbA) (run_own_call Try.func80 (by kernel_rfl) (by kernel_rfl) _) (fun w2 hb => by_any r A b c p n (w.heap.size + 1) w.heap.size (w.heap.size + 1 + 1) w2 ((HR.out.below hbA).below hb) ((hb.cell (p := ⟨w.heap.size + 1, 0, none⟩) (by show w.heap.size + 1 < _; omega)).trans hboxn) ((hb.cell (p := ⟨w.heap.size, 0, none⟩) (by show w.heap.size < _; omega)).trans hbox) (by rw [hb.block _ (by omega)]; exact hvar) (by omega) (by omega) (by omega) h0 hn hbl hc)).mono ?_
  rintro e w' ⟨rfl, w2, hb2, w1, o, hg, hR1, hO1, rfl⟩
  have hsz2 := hb2.size
  have hv1 : w1.heap[w.heap.size + 1 + 1]? = some (.cells #[.slice none 0 0] 47 (0, 0)) := by
    rw [hg.block _ (by omega) (fun e => by injection e with e; omega), hb2.block _ (by omega)]; exact hvar
  have HRF := Lib.hid (RdAt.setFar HR.out hR1 (a := ⟨w.heap.size + 1 + 1, 0, none⟩) (by show w.heap.size ≤ w.heap.size + 1 + 1; omega) o)
  have hbAll := hbA.trans (hb2.mono hbA.size)
  have HG := Lib.hid (G.setNew (G.trans (G.below (r := some r) hbAll) ⟨hg.os, hg.tape, hg.output, hg.size, hg.block⟩) (a := ⟨w.heap.size + 1 + 1, 0, none⟩) (by show w.heap.size ≤ w.heap.size + 1 + 1; omega) o)
  have hheap : (w1.setCell ⟨w.heap.size + 1 + 1, 0, none⟩ o).heap[w.heap.size + 1 + 1]? = some (.cells #[o] 47 (0, 0)) := by simp [World.setCell, hv1, Array.getElem?_modify]
  have hcl : (w1.setCell ⟨w.heap.size + 1 + 1, 0, none⟩ o).cell? ⟨w.heap.size + 1 + 1, 0, none⟩ = some o := by simp [World.cell?, hheap]
  have hfz : (w1.setCell ⟨w.heap.size + 1 + 1, 0, none⟩ o).frozen? ⟨w.heap.size + 1 + 1, 0, none⟩ = false := by simp [World.frozen?, hheap]
  have hOF : OwnB (w1.setCell ⟨w.heap.size + 1 + 1, 0, none⟩ o) w2.heap.size o (sl b p n) := by
    refine hO1.keptRow (r := some (w.heap.size + 1 + 1)) ⟨rfl, rfl, rfl, by simp, fun k _ hk => Below.heap_setCell _ _ _ _ (fun e => hk (by rw [e]))⟩ ?_
    cases ho : o.ownBlock with
    | none => exact .inl rfl
    | some k => exact .inr (fun e => by injection e with e; have := (hO1.lt k ho).1; omega)
  obtain ⟨A', c', e', _, _, r', _⟩ := hOF.rd
  subst e'
  have Hr' := Lib.hid r'
  have HBK := Lib.hid hheap
  generalize w1.setCell ⟨w.heap.size + 1 + 1, 0, none⟩ (.slice A' (sl b p n).length c') = wF at *
  clear hv1 hg hR1 hb2 hbox hvar hbAll hbA hO1 hOF r' hheap
  have hself : wF.setCell ⟨w.heap.size + 1 + 1, 0, none⟩ (.slice A' (sl b p n).length c') = wF := setCell_same hcl hfz
  obtain ⟨l, hl⟩ : ∃ l, l = sl b p n := ⟨_, rfl⟩
  rw [← hl] at hcl hself Hr'
  have HLL := Lib.hid hl
  clear hl
  go_wp2
  exact bodyPost_ret (v := .slice A' l.length c') (by simp [results, Try.results74, go_sem, hcl]) rfl ⟨A', c', by rw [← HLL.out], by rw [← HLL.out]; exact Hr'.out, HRF.out, HG.out⟩
set_option maxRecDepth 100000 in
set_option maxHeartbeats 2000000 in
theorem open_any (A : Option Addr) (c : Nat) (b : List Nat) (w : World) (hbl : b.length ≤ 140737488351232) (hA : RL w A b) :
    Calls Try.prog 73 #[.slice A b.length c] w fun e w' => ∃ r A' c', e = .returned (.pointer (some ⟨r, 0, none⟩)) ∧ RdAt w' r A' b c' 0 ∧ Below w.heap.size w w' ∧ w.heap.size ≤ r ∧ c' ≤ maxLen := by
  have HC := Lib.hid (clone_any A c b w hbl hA)
  clear hA
  go_enter Try.func73, Try.ntmps73
  go_wp2_with fail
  refine HC.out.mono ?_
  rintro e w1 ⟨o, rfl, hO, hb1⟩
  obtain ⟨A1, c1, e1, hc1, hm1, r1, _⟩ := hO.rd
  subst e1
  have HR := Lib.hid (show RdAt (w1.alloc (.cells #[.slice A1 b.length c1, .int .i64 0, .int .i64 0] 127)) w1.heap.size A1 b c1 0 from ⟨heap_alloc_new _ _, r1.below ((Below.refl _ _).alloc (Nat.le_refl _) _), hc1⟩)
  have HB := Lib.hid (hb1.alloc hb1.size (.cells #[.slice A1 b.length c1, .int .i64 0, .int .i64 0] 127))
  have hsz := hb1.size
  have HM := Lib.hid hm1
  clear hO hb1 r1 hm1
  go_wp2
  go_ret
  exact ⟨w1.heap.size, A1, c1, rfl, HR.out, HB.out, hsz, HM.out⟩
end Go.Proofs.Ytbioanbokbhmgaa
