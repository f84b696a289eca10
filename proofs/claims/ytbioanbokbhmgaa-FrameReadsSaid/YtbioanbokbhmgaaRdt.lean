/- The reader of bytes: Take, Bytes, Open: the walks. Conditions: that there are so many bytes. -/
import Derived.Test.YtbioanbokbhmgaaRdr
import Derived.Test.YtbioanbokbhmgaaPrsP
namespace Go.Proofs.Ytbioanbokbhmgaa
open Go.RowKit

theorem leV_snoc : ∀ (l : List Nat) (x : Nat), leV (l ++ [x]) = leV l + x * 256 ^ l.length
  | [], x => by simp [leV]
  | y :: l, x => by
    show y + 256 * leV (l ++ [x]) = y + 256 * leV l + x * 256 ^ (l.length + 1)
    rw [leV_snoc l x, Nat.pow_succ, Nat.mul_add, ← Nat.mul_assoc x, Nat.mul_comm 256 (x * _)]
    omega
theorem leV_next {b : List Nat} {p k : Nat} (h : p + k < b.length) : leV (sl b p (k + 1)) = leV (sl b p k) + b.getD (p + k) 0 * 256 ^ k := by
  rw [sl_next h, leV_snoc, sl_length (by omega)]
theorem or_shift {u x : Nat} (k : Nat) (h : u < 256 ^ k) : (u ||| x * 256 ^ k) = u + x * 256 ^ k := by
  have e : (256 : Nat) ^ k = 2 ^ (8 * k) := by rw [Nat.pow_mul]
  rw [e] at h ⊢
  have h3 := Nat.two_pow_add_eq_or_of_lt (i := 8 * k) (b := u) h x
  rw [Nat.mul_comm x, Nat.or_comm, ← h3]
  omega
set_option maxRecDepth 100000 in
set_option maxHeartbeats 2000000 in
theorem tk32_any (r : Nat) (A : Option Addr) (b : List Nat) (c p pr pv : Nat) (w : World) (hR : RdAt w r A b c p) (hbox : w.cell? ⟨pr, 0, none⟩ = some (.pointer (some ⟨r, 0, none⟩))) (hv : ∃ x : Int, w.heap[pv]? = some (.cells #[.int .u32 x] 78 (0, 0))) (hne : pv ≠ r)
    (hn : p + 4 ≤ b.length) (hbl : b.length ≤ 140737488355328) (hc : c ≤ maxLen) (hx : ∀ x ∈ b, x < 256) :
    Calls Try.prog 85 #[.pointer (some ⟨pr, 0, none⟩), .pointer (some ⟨pv, 0, none⟩)] w fun e w' => e = .returned (.tuple #[]) ∧ ∃ w1, w.grownBy w1 (some r) ∧ RdAt w1 r A b c (p + 4) ∧ w' = w1.setCell ⟨pv, 0, none⟩ (.int .u32 (num b p 4 : Nat)) := by
  have HTK := Lib.hid (fun (w' : World) (h : RdAt w' r A b c p) => take_any r A b c p 4 w' h (by decide) hn hbl hc)
  have HR := Lib.hid hR
  have HX := Lib.hid hx
  clear hR hx
  go_enter Try.func85, Try.ntmps85
  go_wp2_with fail
  refine wp_region_mix [(true, true, true), (false, false, false), (false, true, false), (false, false, true), (false, true, false), (true, true, false)] mixed (by kernel_rfl) (fun w4 => w4.cell? ⟨pr, 0, none⟩ = some (.pointer (some ⟨r, 0, none⟩))) (hbox) ?_
  intro hSw0
  simp only [hdM, tlM, List.cons_append, List.nil_append]
  repeat (first
    | (refine mix_look hSw0.out ?_ (by rfl) (fun w4 hSw => ?_) ?_; rotate_left; (focus (have s1 := hSw; go_simp; try with_reducible rfl)); simp only [Act.put, List.setIfInBounds_toArray, List.set_cons_zero, List.set_cons_succ])
    | (refine mix_pure ?_ (by rfl) (fun w4 => ?_) ?_; rotate_left; (focus (go_simp; try with_reducible rfl)); simp only [Act.put, List.setIfInBounds_toArray, List.set_cons_zero, List.set_cons_succ]))
  refine mix_step (fun K hK => ?_)
  go_simp
  refine (width32 _).mono ?_
  rintro e w5 ⟨rfl, rfl⟩
  dsimp only
  refine hK.out _ _ (fun _ h => h) ?_
  clear hK K
  try simp only [Act.put, List.setIfInBounds_toArray, List.set_cons_zero, List.set_cons_succ]
  repeat (refine mix_pure ?_ (by rfl) (fun w4 => ?_) ?_; rotate_left; (focus (go_simp; try with_reducible rfl)); simp only [Act.put, List.setIfInBounds_toArray, List.set_cons_zero, List.set_cons_succ])
  refine mix_step (fun K hK => ?_)
  go_simp
  refine (HTK.out _ (HR.out.below ((Dr.refl w).drew.below _))).mono ?_
  rintro e w5 ⟨A5, c5, rfl, r5, hR5, hg5⟩
  have HR5 := Lib.hid r5; have HRD5 := Lib.hid hR5; have HG5 := Lib.hid (G.trans (G.below (r := some r) ((Dr.refl w).drew.below _)) hg5)
  clear r5 hR5 hg5
  dsimp only
  refine hK.out _ _ (fun h => absurd h (by decide)) ?_
  clear hK K
  try simp only [Act.put, List.setIfInBounds_toArray, List.set_cons_zero, List.set_cons_succ]
  repeat (refine mix_pure ?_ (by rfl) (fun w4 => ?_) ?_; rotate_left; (focus (go_simp; try with_reducible rfl)); simp only [Act.put, List.setIfInBounds_toArray, List.set_cons_zero, List.set_cons_succ])
  refine mix_nil ?_
  have hsl0 := sl_length hn
  have HSL := Lib.hid hsl0
  rw [HSL.out]
  obtain ⟨xv, hv⟩ := hv
  have HV := Lib.hid hv
  clear hv hsl0
  go_wp2
  go_loopg [2, 3, 4, 10] 4 (fun gk u _ _ i wr => wr = w5 ∧ ∃ k : Nat, k ≤ 4 ∧ gk = 4 - k ∧ i = .int .i64 k ∧ u = .int .u64 ((leV (sl b p k) : Nat) : Int))
  case atStart => exact ⟨rfl, 0, Nat.zero_le _, rfl, rfl, by simp [sl, leV]⟩
  case round =>
    obtain ⟨rfl, k, hk, rfl, rfl, rfl⟩ := hrel
    by_cases hlt : k < 4
    · obtain ⟨b5, o5, rfl, hb5, hc5⟩ := HR5.out k (by rw [HSL.out]; exact hlt)
      have hcl : wr.cell? ⟨b5, o5 + k, none⟩ = some (.int .u8 ((b.getD (p + k) 0 : Nat) : Int)) := by
        rw [hc5]; show some (Value.int .u8 _) = some (Value.int .u8 _); rw [sl_get hlt]
      have hx8 := getD_256 HX.out (p + k)
      have HN := Lib.hid (leV_next (b := b) (p := p) (k := k) (by omega))
      have hul : leV (sl b p k) < 256 ^ k := by
        have h := leV_lt (sl b p k) fun x hx => HX.out x (sl_mem hx)
        rwa [sl_length (by omega)] at h
      clear hc5
      generalize b.getD (p + k) 0 = x at *
      generalize leV (sl b p k) = u at *
      have h4 : k = 0 ∨ k = 1 ∨ k = 2 ∨ k = 3 := by omega
      rcases h4 with rfl | rfl | rfl | rfl
      · have hor : bits .or .u64 (u : Int) (x : Int) = ((u + x * 256 ^ 0 : Nat) : Int) := by
          rw [show ((x : Int) : Int) = ((x * 256 ^ 0 : Nat) : Int) by omega, u64_or_nat u (x * 256 ^ 0) (by omega) (by omega), or_shift 0 hul]
        simp only [Nat.add_zero] at hcl
        go_wp2
        go_roundg (4 - (0 + 1))
        case measure => omega
        case rel => exact ⟨rfl, 0 + 1, by omega, rfl, by go_num, by rw [HN.out]; exact congrArg (Value.int .u64) (by omega)⟩
      · have hor : bits .or .u64 (u : Int) ((x : Int) * 256) = ((u + x * 256 ^ 1 : Nat) : Int) := by
          rw [show (((x : Int) * 256) : Int) = ((x * 256 ^ 1 : Nat) : Int) by omega, u64_or_nat u (x * 256 ^ 1) (by omega) (by omega), or_shift 1 hul]
        go_wp2
        go_roundg (4 - (1 + 1))
        case measure => omega
        case rel => exact ⟨rfl, 1 + 1, by omega, rfl, by go_num, by rw [HN.out]; exact congrArg (Value.int .u64) (by omega)⟩
      · have hor : bits .or .u64 (u : Int) ((x : Int) * 65536) = ((u + x * 256 ^ 2 : Nat) : Int) := by
          rw [show (((x : Int) * 65536) : Int) = ((x * 256 ^ 2 : Nat) : Int) by omega, u64_or_nat u (x * 256 ^ 2) (by omega) (by omega), or_shift 2 hul]
        go_wp2
        go_roundg (4 - (2 + 1))
        case measure => omega
        case rel => exact ⟨rfl, 2 + 1, by omega, rfl, by go_num, by rw [HN.out]; exact congrArg (Value.int .u64) (by omega)⟩
      · have hor : bits .or .u64 (u : Int) ((x : Int) * 16777216) = ((u + x * 256 ^ 3 : Nat) : Int) := by
          rw [show (((x : Int) * 16777216) : Int) = ((x * 256 ^ 3 : Nat) : Int) by omega, u64_or_nat u (x * 256 ^ 3) (by omega) (by omega), or_shift 3 hul]
        go_wp2
        go_roundg (4 - (3 + 1))
        case measure => omega
        case rel => exact ⟨rfl, 3 + 1, by omega, rfl, by go_num, by rw [HN.out]; exact congrArg (Value.int .u64) (by omega)⟩
    · have hkn : k = 4 := by omega
      subst hkn
      have HNUM := Lib.hid (show leV (sl b p 4) = num b p 4 from rfl)
      have hnl : leV (sl b p 4) < 256 ^ 4 := by
        have h := leV_lt (sl b p 4) fun x hx => HX.out x (sl_mem hx)
        rwa [sl_length (by omega)] at h
      generalize leV (sl b p 4) = u at *
      have hcv : IntKind.u32.wrap (u : Int) = (u : Int) := by rw [IntKind.wrap_u32]; omega
      have hpv : wr.heap[pv]? = some (.cells #[.int .u32 xv] 78 (0, 0)) := by
        rw [HG5.out.block pv (Array.getElem?_eq_some_iff.1 HV.out).1 (fun e => hne (Option.some.inj e))]; exact HV.out
      have hpc : wr.cell? ⟨pv, 0, none⟩ = some (.int .u32 xv) := by simp [World.cell?, hpv]
      have hpf : wr.frozen? ⟨pv, 0, none⟩ = false := by simp [World.frozen?, hpv]
      have HH := Lib.hid hpv
      clear hpv
      go_wp2
      go_end0
      exact ⟨rfl, wr, HG5.out, HRD5.out, by rw [← HNUM.out]⟩
set_option maxRecDepth 100000 in
set_option maxHeartbeats 2000000 in
theorem tk8_any (r : Nat) (A : Option Addr) (b : List Nat) (c p pr pv : Nat) (w : World) (hR : RdAt w r A b c p) (hbox : w.cell? ⟨pr, 0, none⟩ = some (.pointer (some ⟨r, 0, none⟩))) (hv : ∃ x : Int, w.heap[pv]? = some (.cells #[.int .u8 x] 5 (0, 0))) (hne : pv ≠ r)
    (hn : p + 1 ≤ b.length) (hbl : b.length ≤ 140737488355328) (hc : c ≤ maxLen) (hx : ∀ x ∈ b, x < 256) :
    Calls Try.prog 83 #[.pointer (some ⟨pr, 0, none⟩), .pointer (some ⟨pv, 0, none⟩)] w fun e w' => e = .returned (.tuple #[]) ∧ ∃ w1, w.grownBy w1 (some r) ∧ RdAt w1 r A b c (p + 1) ∧ w' = w1.setCell ⟨pv, 0, none⟩ (.int .u8 (num b p 1 : Nat)) := by
  have HTK := Lib.hid (fun (w' : World) (h : RdAt w' r A b c p) => take_any r A b c p 1 w' h (by decide) hn hbl hc)
  have HR := Lib.hid hR
  have HX := Lib.hid hx
  clear hR hx
  go_enter Try.func83, Try.ntmps83
  go_wp2_with fail
  refine wp_region_mix [(true, true, true), (false, false, false), (false, true, false), (false, false, true), (false, true, false), (true, true, false)] mixed (by kernel_rfl) (fun w4 => w4.cell? ⟨pr, 0, none⟩ = some (.pointer (some ⟨r, 0, none⟩))) (hbox) ?_
  intro hSw0
  simp only [hdM, tlM, List.cons_append, List.nil_append]
  repeat (first
    | (refine mix_look hSw0.out ?_ (by rfl) (fun w4 hSw => ?_) ?_; rotate_left; (focus (have s1 := hSw; go_simp; try with_reducible rfl)); simp only [Act.put, List.setIfInBounds_toArray, List.set_cons_zero, List.set_cons_succ])
    | (refine mix_pure ?_ (by rfl) (fun w4 => ?_) ?_; rotate_left; (focus (go_simp; try with_reducible rfl)); simp only [Act.put, List.setIfInBounds_toArray, List.set_cons_zero, List.set_cons_succ]))
  refine mix_step (fun K hK => ?_)
  go_simp
  refine (width8 _).mono ?_
  rintro e w5 ⟨rfl, rfl⟩
  dsimp only
  refine hK.out _ _ (fun _ h => h) ?_
  clear hK K
  try simp only [Act.put, List.setIfInBounds_toArray, List.set_cons_zero, List.set_cons_succ]
  repeat (refine mix_pure ?_ (by rfl) (fun w4 => ?_) ?_; rotate_left; (focus (go_simp; try with_reducible rfl)); simp only [Act.put, List.setIfInBounds_toArray, List.set_cons_zero, List.set_cons_succ])
  refine mix_step (fun K hK => ?_)
  go_simp
  refine (HTK.out _ (HR.out.below ((Dr.refl w).drew.below _))).mono ?_
  rintro e w5 ⟨A5, c5, rfl, r5, hR5, hg5⟩
  have HR5 := Lib.hid r5; have HRD5 := Lib.hid hR5; have HG5 := Lib.hid (G.trans (G.below (r := some r) ((Dr.refl w).drew.below _)) hg5)
  clear r5 hR5 hg5
  dsimp only
  refine hK.out _ _ (fun h => absurd h (by decide)) ?_
  clear hK K
  try simp only [Act.put, List.setIfInBounds_toArray, List.set_cons_zero, List.set_cons_succ]
  repeat (refine mix_pure ?_ (by rfl) (fun w4 => ?_) ?_; rotate_left; (focus (go_simp; try with_reducible rfl)); simp only [Act.put, List.setIfInBounds_toArray, List.set_cons_zero, List.set_cons_succ])
  refine mix_nil ?_
  have hsl0 := sl_length hn
  have HSL := Lib.hid hsl0
  rw [HSL.out]
  obtain ⟨xv, hv⟩ := hv
  have HV := Lib.hid hv
  clear hv hsl0
  go_wp2
  go_loopg [2, 3, 4, 10] 1 (fun gk u _ _ i wr => wr = w5 ∧ ∃ k : Nat, k ≤ 1 ∧ gk = 1 - k ∧ i = .int .i64 k ∧ u = .int .u64 ((leV (sl b p k) : Nat) : Int))
  case atStart => exact ⟨rfl, 0, Nat.zero_le _, rfl, rfl, by simp [sl, leV]⟩
  case round =>
    obtain ⟨rfl, k, hk, rfl, rfl, rfl⟩ := hrel
    by_cases hlt : k < 1
    · obtain ⟨b5, o5, rfl, hb5, hc5⟩ := HR5.out k (by rw [HSL.out]; exact hlt)
      have hcl : wr.cell? ⟨b5, o5 + k, none⟩ = some (.int .u8 ((b.getD (p + k) 0 : Nat) : Int)) := by
        rw [hc5]; show some (Value.int .u8 _) = some (Value.int .u8 _); rw [sl_get hlt]
      have hx8 := getD_256 HX.out (p + k)
      have HN := Lib.hid (leV_next (b := b) (p := p) (k := k) (by omega))
      have hul : leV (sl b p k) < 256 ^ k := by
        have h := leV_lt (sl b p k) fun x hx => HX.out x (sl_mem hx)
        rwa [sl_length (by omega)] at h
      clear hc5
      generalize b.getD (p + k) 0 = x at *
      generalize leV (sl b p k) = u at *
      have h4 : k = 0 := by omega
      rcases h4 with rfl
      · have hor : bits .or .u64 (u : Int) (x : Int) = ((u + x * 256 ^ 0 : Nat) : Int) := by
          rw [show ((x : Int) : Int) = ((x * 256 ^ 0 : Nat) : Int) by omega, u64_or_nat u (x * 256 ^ 0) (by omega) (by omega), or_shift 0 hul]
        simp only [Nat.add_zero] at hcl
        go_wp2
        go_roundg (1 - (0 + 1))
        case measure => omega
        case rel => exact ⟨rfl, 0 + 1, by omega, rfl, by go_num, by rw [HN.out]; exact congrArg (Value.int .u64) (by omega)⟩
    · have hkn : k = 1 := by omega
      subst hkn
      have HNUM := Lib.hid (show leV (sl b p 1) = num b p 1 from rfl)
      have hnl : leV (sl b p 1) < 256 ^ 1 := by
        have h := leV_lt (sl b p 1) fun x hx => HX.out x (sl_mem hx)
        rwa [sl_length (by omega)] at h
      generalize leV (sl b p 1) = u at *
      have hcv : IntKind.u8.wrap (u : Int) = (u : Int) := by rw [IntKind.wrap_u8]; omega
      have hpv : wr.heap[pv]? = some (.cells #[.int .u8 xv] 5 (0, 0)) := by
        rw [HG5.out.block pv (Array.getElem?_eq_some_iff.1 HV.out).1 (fun e => hne (Option.some.inj e))]; exact HV.out
      have hpc : wr.cell? ⟨pv, 0, none⟩ = some (.int .u8 xv) := by simp [World.cell?, hpv]
      have hpf : wr.frozen? ⟨pv, 0, none⟩ = false := by simp [World.frozen?, hpv]
      have HH := Lib.hid hpv
      clear hpv
      go_wp2
      go_end0
      exact ⟨rfl, wr, HG5.out, HRD5.out, by rw [← HNUM.out]⟩
theorem run_own_call {f : FuncId} {fn : Func} (hf : Try.prog.funcs[f]? = some fn) (hname : (fn.name == "runtime.NumGoroutine") = false) (hb : fn.body.isNone = false) (args : Array Value) (w : World) : (callFunc f args).run Try.prog w = .ok (.enter f args) w := by
  have hne : fn.name ≠ "runtime.NumGoroutine" := by simpa using hname
  have hb' : ¬ fn.body = none := by intro e; rw [e] at hb; cases hb
  simp [callFunc, hf, hne, hb']
theorem G.setNew {w w1 : World} {r : Option Nat} (h : w.grownBy w1 r) {a : Addr} (ha : w.heap.size ≤ a.block) (v : Value) : w.grownBy (w1.setCell a v) r :=
  ⟨h.os, h.tape, h.output, by simpa using h.size, fun k hk hne => by rw [Below.heap_setCell _ _ _ _ (by omega)]; exact h.block k hk hne⟩
theorem RdAt.setFar {w0 w : World} {r : Nat} {A : Option Addr} {b : List Nat} {c p p0 : Nat} (h0 : RdAt w0 r A b c p0) (h : RdAt w r A b c p) {a : Addr} (ha : w0.heap.size ≤ a.block) (v : Value) : RdAt (w.setCell a v) r A b c p := by
  have hr := h0.lt
  refine ⟨by rw [Below.heap_setCell _ _ _ _ (by omega)]; exact h.heap, fun i hi => ?_, h.cap⟩
  obtain ⟨bk, o, e, hb, hc⟩ := h.rl i hi
  obtain ⟨bk0, o0, e0, hb0, _⟩ := h0.rl i hi
  rw [e] at e0
  injection e0 with e0
  injection e0 with e1 e2
  subst e1
  refine ⟨bk, o, e, by simpa using hb, ?_⟩
  rw [← hc]
  exact World.cell?_of_block (a := ⟨bk, o + i, none⟩) (Below.heap_setCell _ _ _ _ (by show bk ≠ a.block; omega))
set_option maxRecDepth 100000 in
set_option maxHeartbeats 2000000 in
theorem take32_any (r : Nat) (A : Option Addr) (b : List Nat) (c p : Nat) (w : World) (hR : RdAt w r A b c p) (hn : p + 4 ≤ b.length) (hbl : b.length ≤ 140737488355328) (hc : c ≤ maxLen) (hx : ∀ x ∈ b, x < 256) :
    Calls Try.prog 76 #[.pointer (some ⟨r, 0, none⟩)] w fun e w' => e = .returned (.int .u32 (num b p 4 : Nat)) ∧ RdAt w' r A b c (p + 4) ∧ w.grownBy w' (some r) := by
  have hmf : ∀ (fn : Fn) (first cap : Array Value) (w : World), (Instr.makeFunc fn first cap).run Try.prog w = .ok (.func fn first cap) w := fun _ _ _ _ => rfl
  have hbA := ((Below.refl w.heap.size w).alloc (Nat.le_refl _) (.cells #[.pointer (some ⟨r, 0, none⟩)] 117)).alloc (by simp) (.cells #[.int .u32 0] 78)
  have hlt := hR.lt
  have HR := Lib.hid hR
  have HX := Lib.hid hx
  go_enter Try.func76, Try.ntmps76
  go_wp2_with fail
  obtain ⟨wA, hwA⟩ : ∃ wA, wA = (w.alloc (.cells #[.pointer (some ⟨r, 0, none⟩)] 117)).alloc (.cells #[.int .u32 0] 78) := ⟨_, rfl⟩
  have hbox : wA.cell? ⟨w.heap.size, 0, none⟩ = some (.pointer (some ⟨r, 0, none⟩)) := by rw [hwA]; go_simp
  have hvar : wA.heap[w.heap.size + 1]? = some (.cells #[.int .u32 0] 78 (0, 0)) := by
    rw [hwA]
    have := heap_alloc_new (w.alloc (.cells #[.pointer (some ⟨r, 0, none⟩)] 117)) (.cells #[.int .u32 0] 78 (0, 0))
    simpa using this
  have hsz : wA.heap.size = w.heap.size + 2 := by rw [hwA]; simp
  rw [← hwA] at hbA ⊢
  clear hwA hR hx
  refine (reading_any r A b c p 85 #[.pointer (some ⟨w.heap.size, 0, none⟩), .pointer (some ⟨w.heap.size + 1, 0, none⟩)] wA
    (fun w2 w' => ∃ w1, w2.grownBy w1 (some r) ∧ RdAt w1 r A b c (p + 4) ∧ w' = w1.setCell ⟨w.heap.size + 1, 0, none⟩ (.int .u32 (num b p 4 : Nat)))
    (HR.out.below hbA) (run_own_call Try.func85 (by kernel_rfl) (by kernel_rfl) _) (fun w2 hb => tk32_any r A b c p w.heap.size (w.heap.size + 1) w2 ((HR.out.below hbA).below hb) ((hb.cell (p := ⟨w.heap.size, 0, none⟩) (by show w.heap.size < _; omega)).trans hbox) ⟨0, by rw [hb.block _ (by omega)]; exact hvar⟩ (by omega) hn hbl hc HX.out)).mono ?_
  rintro e w' ⟨rfl, w2, hb2, w1, hg, hR1, rfl⟩
  have hv1 : w1.heap[w.heap.size + 1]? = some (.cells #[.int .u32 0] 78 (0, 0)) := by
    rw [hg.block _ (by have := hb2.size; omega) (fun e => by injection e with e; omega), hb2.block _ (by omega)]; exact hvar
  have HRF := Lib.hid (RdAt.setFar HR.out hR1 (a := ⟨w.heap.size + 1, 0, none⟩) (Nat.le_succ _) (.int .u32 (num b p 4 : Nat)))
  have hbAll := hbA.trans (hb2.mono hbA.size)
  have HG := Lib.hid (G.setNew (G.trans (G.below (r := some r) hbAll) ⟨hg.os, hg.tape, hg.output, hg.size, hg.block⟩) (a := ⟨w.heap.size + 1, 0, none⟩) (Nat.le_succ _) (.int .u32 (num b p 4 : Nat)))
  have hcl : (w1.setCell ⟨w.heap.size + 1, 0, none⟩ (.int .u32 (num b p 4 : Nat))).cell? ⟨w.heap.size + 1, 0, none⟩ = some (.int .u32 (num b p 4 : Nat)) := by
    have : (w1.setCell ⟨w.heap.size + 1, 0, none⟩ (.int .u32 (num b p 4 : Nat))).heap[w.heap.size + 1]? = some (.cells #[.int .u32 (num b p 4 : Nat)] 78 (0, 0)) := by simp [World.setCell, hv1, Array.getElem?_modify]
    simp [World.cell?, this]
  generalize w1.setCell ⟨w.heap.size + 1, 0, none⟩ (.int .u32 (num b p 4 : Nat)) = wF at *
  obtain ⟨nn, hnn⟩ : ∃ nn, nn = num b p 4 := ⟨_, rfl⟩
  rw [← hnn] at hcl
  have HNN := Lib.hid hnn
  clear hnn hv1 hg hR1 hb2 hbox hvar hbAll hbA
  go_wp2
  go_ret
  exact ⟨by rw [← HNN.out]; rfl, HRF.out, HG.out⟩
set_option maxRecDepth 100000 in
set_option maxHeartbeats 2000000 in
theorem take8_any (r : Nat) (A : Option Addr) (b : List Nat) (c p : Nat) (w : World) (hR : RdAt w r A b c p) (hn : p + 1 ≤ b.length) (hbl : b.length ≤ 140737488355328) (hc : c ≤ maxLen) (hx : ∀ x ∈ b, x < 256) :
    Calls Try.prog 75 #[.pointer (some ⟨r, 0, none⟩)] w fun e w' => e = .returned (.int .u8 (num b p 1 : Nat)) ∧ RdAt w' r A b c (p + 1) ∧ w.grownBy w' (some r) := by
  have hmf : ∀ (fn : Fn) (first cap : Array Value) (w : World), (Instr.makeFunc fn first cap).run Try.prog w = .ok (.func fn first cap) w := fun _ _ _ _ => rfl
  have hbA := ((Below.refl w.heap.size w).alloc (Nat.le_refl _) (.cells #[.pointer (some ⟨r, 0, none⟩)] 117)).alloc (by simp) (.cells #[.int .u8 0] 5)
  have hlt := hR.lt
  have HR := Lib.hid hR
  have HX := Lib.hid hx
  go_enter Try.func75, Try.ntmps75
  go_wp2_with fail
  obtain ⟨wA, hwA⟩ : ∃ wA, wA = (w.alloc (.cells #[.pointer (some ⟨r, 0, none⟩)] 117)).alloc (.cells #[.int .u8 0] 5) := ⟨_, rfl⟩
  have hbox : wA.cell? ⟨w.heap.size, 0, none⟩ = some (.pointer (some ⟨r, 0, none⟩)) := by rw [hwA]; go_simp
  have hvar : wA.heap[w.heap.size + 1]? = some (.cells #[.int .u8 0] 5 (0, 0)) := by
    rw [hwA]
    have := heap_alloc_new (w.alloc (.cells #[.pointer (some ⟨r, 0, none⟩)] 117)) (.cells #[.int .u8 0] 5 (0, 0))
    simpa using this
  have hsz : wA.heap.size = w.heap.size + 2 := by rw [hwA]; simp
  rw [← hwA] at hbA ⊢
  clear hwA hR hx
  refine (reading_any r A b c p 83 #[.pointer (some ⟨w.heap.size, 0, none⟩), .pointer (some ⟨w.heap.size + 1, 0, none⟩)] wA
    (fun w2 w' => ∃ w1, w2.grownBy w1 (some r) ∧ RdAt w1 r A b c (p + 1) ∧ w' = w1.setCell ⟨w.heap.size + 1, 0, none⟩ (.int .u8 (num b p 1 : Nat)))
    (HR.out.below hbA) (run_own_call Try.func83 (by kernel_rfl) (by kernel_rfl) _) (fun w2 hb => tk8_any r A b c p w.heap.size (w.heap.size + 1) w2 ((HR.out.below hbA).below hb) ((hb.cell (p := ⟨w.heap.size, 0, none⟩) (by show w.heap.size < _; omega)).trans hbox) ⟨0, by rw [hb.block _ (by omega)]; exact hvar⟩ (by omega) hn hbl hc HX.out)).mono ?_
  rintro e w' ⟨rfl, w2, hb2, w1, hg, hR1, rfl⟩
  have hv1 : w1.heap[w.heap.size + 1]? = some (.cells #[.int .u8 0] 5 (0, 0)) := by
    rw [hg.block _ (by have := hb2.size; omega) (fun e => by injection e with e; omega), hb2.block _ (by omega)]; exact hvar
  have HRF := Lib.hid (RdAt.setFar HR.out hR1 (a := ⟨w.heap.size + 1, 0, none⟩) (Nat.le_succ _) (.int .u8 (num b p 1 : Nat)))
  have hbAll := hbA.trans (hb2.mono hbA.size)
  have HG := Lib.hid (G.setNew (G.trans (G.below (r := some r) hbAll) ⟨hg.os, hg.tape, hg.output, hg.size, hg.block⟩) (a := ⟨w.heap.size + 1, 0, none⟩) (Nat.le_succ _) (.int .u8 (num b p 1 : Nat)))
  have hcl : (w1.setCell ⟨w.heap.size + 1, 0, none⟩ (.int .u8 (num b p 1 : Nat))).cell? ⟨w.heap.size + 1, 0, none⟩ = some (.int .u8 (num b p 1 : Nat)) := by
    have : (w1.setCell ⟨w.heap.size + 1, 0, none⟩ (.int .u8 (num b p 1 : Nat))).heap[w.heap.size + 1]? = some (.cells #[.int .u8 (num b p 1 : Nat)] 5 (0, 0)) := by simp [World.setCell, hv1, Array.getElem?_modify]
    simp [World.cell?, this]
  generalize w1.setCell ⟨w.heap.size + 1, 0, none⟩ (.int .u8 (num b p 1 : Nat)) = wF at *
  obtain ⟨nn, hnn⟩ : ∃ nn, nn = num b p 1 := ⟨_, rfl⟩
  rw [← hnn] at hcl
  have HNN := Lib.hid hnn
  clear hnn hv1 hg hR1 hb2 hbox hvar hbAll hbA
  go_wp2
  go_ret
  exact ⟨by rw [← HNN.out]; rfl, HRF.out, HG.out⟩
end Go.Proofs.Ytbioanbokbhmgaa
