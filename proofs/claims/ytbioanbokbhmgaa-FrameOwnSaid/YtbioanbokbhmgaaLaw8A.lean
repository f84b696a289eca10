/- The law's helpers: lent, kept, lentRows, keptRows, num. Conditions: bytes, lengths that memory bears. -/
import Derived.Test.YtbioanbokbhmgaaOwl
import Derived.Test.YtbioanbokbhmgaaPrsR
import Derived.Test.YtbioanbokbhmgaaCod
import Derived.IntWalk
namespace Go.Proofs.Ytbioanbokbhmgaa
open Go.RowKit

def strL (l : List Nat) : ByteArray := strN l.length fun i => l.getD i 0
theorem conv_strL {w : World} {A : Option Addr} {l : List Nat} (c : Nat) (hl : ∀ x ∈ l, x < 256) (h : RL w A l) : (convert 47 9 (.slice A l.length c)).run Try.prog w = .ok (.string (strL l)) w :=
  conv_str (P := Try.prog) w 47 9 5 A l.length c (fun i => l.getD i 0) Try.underlying47 Try.underlying5 Try.underlying9 (fun _ hi => getD_lt hl hi) h
/-- What stands behind what is lent. -/
def mk8 : Nat → List Nat
  | 0 => []
  | k + 1 => mk8 k ++ [150 + k]
theorem mk8_length : ∀ k, (mk8 k).length = k
  | 0 => rfl
  | k + 1 => by simp [mk8, mk8_length k]
theorem mk8_get : ∀ (k j : Nat), j < k → (mk8 k).getD j 0 = 150 + j
  | k + 1, j, h => by
    by_cases e : j = k
    · subst e
      have := getD_app_r (l := mk8 j) (x := 150 + j) (d := 0)
      rw [mk8_length] at this
      exact this
    · show (mk8 k ++ [_]).getD j 0 = _
      rw [getD_app_l (by rw [mk8_length]; omega), mk8_get k j (by omega)]
theorem app_get_r {a b : List Nat} {j : Nat} : (a ++ b).getD (a.length + j) 0 = b.getD j 0 := by
  rw [List.getD_eq_getElem?_getD, List.getElem?_append_right (by omega), List.getD_eq_getElem?_getD]
  congr 2
  omega
theorem app_get_l {a b : List Nat} {j : Nat} (h : j < a.length) : (a ++ b).getD j 0 = a.getD j 0 := by
  rw [List.getD_eq_getElem?_getD, List.getElem?_append_left h, List.getD_eq_getElem?_getD]
set_option maxRecDepth 20000 in
set_option maxHeartbeats 1000000 in
theorem lent_any (A : Option Addr) (c : Nat) (l : List Nat) (w : World) (hn : l.length ≤ 140737488351232) (hA : RL w A l) :
    Calls Try.prog 29 #[.slice A l.length c] w fun e w' => ∃ S C, e = .returned (.slice (some ⟨S, 0, none⟩) l.length C) ∧ OwnB w' w.heap.size (.slice (some ⟨S, 0, none⟩) (l ++ mk8 66).length C) (l ++ mk8 66) ∧ Below w.heap.size w w' := by
  have HS := Lib.hid ((hA.below ((Below.refl w.heap.size w).alloc (Nat.le_refl _) (.cells #[] 5))).src c)
  have HO := Lib.hid (OwnB.fresh w)
  have HB0 := Lib.hid ((Below.refl w.heap.size w).alloc (Nat.le_refl _) (.cells #[] 5))
  clear hA
  go_enter Try.func29, Try.ntmps29
  go_wp2_with (at_builtin; refine wpList_appB rfl (.tmp 5) (.tmp 6) 47 rfl w.heap.size _ [] rfl HO.out (by simp) _ l.length l rfl HS.out (by simp; omega) ?_)
  intro v1 w1 hO hb _
  have HO1 := Lib.hid (show OwnB w1 w.heap.size v1 (l ++ mk8 0) by simpa [mk8] using hO)
  have HB1 := Lib.hid (HB0.out.trans hb)
  clear hO hb HO HS HB0
  go_wp2
  go_loopg [3, 4] 66 (fun gk v i wr => ∃ k : Nat, k ≤ 66 ∧ gk = 66 - k ∧ i = .int .i64 k ∧ OwnB wr w.heap.size v (l ++ mk8 k) ∧ Below w.heap.size w wr)
  case atStart => exact ⟨0, Nat.zero_le _, rfl, rfl, HO1.out, HB1.out⟩
  case round =>
    clear HO1 HB1
    obtain ⟨k, hk, rfl, rfl, hO, hb⟩ := hrel
    have hsz := hb.size
    by_cases hlt : k < 66
    · have hC := Lib.hid (byte_cell (x := 150 + (k : Int)) (y := 150 + k) (by omega))
      have hlen : (l ++ mk8 k).length + 1 ≤ 140737488355328 := by rw [List.length_append, mk8_length]; omega
      have HO := Lib.hid hO; have HB := Lib.hid hb
      clear hO hb
      go_wp2_with (at_builtin; refine wpList_pushB rfl (.tmp 12) (.tmp 16) rfl w.heap.size _ _ rfl HO.out hsz _ 1 _ rfl rfl hC.out rfl hlen ?_)
      intro v2 w2 hO2 hb2 _
      have HO2 := Lib.hid (show OwnB w2 w.heap.size v2 (l ++ mk8 (k + 1)) by show OwnB w2 w.heap.size v2 (l ++ (mk8 k ++ [150 + k])); rw [← List.append_assoc]; simpa using hO2)
      have HB2 := Lib.hid (HB.out.trans hb2)
      clear HO HB hO2 hb2 hC hlen
      go_wp2
      go_roundg (66 - (k + 1))
      case measure => omega
      case rel => exact ⟨k + 1, by omega, rfl, by go_num, HO2.out, HB2.out⟩
    · have hk66 : k = 66 := by omega
      subst hk66
      obtain ⟨S, C, hv, _, _, hC, _⟩ := hO.own.form (by rw [List.length_append, mk8_length]; omega)
      subst hv
      have hC' : l.length + 66 ≤ C := by rw [List.length_append, mk8_length] at hC; exact hC
      have hs1 : (0 : Int) ≤ (l.length : Int) := by omega
      have hs2 : (l.length : Int) ≤ (C : Int) := by omega
      have HO := Lib.hid hO; have HB := Lib.hid hb
      clear hO hb hC
      generalize hq : (l ++ mk8 66).length = q at *
      have HQ := Lib.hid hq
      clear hq
      go_wp2
      go_ret
      exact ⟨S, C, rfl, by rw [HQ.out]; exact HO.out, HB.out⟩
theorem lent_rl {w : World} {B S C : Nat} {l m : List Nat} {n : Nat} (h : OwnB w B (.slice (some ⟨S, 0, none⟩) n C) (l ++ m)) : RL w (some ⟨S, 0, none⟩) l := by
  obtain ⟨A', c', e, _, _, hr, _⟩ := h.rd
  injection e with e _ _
  intro i hi
  obtain ⟨b, o, e2, hb, hc⟩ := hr i (by rw [List.length_append]; omega)
  refine ⟨b, o, by rw [e]; exact e2, hb, ?_⟩
  rw [hc]
  show some (Value.int .u8 (((l ++ m).getD i 0 : Nat) : Int)) = some (Value.int .u8 ((l.getD i 0 : Nat) : Int))
  rw [app_get_l hi]
theorem lent_cap {w : World} {B S C : Nat} {l m : List Nat} (h : OwnB w B (.slice (some ⟨S, 0, none⟩) (l ++ m).length C) (l ++ m)) (hm : 0 < m.length) : l.length + m.length ≤ C := by
  obtain ⟨_, c', e, _, _, hC, _⟩ := h.own.form (by rw [List.length_append]; omega)
  injection e with _ _ e
  subst e
  rw [List.length_append] at hC
  exact hC
set_option maxRecDepth 20000 in
set_option maxHeartbeats 1000000 in
theorem kept_any (S C : Nat) (A : Option Addr) (c B : Nat) (l : List Nat) (w : World) (hn : l.length ≤ 140737488351232) (hl : ∀ x ∈ l, x < 256) (hO : OwnB w B (.slice (some ⟨S, 0, none⟩) (l ++ mk8 66).length C) (l ++ mk8 66)) (hA : RL w A l) :
    Calls Try.prog 34 #[.slice (some ⟨S, 0, none⟩) l.length C, .slice A l.length c] w fun e w' => e = .returned (.bool true) ∧ w = w' := by
  have hs1 := conv_strL C hl (lent_rl hO)
  have hs2 := conv_strL c hl hA
  have hcap := lent_cap hO (by rw [mk8_length]; omega)
  rw [mk8_length] at hcap
  have HCELL : Hid (∀ k, k < 66 → w.cell? ⟨S, l.length + k, none⟩ = some (.int .u8 (150 + (k : Int)))) := fun k hk => by
    obtain ⟨A', c', e, _, _, hr, _⟩ := hO.rd
    injection e with e _ _
    obtain ⟨b, o, e2, hb, hc⟩ := hr (l.length + k) (by rw [List.length_append, mk8_length]; omega)
    rw [← e] at e2
    injection e2 with e2
    injection e2 with e2 e3
    subst e2
    rw [← e3, Nat.zero_add] at hc
    rw [hc]
    show some (Value.int .u8 (((l ++ mk8 66).getD (l.length + k) 0 : Nat) : Int)) = _
    rw [app_get_r, mk8_get _ _ hk]
    rfl
  have hw1 : IntKind.i64.wrap ((l.length : Int) + 66) = (l.length : Int) + 66 := IntWalk.i64_in _ (by omega)
  have hb1 : (0 : Int) ≤ (l.length : Int) + 66 := by omega
  have hb2 : (l.length : Int) + 66 ≤ (C : Int) := by omega
  have hb3 : ((l.length : Int) + 66).toNat = l.length + 66 := by omega
  clear hO hl hA
  go_enter Try.func34, Try.ntmps34
  go_wp2
  clear hs1 hs2 hw1 hb1 hb2 hb3
  go_loopg [6] 66 (fun gk i wr => wr = w ∧ ∃ k : Nat, k ≤ 66 ∧ gk = 66 - k ∧ i = .int .i64 k)
  case atStart => exact ⟨rfl, 0, Nat.zero_le _, rfl, rfl⟩
  case round =>
    obtain ⟨rfl, k, hk, rfl, rfl⟩ := hrel
    by_cases hlt : k < 66
    · have hc := HCELL.out k hlt
      have hsum : ((l.length : Int) + (k : Int)).toNat = l.length + k := by omega
      go_wp2
      go_roundg (66 - (k + 1))
      case measure => omega
      case rel => exact ⟨rfl, k + 1, by omega, rfl, by go_num⟩
    · have hk66 : k = 66 := by omega
      subst hk66
      go_wp2
      go_ret
      exact ⟨rfl, rfl⟩
/-- Rows that the call has made, each known further than it says: (what it says, what is known). -/
def OwnHL (w : World) (B : Nat) (v : Value) (H : List (Nat × List Nat)) : Prop :=
  ∃ (S C : Nat → Nat), Own w B 47 1 v H.length (fun i => [.slice (some ⟨S i, 0, none⟩) (H.getD i (0, [])).1 (C i)]) ∧ ∀ i, i < H.length → OwnB w B (.slice (some ⟨S i, 0, none⟩) (H.getD i (0, [])).2.length (C i)) (H.getD i (0, [])).2
theorem OwnHL.nil (w : World) (B : Nat) : OwnHL w B (.slice none 0 0) [] := ⟨fun _ => 0, fun _ => 0, Own.nil _ _ _ _ _, fun i hi => absurd hi (by simp)⟩
theorem OwnHL.kept {w w' : World} {B : Nat} {v : Value} {H : List (Nat × List Nat)} (h : OwnHL w B v H) (hb : Below w.heap.size w w') : OwnHL w' B v H := by
  obtain ⟨S, C, h1, h2⟩ := h
  exact ⟨S, C, h1.kept hb, fun i hi => (h2 i hi).kept hb⟩
theorem wpList_pushHL {w : World} {ops : Array Oper} {rest : List Oper} {o : Oper} {a : Act} {Q : Exit → Act → World → Prop} {Sr c n : Nat} (hgd : o.guard = none) (s xo : Operand)
    (ho : o.op = .call { callee := .builtin .append, args := #[s, xo], argTypes := #[44, 44] }) (B : Nat) (v : Value) (H : List (Nat × List Nat)) (hv : a.eval s = v) (hown : OwnHL w B v H) (hB : B ≤ w.heap.size)
    (l : List Nat) (hrow : OwnB w B (.slice (some ⟨Sr, 0, none⟩) l.length c) l) (N : Nat) (hN : w.heap.size = N) (hx : a.eval xo = .slice (some ⟨N, 0, none⟩) 1 1) (hlen : H.length ≤ 1000000000000000)
    (hby : (H.length + 1) * 24 ≤ 140737488355328)
    (h : ∀ v' w', OwnHL w' B v' (H ++ [(n, l)]) → Below B w w' → wpList Try.prog ops Q rest (a.put o.dst v') w') : wpList Try.prog ops Q (o :: rest) a (w.alloc (.cells #[.slice (some ⟨Sr, 0, none⟩) n c] 47)) := by
  obtain ⟨S, C, h1, h2⟩ := hown
  have h1' : Own w B 47 1 v H.length (fun i => [.slice (some ⟨upd S H.length Sr i, 0, none⟩) ((H ++ [(n, l)]).getD i (0, [])).1 (upd C H.length c i)]) := h1.congr fun i hi => by
    rw [upd_ne _ _ _ (by omega), upd_ne _ _ _ (by omega), getD_app_l hi]
  refine wpList_push w hgd s xo 44 ho B 47 1 24 (.slice none 0 0) #[.slice (some ⟨Sr, 0, none⟩) n c] Try.underlying44 rowsInf rfl (by decide) v H.length _ hv h1' hB N hN hx
    (by rw [upd_at, upd_at, getD_app_r]) rfl rfl (by omega) hby ?_
  intro v' w' hown' hb hg _
  refine h v' w' ⟨upd S H.length Sr, upd C H.length c, by rw [List.length_append]; exact hown', fun i hi => ?_⟩ hb
  have hi : i < H.length + 1 := by rw [List.length_append] at hi; exact hi
  by_cases e : i = H.length
  · subst e
    rw [upd_at, upd_at, getD_app_r]
    exact hrow.keptRow hg (own_ne hrow.own h1 (by decide))
  · rw [upd_ne _ _ _ e, upd_ne _ _ _ e, getD_app_l (by omega)]
    exact (h2 i (by omega)).keptRow hg (own_ne (h2 i (by omega)).own h1 (by decide))
/-- What lentRows makes: k rows, then j marks. -/
def lentH (LL : List (List Nat)) : Nat → List (Nat × List Nat)
  | 0 => []
  | k + 1 => lentH LL k ++ [((LL.getD k []).length, LL.getD k [] ++ mk8 66)]
def lentM (LL : List (List Nat)) : Nat → List (Nat × List Nat)
  | 0 => lentH LL LL.length
  | k + 1 => lentM LL k ++ [(2, [k, 77])]
theorem lentH_length (LL : List (List Nat)) : ∀ k, (lentH LL k).length = k
  | 0 => rfl
  | k + 1 => by simp [lentH, lentH_length LL k]
theorem lentM_length (LL : List (List Nat)) : ∀ k, (lentM LL k).length = LL.length + k
  | 0 => by simp [lentM, lentH_length]
  | k + 1 => by simp [lentM, lentM_length LL k]; omega
theorem lentH_get (LL : List (List Nat)) : ∀ (k i : Nat), i < k → (lentH LL k).getD i (0, []) = ((LL.getD i []).length, LL.getD i [] ++ mk8 66)
  | k + 1, i, h => by
    by_cases e : i = k
    · subst e
      have := getD_app_r (l := lentH LL i) (x := ((LL.getD i []).length, LL.getD i [] ++ mk8 66)) (d := (0, []))
      rw [lentH_length] at this
      exact this
    · show (lentH LL k ++ [_]).getD i (0, []) = _
      rw [getD_app_l (by rw [lentH_length]; omega), lentH_get LL k i (by omega)]
theorem lentM_row (LL : List (List Nat)) : ∀ (k i : Nat), i < LL.length → (lentM LL k).getD i (0, []) = ((LL.getD i []).length, LL.getD i [] ++ mk8 66)
  | 0, i, h => lentH_get LL _ i h
  | k + 1, i, h => by
    show (lentM LL k ++ [_]).getD i (0, []) = _
    rw [getD_app_l (by rw [lentM_length]; omega), lentM_row LL k i h]
theorem lentM_mark (LL : List (List Nat)) : ∀ (k j : Nat), j < k → (lentM LL k).getD (LL.length + j) (0, []) = (2, [j, 77])
  | k + 1, j, h => by
    by_cases e : j = k
    · subst e
      have := getD_app_r (l := lentM LL j) (x := ((2 : Nat), [j, 77])) (d := (0, []))
      rw [lentM_length] at this
      exact this
    · show (lentM LL k ++ [_]).getD (LL.length + j) (0, []) = _
      rw [getD_app_l (by rw [lentM_length]; omega), lentM_mark LL k j (by omega)]
set_option maxRecDepth 20000 in
set_option maxHeartbeats 1000000 in
theorem lentRows_any (A : Option Addr) (c : Nat) (LL : List (List Nat)) (w : World) (hn : LL.length * 24 ≤ 140737488351232) (hln : ∀ l ∈ LL, l.length ≤ 140737488351232) (hA : RLL w A LL) :
    Calls Try.prog 23 #[.slice A LL.length c] w fun e w' => ∃ T cT, e = .returned (.slice (some ⟨T, 0, none⟩) LL.length cT) ∧ OwnHL w' w.heap.size (.slice (some ⟨T, 0, none⟩) (LL.length + 66) cT) (lentM LL 66) ∧ Below w.heap.size w w' ∧ LL.length + 66 ≤ cT := by
  obtain ⟨SA, CA, hA1, hA2⟩ := hA
  have HLN := Lib.hid hln
  have HA1 := Lib.hid hA1; have HA2 := Lib.hid hA2
  clear hA1 hA2 hln
  go_enter Try.func23, Try.ntmps23
  go_wp2
  go_loopg [3, 4] LL.length (fun gk v i wr => ∃ k : Nat, k ≤ LL.length ∧ gk = LL.length - k ∧ i = .int .i64 k ∧ OwnHL wr w.heap.size v (lentH LL k) ∧ Below w.heap.size w wr)
  case atStart => exact ⟨0, Nat.zero_le _, rfl, rfl, OwnHL.nil _ _, Below.refl _ _⟩
  case round =>
    obtain ⟨k, hk, rfl, rfl, hO, hb⟩ := hrel
    have hsz := hb.size
    by_cases hlt : k < LL.length
    · obtain ⟨b, o, rfl, hb1, hc0⟩ := HA1.out k hlt
      have hc : wr.cell? ⟨b, o + k, none⟩ = some (.slice (SA k) (LL.getD k []).length (CA k)) := (hb.cell hb1).trans hc0
      have HR := Lib.hid ((HA2.out k hlt).below hb)
      have hlk := HLN.out _ (getD_mem' (d := []) hlt)
      have HL := Lib.hid (show lentH LL (k + 1) = lentH LL k ++ [((LL.getD k []).length, LL.getD k [] ++ mk8 66)] from rfl)
      have hll : (lentH LL k).length ≤ LL.length := by rw [lentH_length]; omega
      have hby : ((lentH LL k).length + 1) * 24 ≤ 140737488355328 := by rw [lentH_length]; omega
      generalize lentH LL k = HK at *
      generalize LL.getD k [] = bk at *
      have HO := Lib.hid hO; have HB := Lib.hid hb
      clear hc0 hO hb
      go_wp2_with fail
      refine (lent_any (SA k) (CA k) bk wr hlk HR.out).mono ?_
      rintro e w1 ⟨S1, C1, rfl, hr1, hb1'⟩
      have HO1 := Lib.hid (HO.out.kept hb1')
      have HB1 := Lib.hid (HB.out.trans (hb1'.mono hsz))
      have HR1 := Lib.hid (hr1.mono hsz)
      have hsz1 := HB1.out.size
      clear hr1 hb1' HO HB hc HR
      go_wp2_with (at_builtin; refine wpList_pushHL rfl (.tmp 12) (.tmp 18) rfl w.heap.size _ HK rfl HO1.out hsz1 (bk ++ mk8 66) HR1.out _ rfl rfl (by omega) hby ?_)
      intro v2 w2 hO2 hb2
      have HO2 := Lib.hid (show OwnHL w2 w.heap.size v2 (lentH LL (k + 1)) by rw [HL.out]; exact hO2)
      have HB2 := Lib.hid (HB1.out.trans hb2)
      clear hO2 hb2 HO1 HB1 HR1
      go_wp2
      go_roundg (LL.length - (k + 1))
      case measure => omega
      case rel => exact ⟨k + 1, by omega, rfl, by go_num, HO2.out, HB2.out⟩
    · have hkn : k = LL.length := by omega
      have HO := Lib.hid (show OwnHL wr w.heap.size _ (lentM LL 0) by rw [hkn] at hO; exact hO)
      have HB := Lib.hid hb
      clear hO hb hkn
      go_wp2
      go_loopg [3, 5] 66 (fun gk v i wr => ∃ k : Nat, k ≤ 66 ∧ gk = 66 - k ∧ i = .int .i64 k ∧ OwnHL wr w.heap.size v (lentM LL k) ∧ Below w.heap.size w wr)
      case atStart => exact ⟨0, Nat.zero_le _, rfl, rfl, HO.out, HB.out⟩
      case round =>
        clear HO HB hsz
        obtain ⟨k, hk, rfl, rfl, hO, hb⟩ := hrel
        have hsz := hb.size
        by_cases hlt : k < 66
        · have HL := Lib.hid (show lentM LL (k + 1) = lentM LL k ++ [(2, [k, 77])] from rfl)
          have hll : (lentM LL k).length ≤ LL.length + 66 := by rw [lentM_length]; omega
          have hby : ((lentM LL k).length + 1) * 24 ≤ 140737488355328 := by rw [lentM_length]; omega
          have hcv : IntKind.u8.wrap (k : Int) = (k : Int) := by rw [IntKind.wrap_u8]; omega
          have hal := (Below.refl wr.heap.size wr).alloc (Nat.le_refl _) (.cells #[.int .u8 (k : Int), .int .u8 77] 5)
          have HO1 := Lib.hid (hO.kept hal)
          have HB1 := Lib.hid (hb.trans (hal.mono hsz))
          have HR1 : Hid (OwnB (wr.alloc (.cells #[.int .u8 (k : Int), .int .u8 77] 5)) w.heap.size (.slice (some ⟨wr.heap.size, 0, none⟩) [k, 77].length 2) [k, 77]) :=
            OwnB.of (own_of_row (World.rowIs_alloc wr #[.int .u8 (k : Int), .int .u8 77] 5 (fun i => .int .u8 ((([k, 77] : List Nat).getD i 0 : Nat) : Int)) (by
              intro i hi
              match i, hi with
              | 0, _ => rfl
              | 1, _ => rfl)) hsz (by unfold maxLen; show 2 ≤ _; omega))
          have hsz1 := HB1.out.size
          generalize lentM LL k = HK at *
          clear hO hb hal
          go_wp2_with (at_builtin; refine wpList_pushHL rfl (.tmp 24) (.tmp 28) rfl w.heap.size _ HK rfl HO1.out hsz1 [k, 77] HR1.out (wr.heap.size + 1) (by simp) rfl (by omega) hby ?_)
          intro v2 w2 hO2 hb2
          have HO2 := Lib.hid (show OwnHL w2 w.heap.size v2 (lentM LL (k + 1)) by rw [HL.out]; exact hO2)
          have HB2 := Lib.hid (HB1.out.trans hb2)
          clear hO2 hb2 HO1 HB1 HR1
          go_wp2
          go_roundg (66 - (k + 1))
          case measure => omega
          case rel => exact ⟨k + 1, by omega, rfl, by go_num, HO2.out, HB2.out⟩
        · have hk66 : k = 66 := by omega
          subst hk66
          have hln := lentM_length LL 66
          obtain ⟨S, C, h1, h2⟩ := hO
          obtain ⟨T, cT, hv, _, _, hcT, _⟩ := h1.form (by omega)
          subst hv
          rw [hln] at hcT
          have HO := Lib.hid (show OwnHL wr w.heap.size (.slice (some ⟨T, 0, none⟩) (LL.length + 66) cT) (lentM LL 66) from ⟨S, C, by rw [← hln]; rw [hln] at h1 ⊢; exact h1, h2⟩)
          have HB := Lib.hid hb
          have hs1 : (0 : Int) ≤ (LL.length : Int) := by omega
          have hs2 : (LL.length : Int) ≤ (cT : Int) := by omega
          clear h1 h2 hb
          rw [hln]
          clear hln
          go_wp2
          go_ret
          exact ⟨T, cT, rfl, HO.out, HB.out, hcT⟩
theorem lent_rll {w : World} {B T cT : Nat} {LL : List (List Nat)} (h : OwnHL w B (.slice (some ⟨T, 0, none⟩) (LL.length + 66) cT) (lentM LL 66)) : RLL w (some ⟨T, 0, none⟩) LL := by
  obtain ⟨S, C, h1, h2⟩ := h
  rw [lentM_length] at h1
  refine ⟨fun i => some ⟨S i, 0, none⟩, C, fun i hi => ⟨T, 0, rfl, (h1.lt T rfl).2, ?_⟩, fun i hi => ?_⟩
  · rw [Nat.zero_add, h1.cell1 (by omega)]
    show some (Value.slice _ _ _) = some (Value.slice _ _ _)
    rw [lentM_row LL 66 i hi]
  · have h3 := h2 i (by rw [lentM_length]; omega)
    rw [lentM_row LL 66 i hi] at h3
    exact lent_rl h3
set_option maxRecDepth 20000 in
set_option maxHeartbeats 2000000 in
theorem keptRows_any (T cT : Nat) (A2 : Option Addr) (c2 B : Nat) (LL : List (List Nat)) (w : World) (hn : LL.length * 24 ≤ 140737488351232) (hln : ∀ l ∈ LL, l.length ≤ 140737488351232) (hlx : ∀ l ∈ LL, ∀ x ∈ l, x < 256) (hcT : LL.length + 66 ≤ cT)
    (h1 : OwnHL w B (.slice (some ⟨T, 0, none⟩) (LL.length + 66) cT) (lentM LL 66)) (hA : RLL w A2 LL) :
    Calls Try.prog 25 #[.slice (some ⟨T, 0, none⟩) LL.length cT, .slice A2 LL.length c2] w fun e w' => e = .returned (.bool true) ∧ Below w.heap.size w w' := by
  obtain ⟨S, C, h1, h2⟩ := h1
  rw [lentM_length] at h1
  obtain ⟨SB, CB, hA1, hA2⟩ := hA
  have hTl0 := (h1.lt T rfl).2
  have HROW : Hid (∀ k, k < LL.length → w.cell? ⟨T, k, none⟩ = some (.slice (some ⟨S k, 0, none⟩) (LL.getD k []).length (C k)) ∧ OwnB w B (.slice (some ⟨S k, 0, none⟩) (LL.getD k [] ++ mk8 66).length (C k)) (LL.getD k [] ++ mk8 66)) := fun k hk => by
    refine ⟨?_, ?_⟩
    · rw [h1.cell1 (by omega), lentM_row LL 66 k hk]
    · have h3 := h2 k (by rw [lentM_length]; omega)
      rw [lentM_row LL 66 k hk] at h3
      exact h3
  have HMRK : Hid (∀ k, k < 66 → ∃ b, w.cell? ⟨T, LL.length + k, none⟩ = some (.slice (some ⟨b, 0, none⟩) 2 (C (LL.length + k))) ∧ w.cell? ⟨b, 0, none⟩ = some (.int .u8 (k : Int)) ∧ w.cell? ⟨b, 1, none⟩ = some (.int .u8 77) ∧ b < w.heap.size) := fun k hk => by
    have h3 := h2 (LL.length + k) (by rw [lentM_length]; omega)
    rw [lentM_mark LL 66 k hk] at h3
    refine ⟨S (LL.length + k), by rw [h1.cell1 (by omega), lentM_mark LL 66 k hk], ?_, ?_, (h3.lt _ rfl).2⟩
    · exact h3.own.cell1 (i := 0) (by show 0 < 2; omega)
    · exact h3.own.cell1 (i := 1) (by show 1 < 2; omega)
  have HA1 := Lib.hid hA1; have HA2 := Lib.hid hA2; have HLN := Lib.hid hln; have HLX := Lib.hid hlx
  clear h1 h2 hA1 hA2 hln hlx
  go_enter Try.func25, Try.ntmps25
  go_wp2
  go_loopg [5] LL.length (fun gk i wr => ∃ k : Nat, k ≤ LL.length ∧ gk = LL.length - k ∧ i = .int .i64 k ∧ Below w.heap.size w wr)
  case atStart => exact ⟨0, Nat.zero_le _, rfl, rfl, Below.refl _ _⟩
  case round =>
    obtain ⟨k, hk, rfl, rfl, hb0⟩ := hrel
    have HB0 := Lib.hid hb0
    clear hb0
    by_cases hlt : k < LL.length
    · obtain ⟨b2, o2, rfl, hb2, hx2⟩ := HA1.out k hlt
      obtain ⟨hx1, hox⟩ := HROW.out k hlt
      have hy1 : wr.cell? ⟨T, k, none⟩ = some (.slice (some ⟨S k, 0, none⟩) (LL.getD k []).length (C k)) := (HB0.out.cell (p := ⟨T, k, none⟩) hTl0).trans hx1
      have hy2 : wr.cell? ⟨b2, o2 + k, none⟩ = some (.slice (SB k) (LL.getD k []).length (CB k)) := (HB0.out.cell hb2).trans hx2
      have hTl := Nat.lt_of_lt_of_le hTl0 HB0.out.size
      have hb2l := Nat.lt_of_lt_of_le hb2 HB0.out.size
      have HOW : Hid (∀ w', Below wr.heap.size wr w' → OwnB w' B (.slice (some ⟨S k, 0, none⟩) (LL.getD k [] ++ mk8 66).length (C k)) (LL.getD k [] ++ mk8 66)) := fun w' hb => (hox.kept HB0.out).kept hb
      have HRR := Lib.hid ((HA2.out k hlt).below HB0.out)
      have hlb := HLN.out _ (getD_mem' (d := []) hlt)
      have HLx := Lib.hid (HLX.out _ (getD_mem' (d := []) hlt))
      generalize LL.getD k [] = bk at *
      clear hx1 hx2 hox
      go_wp2_with fail
      refine wp_region_facts [.is (.slice (some ⟨T, 0, none⟩) LL.length cT), .is (.int .i64 (k : Int)), .is (.pointer (some ⟨T, k, none⟩)), .is (.slice (some ⟨S k, 0, none⟩) bk.length (C k)), .is (.slice (some ⟨b2, o2, none⟩) LL.length c2), .is (.int .i64 (k : Int)), .is (.pointer (some ⟨b2, o2 + k, none⟩)), .is (.slice (SB k) bk.length (CB k)), .is (.bool true), .is (.bool false)] mixed (by kernel_rfl) (fun hdr => ⟨?_, ?_, ?_, ?_, ?_, ?_, ?_, ?_, ?_, ?_, trivial⟩) (fun wE hbE => ?_)
      · intro a w2 hb hs K hK
        repeat (intro _)
        refine ⟨?_⟩
        have h0 : a.tmps[0]?.getD undef = .slice (some ⟨T, 0, none⟩) LL.length cT := hs 0 (by kernel_rfl)
        go_simp
        exact hK.out _ _ (Below.refl _ _) rfl
      · intro a w2 hb hs K hK
        repeat (intro _)
        refine ⟨?_⟩
        have h5 : a.tmps[5]?.getD undef = .int .i64 (k : Int) := hs 5 (by kernel_rfl)
        go_simp
        exact hK.out _ _ (Below.refl _ _) rfl
      · intro a w2 hb hs K hK
        repeat (intro _)
        refine ⟨?_⟩
        have h20 : a.tmps[20]?.getD undef = .slice (some ⟨T, 0, none⟩) LL.length cT := by assumption
        have h21 : a.tmps[21]?.getD undef = .int .i64 (k : Int) := by assumption
        go_simp
        exact hK.out _ _ (Below.refl _ _) rfl
      · intro a w2 hb hs K hK
        repeat (intro _)
        refine ⟨?_⟩
        have h22 : a.tmps[22]?.getD undef = .pointer (some ⟨T, k, none⟩) := by assumption
        have d1 := (hdr.out.trans (hb.mono hdr.out.size)).cell (p := ⟨T, k, none⟩) hTl |>.trans hy1
        go_simp
        exact hK.out _ _ (Below.refl _ _) rfl
      · intro a w2 hb hs K hK
        repeat (intro _)
        refine ⟨?_⟩
        have h1 : a.tmps[1]?.getD undef = .slice (some ⟨b2, o2, none⟩) LL.length c2 := hs 1 (by kernel_rfl)
        go_simp
        exact hK.out _ _ (Below.refl _ _) rfl
      · intro a w2 hb hs K hK
        repeat (intro _)
        refine ⟨?_⟩
        have h5 : a.tmps[5]?.getD undef = .int .i64 (k : Int) := hs 5 (by kernel_rfl)
        go_simp
        exact hK.out _ _ (Below.refl _ _) rfl
      · intro a w2 hb hs K hK
        repeat (intro _)
        refine ⟨?_⟩
        have h24 : a.tmps[24]?.getD undef = .slice (some ⟨b2, o2, none⟩) LL.length c2 := by assumption
        have h25 : a.tmps[25]?.getD undef = .int .i64 (k : Int) := by assumption
        go_simp
        exact hK.out _ _ (Below.refl _ _) rfl
      · intro a w2 hb hs K hK
        repeat (intro _)
        refine ⟨?_⟩
        have h26 : a.tmps[26]?.getD undef = .pointer (some ⟨b2, o2 + k, none⟩) := by assumption
        have d2 := (hdr.out.trans (hb.mono hdr.out.size)).cell (p := ⟨b2, o2 + k, none⟩) hb2l |>.trans hy2
        go_simp
        exact hK.out _ _ (Below.refl _ _) rfl
      · intro a w2 hb hs K hK
        repeat (intro _)
        refine ⟨?_⟩
        have h23 : a.tmps[23]?.getD undef = .slice (some ⟨S k, 0, none⟩) bk.length (C k) := by assumption
        have h27 : a.tmps[27]?.getD undef = .slice (SB k) bk.length (CB k) := by assumption
        go_simp
        refine (kept_any (S k) (C k) (SB k) (CB k) B bk w2 hlb HLx.out (HOW.out w2 (hdr.out.trans (hb.mono hdr.out.size))) (HRR.out.below (hdr.out.trans (hb.mono hdr.out.size)))).mono ?_
        rintro e w3 ⟨rfl, rfl⟩
        exact hK.out _ _ (Below.refl _ _) rfl
      · intro a w2 hb hs K hK
        repeat (intro _)
        refine ⟨?_⟩
        have h28 : a.tmps[28]?.getD undef = .bool true := by assumption
        go_simp
        exact hK.out _ _ (Below.refl _ _) rfl
      intro v0 f0 v1 f1 v2 f2 v3 f3 v4 f4 v5 f5 v6 f6 v7 f7 v8 f8 v9 f9
      refine NoPanic.normal ?_
      simp only [Act.put, List.setIfInBounds_toArray, List.set_cons_zero, List.set_cons_succ]
      obtain rfl : v9 = .bool false := f9
      have HBF := Lib.hid (HB0.out.trans (hbE.mono HB0.out.size))
      clear f0 f1 f2 f3 f4 f5 f6 f7 f8 hbE HB0 hy1 hy2
      go_wp2
      go_roundg (LL.length - (k + 1))
      case measure => omega
      case rel => exact ⟨k + 1, by omega, rfl, by go_num, HBF.out⟩
    · have hkn : k = LL.length := by omega
      have hw1 : IntKind.i64.wrap ((LL.length : Int) + 66) = (LL.length : Int) + 66 := IntWalk.i64_in _ (by omega)
      have hb1 : (0 : Int) ≤ (LL.length : Int) + 66 := by omega
      have hb2 : (LL.length : Int) + 66 ≤ (cT : Int) := by omega
      have hb3 : ((LL.length : Int) + 66).toNat = LL.length + 66 := by omega
      clear hkn
      go_wp2
      clear hw1 hb1 hb2 hb3
      go_loopg [7, 8] 66 (fun gk i _ w' => w' = wr ∧ ∃ k : Nat, k ≤ 66 ∧ gk = 66 - k ∧ i = .int .i64 k)
      case atStart => exact ⟨rfl, 0, Nat.zero_le _, rfl, rfl⟩
      case round =>
        obtain ⟨rfl, k, hk, rfl, rfl⟩ := hrel
        by_cases hlt : k < 66
        · obtain ⟨b, hm0, hm1, hm2, hbl⟩ := HMRK.out k hlt
          have hm0 := (HB0.out.cell (p := ⟨T, LL.length + k, none⟩) hTl0).trans hm0
          have hm1 := (HB0.out.cell (p := ⟨b, 0, none⟩) hbl).trans hm1
          have hm2 := (HB0.out.cell (p := ⟨b, 1, none⟩) hbl).trans hm2
          have hsum : ((LL.length : Int) + (k : Int)).toNat = LL.length + k := by omega
          have hcv : IntKind.u8.wrap (k : Int) = (k : Int) := by rw [IntKind.wrap_u8]; omega
          go_wp2
          go_roundg (66 - (k + 1))
          case measure => omega
          case rel => exact ⟨rfl, k + 1, by omega, rfl, by go_num⟩
        · have hk66 : k = 66 := by omega
          subst hk66
          go_wp2
          go_ret
          exact ⟨rfl, HB0.out⟩
end Go.Proofs.Ytbioanbokbhmgaa
