/- elems, equal of the law's page: the walks. Conditions: lengths that memory bears. -/
import Derived.Test.YthodpgkelmalmaaNew1
import Derived.Test.YthodpgkelmalmaaTimE
import Derived.BigQuiet
namespace Go.Proofs.Ythodpgkelmalmaa
open Go.RowKit

set_option maxRecDepth 20000 in
set_option maxHeartbeats 1000000 in
theorem elems_any (A : Option Addr) (n c : Nat) (L : Nat → Nat) (g : Nat → Nat → Nat) (w : World) (hn : n ≤ 1000000) (hL : ∀ i, i < n → L i ≤ 140737488351232) (hA : RdM w A n L fun i j => .int .u8 (g i j : Nat)) :
    Calls Try.prog 40 #[.slice A n c] w fun e w' => ∃ (A' : Option Addr) (c' : Nat), e = .returned (.slice A' n c') ∧ ME w' A' n L g ∧ Below w.heap.size w w' := by
  obtain ⟨SA, CA, hA1, hA2⟩ := hA
  have HA1 := Lib.hid hA1; have HA2 := Lib.hid hA2; have HL := Lib.hid hL
  clear hA1 hA2 hL
  go_enter Try.func40, Try.ntmps40
  go_wp2
  go_loopg [3, 4, 5, 6] n (fun gk vo v _ _ wr => ∃ (i : Nat) (S : Nat → Option Addr) (C : Nat → Nat), i ≤ n ∧ gk = n - i ∧ v = .int .i64 i ∧ OwnM wr w.heap.size 78 57 vo i S C L (fun i j => .int .u8 (g i j : Nat)) ∧ Below w.heap.size w wr)
  case atStart => exact ⟨0, fun _ => none, fun _ => 0, Nat.zero_le _, rfl, rfl, OwnM.nil _ _ _ _ _ _ _ _, Below.refl _ _⟩
  case round =>
    obtain ⟨i, S, C, hi, rfl, rfl, hO, hb⟩ := hrel
    have HO := Lib.hid hO; have HB := Lib.hid hb
    clear hO hb
    by_cases hlt : i < n
    · obtain ⟨wo, rfl⟩ : ∃ wo : World, wo = wr := ⟨_, rfl⟩
      obtain ⟨b1, o1, rfl, hb1, hx1⟩ := HA1.out i hlt
      have HRA := Lib.hid (HA2.out i hlt)
      have hLi := HL.out i hlt
      obtain ⟨l, hge⟩ : ∃ l, l = L i := ⟨_, rfl⟩
      obtain ⟨Ai, hAi⟩ : ∃ a, a = SA i := ⟨_, rfl⟩
      replace hx1 : w.cell? ⟨b1, o1 + i, none⟩ = some (.slice Ai l (CA i)) := by rw [hge, hAi]; exact hx1
      have hra := HRA.out
      clear HRA
      rw [← hge, ← hAi] at hra
      have HRA := Lib.hid hra
      rw [← hge] at hLi
      clear hra
      have HGE := Lib.hid hge
      clear hge hAi
      have hsz := HB.out.size
      go_wp2
      go_loopg [5, 6] l (fun gk vo2 v wr => ∃ j : Nat, j ≤ l ∧ gk = l - j ∧ v = .int .i64 j ∧ Own wr wo.heap.size 57 1 vo2 j (fun j => [.int .u8 (g i j : Nat)]) ∧ Below wo.heap.size wo wr)
      case atStart => exact ⟨0, Nat.zero_le _, rfl, rfl, Own.nil _ _ _ _ _, Below.refl _ _⟩
      case round =>
        obtain ⟨j, hj, rfl, rfl, hO3, hb3⟩ := hrel
        have hsz3 := hb3.size
        have hy1 : wr.cell? ⟨b1, o1 + i, none⟩ = some (.slice Ai l (CA i)) := (hb3.cell (p := ⟨b1, o1 + i, none⟩) (by show b1 < wo.heap.size; omega)).trans ((HB.out.cell hb1).trans hx1)
        have HO3 := Lib.hid hO3; have HB3 := Lib.hid hb3
        clear hO3 hb3
        by_cases hlj : j < l
        · obtain ⟨b2, o2, rfl, hb2, hx2⟩ := HRA.out j hlj
          have hy2 : wr.cell? ⟨b2, o2 + j, none⟩ = some (.int .u8 (g i j : Nat)) := (HB3.out.cell (p := ⟨b2, o2 + j, none⟩) (by show b2 < wo.heap.size; omega)).trans ((HB.out.cell hb2).trans hx2)
          clear hx2
          go_wp2_with (at_builtin; refine wpList_push _ rfl (.tmp 22) (.tmp 30) 78 rfl wo.heap.size 57 1 1 (.int .u8 0) #[.int .u8 (g i j : Nat)] Try.underlying78 elemInfo rfl (by decide) _ j _ rfl HO3.out hsz3 _ rfl rfl rfl rfl rfl (by omega) (by omega) ?_)
          intro v' w3 hO4 hb4 _ _
          have HB4 := Lib.hid (HB3.out.trans hb4)
          have HO4 := Lib.hid hO4
          clear hO4 hb4 HO3 HB3 hy1 hy2
          go_wp2
          go_roundg (l - (j + 1))
          case measure => omega
          case rel => exact ⟨j + 1, by omega, rfl, by go_num, HO4.out, HB4.out⟩
        · have hjk : j = l := by omega
          subst j
          obtain ⟨A5, c5, hv, _, _, _, _⟩ := HO3.out.rd
          subst hv
          have hO5 := (HO.out.kept HB3.out).next A5 c5
          have hr5 : Own wr w.heap.size 57 1 (.slice (upd S i A5 i) (L i) (upd C i c5 i)) (L i) (fun j => [.int .u8 (g i j : Nat)]) := by
            rw [upd_at, upd_at, ← HGE.out]; exact HO3.out.mono (by omega)
          have hbb := HB.out.trans (HB3.out.mono hsz)
          have hsz5 := hbb.size
          have hu : Hid ((#[Value.slice A5 l c5] : Array Value).toList = [.slice (upd S i A5 i) (L i) (upd C i c5 i)]) := by rw [upd_at, upd_at, ← HGE.out]; rfl
          have HR5 := Lib.hid hr5; have HO5 := Lib.hid hO5; have HBB := Lib.hid hbb
          clear hr5 hO5 hbb HO HB HO3 HB3
          go_wp2_with (at_builtin; refine wpList_push _ rfl (.tmp 32) (.tmp 34) 64 rfl w.heap.size 78 1 24 (.slice none 0 0) #[.slice A5 l c5] Try.underlying64 elemsInfo rfl (by decide) _ i _ rfl HO5.out.1 hsz5 _ rfl rfl hu.out rfl rfl (by omega) (by omega) ?_)
          intro v' w6 hown6 hbel6 hg6 _
          have HO6 := Lib.hid (HO5.out.push (by decide) HR5.out hown6 hg6)
          have HB6 := Lib.hid (HBB.out.trans hbel6)
          clear hown6 hbel6 hg6 HR5 HO5 HBB hu
          go_wp2
          go_roundg (n - (i + 1))
          case measure => omega
          case rel => exact ⟨i + 1, _, _, by omega, rfl, by go_num, HO6.out, HB6.out⟩
    · have hin : i = n := by omega
      subst i
      obtain ⟨A5, c5, hv, _, hR⟩ := HO.out.rdm
      subst hv
      have HR := Lib.hid hR
      clear HO hR
      go_wp2
      go_ret
      exact ⟨A5, c5, rfl, HR.out, HB.out⟩
set_option maxRecDepth 20000 in
set_option maxHeartbeats 1000000 in
theorem equalE_any (A1 A2 : Option Addr) (n c1 c2 : Nat) (L : Nat → Nat) (g : Nat → Nat → Nat) (w : World) (hn : n ≤ 1000000) (hL : ∀ i, i < n → L i ≤ 140737488351232) (h1 : ME w A1 n L g) (h2 : ME w A2 n L g) :
    Calls Try.prog 43 #[.slice A1 n c1, .slice A2 n c2] w fun e w' => e = .returned (.bool true) ∧ Dr w w' := by
  obtain ⟨S1, C1, h11, h12⟩ := h1
  obtain ⟨S2, C2, h21, h22⟩ := h2
  have H11 := Lib.hid h11; have H12 := Lib.hid h12; have H21 := Lib.hid h21; have H22 := Lib.hid h22; have HL := Lib.hid hL
  clear h11 h12 h21 h22 hL
  go_enter Try.func43, Try.ntmps43
  go_wp2
  go_loopg [5, 6] n (fun gk v _ wr => ∃ k : Nat, k ≤ n ∧ gk = n - k ∧ v = .int .i64 k ∧ Dr w wr)
  case atStart => exact ⟨0, Nat.zero_le _, rfl, rfl, Dr.refl _⟩
  case round =>
    obtain ⟨k, hk, rfl, rfl, hw⟩ := hrel
    by_cases hlt : k < n
    · obtain ⟨b1, o1, rfl, _, hc1⟩ := hw.rd H11.out k hlt
      obtain ⟨b2, o2, rfl, _, hc2⟩ := hw.rd H21.out k hlt
      have HA := Lib.hid (H12.out k hlt); have HB := Lib.hid (H22.out k hlt)
      have hLk := HL.out k hlt
      obtain ⟨l, hge⟩ : ∃ l, l = L k := ⟨_, rfl⟩
      obtain ⟨A1', hA1⟩ : ∃ a, a = S1 k := ⟨_, rfl⟩
      obtain ⟨A2', hA2⟩ : ∃ a, a = S2 k := ⟨_, rfl⟩
      replace hc1 : wr.cell? ⟨b1, o1 + k, none⟩ = some (.slice A1' l (C1 k)) := by rw [hge, hA1]; exact hc1
      replace hc2 : wr.cell? ⟨b2, o2 + k, none⟩ = some (.slice A2' l (C2 k)) := by rw [hge, hA2]; exact hc2
      rw [← hge, ← hA1] at HA
      rw [← hge, ← hA2] at HB
      rw [← hge] at hLk
      clear hge hA1 hA2
      have HC1 := Lib.hid hc1; have HC2 := Lib.hid hc2
      go_wp2
      go_quiet (fail)
      clear hc1 hc2
      go_wp2
      go_loopg [6] l (fun gk v w2 => ∃ j : Nat, j ≤ l ∧ gk = l - j ∧ v = .int .i64 j ∧ Dr wr w2)
      case atStart => exact ⟨0, Nat.zero_le _, rfl, rfl, (Dr.refl _).drewN _⟩
      case round =>
        obtain ⟨j, hj, rfl, rfl, hv⟩ := hrel
        have hc1 := (hv.cell _).trans HC1.out
        have hc2 := (hv.cell _).trans HC2.out
        by_cases hlj : j < l
        · obtain ⟨b3, o3, rfl, _, hc3⟩ := (hw.trans hv).rd HA.out j hlj
          obtain ⟨b4, o4, rfl, _, hc4⟩ := (hw.trans hv).rd HB.out j hlj
          go_wp2
          go_quiet (fail)
          go_wp2
          go_roundg (l - (j + 1))
          case measure => omega
          case rel => exact ⟨j + 1, by omega, rfl, by go_num, hv.drewN _⟩
        · have : j = l := by omega
          subst this
          go_wp2
          go_roundg (n - (k + 1))
          case measure => omega
          case rel => exact ⟨k + 1, by omega, rfl, by go_num, hw.trans hv⟩
    · have : k = n := by omega
      subst this
      go_wp2
      go_ret
      exact ⟨rfl, hw⟩
end Go.Proofs.Ythodpgkelmalmaa
