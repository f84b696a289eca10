/- awake, pick, fit, cut, same, unlike of the law's page: the walks. Conditions: lengths that memory bears. -/
import Derived.Test.YthodpgkelmalmaaFar
import Derived.Test.YthodpgkelmalmaaCode3
import Derived.Test.YthodpgkelmalmaaSame
namespace Go.Proofs.Ythodpgkelmalmaa
open Go.RowKit

/-- A number below n. -/
def pickN (k : Int) (n : Nat) : Nat := (k.emod n).toNat
theorem pickN_lt {k : Int} {n : Nat} (h : 0 < n) : pickN k n < n := by
  unfold pickN
  have h1 := Int.emod_nonneg k (b := (n : Int)) (by omega)
  have h2 := Int.emod_lt_of_pos k (b := (n : Int)) (by omega)
  show (k % (n : Int)).toNat < n
  omega
theorem pick_any (k : Int) (n : Nat) (w : World) (hn : 0 < n) (hn2 : n ≤ 1000000) :
    Calls Try.prog 36 #[.int .i64 k, .int .i64 n] w fun e w' => e = .returned (.int .i64 (pickN k n : Nat)) ∧ w = w' := by
  have h0 : ¬ ((n : Int) < 1) := by omega
  have hz : (n : Int) ≠ 0 := by omega
  have hP : Hid (((pickN k n : Nat) : Int) = k % (n : Int)) := Int.toNat_of_nonneg (Int.emod_nonneg k (b := (n : Int)) (by omega))
  have h1 := Int.emod_nonneg k (b := (n : Int)) (by omega)
  have h2 := Int.emod_lt_of_pos k (b := (n : Int)) (by omega)
  have h3 : k.tmod n = k % (n : Int) ∨ k.tmod n = k % (n : Int) - n := by
    rcases Int.le_total 0 k with h | h
    · exact .inl (Int.tmod_eq_emod_of_nonneg h)
    · by_cases hd : k % (n : Int) = 0
      · left; rw [hd]; exact Int.tmod_eq_zero_of_dvd (Int.dvd_of_emod_eq_zero hd)
      · right
        have := Int.tmod_eq_emod (a := k) (b := (n : Int))
        rw [this, if_neg]
        · omega
        · rintro (h' | h')
          · have : k = 0 := by omega
            subst this; simp at hd
          · exact hd (Int.emod_eq_zero_of_dvd h')
  have H3 := Lib.hid h3
  clear h3
  rw [hP.out]
  by_cases hneg : k.tmod n < 0
  · have hT : Hid (k.tmod n + n = k % (n : Int)) := by
      have := H3.out
      show _ = _
      omega
    have hw : IntKind.i64.wrap (k.tmod n + n) = k.tmod n + n := i64_small _ (by rw [hT.out]; omega) (by rw [hT.out]; omega)
    clear h1 h2 H3 hP
    go_enter Try.func36, Try.ntmps36
    go_wp2
    go_ret
    exact ⟨by rw [← hT.out]; rfl, rfl⟩
  · have hT : Hid (k.tmod n = k % (n : Int)) := by
      have := H3.out
      show _ = _
      omega
    clear h1 h2 H3 hP
    go_enter Try.func36, Try.ntmps36
    go_wp2
    go_ret
    exact ⟨by rw [← hT.out]; rfl, rfl⟩

set_option maxHeartbeats 800000 in
theorem fit_any (K M : Int) (By Pi : Value) (hBy : By.oneCell' = true) (hPi : Pi.oneCell' = true) (w : World) :
    Calls Try.prog 25 #[.agg #[.int .i64 K, .int .i64 M, By, Pi]] w fun e w' => e = .returned (.tuple #[.int .i64 (1 + pickN K 254 : Nat), .int .i64 (1 + pickN M (min (1 + pickN K 254) (255 - (1 + pickN K 254))) : Nat)]) ∧ Below w.heap.size w w' := by
  have hoc := And.intro hBy hPi
  clear hoc
  have HP := Lib.hid (pick_any K 254)
  have hlt := pickN_lt (k := K) (n := 254) (by decide)
  generalize pickN K 254 = a at *
  have hs1 : IntKind.i64.wrap (1 + (a : Int)) = 1 + (a : Int) := i64_small _ (by omega) (by omega)
  have hs2 : IntKind.i64.wrap (255 - (1 + (a : Int))) = 255 - (1 + (a : Int)) := i64_small _ (by omega) (by omega)
  by_cases hmin : 1 + a < 255 - (1 + a)
  · have CM := Lib.hid (fun w => pick_any M (1 + a) w (by omega) (by omega))
    have hlt2 := pickN_lt (k := M) (n := 1 + a) (by omega)
    have hmn : min (1 + a) (255 - (1 + a)) = 1 + a := by omega
    rw [hmn]
    generalize pickN M (1 + a) = q at *
    have hs3 : IntKind.i64.wrap (1 + (q : Int)) = 1 + (q : Int) := i64_small _ (by omega) (by omega)
    have hi1 : (1 : Int) + (a : Int) < 255 - (1 + (a : Int)) := by omega
    clear hmn
    go_enter Try.func25, Try.ntmps25
    go_wp2_with fail
    refine (HP.out _ (by decide) (by decide)).mono ?_
    rintro e w1 ⟨rfl, rfl⟩
    go_wp2_with fail
    rw [show (1 : Int) + (a : Int) = ((1 + a : Nat) : Int) from by omega]
    refine (CM.out _).mono ?_
    rintro e w1 ⟨rfl, rfl⟩
    go_wp2
    go_ret2
    exact ⟨by rw [show ((1 + a : Nat) : Int) = 1 + (a : Int) from by omega, show ((1 + q : Nat) : Int) = 1 + (q : Int) from by omega]; rfl, (Below.refl _ _).alloc (Nat.le_refl _) _⟩
  · have CM := Lib.hid (fun w => pick_any M (255 - (1 + a)) w (by omega) (by omega))
    have hlt2 := pickN_lt (k := M) (n := 255 - (1 + a)) (by omega)
    have hmn : min (1 + a) (255 - (1 + a)) = 255 - (1 + a) := by omega
    rw [hmn]
    generalize pickN M (255 - (1 + a)) = q at *
    have hs3 : IntKind.i64.wrap (1 + (q : Int)) = 1 + (q : Int) := i64_small _ (by omega) (by omega)
    have hi1 : (255 : Int) - (1 + (a : Int)) < 1 + (a : Int) := by omega
    clear hmn
    go_enter Try.func25, Try.ntmps25
    go_wp2_with fail
    refine (HP.out _ (by decide) (by decide)).mono ?_
    rintro e w1 ⟨rfl, rfl⟩
    go_wp2_with fail
    rw [show (255 : Int) - (1 + (a : Int)) = ((255 - (1 + a) : Nat) : Int) from by omega]
    refine (CM.out _).mono ?_
    rintro e w1 ⟨rfl, rfl⟩
    go_wp2
    go_ret2
    exact ⟨by rw [show ((1 + a : Nat) : Int) = 1 + (a : Int) from by omega, show ((1 + q : Nat) : Int) = 1 + (q : Int) from by omega]; rfl, (Below.refl _ _).alloc (Nat.le_refl _) _⟩
theorem rd_shift {w : World} {b o nb : Nat} {f : Nat → Value} (h : Rd w (some ⟨b, o, none⟩) nb f) {lo n : Nat} (hn : lo + n ≤ nb) : Rd w (some ⟨b, o + lo, none⟩) n (fun c => f (lo + c)) := fun c hc => by
  obtain ⟨b', o', e, hb, hx⟩ := h (lo + c) (by omega)
  injection e with e
  injection e with e e2 _
  subst e e2
  exact ⟨b, o + lo, rfl, hb, by rw [Nat.add_assoc]; exact hx⟩
set_option maxRecDepth 20000 in
set_option maxHeartbeats 2000000 in
theorem cut_any (A : Option Addr) (nb c k : Nat) (f : Nat → Nat) (w : World) (hk : 0 < k) (hk2 : k ≤ 1000) (hnb : nb ≤ 140737488351232) (hc : nb ≤ c) (hA : Rd w A nb (fun i => .int .u8 (f i : Nat))) :
    Calls Try.prog 26 #[.slice A nb c, .int .i64 k] w fun e w' => ∃ A' c', e = .returned (.slice A' k c') ∧ k ≤ c' ∧ RdM w' A' k (fun _ => nb / k) (fun i c => .int .u8 (f (i * (nb / k) + c) : Nat)) ∧ Below w.heap.size w w' := by
  have HA := Lib.hid hA; clear hA
  have hq : Hid ((nb : Int) / (k : Int) = ((nb / k : Nat) : Int)) := by show _ = _; norm_cast
  have hkz : (k : Int) ≠ 0 := by omega
  have hnk : nb / k * k ≤ nb := Nat.div_mul_le_self nb k
  have hnn : nb / k ≤ nb := Nat.div_le_self nb k
  have htd : (nb : Int).tdiv (k : Int) = ((nb / k : Nat) : Int) := by rw [Int.tdiv_eq_ediv_of_nonneg (by omega)]; exact hq.out
  generalize nb / k = n at *
  go_enter Try.func26, Try.ntmps26
  go_wp2
  go_loopg [6, 7] k (fun gk v i wr => ∃ (i0 : Nat) (S : Nat → Option Addr) (C : Nat → Nat), i0 ≤ k ∧ gk = k - i0 ∧ i = .int .i64 i0 ∧ OwnM wr w.heap.size 24 5 v i0 S C (fun _ => n) (fun i c => .int .u8 (f (i * n + c) : Nat)) ∧ Below w.heap.size w wr)
  case atStart => exact ⟨0, fun _ => none, fun _ => 0, Nat.zero_le _, rfl, rfl, OwnM.nil _ _ _ _ _ _ _ _, Below.refl _ _⟩
  case round =>
    obtain ⟨i, S, C, hi, rfl, rfl, hO, hb⟩ := hrel
    have hsz := hb.size
    by_cases hlt : i < k
    · have HO := Lib.hid hO; have HB := Lib.hid hb
      clear hO hb
      have hm1 : (i + 1) * n ≤ k * n := Nat.mul_le_mul_right n hlt
      have hm2 : (i + 1) * n = i * n + n := Nat.succ_mul i n
      have hm3 : k * n = n * k := Nat.mul_comm k n
      have hw1 : IntKind.i64.wrap ((i : Int) * (n : Int)) = ((i * n : Nat) : Int) := by
        rw [show (i : Int) * (n : Int) = ((i * n : Nat) : Int) from by norm_cast]
        exact i64_small _ (by omega) (by omega)
      have hw2 : IntKind.i64.wrap (((i : Int) + 1) * (n : Int)) = (((i + 1) * n : Nat) : Int) := by
        rw [show ((i : Int) + 1) * (n : Int) = (((i + 1) * n : Nat) : Int) from by norm_cast]
        exact i64_small _ (by omega) (by omega)
      have hhl : (i + 1) * n - i * n = n := by omega
      have hb1 : i * n + n ≤ nb := by omega
      generalize hlo : i * n = lo at *
      generalize hhi : (i + 1) * n = hi at *
      have HLO := Lib.hid hlo
      have hs1 : (0 : Int) ≤ (lo : Int) := by omega
      have hs2 : (lo : Int) ≤ (hi : Int) := by omega
      have hs3 : (hi : Int) ≤ (c : Int) := by omega
      clear hlo hhi hm1 hm2 hm3 htd
      by_cases hcl : c = lo
      · have hn0 : n = 0 := by omega
        have HSRC : Hid (Rd wr A n (fun c => .int .u8 (f (i * n + c) : Nat))) := by rw [hn0]; exact Rd.zero _ _ _
        have HN0 := Lib.hid hn0
        have hcc : c - lo = 0 := by omega
        clear hn0
        subst hcl
        go_wp2_with (at_builtin; refine wpList_appendRd rfl (.const (.slice none 0 0)) (.tmp 26) 24 rfl wr.heap.size 5 1 (.int .u8 0) Try.underlying24 byteInfo rfl rfl (Nat.le_refl _) (A) n (0) (fun c => .int .u8 (f (i * n + c) : Nat)) rfl HSRC.out (fun _ _ => rfl) (by omega) (by omega) ?_)
        intro v1 w1 hown1 hbel1
        obtain ⟨A1, c1, rfl, _, _, _, _⟩ := hown1.rd
        have hownB := (HO.out.kept hbel1).next A1 c1
        have hown1' : Own w1 w.heap.size 5 1 (.slice (upd S i A1 i) n (upd C i c1 i)) n (fun c => [.int .u8 (f (i * n + c) : Nat)]) := by
          rw [upd_at, upd_at]; exact hown1.mono hsz
        have hu : Hid ((#[Value.slice A1 n c1] : Array Value).toList = [.slice (upd S i A1 i) n (upd C i c1 i)]) := by rw [upd_at, upd_at]; rfl
        have hbel1' := HB.out.trans (hbel1.mono hsz)
        have hsz1 := hbel1'.size
        clear HO hown1 hbel1 HB HSRC hw1 hw2
        go_wp2_with (at_builtin; refine wpList_push _ rfl (.tmp 17) (.tmp 28) 23 rfl w.heap.size 24 1 24 (.slice none 0 0) #[.slice A1 n c1] Try.underlying23 bytesInfo rfl (by decide) _ i _ rfl hownB.1 hsz1 _ rfl rfl hu.out rfl rfl (by omega) (by omega) ?_)
        intro v' w2 hown2 hbel2 hg2 _
        have hO := hownB.push (by decide) hown1' hown2 hg2
        have hbelF := hbel1'.trans hbel2
        clear hownB hown1' hown2 hg2 hbel2 hbel1'
        go_wp2
        go_roundg (k - (i + 1))
        case measure => omega
        case rel => exact ⟨i + 1, _, _, by omega, rfl, by go_num, hO, hbelF⟩
      · have hlt2 : lo < c := by omega
        rcases A with _ | ad
        · have hn0 : n = 0 := by
            rcases Nat.eq_zero_or_pos nb with h0 | h0
            · omega
            · obtain ⟨_, _, e, _⟩ := HA.out 0 h0; cases e
          have HSRC : Hid (Rd wr none n (fun c => .int .u8 (f (i * n + c) : Nat))) := by rw [hn0]; exact Rd.zero _ _ _
          clear hn0
          go_wp2_with (at_builtin; refine wpList_appendRd rfl (.const (.slice none 0 0)) (.tmp 26) 24 rfl wr.heap.size 5 1 (.int .u8 0) Try.underlying24 byteInfo rfl rfl (Nat.le_refl _) (none) n (c - lo) (fun c => .int .u8 (f (i * n + c) : Nat)) rfl HSRC.out (fun _ _ => rfl) (by omega) (by omega) ?_)
          intro v1 w1 hown1 hbel1
          obtain ⟨A1, c1, rfl, _, _, _, _⟩ := hown1.rd
          have hownB := (HO.out.kept hbel1).next A1 c1
          have hown1' : Own w1 w.heap.size 5 1 (.slice (upd S i A1 i) n (upd C i c1 i)) n (fun c => [.int .u8 (f (i * n + c) : Nat)]) := by
            rw [upd_at, upd_at]; exact hown1.mono hsz
          have hu : Hid ((#[Value.slice A1 n c1] : Array Value).toList = [.slice (upd S i A1 i) n (upd C i c1 i)]) := by rw [upd_at, upd_at]; rfl
          have hbel1' := HB.out.trans (hbel1.mono hsz)
          have hsz1 := hbel1'.size
          clear HO hown1 hbel1 HB HSRC hw1 hw2
          go_wp2_with (at_builtin; refine wpList_push _ rfl (.tmp 17) (.tmp 28) 23 rfl w.heap.size 24 1 24 (.slice none 0 0) #[.slice A1 n c1] Try.underlying23 bytesInfo rfl (by decide) _ i _ rfl hownB.1 hsz1 _ rfl rfl hu.out rfl rfl (by omega) (by omega) ?_)
          intro v' w2 hown2 hbel2 hg2 _
          have hO := hownB.push (by decide) hown1' hown2 hg2
          have hbelF := hbel1'.trans hbel2
          clear hownB hown1' hown2 hg2 hbel2 hbel1'
          go_wp2
          go_roundg (k - (i + 1))
          case measure => omega
          case rel => exact ⟨i + 1, _, _, by omega, rfl, by go_num, hO, hbelF⟩
        · by_cases hn0 : nb = 0
          · have hnz : n = 0 := by omega
            have HSRC : Hid (Rd wr (some (ad.add lo)) n (fun c => .int .u8 (f (i * n + c) : Nat))) := by rw [hnz]; exact Rd.zero _ _ _
            clear hnz hn0
            have hl1 : lo * 1 = lo := Nat.mul_one lo
            go_wp2_with (at_builtin; refine wpList_appendRd rfl (.const (.slice none 0 0)) (.tmp 26) 24 rfl wr.heap.size 5 1 (.int .u8 0) Try.underlying24 byteInfo rfl rfl (Nat.le_refl _) (some (ad.add lo)) n (c - lo) (fun c => .int .u8 (f (i * n + c) : Nat)) rfl HSRC.out (fun _ _ => rfl) (by omega) (by omega) ?_)
            intro v1 w1 hown1 hbel1
            obtain ⟨A1, c1, rfl, _, _, _, _⟩ := hown1.rd
            have hownB := (HO.out.kept hbel1).next A1 c1
            have hown1' : Own w1 w.heap.size 5 1 (.slice (upd S i A1 i) n (upd C i c1 i)) n (fun c => [.int .u8 (f (i * n + c) : Nat)]) := by
              rw [upd_at, upd_at]; exact hown1.mono hsz
            have hu : Hid ((#[Value.slice A1 n c1] : Array Value).toList = [.slice (upd S i A1 i) n (upd C i c1 i)]) := by rw [upd_at, upd_at]; rfl
            have hbel1' := HB.out.trans (hbel1.mono hsz)
            have hsz1 := hbel1'.size
            clear HO hown1 hbel1 HB HSRC hw1 hw2
            go_wp2_with (at_builtin; refine wpList_push _ rfl (.tmp 17) (.tmp 28) 23 rfl w.heap.size 24 1 24 (.slice none 0 0) #[.slice A1 n c1] Try.underlying23 bytesInfo rfl (by decide) _ i _ rfl hownB.1 hsz1 _ rfl rfl hu.out rfl rfl (by omega) (by omega) ?_)
            intro v' w2 hown2 hbel2 hg2 _
            have hO := hownB.push (by decide) hown1' hown2 hg2
            have hbelF := hbel1'.trans hbel2
            clear hownB hown1' hown2 hg2 hbel2 hbel1'
            go_wp2
            go_roundg (k - (i + 1))
            case measure => omega
            case rel => exact ⟨i + 1, _, _, by omega, rfl, by go_num, hO, hbelF⟩
          · obtain ⟨b, o, e, _, _⟩ := HA.out 0 (by omega)
            injection e with e
            subst e
            have HSRC : Hid (Rd wr (some ⟨b, o + lo, none⟩) n (fun c => .int .u8 (f (i * n + c) : Nat))) := by
              have h := rd_shift (HA.out.below HB.out) hb1
              rw [← HLO.out] at h ⊢
              exact h
            clear hn0
            go_wp2_with (at_builtin; refine wpList_appendRd rfl (.const (.slice none 0 0)) (.tmp 26) 24 rfl wr.heap.size 5 1 (.int .u8 0) Try.underlying24 byteInfo rfl rfl (Nat.le_refl _) (some ⟨b, o + lo, none⟩) n (c - lo) (fun c => .int .u8 (f (i * n + c) : Nat)) rfl HSRC.out (fun _ _ => rfl) (by omega) (by omega) ?_)
            intro v1 w1 hown1 hbel1
            obtain ⟨A1, c1, rfl, _, _, _, _⟩ := hown1.rd
            have hownB := (HO.out.kept hbel1).next A1 c1
            have hown1' : Own w1 w.heap.size 5 1 (.slice (upd S i A1 i) n (upd C i c1 i)) n (fun c => [.int .u8 (f (i * n + c) : Nat)]) := by
              rw [upd_at, upd_at]; exact hown1.mono hsz
            have hu : Hid ((#[Value.slice A1 n c1] : Array Value).toList = [.slice (upd S i A1 i) n (upd C i c1 i)]) := by rw [upd_at, upd_at]; rfl
            have hbel1' := HB.out.trans (hbel1.mono hsz)
            have hsz1 := hbel1'.size
            clear HO hown1 hbel1 HB HSRC hw1 hw2
            go_wp2_with (at_builtin; refine wpList_push _ rfl (.tmp 17) (.tmp 28) 23 rfl w.heap.size 24 1 24 (.slice none 0 0) #[.slice A1 n c1] Try.underlying23 bytesInfo rfl (by decide) _ i _ rfl hownB.1 hsz1 _ rfl rfl hu.out rfl rfl (by omega) (by omega) ?_)
            intro v' w2 hown2 hbel2 hg2 _
            have hO := hownB.push (by decide) hown1' hown2 hg2
            have hbelF := hbel1'.trans hbel2
            clear hownB hown1' hown2 hg2 hbel2 hbel1'
            go_wp2
            go_roundg (k - (i + 1))
            case measure => omega
            case rel => exact ⟨i + 1, _, _, by omega, rfl, by go_num, hO, hbelF⟩
    · have hkn : i = k := by omega
      subst i
      obtain ⟨A', c', hv, hcc, hR⟩ := hO.rdm
      subst hv
      have HR := Lib.hid hR; have HB := Lib.hid hb
      clear hO hR hb
      go_wp2
      go_ret
      exact ⟨A', c', rfl, hcc, HR.out, HB.out⟩

/-- Are the rows the same? -/
def sameB (n len : Nat) (f g : Nat → Nat → Nat) : Bool := (List.range n).all fun i => (strN len (f i)).toList == (strN len (g i)).toList
theorem sameB_false {n len : Nat} {f g : Nat → Nat → Nat} {i : Nat} (hi : i < n) (h : ((strN len (f i)).toList == (strN len (g i)).toList) = false) : sameB n len f g = false := by
  unfold sameB
  cases e : (List.range n).all fun i => (strN len (f i)).toList == (strN len (g i)).toList
  · rfl
  · have := List.all_eq_true.1 e i (List.mem_range.2 hi)
    rw [h] at this
    exact absurd this (by decide)
theorem sameB_true {n len : Nat} {f g : Nat → Nat → Nat} (h : ∀ i, i < n → ((strN len (f i)).toList == (strN len (g i)).toList) = true) : sameB n len f g = true := List.all_eq_true.2 fun i hi => h i (List.mem_range.1 hi)
theorem sameB_iff {n len : Nat} {f g : Nat → Nat → Nat} (hf : ∀ i, i < n → ∀ c, c < len → f i c < 256) (hg : ∀ i, i < n → ∀ c, c < len → g i c < 256) : sameB n len f g = true ↔ ∀ i, i < n → ∀ c, c < len → f i c = g i c :=
  ⟨fun h i hi => strN_inj (hf i hi) (hg i hi) (List.all_eq_true.1 h i (List.mem_range.2 hi)), fun h => sameB_true fun i hi => by rw [strN_congr (h i hi)]; exact beq_self_eq_true _⟩
set_option maxRecDepth 20000 in
set_option maxHeartbeats 1000000 in
theorem same_gen (A1 A2 : Option Addr) (n c1 c2 len : Nat) (f g : Nat → Nat → Nat) (w : World) (hn : n ≤ 1000000000000000) (hf : ∀ i, i < n → ∀ j, j < len → f i j < 256) (hg : ∀ i, i < n → ∀ j, j < len → g i j < 256) (h1 : RdM w A1 n (fun _ => len) fun i j => .int .u8 (f i j)) (h2 : RdM w A2 n (fun _ => len) fun i j => .int .u8 (g i j)) :
    Calls Try.prog 21 #[.slice A1 n c1, .slice A2 n c2] w fun e w' => e = .returned (.bool (sameB n len f g)) ∧ Dr w w' := by
  obtain ⟨SA, CA, hA1, hA2⟩ := h1
  obtain ⟨SB, CB, hB1, hB2⟩ := h2
  have HF := Lib.hid hf; have HG := Lib.hid hg; clear hf hg
  have HA1 := Lib.hid hA1; have HA2 := Lib.hid hA2; have HB1 := Lib.hid hB1; have HB2 := Lib.hid hB2
  clear hA1 hA2 hB1 hB2
  go_enter Try.func21, Try.ntmps21
  go_wp2
  go_loopg [5] n (fun gk v wr => Dr w wr ∧ ∃ i : Nat, i ≤ n ∧ gk = n - i ∧ v = .int .i64 i ∧ ∀ t, t < i → ((strN len (f t)).toList == (strN len (g t)).toList) = true)
  case atStart => exact ⟨Dr.refl _, 0, Nat.zero_le _, rfl, rfl, fun t ht => absurd ht (by omega)⟩
  case round =>
    obtain ⟨hd, i, hi, rfl, rfl, hall⟩ := hrel
    have HALL := Lib.hid hall; clear hall
    by_cases hlt : i < n
    · cases hq : (strN len (f i)).toList == (strN len (g i)).toList
      · have HFF := Lib.hid (sameB_false hlt hq)
        have hq2 : ((strN len (f i)).toList != (strN len (g i)).toList) = true := by unfold bne; rw [hq]; rfl
        obtain ⟨b1, o1, rfl, hb1, hx1⟩ := HA1.out i hlt
        obtain ⟨b2, o2, rfl, hb2, hx2⟩ := HB1.out i hlt
        have hbel := hd.below w.heap.size
        have hy1 : wr.cell? ⟨b1, o1 + i, none⟩ = some (.slice (SA i) len (CA i)) := (hbel.cell hb1).trans hx1
        have hy2 : wr.cell? ⟨b2, o2 + i, none⟩ = some (.slice (SB i) len (CB i)) := (hbel.cell hb2).trans hx2
        have hy3 : wr.drew.cell? ⟨b1, o1 + i, none⟩ = some (.slice (SA i) len (CA i)) := hy1
        have hy4 : wr.drew.cell? ⟨b2, o2 + i, none⟩ = some (.slice (SB i) len (CB i)) := hy2
        have hs1 := conv_str (P := Try.prog) wr.drew 24 9 5 (SA i) len (CA i) (f i) Try.underlying24 Try.underlying5 Try.underlying9 (HF.out i hlt) ((HA2.out i hlt).below (hd.drew.below _))
        have hs2 := conv_str (P := Try.prog) wr.drew 24 9 5 (SB i) len (CB i) (g i) Try.underlying24 Try.underlying5 Try.underlying9 (HG.out i hlt) ((HB2.out i hlt).below (hd.drew.below _))
        have HD := Lib.hid hd.drew
        clear hx1 hx2 hd hbel
        generalize strN len (f i) = s1 at *
        generalize strN len (g i) = s2 at *
        go_wp2_with fail
        refine wp_region_mix [(true, true, false), (true, true, false), (true, true, false), (true, true, true), (true, true, true), (true, true, false), (true, true, false), (true, true, false), (true, true, true), (true, true, true), (true, true, false)] mixed (by kernel_rfl) (fun w4 => w4 = wr.drew) (rfl) ?_
        intro hSw0
        simp only [hdM, tlM, List.cons_append, List.nil_append]
        repeat (first
          | (refine mix_look hSw0.out ?_ (by rfl) (fun w4 hSw => ?_) ?_; rotate_left; (focus (subst hSw; go_simp; try with_reducible rfl)); simp only [Act.put, List.setIfInBounds_toArray, List.set_cons_zero, List.set_cons_succ])
          | (refine mix_pure ?_ (by rfl) (fun w4 => ?_) ?_; rotate_left; (focus (go_simp; try with_reducible rfl)); simp only [Act.put, List.setIfInBounds_toArray, List.set_cons_zero, List.set_cons_succ]))
        refine mix_nil ?_
        clear hs1 hs2 hy1 hy2 hy3 hy4
        go_wp2
        go_ret
        exact ⟨by rw [HFF.out]; rfl, HD.out⟩
      · have hq2 : ((strN len (f i)).toList != (strN len (g i)).toList) = false := by unfold bne; rw [hq]; rfl
        have HQ := Lib.hid hq
        obtain ⟨b1, o1, rfl, hb1, hx1⟩ := HA1.out i hlt
        obtain ⟨b2, o2, rfl, hb2, hx2⟩ := HB1.out i hlt
        have hbel := hd.below w.heap.size
        have hy1 : wr.cell? ⟨b1, o1 + i, none⟩ = some (.slice (SA i) len (CA i)) := (hbel.cell hb1).trans hx1
        have hy2 : wr.cell? ⟨b2, o2 + i, none⟩ = some (.slice (SB i) len (CB i)) := (hbel.cell hb2).trans hx2
        have hy3 : wr.drew.cell? ⟨b1, o1 + i, none⟩ = some (.slice (SA i) len (CA i)) := hy1
        have hy4 : wr.drew.cell? ⟨b2, o2 + i, none⟩ = some (.slice (SB i) len (CB i)) := hy2
        have hs1 := conv_str (P := Try.prog) wr.drew 24 9 5 (SA i) len (CA i) (f i) Try.underlying24 Try.underlying5 Try.underlying9 (HF.out i hlt) ((HA2.out i hlt).below (hd.drew.below _))
        have hs2 := conv_str (P := Try.prog) wr.drew 24 9 5 (SB i) len (CB i) (g i) Try.underlying24 Try.underlying5 Try.underlying9 (HG.out i hlt) ((HB2.out i hlt).below (hd.drew.below _))
        have HD := Lib.hid hd.drew
        clear hx1 hx2 hd hbel
        generalize hg1 : strN len (f i) = s1 at *
        generalize hg2 : strN len (g i) = s2 at *
        have HG1 := Lib.hid hg1; have HG2 := Lib.hid hg2
        clear hg1 hg2
        go_wp2_with fail
        refine wp_region_mix [(true, true, false), (true, true, false), (true, true, false), (true, true, true), (true, true, true), (true, true, false), (true, true, false), (true, true, false), (true, true, true), (true, true, true), (true, true, false)] mixed (by kernel_rfl) (fun w4 => w4 = wr.drew) (rfl) ?_
        intro hSw0
        simp only [hdM, tlM, List.cons_append, List.nil_append]
        repeat (first
          | (refine mix_look hSw0.out ?_ (by rfl) (fun w4 hSw => ?_) ?_; rotate_left; (focus (subst hSw; go_simp; try with_reducible rfl)); simp only [Act.put, List.setIfInBounds_toArray, List.set_cons_zero, List.set_cons_succ])
          | (refine mix_pure ?_ (by rfl) (fun w4 => ?_) ?_; rotate_left; (focus (go_simp; try with_reducible rfl)); simp only [Act.put, List.setIfInBounds_toArray, List.set_cons_zero, List.set_cons_succ]))
        refine mix_nil ?_
        clear hs1 hs2 hy1 hy2 hy3 hy4
        go_wp2
        go_roundg (n - (i + 1))
        case measure => omega
        case rel => exact ⟨HD.out, i + 1, by omega, rfl, by go_num, fun t ht => by
          by_cases e : t = i
          · rw [e, HG1.out, HG2.out]; exact HQ.out
          · exact HALL.out t (by omega)⟩
    · have hin : i = n := by omega
      subst i
      have HWT := Lib.hid (sameB_true HALL.out)
      have HD := Lib.hid hd; clear hd
      go_wp2
      go_ret
      exact ⟨by rw [HWT.out]; rfl, HD.out⟩
set_option maxRecDepth 20000 in
set_option maxHeartbeats 1000000 in
theorem unlike_any (A1 A2 : Option Addr) (n c1 c2 len : Nat) (f g : Nat → Nat → Nat) (w : World) (hn : n ≤ 1000000000000000) (hf : ∀ i, i < n → ∀ j, j < len → f i j < 256) (hg : ∀ i, i < n → ∀ j, j < len → g i j < 256) (h1 : RdM w A1 n (fun _ => len) fun i j => .int .u8 (f i j)) (h2 : RdM w A2 n (fun _ => len) fun i j => .int .u8 (g i j)) :
    Calls Try.prog 27 #[.slice A1 n c1, .slice A2 n c2] w fun e w' => e = .returned (.int .i64 (cntB (unB len f g) n : Nat)) ∧ Dr w w' := by
  obtain ⟨SA, CA, hA1, hA2⟩ := h1
  obtain ⟨SB, CB, hB1, hB2⟩ := h2
  have HF := Lib.hid hf; have HG := Lib.hid hg; clear hf hg
  have HA1 := Lib.hid hA1; have HA2 := Lib.hid hA2; have HB1 := Lib.hid hB1; have HB2 := Lib.hid hB2
  clear hA1 hA2 hB1 hB2
  go_enter Try.func27, Try.ntmps27
  go_wp2
  go_loopg [5, 6] n (fun gk s v wr => Dr w wr ∧ ∃ i : Nat, i ≤ n ∧ gk = n - i ∧ v = .int .i64 i ∧ s = .int .i64 (cntB (unB len f g) i : Nat))
  case atStart => exact ⟨Dr.refl _, 0, Nat.zero_le _, rfl, rfl, rfl⟩
  case round =>
    obtain ⟨hd, i, hi, rfl, rfl, rfl⟩ := hrel
    have hle := cntB_le (unB len f g) i
    have HC : Hid (cntB (unB len f g) (i + 1) = cntB (unB len f g) i + if unB len f g i then 1 else 0) := rfl
    by_cases hlt : i < n
    · cases hq : (strN len (f i)).toList == (strN len (g i)).toList
      · have hq2 : ((strN len (f i)).toList != (strN len (g i)).toList) = true := by unfold bne; rw [hq]; rfl
        have HU : Hid (unB len f g i = true) := hq2
        rw [HU.out] at HC
        generalize cntB (unB len f g) i = q at *
        obtain ⟨b1, o1, rfl, hb1, hx1⟩ := HA1.out i hlt
        obtain ⟨b2, o2, rfl, hb2, hx2⟩ := HB1.out i hlt
        have hbel := hd.below w.heap.size
        have hy1 : wr.cell? ⟨b1, o1 + i, none⟩ = some (.slice (SA i) len (CA i)) := (hbel.cell hb1).trans hx1
        have hy2 : wr.cell? ⟨b2, o2 + i, none⟩ = some (.slice (SB i) len (CB i)) := (hbel.cell hb2).trans hx2
        have hy3 : wr.drew.cell? ⟨b1, o1 + i, none⟩ = some (.slice (SA i) len (CA i)) := hy1
        have hy4 : wr.drew.cell? ⟨b2, o2 + i, none⟩ = some (.slice (SB i) len (CB i)) := hy2
        have hs1 := conv_str (P := Try.prog) wr.drew 24 9 5 (SA i) len (CA i) (f i) Try.underlying24 Try.underlying5 Try.underlying9 (HF.out i hlt) ((HA2.out i hlt).below (hd.drew.below _))
        have hs2 := conv_str (P := Try.prog) wr.drew 24 9 5 (SB i) len (CB i) (g i) Try.underlying24 Try.underlying5 Try.underlying9 (HG.out i hlt) ((HB2.out i hlt).below (hd.drew.below _))
        have HD := Lib.hid hd.drew
        clear hx1 hx2 hd hbel
        generalize strN len (f i) = s1 at *
        generalize strN len (g i) = s2 at *
        go_wp2_with fail
        refine wp_region_mix [(true, true, false), (true, true, false), (true, true, false), (true, true, true), (true, true, true), (true, true, false), (true, true, false), (true, true, false), (true, true, true), (true, true, true), (true, true, false)] mixed (by kernel_rfl) (fun w4 => w4 = wr.drew) (rfl) ?_
        intro hSw0
        simp only [hdM, tlM, List.cons_append, List.nil_append]
        repeat (first
          | (refine mix_look hSw0.out ?_ (by rfl) (fun w4 hSw => ?_) ?_; rotate_left; (focus (subst hSw; go_simp; try with_reducible rfl)); simp only [Act.put, List.setIfInBounds_toArray, List.set_cons_zero, List.set_cons_succ])
          | (refine mix_pure ?_ (by rfl) (fun w4 => ?_) ?_; rotate_left; (focus (go_simp; try with_reducible rfl)); simp only [Act.put, List.setIfInBounds_toArray, List.set_cons_zero, List.set_cons_succ]))
        refine mix_nil ?_
        clear hs1 hs2 hy1 hy2 hy3 hy4
        go_wp2
        go_roundg (n - (i + 1))
        case measure => omega
        case rel => exact ⟨HD.out, i + 1, by omega, rfl, by go_num, by rw [HC.out]; rfl⟩
      · have hq2 : ((strN len (f i)).toList != (strN len (g i)).toList) = false := by unfold bne; rw [hq]; rfl
        have HU : Hid (unB len f g i = false) := hq2
        rw [HU.out] at HC
        generalize cntB (unB len f g) i = q at *
        obtain ⟨b1, o1, rfl, hb1, hx1⟩ := HA1.out i hlt
        obtain ⟨b2, o2, rfl, hb2, hx2⟩ := HB1.out i hlt
        have hbel := hd.below w.heap.size
        have hy1 : wr.cell? ⟨b1, o1 + i, none⟩ = some (.slice (SA i) len (CA i)) := (hbel.cell hb1).trans hx1
        have hy2 : wr.cell? ⟨b2, o2 + i, none⟩ = some (.slice (SB i) len (CB i)) := (hbel.cell hb2).trans hx2
        have hy3 : wr.drew.cell? ⟨b1, o1 + i, none⟩ = some (.slice (SA i) len (CA i)) := hy1
        have hy4 : wr.drew.cell? ⟨b2, o2 + i, none⟩ = some (.slice (SB i) len (CB i)) := hy2
        have hs1 := conv_str (P := Try.prog) wr.drew 24 9 5 (SA i) len (CA i) (f i) Try.underlying24 Try.underlying5 Try.underlying9 (HF.out i hlt) ((HA2.out i hlt).below (hd.drew.below _))
        have hs2 := conv_str (P := Try.prog) wr.drew 24 9 5 (SB i) len (CB i) (g i) Try.underlying24 Try.underlying5 Try.underlying9 (HG.out i hlt) ((HB2.out i hlt).below (hd.drew.below _))
        have HD := Lib.hid hd.drew
        clear hx1 hx2 hd hbel
        generalize strN len (f i) = s1 at *
        generalize strN len (g i) = s2 at *
        go_wp2_with fail
        refine wp_region_mix [(true, true, false), (true, true, false), (true, true, false), (true, true, true), (true, true, true), (true, true, false), (true, true, false), (true, true, false), (true, true, true), (true, true, true), (true, true, false)] mixed (by kernel_rfl) (fun w4 => w4 = wr.drew) (rfl) ?_
        intro hSw0
        simp only [hdM, tlM, List.cons_append, List.nil_append]
        repeat (first
          | (refine mix_look hSw0.out ?_ (by rfl) (fun w4 hSw => ?_) ?_; rotate_left; (focus (subst hSw; go_simp; try with_reducible rfl)); simp only [Act.put, List.setIfInBounds_toArray, List.set_cons_zero, List.set_cons_succ])
          | (refine mix_pure ?_ (by rfl) (fun w4 => ?_) ?_; rotate_left; (focus (go_simp; try with_reducible rfl)); simp only [Act.put, List.setIfInBounds_toArray, List.set_cons_zero, List.set_cons_succ]))
        refine mix_nil ?_
        clear hs1 hs2 hy1 hy2 hy3 hy4
        go_wp2
        go_roundg (n - (i + 1))
        case measure => omega
        case rel => exact ⟨HD.out, i + 1, by omega, rfl, by go_num, by rw [HC.out]; rfl⟩
    · have hin : i = n := by omega
      subst i
      have HD := Lib.hid hd; clear hd
      go_wp2
      go_ret
      exact ⟨rfl, HD.out⟩

end Go.Proofs.Ythodpgkelmalmaa
