/- roomy: a matrix with marks behind its rows and behind itself; is it untouched? Conditions: numbers below 256. -/
import Derived.Test.YtpocjpodeahanaaAp3A
import Derived.Test.YtpocjpodeahanaaLikeF
import Derived.Test.YtpocjpodeahanaaMat1
import Derived.StillTailTactics
namespace Go.Proofs.Ytpocjpodeahanaa
open Go.RowKit

/-- What stands in row i and behind it. -/
def rmV (L : Nat → Nat) (g : Nat → Nat → Nat) (i j : Nat) : Value := .int .u8 (((if j < L i then g i j else 77) : Nat) : Int)
/-- The rows of the first k. -/
structure Rm (w : World) (B k : Nat) (vm vr : Value) (S C L : Nat → Nat) (g : Nat → Nat → Nat) : Prop where
  mtop : Own w B 62 1 vm k (fun i => [.slice (some ⟨S i, 0, none⟩) (L i) (C i)])
  rtop : Own w B 62 1 vr k (fun i => [.slice (some ⟨S i, 0, none⟩) (L i + 1) (C i)])
  row : ∀ i, i < k → Own w B 34 1 (.slice (some ⟨S i, 0, none⟩) (L i + 1) (C i)) (L i + 1) (fun j => [rmV L g i j])
  inj : ∀ i j, i < k → j < k → S i = S j → i = j
  ne : ∀ s, vm.ownBlock = some s → vr.ownBlock ≠ some s
/-- All of it: the mark behind the rows too. -/
structure Rmy (w : World) (B n : Nat) (AM AR : Option Addr) (cM cR : Nat) (S C L : Nat → Nat) (g : Nat → Nat → Nat) : Prop where
  mtop : Own w B 62 1 (.slice AM (n + 1) cM) (n + 1) (fun i => [if i < n then .slice (some ⟨S i, 0, none⟩) (L i) (C i) else .slice (some ⟨S n, 0, none⟩) 1 1])
  rtop : Own w B 62 1 (.slice AR n cR) n (fun i => [.slice (some ⟨S i, 0, none⟩) (L i + 1) (C i)])
  row : ∀ i, i < n → Own w B 34 1 (.slice (some ⟨S i, 0, none⟩) (L i + 1) (C i)) (L i + 1) (fun j => [rmV L g i j])
  mark : Own w B 34 1 (.slice (some ⟨S n, 0, none⟩) 1 1) 1 (fun _ => [.int .u8 78])
  inj : ∀ i j, i ≤ n → j ≤ n → S i = S j → i = j
  len : n + 1 ≤ cM
theorem Rm.kept {w w' : World} {B k : Nat} {vm vr : Value} {S C L : Nat → Nat} {g : Nat → Nat → Nat} (h : Rm w B k vm vr S C L g) (hb : Below w.heap.size w w') : Rm w' B k vm vr S C L g :=
  ⟨h.mtop.kept hb, h.rtop.kept hb, fun i hi => (h.row i hi).kept hb, h.inj, h.ne⟩
theorem Rmy.kept {w w' : World} {B n cM cR : Nat} {AM AR : Option Addr} {S C L : Nat → Nat} {g : Nat → Nat → Nat} (h : Rmy w B n AM AR cM cR S C L g) (hb : Below w.heap.size w w') : Rmy w' B n AM AR cM cR S C L g :=
  ⟨h.mtop.kept hb, h.rtop.kept hb, fun i hi => (h.row i hi).kept hb, h.mark.kept hb, h.inj, h.len⟩
set_option maxRecDepth 100000 in
set_option maxHeartbeats 8000000 in
theorem roomy_any (A : Option Addr) (n cA : Nat) (L : Nat → Nat) (g : Nat → Nat → Nat) (w : World) (hn : n * 24 ≤ 140737488351232) (hL : ∀ i, i < n → L i * 8 ≤ 140737488351232) (hg : ∀ i, i < n → ∀ j, j < L i → g i j < 256) (hA : MI w A n L g) :
    Calls Try.prog 62 #[.slice A n cA] w fun e w' => ∃ AM AR cM cR S C, e = .returned (.tuple #[.slice AM n cM, .slice AR n cR]) ∧ Rmy w' w.heap.size n AM AR cM cR S C L g ∧ Below w.heap.size w w' := by
  have HA := Lib.hid hA; have HL := Lib.hid hL; have HG := Lib.hid hg
  clear hA hL hg
  go_enter Try.func62, Try.ntmps62
  go_wp2
  go_loopg [4, 5, 6, 7] n (fun gk xm xr vi _ wr => ∃ (i : Nat) (vm vr : Value) (S C : Nat → Nat), vm = xm ∧ vr = xr ∧ i ≤ n ∧ gk = n - i ∧ vi = .int .i64 i ∧ Rm wr w.heap.size i vm vr S C L g ∧ Below w.heap.size w wr)
  case atStart => exact ⟨0, _, _, fun _ => 0, fun _ => 0, rfl, rfl, Nat.zero_le _, rfl, rfl, ⟨Own.nil _ _ _ _ _, Own.nil _ _ _ _ _, fun i hi => absurd hi (Nat.not_lt_zero _), fun i j hi => absurd hi (Nat.not_lt_zero _), fun s hs => by cases hs⟩, Below.refl _ _⟩
  case round =>
    obtain ⟨i, vm, vr, S, C, rfl, rfl, hi, rfl, rfl, hR, hb⟩ := hrel
    have hsz := hb.size
    by_cases hlt : i < n
    · obtain ⟨S1, C1, hT1, hR1⟩ := HA.out
      obtain ⟨bT, oT, rfl, hbT, hcT0⟩ := hT1 i hlt
      have HRI := Lib.hid ((hR1 i hlt).below hb)
      have hLi := HL.out i hlt
      obtain ⟨ln, hln⟩ : ∃ ln, ln = L i := ⟨_, rfl⟩
      obtain ⟨Ai, hAi⟩ : ∃ Ai, Ai = S1 i := ⟨_, rfl⟩
      obtain ⟨ci, hci⟩ : ∃ ci, ci = C1 i := ⟨_, rfl⟩
      dsimp only at hcT0
      rw [← hln] at hLi hcT0
      rw [← hln, ← hAi] at HRI
      rw [← hAi, ← hci] at hcT0
      have HLN := Lib.hid hln
      have HEL := Lib.hid (elems_any Ai ln ci (g i) wr (by omega) (fun j hj => HG.out i hlt j (by rw [← hln]; exact hj)) HRI.out)
      have HR := Lib.hid hR; have HB := Lib.hid hb
      have HCT : Hid (∀ w', Below w.heap.size w w' → w'.cell? ⟨bT, oT + i, none⟩ = some (.slice Ai ln ci)) := Lib.hid fun w' hb' => (hb'.cell hbT).trans hcT0
      have hcT := HCT.out wr hb
      clear hR hb hT1 hR1 hln hAi hci hcT0 hbT
      go_wp2_with fail
      refine HEL.out.mono ?_
      rintro e w1 ⟨v0, rfl, hO0, hb1⟩
      have HO0 : Hid (Own w1 wr.heap.size 34 1 v0 ln (fun j => [rmV L g i j])) := Lib.hid (hO0.congr fun j hj => by unfold rmV; rw [if_pos (by rw [← HLN.out]; exact hj)])
      have hu : Hid ((#[Value.int .u8 77] : Array Value).toList = [rmV L g i ln]) := Lib.hid (by unfold rmV; rw [if_neg (by rw [← HLN.out]; omega)]; rfl)
      have HB1 := Lib.hid hb1
      have hs1 := hb1.size
      clear hO0 hb1 HEL hcT
      go_wp2_with (at_builtin; refine wpList_pushX _ rfl (.tmp 19) (.tmp 20) 62 rfl wr.heap.size 34 1 1 (.int .u8 0) #[.int .u8 77] Try.underlying62 a3Inf rfl _ ln _ rfl HO0.out hs1 _ rfl rfl hu.out rfl rfl (by omega) (by omega) ?_)
      intro v1 w2 hO1 hb2 _
      obtain ⟨s, c, rfl, hsB, hsl, hsc, _⟩ := hO1.form (Nat.succ_pos _)
      have HB2 := Lib.hid (HB1.out.trans hb2)
      have hs2 := HB2.out.size
      have HRK := Lib.hid (HR.out.kept HB2.out)
      have HO1 := Lib.hid hO1
      obtain ⟨S', hS'⟩ : ∃ S', S' = upd S i s := ⟨_, rfl⟩
      obtain ⟨C', hC'⟩ : ∃ C', C' = upd C i c := ⟨_, rfl⟩
      have HE1 : Hid (∀ q, q < i → S' q = S q) := Lib.hid fun q hq => by rw [hS', upd_ne _ _ _ (by omega)]
      have HE2 : Hid (∀ q, q < i → C' q = C q) := Lib.hid fun q hq => by rw [hC', upd_ne _ _ _ (by omega)]
      have HE3 : Hid (S' i = s) := Lib.hid (by rw [hS', upd_at])
      have HE4 : Hid (C' i = c) := Lib.hid (by rw [hC', upd_at])
      have HRT : Hid (Own w2 w.heap.size 62 1 vr i (fun q => [.slice (some ⟨S' q, 0, none⟩) (L q + 1) (C' q)])) := Lib.hid (HRK.out.rtop.congr fun q hq => by rw [HE1.out q hq, HE2.out q hq])
      have hu2 : Hid ((#[Value.slice (some ⟨s, 0, none⟩) (ln + 1) c] : Array Value).toList = [.slice (some ⟨S' i, 0, none⟩) (L i + 1) (C' i)]) := Lib.hid (by rw [HE3.out, HE4.out, HLN.out])
      have hu3 : Hid ((#[Value.slice (some ⟨s, 0, none⟩) ln c] : Array Value).toList = [.slice (some ⟨S' i, 0, none⟩) (L i) (C' i)]) := Lib.hid (by rw [HE3.out, HE4.out, HLN.out])
      have hsw : w.heap.size ≤ w2.heap.size := by omega
      clear hO1 hb2 HO0 hu HB1 hS' hC'
      go_wp2_with (at_builtin; refine wpList_pushX _ rfl (.tmp 22) (.tmp 24) 31 rfl w.heap.size 62 1 24 (.slice none 0 0) #[.slice (some ⟨s, 0, none⟩) (ln + 1) c] Try.underlying31 a3InfR rfl _ i _ rfl HRT.out hsw _ rfl rfl hu2.out rfl rfl (by omega) (by omega) ?_)
      intro vr2 w3 hO2 hb3 hg3
      have HMK : Hid (Own w3 w.heap.size 62 1 vm i (fun q => [.slice (some ⟨S' q, 0, none⟩) (L q) (C' q)])) := Lib.hid ((HRK.out.mtop.keptRow hg3.gr (ne_or fun t ht hm => HRK.out.ne t hm ht)).congr fun q hq => by rw [HE1.out q hq, HE2.out q hq])
      have HRW3 : Hid (∀ q, q < i → Own w3 w.heap.size 34 1 (.slice (some ⟨S q, 0, none⟩) (L q + 1) (C q)) (L q + 1) (fun j => [rmV L g q j])) := Lib.hid fun q hq => (HRK.out.row q hq).keptRow hg3.gr (own_ne (HRK.out.row q hq) HRK.out.rtop (by decide))
      have HO13 := Lib.hid (HO1.out.keptRow hg3.gr (own_ne HO1.out HRK.out.rtop (by decide)))
      have HNE : Hid (∀ t, vm.ownBlock = some t → vr2.ownBlock ≠ some t) := Lib.hid fun t ht => hg3.ne (HRK.out.mtop.lt t ht).2 (HRK.out.ne t ht)
      have HO2 := Lib.hid hO2
      have HB3 : Hid (Below w.heap.size w w3) := Lib.hid ((HB.out.trans (HB2.out.mono hsz)).trans hb3)
      have hs3 := HB3.out.size
      have hcT4 := HCT.out w3 HB3.out
      have hq1 : (0 : Int) ≤ (ln : Int) := by omega
      have hq2 : (ln : Int) ≤ (c : Int) := by omega
      clear hO2 hb3 hg3 HRT hu2
      go_wp2_with (at_builtin; refine wpList_pushX _ rfl (.tmp 26) (.tmp 34) 31 rfl w.heap.size 62 1 24 (.slice none 0 0) #[.slice (some ⟨s, 0, none⟩) ln c] Try.underlying31 a3InfR rfl _ i _ rfl HMK.out hs3 _ rfl rfl hu3.out rfl rfl (by omega) (by omega) ?_)
      intro vm2 w4 hO3 hb4 hg4
      have HFIN : Hid (Rm w4 w.heap.size (i + 1) vm2 vr2 S' C' L g) := Lib.hid ⟨hO3, HO2.out.keptRow hg4.gr (ne_or fun t ht hm => HNE.out t ht hm), fun q hq => by
          by_cases e : q = i
          · subst e
            rw [HE3.out, HE4.out]
            have h1 := HO13.out.keptRow hg4.gr (own_ne HO13.out HMK.out (by decide))
            rw [HLN.out] at h1
            exact h1.mono hsz
          · rw [HE1.out q (by omega), HE2.out q (by omega)]
            exact (HRW3.out q (by omega)).keptRow hg4.gr (own_ne (HRW3.out q (by omega)) HMK.out (by decide)),
        fun a b ha hb e => by
          have key : ∀ q, q < i → S q < wr.heap.size := fun q hq => ((HR.out.row q hq).lt (S q) rfl).2
          by_cases ea : a = i
          · by_cases eb : b = i
            · omega
            · subst ea
              rw [HE3.out, HE1.out b (by omega)] at e
              have := key b (by omega)
              omega
          · by_cases eb : b = i
            · subst eb
              rw [HE3.out, HE1.out a (by omega)] at e
              have := key a (by omega)
              omega
            · rw [HE1.out a (by omega), HE1.out b (by omega)] at e
              exact HR.out.inj a b (by omega) (by omega) e,
        fun t ht hr => hg4.ne (HO2.out.lt t hr).2 (fun hm => HNE.out t hm hr) ht⟩
      have HB4 := Lib.hid (HB3.out.trans hb4)
      clear hO3 hb4 hg4 HMK HRW3 HO13 HNE HO2 HB3 hu3 HRK HR HO1
      go_wp2
      go_roundg (n - (i + 1))
      case measure => omega
      case rel => exact ⟨i + 1, vm2, vr2, S', C', rfl, rfl, by omega, rfl, by go_num, HFIN.out, HB4.out⟩
    · obtain rfl : n = i := by omega
      have HR := Lib.hid hR; have HB := Lib.hid hb
      obtain ⟨S', hS'⟩ : ∃ S', S' = upd S n wr.heap.size := ⟨_, rfl⟩
      have HE1 : Hid (∀ q, q < n → S' q = S q) := Lib.hid fun q hq => by rw [hS', upd_ne _ _ _ (by omega)]
      have HE3 : Hid (S' n = wr.heap.size) := Lib.hid (by rw [hS', upd_at])
      have HK : Hid (Rm (wr.alloc (.cells #[.int .u8 78] 34)) w.heap.size n vm vr S C L g) := Lib.hid (HR.out.kept ((Below.refl _ _).alloc (Nat.le_refl _) _))
      have HMT : Hid (Own (wr.alloc (.cells #[.int .u8 78] 34)) w.heap.size 62 1 vm n (fun q => [if q < n then .slice (some ⟨S' q, 0, none⟩) (L q) (C q) else .slice (some ⟨S' n, 0, none⟩) 1 1])) := Lib.hid (HK.out.mtop.congr fun q hq => by rw [if_pos hq, HE1.out q hq])
      have HMKR : Hid (Own (wr.alloc (.cells #[.int .u8 78] 34)) w.heap.size 34 1 (.slice (some ⟨wr.heap.size, 0, none⟩) 1 1) 1 (fun _ => [.int .u8 78])) := Lib.hid ⟨rfl, .inr ⟨wr.heap.size, 1, #[.int .u8 78], rfl, hsz, heap_alloc_new wr _, Nat.le_refl _, by unfold maxLen; omega, rfl, rfl⟩⟩
      have hu : Hid ((#[Value.slice (some ⟨wr.heap.size, 0, none⟩) 1 1] : Array Value).toList = [if n < n then .slice (some ⟨S' n, 0, none⟩) (L n) (C n) else .slice (some ⟨S' n, 0, none⟩) 1 1]) := Lib.hid (by rw [if_neg (Nat.lt_irrefl _), HE3.out])
      have hsA : w.heap.size ≤ (wr.alloc (.cells #[.int .u8 78] 34)).heap.size := Nat.le_trans hsz (by simp)
      clear hR hb hS'
      go_wp2_with (at_builtin; refine wpList_pushX _ rfl (.tmp 36) (.tmp 38) 31 rfl w.heap.size 62 1 24 (.slice none 0 0) #[.slice (some ⟨wr.heap.size, 0, none⟩) 1 1] Try.underlying31 a3InfR rfl _ n _ rfl HMT.out hsA _ (by simp) rfl hu.out rfl rfl (by omega) (by omega) ?_)
      intro vm2 w4 hO3 hb4 hg4
      obtain ⟨gM, cM, rfl, _, _, hcM, _⟩ := hO3.form (Nat.succ_pos _)
      obtain ⟨AR, cR, rfl, hcR, _, _, _⟩ := HK.out.rtop.rd
      have HFIN : Hid (Rmy w4 w.heap.size n (some ⟨gM, 0, none⟩) AR cM cR S' C L g) := Lib.hid ⟨hO3, (HK.out.rtop.keptRow hg4.gr (ne_or fun t ht hm => HK.out.ne t ht hm)).congr fun q hq => by rw [HE1.out q hq], fun q hq => by
          rw [HE1.out q hq]
          exact (HK.out.row q hq).keptRow hg4.gr (own_ne (HK.out.row q hq) HK.out.mtop (by decide)), by
          rw [HE3.out]
          exact HMKR.out.keptRow hg4.gr (own_ne HMKR.out HK.out.mtop (by decide)),
        fun a b ha hb e => by
          have key : ∀ q, q < n → S q < wr.heap.size := fun q hq => ((HR.out.row q hq).lt (S q) rfl).2
          by_cases ea : a = n
          · by_cases eb : b = n
            · omega
            · subst ea
              rw [HE3.out, HE1.out b (by omega)] at e
              have := key b (by omega)
              omega
          · by_cases eb : b = n
            · subst eb
              rw [HE3.out, HE1.out a (by omega)] at e
              have := key a (by omega)
              omega
            · rw [HE1.out a (by omega), HE1.out b (by omega)] at e
              exact HR.out.inj a b (by omega) (by omega) e, hcM⟩
      have HB4 : Hid (Below w.heap.size w w4) := Lib.hid ((HB.out.alloc hsz _).trans hb4)
      have hq1 : (0 : Int) ≤ (n : Int) := by omega
      have hq2 : (n : Int) ≤ (cM : Int) := by omega
      clear hO3 hb4 hg4 HMT HMKR HK hu HR HB
      go_wp2
      go_ret2
      exact ⟨some ⟨gM, 0, none⟩, AR, cM, cR, S', C, rfl, HFIN.out, HB4.out⟩
end Go.Proofs.Ytpocjpodeahanaa

/- untouched: the walk. Conditions: numbers below 256; the numbers compared with lie elsewhere. -/
namespace Go.Proofs.Ytpocjpodeahanaa
open Go.RowKit

theorem mixedM : Try.prog.follows .mixedOrders = true := by kernel_rfl
section
variable {w : World} {B n cM cR : Nat} {AM AR : Option Addr} {S C L : Nat → Nat} {g g' : Nat → Nat → Nat}
theorem Rmy.mcell (h : Rmy w B n AM AR cM cR S C L g) {i : Nat} (hi : i ≤ n) : ∃ b o, AM = some ⟨b, o, none⟩ ∧ w.cell? ⟨b, o + i, none⟩ = some (if i < n then .slice (some ⟨S i, 0, none⟩) (L i) (C i) else .slice (some ⟨S n, 0, none⟩) 1 1) ∧ b < w.heap.size := by
  obtain ⟨A', c', e, _, _, hr, _⟩ := h.mtop.rd
  injection e with e _ _
  subst e
  obtain ⟨b, o, e2, hb, hc⟩ := hr i (by omega)
  exact ⟨b, o, e2, hc, hb⟩
theorem Rmy.rcell (h : Rmy w B n AM AR cM cR S C L g) {i : Nat} (hi : i < n) : ∃ b o, AR = some ⟨b, o, none⟩ ∧ w.cell? ⟨b, o + i, none⟩ = some (.slice (some ⟨S i, 0, none⟩) (L i + 1) (C i)) ∧ b < w.heap.size := by
  obtain ⟨A', c', e, _, _, hr, _⟩ := h.rtop.rd
  injection e with e _ _
  subst e
  obtain ⟨b, o, e2, hb, hc⟩ := hr i hi
  exact ⟨b, o, e2, hc, hb⟩
theorem Rmy.cell (h : Rmy w B n AM AR cM cR S C L g) {i j : Nat} (hi : i < n) (hj : j ≤ L i) : w.cell? ⟨S i, j, none⟩ = some (rmV L g i j) ∧ w.frozen? ⟨S i, j, none⟩ = false :=
  ⟨(h.row i hi).cell1 (by omega), own_freeX (h.row i hi) j⟩
theorem Rmy.congr (h : Rmy w B n AM AR cM cR S C L g) (e : ∀ i, i < n → ∀ j, j < L i → g' i j = g i j) : Rmy w B n AM AR cM cR S C L g' :=
  ⟨h.mtop, h.rtop, fun i hi => (h.row i hi).congr fun j _ => by
    unfold rmV
    by_cases hj : j < L i
    · rw [if_pos hj, if_pos hj, e i hi j hj]
    · rw [if_neg hj, if_neg hj], h.mark, h.inj, h.len⟩
theorem Rmy.rdm (h : Rmy w B n AM AR cM cR S C L g) : ME w AM n L g := by
  refine ⟨fun i => some ⟨S i, 0, none⟩, C, fun i hi => ?_, fun i hi => ?_⟩
  · obtain ⟨b, o, e, hc, hb⟩ := h.mcell (i := i) (by omega)
    rw [if_pos hi] at hc
    exact ⟨b, o, e, hb, hc⟩
  · intro j hj
    have h1 := (h.cell hi (Nat.le_of_lt hj)).1
    unfold rmV at h1
    rw [if_pos hj] at h1
    exact ⟨S i, 0, rfl, ((h.row i hi).lt (S i) rfl).2, by rw [Nat.zero_add]; exact h1⟩
theorem Rmy.set (h : Rmy w B n AM AR cM cR S C L g) {i j : Nat} (hi : i < n) (hj : j < L i) (x : Nat) : Rmy (w.setCell ⟨S i, j, none⟩ (.int .u8 (x : Int))) B n AM AR cM cR S C L (fun a b => if a = i ∧ b = j then x else g a b) := by
  have top : ∀ (v : Value) (k : Nat) (F : Nat → List Value), Own w B 62 1 v k F → v.ownBlock ≠ some (S i) := fun v k F ho e => by
    rcases own_ne ho (h.row i hi) (by decide) with h1 | h1
    · rw [e] at h1; cases h1
    · exact h1 e
  refine ⟨Own.setOtherX h.mtop (a := ⟨S i, j, none⟩) (top _ _ _ h.mtop) _, Own.setOtherX h.rtop (a := ⟨S i, j, none⟩) (top _ _ _ h.rtop) _, fun a ha => ?_, Own.setOtherX h.mark (a := ⟨S i, j, none⟩) (fun e => ?_) _, h.inj, h.len⟩
  · by_cases e : a = i
    · subst e
      refine ((h.row a ha).set1 (i := j) (by omega) (.int .u8 (x : Int))).congr fun q hq => ?_
      by_cases eq : q = j
      · subst eq
        rw [if_pos rfl]
        unfold rmV
        rw [if_pos hj]
        dsimp only
        rw [if_pos ⟨rfl, rfl⟩]
      · rw [if_neg eq]
        unfold rmV
        dsimp only
        rw [show (if a = a ∧ q = j then x else g a q) = g a q from if_neg (fun c => eq c.2)]
    · refine (Own.setOtherX (h.row a ha) (a := ⟨S i, j, none⟩) (fun e2 => ?_) _).congr fun q hq => ?_
      · have e3 : some (S a) = some (S i) := e2
        injection e3 with e3
        exact e (h.inj a i (by omega) (by omega) e3)
      · unfold rmV
        dsimp only
        rw [show (if a = i ∧ q = j then x else g a q) = g a q from if_neg (fun c => e c.1)]
  · have e3 : some (S n) = some (S i) := e
    injection e3 with e3
    have := h.inj n i (Nat.le_refl _) (by omega) e3
    omega
end
set_option maxRecDepth 100000 in
set_option maxHeartbeats 8000000 in
theorem untouched_any (n : Nat) (A AM AR : Option Addr) (cA cM cR B : Nat) (S C L : Nat → Nat) (g : Nat → Nat → Nat) (w : World) (hn : n * 24 ≤ 140737488351232) (hL : ∀ i, i < n → L i * 8 ≤ 140737488351232) (hg : ∀ i, i < n → ∀ j, j < L i → g i j < 256) (hM : Rmy w B n AM AR cM cR S C L g) (hA : ∀ w', Below B w w' → MI w' A n L g) :
    Calls Try.prog 64 #[.slice AM n cM, .slice AR n cR, .slice A n cA] w fun e w' => e = .returned (.bool true) ∧ Rmy w' B n AM AR cM cR S C L g ∧ Only (fun k => ∃ i, i < n ∧ k = S i) w w' := by
  have HM := Lib.hid hM; have HA := Lib.hid hA; have HL := Lib.hid hL; have HG := Lib.hid hg
  have HLK := Lib.hid (likeElemss_any AM A n cM cA L g w (by omega) (fun i hi => by have := hL i hi; omega) hg hM.rdm (hA w (Below.refl _ _)))
  have hcl := hM.len
  have hBS : ∀ i, i < n → B ≤ S i := fun i hi => ((hM.row i hi).lt (S i) rfl).1
  have HBS := Lib.hid hBS
  have hBw : B ≤ w.heap.size := by
    have h1 := (hM.mark.lt (S n) rfl)
    omega
  clear hM hA hL hg hBS
  go_enter Try.func64, Try.ntmps64
  go_wp2_with fail
  refine HLK.out.mono ?_
  rintro e w1 ⟨rfl, hd1⟩
  have HM1 := Lib.hid (HM.out.kept (hd1.below w.heap.size))
  have HO1 : Hid (Only (fun k => ∃ i, i < n ∧ k = S i) w w1) := Lib.hid ((Only.refl _ w).below (hd1.below w.heap.size))
  obtain ⟨bM, oM, rfl, hcn, _⟩ := HM1.out.mcell (i := n) (Nat.le_refl _)
  rw [if_neg (Nat.lt_irrefl _)] at hcn
  have hmk := HM1.out.mark.cell1 (i := 0) (by decide)
  have hq0 : (n : Int) + 1 = ((n + 1 : Nat) : Int) := by omega
  have hqw : IntKind.i64.wrap ((n + 1 : Nat) : Int) = ((n + 1 : Nat) : Int) := by rw [IntKind.wrap_i64]; omega
  obtain ⟨n1, hn1⟩ : ∃ n1, n1 = n + 1 := ⟨_, rfl⟩
  rw [← hn1] at hq0 hqw hcl
  have hq1 : (0 : Int) ≤ (n1 : Int) := by omega
  have hq2 : (n1 : Int) ≤ (cM : Int) := by omega
  have hq3 : (n : Int) < (n1 : Int) := by omega
  have hq4 : n < n1 := by omega
  clear hd1 HLK HM hn1
  go_wp2
  go_loopg [7, 8, 9] n (fun gk vi _ _ wr => ∃ i : Nat, i ≤ n ∧ gk = n - i ∧ vi = .int .i64 i ∧ Rmy wr B n (some ⟨bM, oM, none⟩) AR cM cR S C L g ∧ Only (fun k => ∃ i, i < n ∧ k = S i) w wr)
  case atStart => exact ⟨0, Nat.zero_le _, rfl, rfl, HM1.out, HO1.out⟩
  case round =>
    clear HM1 HO1 hcn hmk hq0 hqw hq1 hq2 hq3 hq4 hcl
    obtain ⟨i, hi, rfl, rfl, hM, hO⟩ := hrel
    by_cases hlt : i < n
    · have hbb : Below B w wr := hO.toBelow (fun k hk => by obtain ⟨q, hq, rfl⟩ := hk; exact HBS.out q hq) hBw
      obtain ⟨S1, C1, hT1, hR1⟩ := HA.out wr hbb
      obtain ⟨bT, oT, rfl, _, hcT⟩ := hT1 i hlt
      obtain ⟨bR, oR, hAR, hcR, hbR⟩ := hM.rcell hlt
      obtain ⟨b', o', e', hcM, hbM⟩ := hM.mcell (i := i) (by omega)
      rw [if_pos hlt] at hcM
      injection e' with e'
      injection e' with e1 e2
      subst e1 e2
      subst hAR
      obtain ⟨hc77, _⟩ := hM.cell hlt (Nat.le_refl _)
      unfold rmV at hc77
      rw [if_neg (Nat.lt_irrefl _)] at hc77
      have hLi := HL.out i hlt
      obtain ⟨ln, hln⟩ : ∃ ln, ln = L i := ⟨_, rfl⟩
      obtain ⟨si, hsi⟩ : ∃ si, si = S i := ⟨_, rfl⟩
      obtain ⟨ci, hci⟩ : ∃ ci, ci = C i := ⟨_, rfl⟩
      obtain ⟨Ai, hAi⟩ : ∃ Ai, Ai = S1 i := ⟨_, rfl⟩
      obtain ⟨di, hdi⟩ : ∃ di, di = C1 i := ⟨_, rfl⟩
      dsimp only at hcT
      rw [← hln] at hLi hcT hcR hcM hc77
      rw [← hAi, ← hdi] at hcT
      rw [← hsi] at hcR hcM hc77
      rw [← hci] at hcR hcM
      replace hc77 : wr.cell? ⟨si, ln, none⟩ = some (.int .u8 77) := hc77
      have HLN := Lib.hid hln; have HSI := Lib.hid hsi; have HCI := Lib.hid hci
      have HM := Lib.hid hM; have HO := Lib.hid hO
      have hbi : ∀ q, q < n → si ≠ bR ∧ si ≠ bM := fun q hq => by
        have h1 := own_ne hM.rtop (hM.row i hlt) (by decide)
        have h2 := own_ne hM.mtop (hM.row i hlt) (by decide)
        refine ⟨fun e => ?_, fun e => ?_⟩
        · rcases h1 with h | h
          · cases h
          · exact h (by rw [← hsi, e]; rfl)
        · rcases h2 with h | h
          · cases h
          · exact h (by rw [← hsi, e]; rfl)
      obtain ⟨hsR, hsM⟩ := hbi i hlt
      clear hM hO hT1 hR1 hln hsi hci hAi hdi hbb hbi
      by_cases hz : ln = 0
      · subst hz
        go_wp2
        go_roundg (n - (i + 1))
        case measure => omega
        case rel => exact ⟨i + 1, by omega, rfl, by go_num, HM.out, HO.out⟩
      · obtain ⟨x0, hx0⟩ : ∃ x0, x0 = g i 0 := ⟨_, rfl⟩
        have hx256 : x0 < 256 := by rw [hx0]; exact HG.out i hlt 0 (by rw [← HLN.out]; omega)
        obtain ⟨x1, hx1⟩ : ∃ x1, x1 = (x0 + 1) % 256 := ⟨_, rfl⟩
        have hwx : IntKind.u8.wrap ((x0 : Int) + 1) = (x1 : Int) := by rw [IntKind.wrap_u8]; omega
        have hwy : IntKind.u8.wrap ((x1 : Int) - 1) = (x0 : Int) := by rw [IntKind.wrap_u8]; omega
        have hxx : ((x0 : Int) + 1) % 256 = (x1 : Int) := by omega
        have hxy : ((x1 : Int) - 1) % 256 = (x0 : Int) := by omega
        obtain ⟨hca, hcb⟩ := HM.out.cell hlt (j := 0) (Nat.zero_le _)
        unfold rmV at hca
        rw [if_pos (by rw [← HLN.out]; omega), ← hx0, ← HSI.out] at hca
        rw [← HSI.out] at hcb
        have HX0 := Lib.hid hx0
        have hlp : (0 : Int) < (ln : Int) := by omega
        have hlq : 0 < ln := by omega
        clear hx0 hx1
        go_wp2
        go_still_tail 12, mixedM
        change wpList _ _ _ _ _ wr.drew
        have HMa := Lib.hid (HM.out.kept (Below.refl _ _).drew)
        have HOa := Lib.hid (HO.out.below (Below.refl _ _).drew)
        have hz0 : (0 : Nat) < L i := by rw [← HLN.out]; exact hlq
        have HZ0 := Lib.hid hz0
        clear hca hcb HM HO hcM hcR hcT hc77 hbM hbR hz0
        generalize wr.drew = wa at *
        obtain ⟨hca, hcb⟩ := HMa.out.cell hlt (j := 0) (Nat.zero_le _)
        unfold rmV at hca
        rw [if_pos HZ0.out, ← HX0.out, ← HSI.out] at hca
        rw [← HSI.out] at hcb
        have HMs := Lib.hid (HMa.out.set hlt HZ0.out x1)
        rw [← HSI.out] at HMs
        have HOs : Hid (Only (fun k => ∃ i, i < n ∧ k = S i) w (wa.setCell ⟨si, 0, none⟩ (.int .u8 (x1 : Int)))) := Lib.hid (HOa.out.setCell (.inl ⟨i, hlt, HSI.out⟩) _)
        clear HMa HOa
        go_wp2_with fail
        clear hca hcb
        generalize wa.setCell ⟨si, 0, none⟩ (.int .u8 (x1 : Int)) = ws at *
        obtain ⟨b1, o1, eR, hcR, hbR⟩ := HMs.out.rcell hlt
        injection eR with eR
        injection eR with e1 e2
        subst e1 e2
        obtain ⟨b1, o1, eM, hcM, hbM⟩ := HMs.out.mcell (i := i) (by omega)
        injection eM with eM
        injection eM with e1 e2
        subst e1 e2
        rw [if_pos hlt] at hcM
        rw [← HSI.out, ← HLN.out, ← HCI.out] at hcM hcR
        obtain ⟨hc0, _⟩ := HMs.out.cell hlt (j := 0) (Nat.zero_le _)
        unfold rmV at hc0
        rw [if_pos HZ0.out, ← HSI.out] at hc0
        dsimp only at hc0
        rw [if_pos ⟨rfl, rfl⟩] at hc0
        have hsl : si < ws.heap.size := by rw [HSI.out]; exact ((HMs.out.row i hlt).lt (S i) rfl).2
        have HX : Hid (∀ w', Below ws.heap.size ws w' → w'.cell? ⟨bM, oM + i, none⟩ = some (.slice (some ⟨si, 0, none⟩) ln ci) ∧ w'.cell? ⟨bR, oR + i, none⟩ = some (.slice (some ⟨si, 0, none⟩) (ln + 1) ci) ∧ w'.cell? ⟨si, 0, none⟩ = some (.int .u8 (x1 : Int))) := Lib.hid fun w' hb' => ⟨(hb'.cell hbM).trans hcM, (hb'.cell hbR).trans hcR, (hb'.cell (p := ⟨si, 0, none⟩) hsl).trans hc0⟩
        clear hc0 hcM hcR hbM hbR hsl
        refine wp_region_factsG [.is (.slice (some ⟨bM, oM, none⟩) n cM), .is (.int .i64 (i : Int)), .is (.pointer (some ⟨bM, oM + i, none⟩)), .is (.slice (some ⟨si, 0, none⟩) ln ci), .is (.pointer (some ⟨si, 0, none⟩)), .is (.int .u8 (x1 : Int)), .is (.slice (some ⟨bR, oR, none⟩) n cR), .is (.int .i64 (i : Int)), .is (.pointer (some ⟨bR, oR + i, none⟩)), .is (.slice (some ⟨si, 0, none⟩) (ln + 1) ci), .is (.pointer (some ⟨si, 0, none⟩)), .is (.int .u8 (x1 : Int)), .is (.bool true), .is (.bool true)] mixedM (by kernel_rfl) (fun hdr => ⟨?_, ?_, ?_, ?_, ?_, ?_, ?_, ?_, ?_, ?_, ?_, ?_, ?_, ?_, trivial⟩) (fun wE hbE => ?_)
        · intro a w2 hb hs K hK
          repeat (intro _)
          refine ⟨?_⟩
          have h0 : a.tmps[0]?.getD undef = .slice (some ⟨bM, oM, none⟩) n cM := hs 0 (by kernel_rfl)
          rw [if_pos (by rfl)]
          go_simp
          exact hK.out _ _ (Below.refl _ _) rfl
        · intro a w2 hb hs K hK
          repeat (intro _)
          refine ⟨?_⟩
          have h7 : a.tmps[7]?.getD undef = .int .i64 (i : Int) := hs 7 (by kernel_rfl)
          rw [if_pos (by rfl)]
          go_simp
          exact hK.out _ _ (Below.refl _ _) rfl
        · intro a w2 hb hs K hK
          repeat (intro _)
          refine ⟨?_⟩
          have h74 : a.tmps[74]?.getD undef = .slice (some ⟨bM, oM, none⟩) n cM := by assumption
          have h75 : a.tmps[75]?.getD undef = .int .i64 (i : Int) := by assumption
          rw [if_pos (by rfl)]
          go_simp
          exact hK.out _ _ (Below.refl _ _) rfl
        · intro a w2 hb hs K hK
          repeat (intro _)
          refine ⟨?_⟩
          have h76 : a.tmps[76]?.getD undef = .pointer (some ⟨bM, oM + i, none⟩) := by assumption
          rw [if_pos (by rfl)]
          have hcc := (HX.out w2 (hdr.out.trans (hb.mono hdr.out.size))).1
          go_simp
          exact hK.out _ _ (Below.refl _ _) rfl
        · intro a w2 hb hs K hK
          repeat (intro _)
          refine ⟨?_⟩
          have h77 : a.tmps[77]?.getD undef = .slice (some ⟨si, 0, none⟩) ln ci := by assumption
          rw [if_pos (by rfl)]
          go_simp
          exact hK.out _ _ (Below.refl _ _) rfl
        · intro a w2 hb hs K hK
          repeat (intro _)
          refine ⟨?_⟩
          have h78 : a.tmps[78]?.getD undef = .pointer (some ⟨si, 0, none⟩) := by assumption
          rw [if_pos (by rfl)]
          have hcc := (HX.out w2 (hdr.out.trans (hb.mono hdr.out.size))).2.2
          go_simp
          exact hK.out _ _ (Below.refl _ _) rfl
        · intro a w2 hb hs K hK
          repeat (intro _)
          refine ⟨?_⟩
          have h1 : a.tmps[1]?.getD undef = .slice (some ⟨bR, oR, none⟩) n cR := hs 1 (by kernel_rfl)
          rw [if_pos (by rfl)]
          go_simp
          exact hK.out _ _ (Below.refl _ _) rfl
        · intro a w2 hb hs K hK
          repeat (intro _)
          refine ⟨?_⟩
          have h7 : a.tmps[7]?.getD undef = .int .i64 (i : Int) := hs 7 (by kernel_rfl)
          rw [if_pos (by rfl)]
          go_simp
          exact hK.out _ _ (Below.refl _ _) rfl
        · intro a w2 hb hs K hK
          repeat (intro _)
          refine ⟨?_⟩
          have h80 : a.tmps[80]?.getD undef = .slice (some ⟨bR, oR, none⟩) n cR := by assumption
          have h81 : a.tmps[81]?.getD undef = .int .i64 (i : Int) := by assumption
          rw [if_pos (by rfl)]
          go_simp
          exact hK.out _ _ (Below.refl _ _) rfl
        · intro a w2 hb hs K hK
          repeat (intro _)
          refine ⟨?_⟩
          have h82 : a.tmps[82]?.getD undef = .pointer (some ⟨bR, oR + i, none⟩) := by assumption
          rw [if_pos (by rfl)]
          have hcc := (HX.out w2 (hdr.out.trans (hb.mono hdr.out.size))).2.1
          go_simp
          exact hK.out _ _ (Below.refl _ _) rfl
        · intro a w2 hb hs K hK
          repeat (intro _)
          refine ⟨?_⟩
          have h83 : a.tmps[83]?.getD undef = .slice (some ⟨si, 0, none⟩) (ln + 1) ci := by assumption
          rw [if_pos (by rfl)]
          go_simp
          exact hK.out _ _ (Below.refl _ _) rfl
        · intro a w2 hb hs K hK
          repeat (intro _)
          refine ⟨?_⟩
          have h84 : a.tmps[84]?.getD undef = .pointer (some ⟨si, 0, none⟩) := by assumption
          rw [if_pos (by rfl)]
          have hcc := (HX.out w2 (hdr.out.trans (hb.mono hdr.out.size))).2.2
          go_simp
          exact hK.out _ _ (Below.refl _ _) rfl
        · intro a w2 hb hs K hK
          repeat (intro _)
          refine ⟨?_⟩
          have h79 : a.tmps[79]?.getD undef = .int .u8 (x1 : Int) := by assumption
          have h85 : a.tmps[85]?.getD undef = .int .u8 (x1 : Int) := by assumption
          rw [if_pos (by rfl)]
          go_simp
          exact hK.out _ _ (Below.refl _ _) (by first | rfl | (show Value.bool _ = Value.bool _; simp))
        · intro a w2 hb hs K hK
          repeat (intro _)
          refine ⟨?_⟩
          have h86 : a.tmps[86]?.getD undef = .bool true := by assumption
          rw [if_pos (by rfl)]
          go_simp
          exact hK.out _ _ (Below.refl _ _) rfl
        intro v0 f0 v1 f1 v2 f2 v3 f3 v4 f4 v5 f5 v6 f6 v7 f7 v8 f8 v9 f9 v10 f10 v11 f11 v12 f12 v13 f13
        refine NoPanic.normal ?_
        simp only [Act.put, List.setIfInBounds_toArray, List.set_cons_zero, List.set_cons_succ]
        obtain rfl : v13 = .bool true := f13
        clear f0 f1 f2 f3 f4 f5 f6 f7 f8 f9 f10 f11 f12
        have hx1w := HX.out wE hbE
        obtain ⟨hcM, hcR, hc0⟩ := hx1w
        have HMe := Lib.hid (HMs.out.kept hbE)
        have HOe := Lib.hid (HOs.out.below hbE)
        clear hbE HX HMs HOs
        go_wp2
        go_still_tail 12, mixedM
        change wpList _ _ _ _ _ wE.drew
        have HMf := Lib.hid (HMe.out.kept (Below.refl _ _).drew)
        have HOf := Lib.hid (HOe.out.below (Below.refl _ _).drew)
        clear hcM hcR hc0 HMe HOe
        generalize wE.drew = wf at *
        obtain ⟨hc0, hcb⟩ := HMf.out.cell hlt (j := 0) (Nat.zero_le _)
        unfold rmV at hc0
        rw [if_pos HZ0.out, ← HSI.out] at hc0
        dsimp only at hc0
        rw [if_pos ⟨rfl, rfl⟩] at hc0
        rw [← HSI.out] at hcb
        have HMg : Hid (Rmy (wf.setCell ⟨si, 0, none⟩ (.int .u8 (x0 : Int))) B n (some ⟨bM, oM, none⟩) (some ⟨bR, oR, none⟩) cM cR S C L g) := Lib.hid (by
          have h1 := HMf.out.set hlt HZ0.out x0
          rw [← HSI.out] at h1
          refine h1.congr fun a ha b hb => ?_
          by_cases c : a = i ∧ b = 0
          · rw [if_pos c, c.1, c.2, HX0.out]
          · rw [if_neg c, if_neg c])
        have HOg : Hid (Only (fun k => ∃ i, i < n ∧ k = S i) w (wf.setCell ⟨si, 0, none⟩ (.int .u8 (x0 : Int)))) := Lib.hid (HOf.out.setCell (.inl ⟨i, hlt, HSI.out⟩) _)
        clear HMf HOf
        go_wp2
        go_roundg (n - (i + 1))
        case measure => omega
        case rel => exact ⟨i + 1, by omega, rfl, by go_num, HMg.out, HOg.out⟩
    · obtain rfl : n = i := by omega
      have HM := Lib.hid hM; have HO := Lib.hid hO
      clear hM hO
      go_wp2
      go_ret
      exact ⟨rfl, HM.out, HO.out⟩
end Go.Proofs.Ytpocjpodeahanaa

/- roomyRow: a list with eight marks behind it; is it as before? Conditions: numbers below 256. -/
namespace Go.Proofs.Ytpocjpodeahanaa
open Go.RowKit

def rrV (n : Nat) (g : Nat → Nat) (j : Nat) : Value := .int .u8 (((if j < n then g j else 90 + (j - n)) : Nat) : Int)
set_option maxRecDepth 100000 in
set_option maxHeartbeats 4000000 in
theorem roomyRow_any (A : Option Addr) (n cA : Nat) (g : Nat → Nat) (w : World) (hn : n * 8 ≤ 140737488351232) (hg : ∀ i, i < n → g i < 256) (hA : Rd w A n fun i => .int .i64 (g i)) :
    Calls Try.prog 63 #[.slice A n cA] w fun e w' => ∃ Av cv, e = .returned (.slice Av (n + 8) cv) ∧ n + 8 ≤ cv ∧ Own w' w.heap.size 34 1 (.slice Av (n + 8) cv) (n + 8) (fun j => [rrV n g j]) ∧ Below w.heap.size w w' := by
  have HEL := Lib.hid (elems_any A n cA g w (by omega) hg hA)
  clear hA hg
  go_enter Try.func63, Try.ntmps63
  go_wp2_with fail
  refine HEL.out.mono ?_
  rintro e w1 ⟨v0, rfl, hO0, hb1⟩
  have HO0 : Hid (Own w1 w.heap.size 34 1 v0 n (fun j => [rrV n g j])) := Lib.hid (hO0.congr fun j hj => by unfold rrV; rw [if_pos hj])
  have HB1 := Lib.hid hb1
  clear hO0 hb1 HEL
  go_wp2
  go_loopg [3, 4] 8 (fun gk xv vi wr => ∃ (i : Nat) (v : Value), v = xv ∧ i ≤ 8 ∧ gk = 8 - i ∧ vi = .int .i64 i ∧ Own wr w.heap.size 34 1 v (n + i) (fun j => [rrV n g j]) ∧ Below w.heap.size w wr)
  case atStart => exact ⟨0, _, rfl, Nat.zero_le _, rfl, rfl, HO0.out, HB1.out⟩
  case round =>
    clear HO0 HB1
    obtain ⟨i, v, rfl, hi, rfl, rfl, hO, hb⟩ := hrel
    have hsz := hb.size
    by_cases hlt : i < 8
    · have HO := Lib.hid hO; have HB := Lib.hid hb
      have hw : ((90 : Int) + (i : Int)) % 256 = (90 : Int) + (i : Int) := by omega
      have hu : Hid ((#[Value.int .u8 ((90 : Int) + (i : Int))] : Array Value).toList = [rrV n g (n + i)]) := Lib.hid (by
        unfold rrV
        rw [if_neg (by omega), show n + i - n = i from by omega, show (((90 + i : Nat)) : Int) = (90 : Int) + (i : Int) from by omega])
      clear hO hb
      go_wp2_with (at_builtin; refine wpList_pushX _ rfl (.tmp 11) (.tmp 15) 62 rfl w.heap.size 34 1 1 (.int .u8 0) #[.int .u8 ((90 : Int) + (i : Int))] Try.underlying62 a3Inf rfl _ (n + i) _ rfl HO.out hsz _ rfl rfl hu.out rfl rfl (by omega) (by omega) ?_)
      intro v2 w2 hO2 hb2 _
      have HO2 := Lib.hid hO2
      have HB2 := Lib.hid (HB.out.trans hb2)
      clear hO2 hb2 HO HB hu
      go_wp2
      go_roundg (8 - (i + 1))
      case measure => omega
      case rel => exact ⟨i + 1, v2, rfl, by omega, rfl, by go_num, HO2.out, HB2.out⟩
    · obtain rfl : i = 8 := by omega
      obtain ⟨Av, cv, rfl, hcv, _, _, _⟩ := hO.rd
      have HO := Lib.hid hO; have HB := Lib.hid hb
      clear hO hb
      go_wp2
      go_ret
      exact ⟨Av, cv, rfl, hcv, HO.out, HB.out⟩
set_option maxRecDepth 100000 in
set_option maxHeartbeats 4000000 in
theorem asBefore_any (A Av : Option Addr) (n cA cv B : Nat) (g : Nat → Nat) (w : World) (hn : n * 8 ≤ 140737488351232) (hg : ∀ i, i < n → g i < 256) (hc : n + 8 ≤ cv) (hO : Own w B 34 1 (.slice Av (n + 8) cv) (n + 8) (fun j => [rrV n g j])) (hA : Rd w A n fun i => .int .i64 (g i)) :
    Calls Try.prog 65 #[.slice Av (n + 8) cv, .slice A n cA] w fun e w' => e = .returned (.bool true) ∧ Dr w w' := by
  have hrd : Rd w Av (n + 8) (fun j => rrV n g j) := by
    obtain ⟨A', c', e, _, _, hr, _⟩ := hO.rd
    injection e with e _ _
    rw [e]; exact hr
  have HRD := Lib.hid hrd
  have HLK := Lib.hid (likeElems_any Av A n cv cA g w (by omega) hg (fun i hi => by
    obtain ⟨b, o, e, hb, hcc⟩ := hrd i (by omega)
    refine ⟨b, o, e, hb, ?_⟩
    rw [hcc]
    show some (rrV n g i) = _
    unfold rrV
    rw [if_pos hi]) hA)
  obtain ⟨n8, hn8⟩ : ∃ n8, n8 = n + 8 := ⟨_, rfl⟩
  have HN8 := Lib.hid hn8
  rw [← hn8] at hc HRD ⊢
  have hq1 : (0 : Int) ≤ (n : Int) := by omega
  have hq2 : (n : Int) ≤ (cv : Int) := by omega
  clear hO hA hrd hn8 hg
  go_enter Try.func65, Try.ntmps65
  go_wp2_with fail
  refine HLK.out.mono ?_
  rintro e w1 ⟨rfl, hd1⟩
  have HD1 := Lib.hid hd1
  clear hd1 HLK
  go_wp2
  go_loopg [5] 8 (fun gk vi wr => ∃ i : Nat, i ≤ 8 ∧ gk = 8 - i ∧ vi = .int .i64 i ∧ Dr w wr)
  case atStart => exact ⟨0, Nat.zero_le _, rfl, rfl, HD1.out⟩
  case round =>
    clear HD1
    obtain ⟨i, hi, rfl, rfl, hd⟩ := hrel
    by_cases hlt : i < 8
    · obtain ⟨b, o, rfl, hb, hcc⟩ := HRD.out (n + i) (by have := HN8.out; omega)
      have hcc2 : wr.cell? ⟨b, o + (n + i), none⟩ = some (.int .u8 ((90 : Int) + (i : Int))) := by
        rw [hd.cell, hcc]
        show some (rrV n g (n + i)) = _
        unfold rrV
        rw [if_neg (by omega), show n + i - n = i from by omega, show (((90 + i : Nat)) : Int) = (90 : Int) + (i : Int) from by omega]
      obtain ⟨m, hm⟩ : ∃ m, m = n + i := ⟨_, rfl⟩
      rw [← hm] at hcc2
      have hs1 : (n : Int) + (i : Int) = (m : Int) := by omega
      have hwm : IntKind.i64.wrap (m : Int) = (m : Int) := by rw [IntKind.wrap_i64]; omega
      have hw : ((90 : Int) + (i : Int)) % 256 = (90 : Int) + (i : Int) := by omega
      have hm8 : m < n8 := by have := HN8.out; omega
      have HD := Lib.hid hd
      clear hd hb hcc hm
      go_wp2
      go_roundg (8 - (i + 1))
      case measure => omega
      case rel => exact ⟨i + 1, by omega, rfl, by go_num, HD.out⟩
    · obtain rfl : i = 8 := by omega
      have HD := Lib.hid hd
      clear hd
      go_wp2
      go_ret
      exact ⟨rfl, HD.out⟩
end Go.Proofs.Ytpocjpodeahanaa
