/- lent, lentRows of layer 10: the walks. Conditions: lengths that memory bears. -/
import Derived.Test.YtjaaldandgfkgaaLnt0
namespace Go.Proofs.Ytjaaldandgfkgaa
open Go.RowKit

/-- A list with its marks. -/
def mkd (n : Nat) (g : Nat → Nat) (j : Nat) : Nat := if j < n then g j else 201 + (j - n) % 7
set_option maxRecDepth 20000 in
set_option maxHeartbeats 1000000 in
theorem lent_any (A : Option Addr) (n c : Nat) (g : Nat → Nat) (w : World) (hn : n ≤ 140737488351232) (hA : Rd w A n fun i => .int .u8 (g i)) :
    Calls Try.prog 20 #[.slice A n c] w fun e w' => ∃ S C, e = .returned (.slice (some ⟨S, 0, none⟩) n C) ∧ Own w' w.heap.size 5 1 (.slice (some ⟨S, 0, none⟩) (n + 64) C) (n + 64) (fun j => [.int .u8 (mkd n g j)]) ∧ Below w.heap.size w w' ∧ w.heap.size ≤ S ∧ n + 64 ≤ C := by
  go_enter Try.func20, Try.ntmps20
  go_wp2_with (at_builtin; refine wpList_appendRd rfl (.tmp 5) (.tmp 6) 43 rfl w.heap.size 5 1 (.int .u8 0) Try.underlying43 byteInfo rfl rfl (Nat.le_refl _) A n c (fun j => .int .u8 (g j)) rfl hA (fun _ _ => rfl) (by omega) (by omega) ?_)
  intro v' w1 hO hb
  have hO : Own w1 w.heap.size 5 1 v' (n + 0) (fun j => [.int .u8 (mkd n g j)]) := hO.congr fun i hi => by unfold mkd; rw [if_pos hi]
  clear hA
  go_wp2
  go_loopg [3, 4] 64 (fun gk v i wr => ∃ k : Nat, k ≤ 64 ∧ gk = 64 - k ∧ i = .int .i64 k ∧ Own wr w.heap.size 5 1 v (n + k) (fun j => [.int .u8 (mkd n g j)]) ∧ Below w.heap.size w wr)
  case atStart => exact ⟨0, Nat.zero_le _, rfl, rfl, hO, hb⟩
  case round =>
    clear hO hb
    obtain ⟨k, hk, rfl, rfl, hO, hb⟩ := hrel
    have hsz := hb.size
    by_cases hlt : k < 64
    · have hu : Hid ((#[Value.int .u8 (201 + (k : Int) % 7)] : Array Value).toList = [.int .u8 (mkd n g (n + k) : Nat)]) := by
        unfold mkd; rw [if_neg (by omega), show n + k - n = k by omega]; rfl
      go_wp2_with (at_builtin; refine wpList_push _ rfl (.tmp 12) (.tmp 17) 43 rfl w.heap.size 5 1 1 (.int .u8 0) #[.int .u8 (201 + (k : Int) % 7)] Try.underlying43 byteInfo rfl (by decide) _ (n + k) _ rfl hO hsz _ rfl rfl hu.out rfl rfl (by omega) (by omega) ?_)
      intro v2 w2 hO2 hb2 _ _
      have hbb := hb.trans hb2
      clear hO hb hb2 hu
      go_wp2
      go_roundg (64 - (k + 1))
      case measure => omega
      case rel => exact ⟨k + 1, by omega, rfl, by go_num, hO2, hbb⟩
    · have hk64 : k = 64 := by omega
      subst hk64
      obtain ⟨S, C, hv, hS, _, hC, _⟩ := hO.form (by omega)
      subst hv
      have hs1 : (0 : Int) ≤ (n : Int) := by omega
      have hs2 : (n : Int) ≤ (C : Int) := by omega
      have HO := Lib.hid hO; have HB := Lib.hid hb
      clear hO hb
      go_wp2
      go_ret
      exact ⟨S, C, rfl, HO.out, HB.out, hS, hC⟩

/-- Rows that the call has made, each known further than it says; N in all. -/
structure LentW (w : World) (B : Nat) (v : Value) (N : Nat) (S L C M : Nat → Nat) (f : Nat → Nat → Nat) : Prop where
  top : Own w B 43 1 v N (fun i => [.slice (some ⟨S i, 0, none⟩) (L i) (C i)])
  row : ∀ i, i < N → Own w B 5 1 (.slice (some ⟨S i, 0, none⟩) (M i) (C i)) (M i) (fun j => [.int .u8 (f i j)])
  inj : ∀ i j, i < N → j < N → S i = S j → i = j
theorem LentW.nil (w : World) (B : Nat) (S L C M : Nat → Nat) (f : Nat → Nat → Nat) : LentW w B (.slice none 0 0) 0 S L C M f := ⟨Own.nil _ _ _ _ _, fun i hi => absurd hi (by omega), fun i j hi => absurd hi (by omega)⟩
theorem LentW.kept {w w' : World} {B : Nat} {v : Value} {N : Nat} {S L C M : Nat → Nat} {f : Nat → Nat → Nat} (h : LentW w B v N S L C M f) (hb : Below w.heap.size w w') : LentW w' B v N S L C M f :=
  ⟨h.top.kept hb, fun i hi => (h.row i hi).kept hb, h.inj⟩
theorem LentW.next {w : World} {B : Nat} {v : Value} {N : Nat} {S L C M : Nat → Nat} {f : Nat → Nat → Nat} (h : LentW w B v N S L C M f) (s c : Nat) : LentW w B v N (upd S N s) L (upd C N c) M f :=
  ⟨h.top.congr fun i hi => by rw [upd_ne _ _ _ (by omega), upd_ne _ _ _ (by omega)], fun i hi => by rw [upd_ne _ _ _ (by omega), upd_ne _ _ _ (by omega)]; exact h.row i hi, fun i j hi hj => by rw [upd_ne _ _ _ (by omega), upd_ne _ _ _ (by omega)]; exact h.inj i j hi hj⟩
/-- Behind the append of a row made since w0. -/
theorem LentW.push {w0 w w' : World} {B : Nat} {v v' : Value} {k : Nat} {S L C M : Nat → Nat} {f : Nat → Nat → Nat} (h : LentW w B v k S L C M f) (h0 : ∀ i, i < k → S i < w0.heap.size) (hk : w0.heap.size ≤ S k)
    (hr : Own w B 5 1 (.slice (some ⟨S k, 0, none⟩) (M k) (C k)) (M k) (fun j => [.int .u8 (f k j)])) (hown : Own w' B 43 1 v' (k + 1) (fun i => [.slice (some ⟨S i, 0, none⟩) (L i) (C i)])) (hg : w.grownBy w' v.ownBlock) : LentW w' B v' (k + 1) S L C M f :=
  ⟨hown, fun i hi => by
    by_cases e1 : i = k
    · subst e1; exact hr.keptRow hg (own_ne hr h.top (by decide))
    · exact (h.row i (by omega)).keptRow hg (own_ne (h.row i (by omega)) h.top (by decide)), fun i j hi hj e => by
    by_cases ei : i = k
    · by_cases ej : j = k
      · omega
      · subst ei; have := h0 j (by omega); omega
    · by_cases ej : j = k
      · subst ej; have := h0 i (by omega); omega
      · exact h.inj i j (by omega) (by omega) e⟩
theorem LentW.lt {w : World} {B : Nat} {v : Value} {N : Nat} {S L C M : Nat → Nat} {f : Nat → Nat → Nat} (h : LentW w B v N S L C M f) : ∀ i, i < N → S i < w.heap.size := fun i hi => ((h.row i hi).lt (S i) rfl).2
/-- The first n rows, read. -/
theorem LentW.rdm {w : World} {B T cT n : Nat} {N : Nat} {S L C M : Nat → Nat} {f : Nat → Nat → Nat} (h : LentW w B (.slice (some ⟨T, 0, none⟩) N cT) N S L C M f) (hn : n ≤ N) (hL : ∀ i, i < n → L i ≤ M i) : RdM w (some ⟨T, 0, none⟩) n L (fun i j => .int .u8 (f i j)) := by
  refine ⟨fun i => some ⟨S i, 0, none⟩, C, fun i hi => ⟨T, 0, rfl, (h.top.lt T rfl).2, by rw [Nat.zero_add]; exact h.top.cell1 (by omega)⟩, fun i hi j hj => ⟨S i, 0, rfl, h.lt i (by omega), by rw [Nat.zero_add]; exact (h.row i (by omega)).cell1 (by have := hL i hi; omega)⟩⟩
/-- A byte is written over. -/
theorem LentW.set {w : World} {B : Nat} {v : Value} {N : Nat} {S L C M : Nat → Nat} {f : Nat → Nat → Nat} (h : LentW w B v N S L C M f) {i j x : Nat} (hi : i < N) (hj : j < M i) : LentW (w.setCell ⟨S i, j, none⟩ (.int .u8 x)) B v N S L C M (fun a b => if a = i ∧ b = j then x else f a b) := by
  refine ⟨h.top.setOther (a := ⟨S i, j, none⟩) (fun e => ?_) _, fun k hk => ?_, h.inj⟩
  · have h1 := own_ne (h.row i hi) h.top (by decide)
    rcases h1 with h1 | h1
    · simp [Value.ownBlock] at h1
    · exact h1 (by rw [e]; rfl)
  · by_cases e : k = i
    · subst e
      exact ((h.row k hk).set1 hj _).congr fun q _ => by by_cases e : q = j <;> simp [e]
    · refine ((h.row k hk).setOther (a := ⟨S i, j, none⟩) (fun e2 => ?_) _).congr fun q _ => by simp [e]
      have e2 : some (S k) = some (S i) := e2
      injection e2 with e2
      exact e (h.inj k i hk hi e2)

/-- What is behind the rows: lengths, how far each is known, the bytes. -/
def lnL (n : Nat) (L : Nat → Nat) (i : Nat) : Nat := if i < n then L i else 1
def lnM (n : Nat) (L : Nat → Nat) (i : Nat) : Nat := if i < n then L i + 64 else 1
def lnF (n : Nat) (L : Nat → Nat) (g : Nat → Nat → Nat) (i j : Nat) : Nat := if i < n then mkd (L i) (g i) j else 77

set_option maxRecDepth 20000 in
set_option maxHeartbeats 1000000 in
theorem lentRows_any (A : Option Addr) (n c : Nat) (L : Nat → Nat) (g : Nat → Nat → Nat) (w : World) (hn : n * 24 ≤ 140737488351232) (hL : ∀ i, i < n → L i ≤ 140737488351232) (hA : RdM w A n L fun i j => .int .u8 (g i j)) :
    Calls Try.prog 57 #[.slice A n c] w fun e w' => ∃ T cT S C, e = .returned (.slice (some ⟨T, 0, none⟩) n cT) ∧ LentW w' w.heap.size (.slice (some ⟨T, 0, none⟩) (n + 64) cT) (n + 64) S (lnL n L) C (lnM n L) (lnF n L g) ∧ Below w.heap.size w w' ∧ n + 64 ≤ cT ∧ ∀ i, i < n + 64 → lnM n L i ≤ C i := by
  obtain ⟨SA, CA, hA1, hA2⟩ := hA
  have HL := Lib.hid hL; clear hL
  have HA1 := Lib.hid hA1; have HA2 := Lib.hid hA2; clear hA1 hA2
  go_enter Try.func57, Try.ntmps57
  go_wp2
  go_loopg [3, 4] n (fun gk v i wr => ∃ (k : Nat) (S C : Nat → Nat), k ≤ n ∧ gk = n - k ∧ i = .int .i64 k ∧ LentW wr w.heap.size v k S (lnL n L) C (lnM n L) (lnF n L g) ∧ Below w.heap.size w wr ∧ ∀ i, i < k → lnM n L i ≤ C i)
  case atStart => exact ⟨0, fun _ => 0, fun _ => 0, Nat.zero_le _, rfl, rfl, LentW.nil _ _ _ _ _ _ _, Below.refl _ _, fun i hi => absurd hi (by omega)⟩
  case round =>
    obtain ⟨k, S, C, hk, rfl, rfl, hO, hb, hC⟩ := hrel
    have hsz := hb.size
    by_cases hlt : k < n
    · obtain ⟨b, o, rfl, hb1, hc⟩ := HA1.out k hlt
      have hc' : wr.cell? ⟨b, o + k, none⟩ = some (.slice (SA k) (L k) (CA k)) := (hb.cell hb1).trans hc
      have hrow : Rd wr (SA k) (L k) (fun j => .int .u8 (g k j)) := (HA2.out k hlt).below hb
      have hLk := HL.out k hlt
      have HC := Lib.hid hC
      clear hc hC
      go_wp2_with fail
      refine (lent_any (SA k) (L k) (CA k) (g k) wr hLk hrow).mono ?_
      rintro e w1 ⟨s, c1, rfl, hs, hbs, hs0, hs1⟩
      have hO1 := (hO.kept hbs).next s c1
      have hlts : Hid (∀ i, i < k → upd S k s i < wr.heap.size) := fun i hi => by rw [upd_ne _ _ _ (by omega)]; exact hO.lt i hi
      have hsk : wr.heap.size ≤ upd S k s k := by rw [upd_at]; exact hs0
      have hr : Own w1 w.heap.size 5 1 (.slice (some ⟨upd S k s k, 0, none⟩) (lnM n L k) (upd C k c1 k)) (lnM n L k) (fun j => [.int .u8 (lnF n L g k j)]) := by
        rw [upd_at, upd_at]; unfold lnM lnF; rw [if_pos hlt]; exact (hs.mono hsz).congr fun j _ => by rw [if_pos hlt]
      have hu : Hid ((#[Value.slice (some ⟨s, 0, none⟩) (L k) c1] : Array Value).toList = [.slice (some ⟨upd S k s k, 0, none⟩) (lnL n L k) (upd C k c1 k)]) := by rw [upd_at, upd_at]; unfold lnL; rw [if_pos hlt]; rfl
      have hCn : Hid (∀ i, i < k + 1 → lnM n L i ≤ upd C k c1 i) := fun i hi => by
        by_cases e : i = k
        · subst e; rw [upd_at]; unfold lnM; rw [if_pos hlt]; exact hs1
        · rw [upd_ne _ _ _ e]; exact HC.out i (by omega)
      have hb1' := hb.trans (hbs.mono hsz)
      have hsz1 := hb1'.size
      clear hO hs hbs hb hc' hrow HC
      go_wp2_with (at_builtin; refine wpList_push _ rfl (.tmp 12) (.tmp 18) 67 rfl w.heap.size 43 1 24 (.slice none 0 0) #[.slice (some ⟨s, 0, none⟩) (L k) c1] Try.underlying67 bytesInfo rfl (by decide) _ k _ rfl hO1.top hsz1 _ rfl rfl hu.out rfl rfl (by omega) (by omega) ?_)
      intro v' w2 hown2 hbel2 hg2 _
      have hO2 := hO1.push (w0 := wr) hlts.out hsk hr hown2 hg2
      have hbF := hb1'.trans hbel2
      clear hO1 hr hown2 hg2 hbel2 hb1' hlts
      go_wp2
      go_roundg (n - (k + 1))
      case measure => omega
      case rel => exact ⟨k + 1, _, _, by omega, rfl, by go_num, hO2, hbF, hCn.out⟩
    · have hkn : k = n := by omega
      subst k
      have HC := Lib.hid hC
      clear hC
      go_wp2
      go_loopg [3, 5] 64 (fun gk v i wr => ∃ (k : Nat) (S C : Nat → Nat), k ≤ 64 ∧ gk = 64 - k ∧ i = .int .i64 k ∧ LentW wr w.heap.size v (n + k) S (lnL n L) C (lnM n L) (lnF n L g) ∧ Below w.heap.size w wr ∧ ∀ i, i < n + k → lnM n L i ≤ C i)
      case atStart => exact ⟨0, S, C, Nat.zero_le _, rfl, rfl, hO, hb, HC.out⟩
      case round =>
        clear hO hb HC
        obtain ⟨k, S, C, hk, rfl, rfl, hO, hb, hC⟩ := hrel
        have hsz := hb.size
        by_cases hlt : k < 64
        · have hal := (Below.refl wr.heap.size wr).alloc (Nat.le_refl _) (.cells #[.int .u8 77] 5)
          have hO1 := (hO.kept hal).next wr.heap.size 1
          have hlts : Hid (∀ i, i < n + k → upd S (n + k) wr.heap.size i < wr.heap.size) := fun i hi => by rw [upd_ne _ _ _ (by omega)]; exact hO.lt i hi
          have hsk : Hid (wr.heap.size ≤ upd S (n + k) wr.heap.size (n + k)) := by rw [upd_at]; exact Nat.le_refl _
          have hr : Own (wr.alloc (.cells #[.int .u8 77] 5)) w.heap.size 5 1 (.slice (some ⟨upd S (n + k) wr.heap.size (n + k), 0, none⟩) (lnM n L (n + k)) (upd C (n + k) 1 (n + k))) (lnM n L (n + k)) (fun j => [.int .u8 (lnF n L g (n + k) j)]) := by
            rw [upd_at, upd_at]
            have e : lnM n L (n + k) = 1 := if_neg (by omega)
            rw [e]
            exact (own_of_row (World.rowIs_alloc wr #[.int .u8 77] 5 (fun _ => .int .u8 77) (by intro i hi; match i, hi with | 0, _ => rfl)) hsz (by decide)).congr fun j _ => by unfold lnF; rw [if_neg (by omega)]; rfl
          have hu : Hid ((#[Value.slice (some ⟨wr.heap.size, 0, none⟩) 1 1] : Array Value).toList = [.slice (some ⟨upd S (n + k) wr.heap.size (n + k), 0, none⟩) (lnL n L (n + k)) (upd C (n + k) 1 (n + k))]) := by rw [upd_at, upd_at]; unfold lnL; rw [if_neg (by omega)]; rfl
          have hCn : Hid (∀ i, i < n + (k + 1) → lnM n L i ≤ upd C (n + k) 1 i) := fun i hi => by
            by_cases e : i = n + k
            · subst e; rw [upd_at]; unfold lnM; rw [if_neg (by omega)]; exact Nat.le_refl _
            · rw [upd_ne _ _ _ e]; exact hC i (by omega)
          have hb1' := hb.trans (hal.mono hsz)
          have hsz1 := hb1'.size
          have HR := Lib.hid hr
          clear hO hb hC hal hr
          go_wp2_with (at_builtin; refine wpList_push _ rfl (.tmp 24) (.tmp 26) 67 rfl w.heap.size 43 1 24 (.slice none 0 0) #[.slice (some ⟨wr.heap.size, 0, none⟩) 1 1] Try.underlying67 bytesInfo rfl (by decide) _ (n + k) _ rfl hO1.top hsz1 (wr.heap.size + 1) (by simp) rfl hu.out rfl rfl (by omega) (by omega) ?_)
          intro v' w2 hown2 hbel2 hg2 _
          have hO2 := Lib.hid (hO1.push (w0 := wr) hlts.out hsk.out HR.out hown2 hg2)
          have hbF := hb1'.trans hbel2
          clear hO1 HR hown2 hg2 hbel2 hb1' hlts hsk hu
          go_wp2
          go_roundg (64 - (k + 1))
          case measure => omega
          case rel => exact ⟨k + 1, _, _, by omega, rfl, by go_num, hO2.out, hbF, hCn.out⟩
        · have hk64 : k = 64 := by omega
          subst hk64
          obtain ⟨T, cT, hv, _, _, hcT, _⟩ := hO.top.form (by omega)
          subst hv
          have hs1 : (0 : Int) ≤ (n : Int) := by omega
          have hs2 : (n : Int) ≤ (cT : Int) := by omega
          have HO := Lib.hid hO; have HB := Lib.hid hb; have HC := Lib.hid hC
          clear hO hb hC
          go_wp2
          go_ret
          exact ⟨T, cT, S, C, rfl, HO.out, HB.out, hcT, HC.out⟩
end Go.Proofs.Ytjaaldandgfkgaa
