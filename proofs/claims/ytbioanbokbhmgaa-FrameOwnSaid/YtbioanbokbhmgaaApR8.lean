/- Lists that are grown one by one, their beginnings kept, whose they are told by the place; lists of rows that are only grown. Conditions: rows that lie apart. -/
import Derived.Test.YtbioanbokbhmgaaApi
namespace Go.Proofs.Ytbioanbokbhmgaa
open Go.RowKit
section
variable {w0 w w' : World} {B0 sz e eh ti N i n ql qw : Nat} {S SL : Nat → Option Addr} {L C LL CL I : Nat → Nat} {F : Nat → Nat → List Value} {v v' vl vl' vw vw' : Value}
theorem GS.keepL0 {A : Option Addr} {c : Nat} (hF : ∀ t j, (F t j).length = sz) (h : GS w0 w B0 sz e eh ti N S L C F i n (.slice A n c) ql qw vl vw SL LL CL I) (hq : qw ≤ ql) (hA : Apt N S) (hi : i < N) (hne : eh ≠ ti) (hnb : n ≤ 1000000000000000)
    (ho : Own w' w0.heap.size eh 1 vl' (ql + 1) (fun m => [.slice (upd SL ql A m) (upd LL ql n m) (upd CL ql c m)])) (hg : Grw w w' vl vl') : GS w0 w' B0 sz e eh ti N S L C F i n (.slice A n c) (ql + 1) qw vl' vw (upd SL ql A) (upd LL ql n) (upd CL ql c) (upd I ql i) := by
  have h0 := h.only.size
  have hv : ∀ s, vl.ownBlock = some s → (Value.slice A n c).ownBlock ≠ some s := fun s hs e1 => h.dvl s e1 hs
  have hown' := h.own.keptRow hg.gr (ne_or hv)
  have hb : ∀ t, t < N → ∀ s o, S t = some ⟨s, o, none⟩ → vl.ownBlock ≠ some s := fun t ht s o es e1 => by
    have h1 := h.inb t ht s o es
    have h2 := (h.long.lt s e1).1
    omega
  have hvb : ∀ s o, A = some ⟨s, o, none⟩ → (Value.slice A n c).ownBlock = some s := fun s o ea => (h.own.off ea).2
  refine ⟨hown', h.blk, fun t ht htN => (h.rows t ht htN).keptRow hg.gr (ne_or fun s hs e1 => ?_), fun t ht => (h.base t ht).other (hb t ht) hg.gr, h.inb, ho, (h.who.keptRow hg.gr ?_).congr fun m hm => by rw [upd_ne _ _ _ (by omega)], fun m hm => ?_, fun s hs => hg.ne ?_ (h.dvl s hs), h.dvw, fun m hm s o ea => ?_, fun m hm s o ea => ?_, fun m hm => ?_, h.only.grown hg.gr fun k e1 => .inr (h.long.lt k e1).1⟩
  · exact hb t htN s 0 ((h.rows t ht htN).blkA e1) hs
  · exact own_ne h.who h.long (fun e1 => hne e1.symm)
  · by_cases em : m = ql
    · subst em
      rw [upd_at, upd_at, upd_at]
      refine ⟨hi, It.of_own hF hown' (fun s _ _ => ⟨rfl, Nat.le_refl _⟩), fun t ht htN k o o' es ea => ?_⟩
      rcases h.blk k (hvb k o' ea) with ⟨o2, e3⟩ | e3
      · have := hA t i htN hi k o o2 es e3
        omega
      · have := h.inb t htN k o es
        omega
    · rw [upd_ne _ _ _ em, upd_ne _ _ _ em, upd_ne _ _ _ em]
      obtain ⟨k1, k2, k3⟩ := h.kept m (by omega)
      exact ⟨k1, k2.other (h.dkl m (by omega)) hg.gr, k3⟩
  · exact (h.own.lt s hs).2
  · by_cases em : m = ql
    · subst em
      rw [upd_at] at ea
      exact hg.ne (h.own.lt s (hvb s o ea)).2 (h.dvl s (hvb s o ea))
    · rw [upd_ne _ _ _ em] at ea
      exact hg.ne ((h.kept m (by omega)).2.1.2 s o ea).1 (h.dkl m (by omega) s o ea)
  · by_cases em : m = ql
    · subst em
      rw [upd_at] at ea
      exact h.dvw s (hvb s o ea)
    · rw [upd_ne _ _ _ em] at ea
      exact h.dkw m (by omega) s o ea
  · by_cases em : m = ql
    · subst em
      rw [upd_at]; exact hnb
    · rw [upd_ne _ _ _ em]
      exact h.lenb m (by omega)
theorem GX.keepL0 {A : Option Addr} {c : Nat} (hF : ∀ t j, (F t j).length = sz) (h : GX w0 w B0 sz e eh ti N S L C F i n (.slice A n c) ql qw vl vw SL LL CL I) (hq : qw ≤ ql) (hA : Apt N S) (hi : i < N) (hne : eh ≠ ti) (hnb : n ≤ 1000000000000000)
    (ho : Own w' w0.heap.size eh 1 vl' (ql + 1) (fun m => [.slice (upd SL ql A m) (upd LL ql n m) (upd CL ql c m)])) (hg : Grw w w' vl vl') : GX w0 w' B0 sz e eh ti N S L C F i n (.slice A n c) (ql + 1) qw vl' vw (upd SL ql A) (upd LL ql n) (upd CL ql c) (upd I ql i) :=
  ⟨h.1.keepL0 hF hq hA hi hne hnb ho hg, h.2.1, fun m hm e => by
    by_cases em : m = ql
    · subst em; rw [upd_at]; exact Nat.le_refl _
    · rw [upd_ne _ _ _ em] at e ⊢
      exact h.2.2 m (by omega) e⟩
end
/-- What a list of rows holds: first what it held, then rows that were made for it. -/
def rF (f : Nat → Nat → Value) (L : Nat → Nat) (el : Nat → Nat → Array Value) (bk : Nat → Nat → Nat) (t q : Nat) : List Value := [if q < L t then f t q else eV el bk t q]
theorem rF_len (f : Nat → Nat → Value) (L : Nat → Nat) (el : Nat → Nat → Array Value) (bk : Nat → Nat → Nat) (t q : Nat) : (rF f L el bk t q).length = 1 := rfl
def rQ (N W : Nat) (L : Nat → Nat) (i k t q : Nat) : Prop := t < N ∧ L t ≤ q ∧ ((t < i ∧ q < L t + W) ∨ (t = i ∧ q < L t + k))
def RB8 (w0 w : World) (B0 e B eh ti N W : Nat) (S : Nat → Option Addr) (L C : Nat → Nat) (f : Nat → Nat → Value) (el : Nat → Nat → Array Value) (i ql : Nat) (vl : Value) (SL : Nat → Option Addr) (LL CL I : Nat → Nat) (bk : Nat → Nat → Nat) : Prop :=
  GB w0 w B0 1 e eh ti N S L C (rF f L el bk) i ql 0 vl (.slice none 0 0) SL LL CL I ∧ EB w0 w B (rQ N W L i 0) bk el ∧ KX W L LL I i ql
def RS8 (w0 w : World) (B0 e B eh ti N W : Nat) (S : Nat → Option Addr) (L C : Nat → Nat) (f : Nat → Nat → Value) (el : Nat → Nat → Array Value) (i k : Nat) (v : Value) (ql : Nat) (vl : Value) (SL : Nat → Option Addr) (LL CL I : Nat → Nat) (bk : Nat → Nat → Nat) (p : Nat) : Prop :=
  GX w0 w B0 1 e eh ti N S L C (rF f L el bk) i (L i + k) v ql 0 vl (.slice none 0 0) SL LL CL I ∧ EB w0 w B (rQ N W L i p) bk el ∧ KX W L LL I (i + 1) ql
section
variable {w0 w w' : World} {B0 e B eh ti N W i k ql p : Nat} {S SL : Nat → Option Addr} {L C LL CL I : Nat → Nat} {f : Nat → Nat → Value} {el : Nat → Nat → Array Value} {bk : Nat → Nat → Nat} {v v' vl vl' : Value}
theorem RB8.init (hR : ∀ t, t < N → Own w B0 e 1 (.slice (S t) (L t) (C t)) (L t) (fun q => [f t q])) : RB8 w w B0 e B eh ti N W S L C f el 0 0 (.slice none 0 0) (fun _ => none) (fun _ => 0) (fun _ => 0) (fun _ => 0) (fun _ _ => 0) := by
  have hrow : ∀ t, t < N → Own w B0 e 1 (.slice (S t) (L t) (C t)) (L t) (rF f L el (fun _ _ => 0) t) := fun t ht => (hR t ht).congr fun q hq => by
    unfold rF
    rw [if_pos hq]
  exact ⟨⟨fun t _ => hrow t, fun t ht => It.of_own (rF_len f L el _) (hrow t ht) (fun s _ hs => by cases hs), fun t ht s o es => ((hR t ht).lt s ((hR t ht).off es).2).2, Own.nil _ _ _ _ _, Own.nil _ _ _ _ _, fun m hm => absurd hm (Nat.not_lt_zero _), fun m hm => absurd hm (Nat.not_lt_zero _), fun m hm => absurd hm (Nat.not_lt_zero _), fun m hm => absurd hm (Nat.not_lt_zero _), Only.refl _ _⟩, fun t q hp => by unfold rQ at hp; omega, fun m hm => absurd hm (Nat.not_lt_zero _)⟩
theorem RB8.start (h : RB8 w0 w B0 e B eh ti N W S L C f el i ql vl SL LL CL I bk) (hA : Apt N S) (hi : i < N) : RS8 w0 w B0 e B eh ti N W S L C f el i 0 (.slice (S i) (L i) (C i)) ql vl SL LL CL I bk 0 :=
  ⟨h.1.startX hA hi fun m hm => (h.2.2 m hm).1, h.2.1, fun m hm => ⟨by have := (h.2.2 m hm).1; omega, (h.2.2 m hm).2⟩⟩
theorem RS8.stop (h : RS8 w0 w B0 e B eh ti N W S L C f el i k v ql vl SL LL CL I bk W) : RB8 w0 w B0 e B eh ti N W S L C f el (i + 1) ql vl SL LL CL I bk :=
  ⟨h.1.1.stop, h.2.1.mono fun t q hp => by
    unfold rQ at hp ⊢
    by_cases e : t = i
    · subst e; omega
    · omega, h.2.2⟩
/-- An element is made. -/
theorem RS8.elem (h : RS8 w0 w B0 e B eh ti N W S L C f el i k v ql vl SL LL CL I bk k) {A : Array Value} (hel : el i (L i + k) = A) : RS8 w0 (w.alloc (.cells A B)) B0 e B eh ti N W S L C f el i k v ql vl SL LL CL I (upd2 bk i (L i + k) w.heap.size) (k + 1) :=
  ⟨GX.congrF ⟨h.1.1.below ((Below.refl _ _).alloc (Nat.le_refl _) _), h.1.2⟩ (fun t q ht => by unfold rF eV; rw [upd2_ne _ _ _ _ (fun c => ht c.1)]) (fun q hq => by unfold rF eV; rw [upd2_ne _ _ _ _ (fun c => by omega)]),
    h.2.1.new h.1.1.only.size hel fun t q hp => by
      unfold rQ at hp ⊢
      by_cases c : t = i ∧ q = L i + k
      · exact .inr c
      · refine .inl ⟨hp.1, hp.2.1, ?_⟩
        by_cases e : t = i
        · subst e; omega
        · omega, h.2.2⟩
theorem RS8.push (h : RS8 w0 w B0 e B eh ti N W S L C f el i k v ql vl SL LL CL I bk p) (hA : Apt N S) (hi : i < N) (hne : e ≠ B) (ho : Own w' B0 e 1 v' (L i + k + 1) (rF f L el bk i)) (hg : Grw w w' v v') : RS8 w0 w' B0 e B eh ti N W S L C f el i (k + 1) v' ql vl SL LL CL I bk p :=
  ⟨h.1.push (rF_len f L el bk) hA hi ho hg, h.2.1.grw h.1.1.own hne hg, h.2.2⟩
theorem RS8.keepL {A : Option Addr} {c n : Nat} (h : RS8 w0 w B0 e B eh ti N W S L C f el i k (.slice A n c) ql vl SL LL CL I bk p) (hn : n = L i + k) (hA : Apt N S) (hi : i < N) (hne : eh ≠ ti) (hne2 : eh ≠ B) (hk : k ≤ W) (hnb : n ≤ 1000000000000000)
    (ho : Own w' w0.heap.size eh 1 vl' (ql + 1) (fun m => [.slice (upd SL ql A m) (upd LL ql n m) (upd CL ql c m)])) (hg : Grw w w' vl vl') : RS8 w0 w' B0 e B eh ti N W S L C f el i k (.slice A n c) (ql + 1) vl' (upd SL ql A) (upd LL ql n) (upd CL ql c) (upd I ql i) bk p := by
  subst hn
  refine ⟨h.1.keepL0 (rF_len f L el bk) (Nat.zero_le _) hA hi hne hnb ho hg, h.2.1.grw h.1.1.long hne2 hg, fun m hm => ?_⟩
  by_cases em : m = ql
  · subst em; rw [upd_at, upd_at]; exact ⟨Nat.lt_succ_self _, by omega⟩
  · rw [upd_ne _ _ _ em, upd_ne _ _ _ em]; exact h.2.2 m (by omega)
/-- What stands at a place of a list that was kept, behind what the list held. -/
theorem RB8.item (h : RB8 w0 w B0 e B eh ti N W S L C f el N ql vl SL LL CL I bk) {m j : Nat} (hm : m < ql) (hl : L (I m) ≤ j) (hj : j < LL m) : ∃ b o, SL m = some ⟨b, o, none⟩ ∧ b < w.heap.size ∧ w.cell? ⟨b, o + j, none⟩ = some (eV el bk (I m) j) ∧ w.heap[bk (I m) j]? = some (.cells (el (I m) j) B) ∧ bk (I m) j < w.heap.size := by
  obtain ⟨k1, k2, _⟩ := h.1.kept m hm
  obtain ⟨b, o, e1, hb, hc⟩ := RdN.rd (f := fun q => if q < L (I m) then f (I m) q else eV el bk (I m) q) k2.1 j hj
  have hq : rQ N W L N 0 (I m) j := ⟨k1, hl, .inl ⟨k1, by have := (h.2.2 m hm).2; omega⟩⟩
  refine ⟨b, o, e1, hb, ?_, (h.2.1 _ _ hq).2, h.2.1.lt hq⟩
  rw [hc]
  show some (if j < L (I m) then _ else _) = _
  rw [if_neg (by omega)]
end
/-- Whose a beginning is, by its place. -/
def Pl (W : Nat) (I : Nat → Nat) (ql : Nat) : Prop := ∀ m, m < ql → I m = m / W
theorem Pl.nil (W : Nat) (I : Nat → Nat) : Pl W I 0 := fun _ hm => absurd hm (Nat.not_lt_zero _)
theorem Pl.next {W ql i k : Nat} {I : Nat → Nat} (h : Pl W I ql) (hq : ql = W * i + k) (hk : k < W) : Pl W (upd I ql i) (ql + 1) := fun m hm => by
  by_cases e : m = ql
  · subst e
    rw [upd_at, hq, Nat.mul_add_div (by omega), Nat.div_eq_of_lt hk, Nat.add_zero]
  · rw [upd_ne _ _ _ e]
    exact h m (by omega)
end Go.Proofs.Ytbioanbokbhmgaa

/- apartInts: lists of numbers, written full, grown, looked at. Conditions: lists that lie apart. -/
namespace Go.Proofs.Ytbioanbokbhmgaa
open Go.RowKit

def anV (L : Nat → Nat) (t q : Nat) : Value := .int .i64 (if q < L t then (-200 : Int) - (t : Int) else (1000 : Int) + (t : Int))
def anF (L : Nat → Nat) (t q : Nat) : List Value := [anV L t q]
theorem anF_len (L : Nat → Nat) (t q : Nat) : (anF L t q).length = 1 := rfl
def anM (f : Nat → Nat → Value) (i j t q : Nat) : Value := if t < i ∨ (t = i ∧ q < j) then .int .i64 ((-200 : Int) - (t : Int)) else f t q
set_option maxRecDepth 100000 in
set_option maxHeartbeats 8000000 in
theorem apartN_any (AN : Option Addr) (N cN : Nat) (S : Nat → Option Addr) (L C : Nat → Nat) (f : Nat → Nat → Value) (Bt B0 : Nat) (w : World) (hN : N ≤ 1000000) (hL : ∀ t, t < N → L t ≤ 1000000000) (hT : Own w Bt 30 1 (.slice AN N cN) N (fun t => [.slice (S t) (L t) (C t)])) (hR : ∀ t, t < N → Own w B0 3 1 (.slice (S t) (L t) (C t)) (L t) (fun q => [f t q])) (hA : Apt N S) (hB : B0 ≤ w.heap.size) :
    Calls Try.prog 42 #[.slice AN N cN] w fun e w' => e = .returned (.bool true) ∧ Only (RB N S) w w' := by
  have HTN := Lib.hid (top_ne hT hR (by decide))
  have HT := Lib.hid hT; have HA := Lib.hid hA; have HL := Lib.hid hL
  have HR := Lib.hid hR
  have HM0 : Hid (MK w w B0 3 N S L C (anM f 0 0)) := Lib.hid (MK.congr ⟨hR, Only.refl _ _⟩ fun t _ q _ => by unfold anM; rw [if_neg (by omega)])
  have HIN : Hid (∀ t, t < N → ∀ s o, S t = some ⟨s, o, none⟩ → s < w.heap.size) := Lib.hid fun t ht s o es => ((hR t ht).lt s ((hR t ht).off es).2).2
  have HCELL : Hid (∀ w', Only (RB N S) w w' → ∀ t, t < N → ∃ b o, AN = some ⟨b, o, none⟩ ∧ w'.cell? ⟨b, o + t, none⟩ = some (.slice (S t) (L t) (C t))) := Lib.hid fun w' ho t ht => by
    obtain ⟨A', c', e1, _, _, hr, _⟩ := (ho.own HT.out HTN.out).rd
    injection e1 with e1 _ _
    subst e1
    obtain ⟨b, o, e2, _, hc⟩ := hr t ht
    exact ⟨b, o, e2, hc⟩
  clear hT hR hA hL
  go_enter Try.func42, Try.ntmps42
  go_wp2
  go_loopg [3, 4] N (fun gk vi _ wr => ∃ i : Nat, i ≤ N ∧ gk = N - i ∧ vi = .int .i64 i ∧ MK w wr B0 3 N S L C (anM f i 0))
  case atStart => exact ⟨0, Nat.zero_le _, rfl, rfl, HM0.out⟩
  case round =>
    clear HM0
    obtain ⟨i, hi, rfl, rfl, hM⟩ := hrel
    by_cases hlt : i < N
    · obtain ⟨bT, oT, rfl, hcT⟩ := HCELL.out wr hM.2 i hlt
      have hLi := HL.out i hlt
      obtain ⟨ln, hln⟩ : ∃ ln, ln = L i := ⟨_, rfl⟩
      rw [← hln] at hLi
      rw [← hln] at hcT
      have HLN := Lib.hid hln
      have HM := Lib.hid hM
      clear hM hln
      go_wp2
      go_loopg [4] ln (fun gk vj wr => ∃ j : Nat, j ≤ ln ∧ gk = ln - j ∧ vj = .int .i64 j ∧ MK w wr B0 3 N S L C (anM f i j))
      case atStart => exact ⟨0, Nat.zero_le _, rfl, rfl, HM.out⟩
      case round =>
        clear HM hcT
        obtain ⟨j, hj, rfl, rfl, hM⟩ := hrel
        obtain ⟨b', o', e', hcT⟩ := HCELL.out wr hM.2 i hlt
        injection e' with e'
        injection e' with e1 e2
        subst e1 e2
        rw [← HLN.out] at hcT
        by_cases hlj : j < ln
        · have hoi := hM.1 i hlt
          rcases hoi.addr with ⟨_, e0⟩ | ⟨g, hg, hgB, hgl⟩
          · have := HLN.out; omega
          · rw [hg] at hcT
            have hlj2 : j < L i := by rw [← HLN.out]; exact hlj
            rw [hg] at hoi
            have hcj := hoi.cell1 hlj2
            have hfz := own_freeX hoi j
            have hw2 : IntKind.i64.wrap ((-200 : Int) - (i : Int)) = (-200 : Int) - (i : Int) := by rw [IntKind.wrap_i64]; omega
            have HM2 := Lib.hid (hM.set HA.out hlt hlj2 hg (u := .int .i64 ((-200 : Int) - (i : Int))) (f' := anM f i (j + 1)) fun t _ q _ => by
              unfold anM
              by_cases e : t = i ∧ q = j
              · rw [if_pos e, if_pos (by omega), e.1]
              · rw [if_neg e]
                by_cases h1 : t < i ∨ (t = i ∧ q < j)
                · rw [if_pos h1, if_pos (by omega)]
                · rw [if_neg h1, if_neg (by omega)])
            generalize anM f i j i j = u0 at *
            clear hM hoi hg hlj2
            go_wp2
            go_roundg (ln - (j + 1))
            case measure => omega
            case rel => exact ⟨j + 1, by omega, rfl, by go_num, HM2.out⟩
        · obtain rfl : ln = j := by omega
          have HM2 := Lib.hid (hM.congr (f' := anM f (i + 1) 0) fun t _ q hq => by
            unfold anM
            by_cases h1 : t < i ∨ (t = i ∧ q < ln)
            · rw [if_pos h1, if_pos (by omega)]
            · rw [if_neg h1, if_neg (by
                have h5 := HLN.out
                rintro (h2 | ⟨_, h2⟩)
                · have : t = i := by omega
                  subst this
                  omega
                · omega)])
          clear hM
          go_wp2
          go_roundg (N - (i + 1))
          case measure => omega
          case rel => exact ⟨i + 1, by omega, rfl, by go_num, HM2.out⟩
    · obtain rfl : N = i := by omega
      have HGB : Hid (GB w wr B0 1 3 30 5 N S L C (anF L) 0 0 0 (.slice none 0 0) (.slice none 0 0) (fun _ => none) (fun _ => 0) (fun _ => 0) (fun _ => 0)) := Lib.hid (by
        have hrow : ∀ t, t < N → Own wr B0 3 1 (.slice (S t) (L t) (C t)) (L t) (anF L t) := fun t ht => (hM.1 t ht).congr fun q hq => by
          unfold anM anF anV
          rw [if_pos (.inl ht), if_pos hq]
        exact ⟨fun t _ => hrow t, fun t ht => It.of_own (anF_len L) (hrow t ht) (fun s _ hs => by cases hs), HIN.out, Own.nil _ _ _ _ _, Own.nil _ _ _ _ _, fun m hm => absurd hm (Nat.not_lt_zero _), fun m hm => absurd hm (Nat.not_lt_zero _), fun m hm => absurd hm (Nat.not_lt_zero _), fun m hm => absurd hm (Nat.not_lt_zero _), hM.2⟩)
      clear hM
      go_wp2
      go_loopg [5, 6, 7, 8] N (fun gk vl vi _ _ wr => ∃ (i ql : Nat) (SL : Nat → Option Addr) (LL CL I : Nat → Nat), i ≤ N ∧ gk = N - i ∧ vi = .int .i64 i ∧ ql = 66 * i ∧ Pl 66 I ql ∧ GB w wr B0 1 3 30 5 N S L C (anF L) i ql 0 vl (.slice none 0 0) SL LL CL I)
      case atStart => exact ⟨0, 0, _, _, _, _, Nat.zero_le _, rfl, rfl, rfl, Pl.nil _ _, HGB.out⟩
      case round =>
        clear HGB
        obtain ⟨i, ql, SL, LL, CL, I, hi, rfl, rfl, hq, hP, hG⟩ := hrel
        have HQ := Lib.hid hq
        have hql : ql ≤ 66 * i := by omega
        clear hq
        by_cases hlt : i < N
        · obtain ⟨bT, oT, rfl, hcT⟩ := HCELL.out wr hG.only i hlt
          have hLi := HL.out i hlt
          have HGS := Lib.hid (hG.start HA.out hlt)
          have HP := Lib.hid hP
          clear hG hP
          go_wp2
          go_loopg [5, 7, 8] 66 (fun gk vl v vk wr => ∃ (k ql : Nat) (SL : Nat → Option Addr) (LL CL I : Nat → Nat), k ≤ 66 ∧ gk = 66 - k ∧ vk = .int .i64 k ∧ ql = 66 * i + k ∧ Pl 66 I ql ∧ GS w wr B0 1 3 30 5 N S L C (anF L) i (L i + k) v ql 0 vl (.slice none 0 0) SL LL CL I)
          case atStart => exact ⟨0, ql, SL, LL, CL, I, Nat.zero_le _, rfl, rfl, HQ.out, HP.out, HGS.out⟩
          case round =>
            clear HGS hcT HQ hql HP
            obtain ⟨k, ql, SL, LL, CL, I, hk, rfl, rfl, hq, hP, hG⟩ := hrel
            have HQ := Lib.hid hq
            have hql : ql ≤ 66 * i + k := by omega
            clear hq
            by_cases hlk : k < 66
            · have HG := Lib.hid hG
              have HP := Lib.hid hP
              have hsB : B0 ≤ wr.heap.size := Nat.le_trans hB hG.only.size
              have hu : Hid ((#[Value.int .i64 ((1000 : Int) + (i : Int))] : Array Value).toList = anF L i (L i + k)) := Lib.hid (by
                unfold anF anV
                rw [if_neg (by omega)])
              have hw1 : IntKind.i64.wrap ((1000 : Int) + (i : Int)) = (1000 : Int) + (i : Int) := by rw [IntKind.wrap_i64]; omega
              clear hG hP
              go_wp2_with (at_builtin; refine wpList_pushX _ rfl (.tmp 50) (.tmp 53) 30 rfl B0 3 1 8 (.int .i64 0) #[.int .i64 ((1000 : Int) + (i : Int))] Try.underlying30 apInt rfl _ (L i + k) _ rfl HG.out.own hsB _ rfl rfl hu.out rfl rfl (by omega) (by omega) ?_)
              intro v1 w1 hown1 hbel1 hg1
              obtain ⟨A1, c1, rfl, _, _, _, _⟩ := Own.rd (f := anV L i) hown1
              have HG1 := Lib.hid (HG.out.push (anF_len L) HA.out hlt hown1 hg1)
              have hsw1 := HG1.out.only.size
              clear hown1 hbel1 hg1 HG hu
              have hl1 : Own w1 w.heap.size 30 1 _ ql (fun m => [.slice (upd SL ql A1 m) (upd LL ql (L i + k + 1) m) (upd CL ql c1 m)]) := HG1.out.long.congr fun m hm => by rw [upd_ne _ _ _ (by omega), upd_ne _ _ _ (by omega), upd_ne _ _ _ (by omega)]
              have HL1 := Lib.hid hl1
              have hu2 : Hid ((#[Value.slice A1 (L i + k + 1) c1] : Array Value).toList = [.slice (upd SL ql A1 ql) (upd LL ql (L i + k + 1) ql) (upd CL ql c1 ql)]) := Lib.hid (by rw [upd_at, upd_at, upd_at])
              clear hl1
              go_wp2_with (at_builtin; refine wpList_pushX _ rfl (.tmp 55) (.tmp 57) 87 rfl w.heap.size 30 1 24 (.slice none 0 0) #[.slice A1 (L i + k + 1) c1] Try.underlying87 apInts rfl _ ql _ rfl HL1.out hsw1 _ rfl rfl hu2.out rfl rfl (by omega) (by omega) ?_)
              intro v2 w2 hown2 hbel2 hg2
              have HG2 := Lib.hid (HG1.out.keepL0 (anF_len L) (Nat.zero_le _) HA.out hlt (by decide) (by omega) hown2 hg2)
              have HP2 := Lib.hid (HP.out.next (k := k) (i := i) HQ.out (by omega))
              clear hown2 hbel2 hg2 HG1 HL1 hu2 HP
              go_wp2
              go_roundg (66 - (k + 1))
              case measure => omega
              case rel => exact ⟨k + 1, ql + 1, _, _, _, _, by omega, rfl, by go_num, (by have := HQ.out; omega), HP2.out, HG2.out⟩
            · obtain rfl : k = 66 := by omega
              have HG2 := Lib.hid hG.stop
              have HP2 := Lib.hid hP
              clear hG hP
              go_wp2
              go_roundg (N - (i + 1))
              case measure => omega
              case rel => exact ⟨i + 1, ql, SL, LL, CL, I, by omega, rfl, by go_num, (by have := HQ.out; omega), HP2.out, HG2.out⟩
        · obtain rfl : N = i := by omega
          have HG := Lib.hid hG
          have HP := Lib.hid hP
          clear hG hP
          obtain ⟨Al, cl, rfl, _, _, hrl, _⟩ := HG.out.long.rd
          obtain ⟨wz, hwz⟩ : ∃ wz, wz = wr := ⟨_, rfl⟩
          rw [← hwz] at HG hrl ⊢
          have HRL := Lib.hid hrl
          clear hwz hrl
          go_wp2
          go_loopg [9, 10, 11, 12] ql (fun gk vn _ _ _ wr => ∃ m : Nat, m ≤ ql ∧ gk = ql - m ∧ vn = .int .i64 m ∧ Below wz.heap.size wz wr)
          case atStart => exact ⟨0, Nat.zero_le _, rfl, rfl, Below.refl _ _⟩
          case round =>
            obtain ⟨m, hm, rfl, rfl, hb⟩ := hrel
            by_cases hlt : m < ql
            · obtain ⟨bl, ol, rfl, hbl, hcl⟩ := HRL.out m hlt
              obtain ⟨hi0, hIt, _⟩ := HG.out.kept m hlt
              obtain ⟨i0, hi0e⟩ : ∃ i0, i0 = I m := ⟨_, rfl⟩
              obtain ⟨A0, hA0⟩ : ∃ A0, A0 = SL m := ⟨_, rfl⟩
              obtain ⟨ln, hln⟩ : ∃ ln, ln = LL m := ⟨_, rfl⟩
              obtain ⟨c0, hc0⟩ : ∃ c0, c0 = CL m := ⟨_, rfl⟩
              have hiq : (m : Int).tdiv 66 = (i0 : Int) := by rw [hi0e, HP.out m hlt, Int.tdiv_eq_ediv_of_nonneg (by omega)]; omega
              have hw1 : IntKind.i64.wrap (i0 : Int) = (i0 : Int) := by rw [IntKind.wrap_i64]; omega
              have hw2 : IntKind.i64.wrap ((1000 : Int) + (i0 : Int)) = (1000 : Int) + (i0 : Int) := by rw [IntKind.wrap_i64]; omega
              have hw3 : IntKind.i64.wrap ((-200 : Int) - (i0 : Int)) = (-200 : Int) - (i0 : Int) := by rw [IntKind.wrap_i64]; omega
              rw [← hi0e] at hi0 hIt
              rw [← hA0, ← hln] at hIt
              have HRA := Lib.hid (hIt.1.rd)
              have HRS := Lib.hid ((HG.out.base i0 hi0).1.rd)
              have HCL : Hid (∀ w', Below wr.heap.size wr w' → w'.cell? ⟨bl, ol + m, none⟩ = some (.slice A0 ln c0)) := Lib.hid fun w' hb' => by
                rw [hA0, hln, hc0]
                exact ((hb.trans (hb'.mono hb.size)).cell hbl).trans hcl
              obtain ⟨l0, hl0⟩ : ∃ l0, l0 = L i0 := ⟨_, rfl⟩
              have HL0 := Lib.hid hl0
              obtain ⟨S0, hS0⟩ : ∃ S0, S0 = S i0 := ⟨_, rfl⟩
              obtain ⟨C0, hC0⟩ : ∃ C0, C0 = C i0 := ⟨_, rfl⟩
              obtain ⟨bT, oT, hATe, _⟩ := HCELL.out wr (HG.out.only.below hb) i0 hi0
              subst hATe
              have HCT : Hid (∀ w', Below wr.heap.size wr w' → w'.cell? ⟨bT, oT + i0, none⟩ = some (.slice S0 l0 C0)) := Lib.hid fun w' hb' => by
                obtain ⟨b', o', e', hc'⟩ := HCELL.out w' (HG.out.only.below (hb.trans (hb'.mono hb.size))) i0 hi0
                injection e' with e'
                injection e' with e1 e2
                subst e1 e2
                rw [hS0, hl0, hC0]
                exact hc'
              rw [← hS0, ← hl0] at HRS
              have hlnb := HCL.out wr (Below.refl _ _)
              have hlnn : ln ≤ 1000000000000000 := by rw [hln]; exact HG.out.lenb m hlt
              have hl0b : l0 ≤ 1000000000 := by rw [hl0]; exact HL.out i0 hi0
              have HBz := Lib.hid hb
              clear hb hbl hcl hIt hi0e hA0 hln hc0 hl0 hS0 hC0
              go_wp2
              go_loopg [11, 12] ln (fun gk vj _ wr' => ∃ j : Nat, j ≤ ln ∧ gk = ln - j ∧ vj = .int .i64 j ∧ Below wr.heap.size wr wr')
              case atStart => exact ⟨0, Nat.zero_le _, rfl, rfl, Below.refl _ _⟩
              case round =>
                clear hlnb
                obtain ⟨j, hj, rfl, rfl, hb⟩ := hrel
                have hlnb := HCL.out _ hb
                have hctb := HCT.out _ hb
                replace HBz := Lib.hid (HBz.out.trans (hb.mono HBz.out.size))
                by_cases hlj : j < ln
                · obtain ⟨by1, oy1, rfl, hby1, hcy1⟩ := HRA.out j hlj
                  replace hcy1 := (HBz.out.cell hby1).trans hcy1
                  have HBn := Lib.hid hb
                  unfold anV at hcy1
                  rw [← HL0.out] at hcy1
                  by_cases hjl : j < l0
                  · obtain ⟨by2, oy2, rfl, hby2, hcy2⟩ := HRS.out j hjl
                    replace hcy2 := (HBz.out.cell hby2).trans hcy2
                    unfold anV at hcy2
                    rw [← HL0.out, if_pos hjl] at hcy2
                    rw [if_pos hjl] at hcy1
                    have hjc : ¬ (l0 : Int) ≤ (j : Int) := by omega
                    clear hb hby1 hby2
                    go_wp2
                    go_roundg (ln - (j + 1))
                    case measure => omega
                    case rel => exact ⟨j + 1, by omega, rfl, by go_num, HBn.out⟩
                  · rw [if_neg hjl] at hcy1
                    have hjc : (l0 : Int) ≤ (j : Int) := by omega
                    clear hb hby1
                    go_wp2
                    go_roundg (ln - (j + 1))
                    case measure => omega
                    case rel => exact ⟨j + 1, by omega, rfl, by go_num, HBn.out⟩
                · obtain rfl : ln = j := by omega
                  clear hb
                  go_wp2
                  go_roundg (ql - (m + 1))
                  case measure => omega
                  case rel => exact ⟨m + 1, by omega, rfl, by go_num, HBz.out⟩
            · obtain rfl : ql = m := by omega
              have HF := Lib.hid (HG.out.only.below hb)
              clear hb
              go_wp2
              go_ret
              exact ⟨rfl, HF.out⟩
end Go.Proofs.Ytbioanbokbhmgaa

/- apartBytes: written full, grown, looked at. Conditions: rows that lie apart. -/
namespace Go.Proofs.Ytbioanbokbhmgaa
open Go.RowKit

theorem ap8B : (Try.prog.info? 5).map (fun i => (i.zero, i.size, i.bytes)) = some (some (.int .u8 0), 1, 1) := by kernel_rfl
theorem ap8BB : (Try.prog.info? 47).map (fun i => (i.zero, i.size, i.bytes)) = some (some (.slice none 0 0), 1, 24) := by kernel_rfl
def apV (L : Nat → Nat) (t q : Nat) : Value := .int .u8 (((if q < L t then t % 125 else 128 + t % 125) : Nat) : Int)
def apF (L : Nat → Nat) (t q : Nat) : List Value := [apV L t q]
theorem apF_len (L : Nat → Nat) (t q : Nat) : (apF L t q).length = 1 := rfl
/-- The lists up to i are written full, j of the list i's own. -/
def apM (f : Nat → Nat → Value) (i j t q : Nat) : Value := if t < i ∨ (t = i ∧ q < j) then .int .u8 ((t % 125 : Nat) : Int) else f t q
set_option maxRecDepth 100000 in
set_option maxHeartbeats 8000000 in
theorem apartB_any (AN : Option Addr) (N cN : Nat) (S : Nat → Option Addr) (L C : Nat → Nat) (f : Nat → Nat → Value) (Bt B0 : Nat) (w : World) (hN : N ≤ 1000000) (hL : ∀ t, t < N → L t ≤ 140737488351232) (hT : Own w Bt 47 1 (.slice AN N cN) N (fun t => [.slice (S t) (L t) (C t)])) (hR : ∀ t, t < N → Own w B0 5 1 (.slice (S t) (L t) (C t)) (L t) (fun q => [f t q])) (hA : Apt N S) (hB : B0 ≤ w.heap.size) :
    Calls Try.prog 40 #[.slice AN N cN] w fun e w' => e = .returned (.bool true) ∧ Only (RB N S) w w' := by
  have HTN := Lib.hid (top_ne hT hR (by decide))
  have HT := Lib.hid hT; have HA := Lib.hid hA; have HL := Lib.hid hL
  have HR := Lib.hid hR
  have HM0 : Hid (MK w w B0 5 N S L C (apM f 0 0)) := Lib.hid (MK.congr ⟨hR, Only.refl _ _⟩ fun t _ q _ => by unfold apM; rw [if_neg (by omega)])
  have HIN : Hid (∀ t, t < N → ∀ s o, S t = some ⟨s, o, none⟩ → s < w.heap.size) := Lib.hid fun t ht s o es => ((hR t ht).lt s ((hR t ht).off es).2).2
  have HCELL : Hid (∀ w', Only (RB N S) w w' → ∀ t, t < N → ∃ b o, AN = some ⟨b, o, none⟩ ∧ w'.cell? ⟨b, o + t, none⟩ = some (.slice (S t) (L t) (C t))) := Lib.hid fun w' ho t ht => by
    obtain ⟨A', c', e1, _, _, hr, _⟩ := (ho.own HT.out HTN.out).rd
    injection e1 with e1 _ _
    subst e1
    obtain ⟨b, o, e2, _, hc⟩ := hr t ht
    exact ⟨b, o, e2, hc⟩
  clear hT hR hA hL
  go_enter Try.func40, Try.ntmps40
  go_wp2
  go_loopg [3, 4] N (fun gk vi _ wr => ∃ i : Nat, i ≤ N ∧ gk = N - i ∧ vi = .int .i64 i ∧ MK w wr B0 5 N S L C (apM f i 0))
  case atStart => exact ⟨0, Nat.zero_le _, rfl, rfl, HM0.out⟩
  case round =>
    clear HM0
    obtain ⟨i, hi, rfl, rfl, hM⟩ := hrel
    by_cases hlt : i < N
    · obtain ⟨bT, oT, rfl, hcT⟩ := HCELL.out wr hM.2 i hlt
      have hLi := HL.out i hlt
      obtain ⟨ln, hln⟩ : ∃ ln, ln = L i := ⟨_, rfl⟩
      rw [← hln] at hLi
      rw [← hln] at hcT
      have HLN := Lib.hid hln
      obtain ⟨r, hr0⟩ : ∃ r, r = i % 125 := ⟨_, rfl⟩
      have HR0 := Lib.hid hr0
      have hr1 : r < 125 := by omega
      have hr2 : (i : Int).tmod 125 = (r : Int) := by rw [hr0, Int.tmod_eq_emod_of_nonneg (by omega)]; omega
      clear hr0
      have HM := Lib.hid hM
      clear hM hln
      go_wp2
      go_loopg [4] ln (fun gk vj wr => ∃ j : Nat, j ≤ ln ∧ gk = ln - j ∧ vj = .int .i64 j ∧ MK w wr B0 5 N S L C (apM f i j))
      case atStart => exact ⟨0, Nat.zero_le _, rfl, rfl, HM.out⟩
      case round =>
        clear HM hcT
        obtain ⟨j, hj, rfl, rfl, hM⟩ := hrel
        obtain ⟨b', o', e', hcT⟩ := HCELL.out wr hM.2 i hlt
        injection e' with e'
        injection e' with e1 e2
        subst e1 e2
        rw [← HLN.out] at hcT
        by_cases hlj : j < ln
        · have hoi := hM.1 i hlt
          rcases hoi.addr with ⟨_, e0⟩ | ⟨g, hg, hgB, hgl⟩
          · have := HLN.out; omega
          · rw [hg] at hcT
            have hlj2 : j < L i := by rw [← HLN.out]; exact hlj
            rw [hg] at hoi
            have hcj := hoi.cell1 hlj2
            have hfz := own_freeX hoi j
            have hm : (r : Int) % 256 = (r : Int) := by omega
            have HM2 := Lib.hid (hM.set HA.out hlt hlj2 hg (u := .int .u8 (r : Int)) (f' := apM f i (j + 1)) fun t _ q _ => by
              unfold apM
              by_cases e : t = i ∧ q = j
              · rw [if_pos e, if_pos (by omega), e.1, HR0.out]
              · rw [if_neg e]
                by_cases h1 : t < i ∨ (t = i ∧ q < j)
                · rw [if_pos h1, if_pos (by omega)]
                · rw [if_neg h1, if_neg (by omega)])
            generalize apM f i j i j = u0 at *
            clear hM hoi hg hm hlj2
            go_wp2
            go_roundg (ln - (j + 1))
            case measure => omega
            case rel => exact ⟨j + 1, by omega, rfl, by go_num, HM2.out⟩
        · obtain rfl : ln = j := by omega
          have HM2 := Lib.hid (hM.congr (f' := apM f (i + 1) 0) fun t _ q hq => by
            unfold apM
            by_cases h1 : t < i ∨ (t = i ∧ q < ln)
            · rw [if_pos h1, if_pos (by omega)]
            · rw [if_neg h1, if_neg (by
                have h5 := HLN.out
                rintro (h2 | ⟨_, h2⟩)
                · have : t = i := by omega
                  subst this
                  omega
                · omega)])
          clear hM
          go_wp2
          go_roundg (N - (i + 1))
          case measure => omega
          case rel => exact ⟨i + 1, by omega, rfl, by go_num, HM2.out⟩
    · obtain rfl : N = i := by omega
      have HGB : Hid (GB w wr B0 1 5 47 3 N S L C (apF L) 0 0 0 (.slice none 0 0) (.slice none 0 0) (fun _ => none) (fun _ => 0) (fun _ => 0) (fun _ => 0)) := Lib.hid (by
        have hrow : ∀ t, t < N → Own wr B0 5 1 (.slice (S t) (L t) (C t)) (L t) (apF L t) := fun t ht => (hM.1 t ht).congr fun q hq => by
          unfold apM apF apV
          rw [if_pos (.inl ht), if_pos hq]
        exact ⟨fun t _ => hrow t, fun t ht => It.of_own (apF_len L) (hrow t ht) (fun s _ hs => by cases hs), HIN.out, Own.nil _ _ _ _ _, Own.nil _ _ _ _ _, fun m hm => absurd hm (Nat.not_lt_zero _), fun m hm => absurd hm (Nat.not_lt_zero _), fun m hm => absurd hm (Nat.not_lt_zero _), fun m hm => absurd hm (Nat.not_lt_zero _), hM.2⟩)
      clear hM
      go_wp2
      go_loopg [5, 6, 7, 8, 9] N (fun gk vl vw vi _ _ wr => ∃ (i ql : Nat) (SL : Nat → Option Addr) (LL CL I : Nat → Nat), i ≤ N ∧ gk = N - i ∧ vi = .int .i64 i ∧ ql ≤ 66 * i ∧ GB w wr B0 1 5 47 3 N S L C (apF L) i ql ql vl vw SL LL CL I)
      case atStart => exact ⟨0, 0, _, _, _, _, Nat.zero_le _, rfl, rfl, Nat.le_refl _, HGB.out⟩
      case round =>
        clear HGB
        obtain ⟨i, ql, SL, LL, CL, I, hi, rfl, rfl, hq, hG⟩ := hrel
        by_cases hlt : i < N
        · obtain ⟨bT, oT, rfl, hcT⟩ := HCELL.out wr hG.only i hlt
          have hLi := HL.out i hlt
          have HGS := Lib.hid (hG.start HA.out hlt)
          obtain ⟨r, hr0⟩ : ∃ r, r = i % 125 := ⟨_, rfl⟩
          have HR0 := Lib.hid hr0
          have hr1 : r < 125 := by omega
          have hr2 : (i : Int).tmod 125 = (r : Int) := by rw [hr0, Int.tmod_eq_emod_of_nonneg (by omega)]; omega
          have hr3 : ((128 : Int) + (r : Int)) % 256 = (128 : Int) + (r : Int) := by omega
          clear hr0
          clear hG
          go_wp2
          go_loopg [5, 6, 8, 9] 66 (fun gk vl vw v vk wr => ∃ (k ql : Nat) (SL : Nat → Option Addr) (LL CL I : Nat → Nat), k ≤ 66 ∧ gk = 66 - k ∧ vk = .int .i64 k ∧ ql ≤ 66 * i + k ∧ GS w wr B0 1 5 47 3 N S L C (apF L) i (L i + k) v ql ql vl vw SL LL CL I)
          case atStart => exact ⟨0, ql, SL, LL, CL, I, Nat.zero_le _, rfl, rfl, hq, HGS.out⟩
          case round =>
            clear HGS hcT hq
            obtain ⟨k, ql, SL, LL, CL, I, hk, rfl, rfl, hq, hG⟩ := hrel
            by_cases hlk : k < 66
            · have HG := Lib.hid hG
              have hsB : B0 ≤ wr.heap.size := Nat.le_trans hB hG.only.size
              have hu : Hid ((#[Value.int .u8 ((128 : Int) + (r : Int))] : Array Value).toList = apF L i (L i + k)) := Lib.hid (by
                unfold apF apV
                rw [if_neg (by omega), ← HR0.out, show (((128 + r : Nat)) : Int) = (128 : Int) + (r : Int) from by omega])
              clear hG
              by_cases hka : k < 16
              · clear hlk
                have hd1 : (k : Int) < 16 := by omega
                go_wp2_with (at_builtin; refine wpList_pushX _ rfl (.tmp 52) (.tmp 57) 47 rfl B0 5 1 1 (.int .u8 0) #[.int .u8 ((128 : Int) + (r : Int))] Try.underlying47 ap8B rfl _ (L i + k) _ rfl HG.out.own hsB _ rfl rfl hu.out rfl rfl (by omega) (by omega) ?_)
                intro v1 w1 hown1 hbel1 hg1
                obtain ⟨A1, c1, rfl, _, _, _, _⟩ := Own.rd (f := apV L i) hown1
                have HG1 := Lib.hid (HG.out.push (apF_len L) HA.out hlt hown1 hg1)
                have hsw1 := HG1.out.only.size
                clear hown1 hbel1 hg1 HG hu
                have hl1 : Own w1 w.heap.size 47 1 _ ql (fun m => [.slice (upd SL ql A1 m) (upd LL ql (L i + k + 1) m) (upd CL ql c1 m)]) := HG1.out.long.congr fun m hm => by rw [upd_ne _ _ _ (by omega), upd_ne _ _ _ (by omega), upd_ne _ _ _ (by omega)]
                have HL1 := Lib.hid hl1
                have hu2 : Hid ((#[Value.slice A1 (L i + k + 1) c1] : Array Value).toList = [.slice (upd SL ql A1 ql) (upd LL ql (L i + k + 1) ql) (upd CL ql c1 ql)]) := Lib.hid (by rw [upd_at, upd_at, upd_at])
                clear hl1
                go_wp2_with (at_builtin; refine wpList_pushX _ rfl (.tmp 65) (.tmp 67) 44 rfl w.heap.size 47 1 24 (.slice none 0 0) #[.slice A1 (L i + k + 1) c1] Try.underlying44 ap8BB rfl _ ql _ rfl HL1.out hsw1 _ rfl rfl hu2.out rfl rfl (by omega) (by omega) ?_)
                intro v2 w2 hown2 hbel2 hg2
                have HG2 := Lib.hid (HG1.out.keepL (apF_len L) HA.out hlt (by decide) (by omega) hown2 hg2)
                have hsw2 := HG2.out.only.size
                have hu3 : Hid ((#[Value.int .i64 ((i : Nat) : Int)] : Array Value).toList = [.int .i64 ((upd I ql i ql : Nat) : Int)]) := Lib.hid (by rw [upd_at])
                clear hown2 hbel2 hg2 HG1 HL1 hu2
                go_wp2_with (at_builtin; refine wpList_pushX _ rfl (.tmp 69) (.tmp 71) 30 rfl w.heap.size 3 1 8 (.int .i64 0) #[.int .i64 ((i : Nat) : Int)] Try.underlying30 apInt rfl _ ql _ rfl HG2.out.who hsw2 _ rfl rfl hu3.out rfl rfl (by omega) (by omega) ?_)
                intro v3 w3 hown3 hbel3 hg3
                have HG3 := Lib.hid (HG2.out.keepW HA.out (by decide) hown3 hg3)
                clear hown3 hbel3 hg3 HG2 hu3
                go_wp2
                go_roundg (66 - (k + 1))
                case measure => omega
                case rel => exact ⟨k + 1, ql + 1, _, _, _, _, by omega, rfl, by go_num, by omega, HG3.out⟩
              · by_cases hkb : k = 65
                · have hd1 : ¬ (k : Int) < 16 := by omega
                  have hd2 : ((k : Int) == 65) = true := by rw [beq_iff_eq]; omega
                  clear hkb
                  go_wp2_with (at_builtin; refine wpList_pushX _ rfl (.tmp 52) (.tmp 57) 47 rfl B0 5 1 1 (.int .u8 0) #[.int .u8 ((128 : Int) + (r : Int))] Try.underlying47 ap8B rfl _ (L i + k) _ rfl HG.out.own hsB _ rfl rfl hu.out rfl rfl (by omega) (by omega) ?_)
                  intro v1 w1 hown1 hbel1 hg1
                  obtain ⟨A1, c1, rfl, _, _, _, _⟩ := Own.rd (f := apV L i) hown1
                  have HG1 := Lib.hid (HG.out.push (apF_len L) HA.out hlt hown1 hg1)
                  have hsw1 := HG1.out.only.size
                  clear hown1 hbel1 hg1 HG hu
                  have hl1 : Own w1 w.heap.size 47 1 _ ql (fun m => [.slice (upd SL ql A1 m) (upd LL ql (L i + k + 1) m) (upd CL ql c1 m)]) := HG1.out.long.congr fun m hm => by rw [upd_ne _ _ _ (by omega), upd_ne _ _ _ (by omega), upd_ne _ _ _ (by omega)]
                  have HL1 := Lib.hid hl1
                  have hu2 : Hid ((#[Value.slice A1 (L i + k + 1) c1] : Array Value).toList = [.slice (upd SL ql A1 ql) (upd LL ql (L i + k + 1) ql) (upd CL ql c1 ql)]) := Lib.hid (by rw [upd_at, upd_at, upd_at])
                  clear hl1
                  go_wp2_with (at_builtin; refine wpList_pushX _ rfl (.tmp 65) (.tmp 67) 44 rfl w.heap.size 47 1 24 (.slice none 0 0) #[.slice A1 (L i + k + 1) c1] Try.underlying44 ap8BB rfl _ ql _ rfl HL1.out hsw1 _ rfl rfl hu2.out rfl rfl (by omega) (by omega) ?_)
                  intro v2 w2 hown2 hbel2 hg2
                  have HG2 := Lib.hid (HG1.out.keepL (apF_len L) HA.out hlt (by decide) (by omega) hown2 hg2)
                  have hsw2 := HG2.out.only.size
                  have hu3 : Hid ((#[Value.int .i64 ((i : Nat) : Int)] : Array Value).toList = [.int .i64 ((upd I ql i ql : Nat) : Int)]) := Lib.hid (by rw [upd_at])
                  clear hown2 hbel2 hg2 HG1 HL1 hu2
                  go_wp2_with (at_builtin; refine wpList_pushX _ rfl (.tmp 69) (.tmp 71) 30 rfl w.heap.size 3 1 8 (.int .i64 0) #[.int .i64 ((i : Nat) : Int)] Try.underlying30 apInt rfl _ ql _ rfl HG2.out.who hsw2 _ rfl rfl hu3.out rfl rfl (by omega) (by omega) ?_)
                  intro v3 w3 hown3 hbel3 hg3
                  have HG3 := Lib.hid (HG2.out.keepW HA.out (by decide) hown3 hg3)
                  clear hown3 hbel3 hg3 HG2 hu3
                  go_wp2
                  go_roundg (66 - (k + 1))
                  case measure => omega
                  case rel => exact ⟨k + 1, ql + 1, _, _, _, _, by omega, rfl, by go_num, by omega, HG3.out⟩
                · have hd1 : ¬ (k : Int) < 16 := by omega
                  have hd2 : ((k : Int) == 65) = false := by rw [beq_eq_false_iff_ne]; omega
                  clear hkb
                  go_wp2_with (at_builtin; refine wpList_pushX _ rfl (.tmp 52) (.tmp 57) 47 rfl B0 5 1 1 (.int .u8 0) #[.int .u8 ((128 : Int) + (r : Int))] Try.underlying47 ap8B rfl _ (L i + k) _ rfl HG.out.own hsB _ rfl rfl hu.out rfl rfl (by omega) (by omega) ?_)
                  intro v1 w1 hown1 hbel1 hg1
                  obtain ⟨A1, c1, rfl, _, _, _, _⟩ := Own.rd (f := apV L i) hown1
                  have HG1 := Lib.hid (HG.out.push (apF_len L) HA.out hlt hown1 hg1)
                  have hsw1 := HG1.out.only.size
                  clear hown1 hbel1 hg1 HG hu
                  go_wp2
                  go_roundg (66 - (k + 1))
                  case measure => omega
                  case rel => exact ⟨k + 1, ql, SL, LL, CL, I, by omega, rfl, by go_num, by omega, HG1.out⟩
            · obtain rfl : k = 66 := by omega
              have HG2 := Lib.hid hG.stop
              clear hG
              go_wp2
              go_roundg (N - (i + 1))
              case measure => omega
              case rel => exact ⟨i + 1, ql, SL, LL, CL, I, by omega, rfl, by go_num, by omega, HG2.out⟩
        · obtain rfl : N = i := by omega
          have HG := Lib.hid hG
          clear hG
          obtain ⟨Al, cl, rfl, _, _, hrl, _⟩ := HG.out.long.rd
          obtain ⟨Aw, cw, rfl, _, _, hrw, _⟩ := HG.out.who.rd
          obtain ⟨wz, hwz⟩ : ∃ wz, wz = wr := ⟨_, rfl⟩
          rw [← hwz] at HG hrl hrw ⊢
          have HRL := Lib.hid hrl; have HRW := Lib.hid hrw
          clear hwz hrl hrw
          go_wp2
          go_loopg [10, 11, 12, 13] ql (fun gk vn _ _ _ wr => ∃ m : Nat, m ≤ ql ∧ gk = ql - m ∧ vn = .int .i64 m ∧ Below wz.heap.size wz wr)
          case atStart => exact ⟨0, Nat.zero_le _, rfl, rfl, Below.refl _ _⟩
          case round =>
            obtain ⟨m, hm, rfl, rfl, hb⟩ := hrel
            by_cases hlt : m < ql
            · obtain ⟨bw, ow, rfl, hbw, hcw⟩ := HRW.out m hlt
              obtain ⟨bl, ol, rfl, hbl, hcl⟩ := HRL.out m hlt
              obtain ⟨hi0, hIt, _⟩ := HG.out.kept m hlt
              obtain ⟨i0, hi0e⟩ : ∃ i0, i0 = I m := ⟨_, rfl⟩
              obtain ⟨r, hr0⟩ : ∃ r, r = i0 % 125 := ⟨_, rfl⟩
              have HR0 := Lib.hid hr0
              have hr1 : r < 125 := by omega
              have hr2 : (i0 : Int).tmod 125 = (r : Int) := by rw [hr0, Int.tmod_eq_emod_of_nonneg (by omega)]; omega
              have hr3 : ((128 : Int) + (r : Int)) % 256 = (128 : Int) + (r : Int) := by omega
              have hr4 : (r : Int) % 256 = (r : Int) := by omega
              clear hr0
              obtain ⟨A0, hA0⟩ : ∃ A0, A0 = SL m := ⟨_, rfl⟩
              obtain ⟨ln, hln⟩ : ∃ ln, ln = LL m := ⟨_, rfl⟩
              obtain ⟨c0, hc0⟩ : ∃ c0, c0 = CL m := ⟨_, rfl⟩
              have hcw2 : wr.cell? ⟨bw, ow + m, none⟩ = some (.int .i64 (i0 : Nat)) := by rw [hi0e]; exact (hb.cell hbw).trans hcw
              rw [← hi0e] at hi0 hIt
              rw [← hA0, ← hln] at hIt
              have HRA := Lib.hid (hIt.1.rd)
              have HRS := Lib.hid ((HG.out.base i0 hi0).1.rd)
              have HCL : Hid (∀ w', Below wr.heap.size wr w' → w'.cell? ⟨bl, ol + m, none⟩ = some (.slice A0 ln c0)) := Lib.hid fun w' hb' => by
                rw [hA0, hln, hc0]
                exact ((hb.trans (hb'.mono hb.size)).cell hbl).trans hcl
              obtain ⟨l0, hl0⟩ : ∃ l0, l0 = L i0 := ⟨_, rfl⟩
              have HL0 := Lib.hid hl0
              obtain ⟨S0, hS0⟩ : ∃ S0, S0 = S i0 := ⟨_, rfl⟩
              obtain ⟨C0, hC0⟩ : ∃ C0, C0 = C i0 := ⟨_, rfl⟩
              obtain ⟨bT, oT, hATe, _⟩ := HCELL.out wr (HG.out.only.below hb) i0 hi0
              subst hATe
              have HCT : Hid (∀ w', Below wr.heap.size wr w' → w'.cell? ⟨bT, oT + i0, none⟩ = some (.slice S0 l0 C0)) := Lib.hid fun w' hb' => by
                obtain ⟨b', o', e', hc'⟩ := HCELL.out w' (HG.out.only.below (hb.trans (hb'.mono hb.size))) i0 hi0
                injection e' with e'
                injection e' with e1 e2
                subst e1 e2
                rw [hS0, hl0, hC0]
                exact hc'
              rw [← hS0, ← hl0] at HRS
              have hlnb := HCL.out wr (Below.refl _ _)
              have hlnn : ln ≤ 1000000000000000 := by rw [hln]; exact HG.out.lenb m hlt
              have hl0b : l0 ≤ 140737488351232 := by rw [hl0]; exact HL.out i0 hi0
              have HBz := Lib.hid hb
              clear hb hbw hcw hbl hcl hIt hi0e hA0 hln hc0 hl0 hS0 hC0
              go_wp2
              go_loopg [12, 13] ln (fun gk vj _ wr' => ∃ j : Nat, j ≤ ln ∧ gk = ln - j ∧ vj = .int .i64 j ∧ Below wr.heap.size wr wr')
              case atStart => exact ⟨0, Nat.zero_le _, rfl, rfl, Below.refl _ _⟩
              case round =>
                clear hlnb hcw2
                obtain ⟨j, hj, rfl, rfl, hb⟩ := hrel
                have hlnb := HCL.out _ hb
                have hctb := HCT.out _ hb
                replace HBz := Lib.hid (HBz.out.trans (hb.mono HBz.out.size))
                by_cases hlj : j < ln
                · obtain ⟨by1, oy1, rfl, hby1, hcy1⟩ := HRA.out j hlj
                  replace hcy1 := (HBz.out.cell hby1).trans hcy1
                  have HBn := Lib.hid hb
                  unfold apV at hcy1
                  rw [← HL0.out] at hcy1
                  by_cases hjl : j < l0
                  · obtain ⟨by2, oy2, rfl, hby2, hcy2⟩ := HRS.out j hjl
                    replace hcy2 := (HBz.out.cell hby2).trans hcy2
                    unfold apV at hcy2
                    rw [← HL0.out, if_pos hjl, ← HR0.out] at hcy2
                    rw [if_pos hjl, ← HR0.out] at hcy1
                    have hjc : ¬ (l0 : Int) ≤ (j : Int) := by omega
                    clear hb hby1 hby2
                    go_wp2
                    go_roundg (ln - (j + 1))
                    case measure => omega
                    case rel => exact ⟨j + 1, by omega, rfl, by go_num, HBn.out⟩
                  · rw [if_neg hjl, ← HR0.out, show (((128 + r : Nat)) : Int) = (128 : Int) + (r : Int) from by omega] at hcy1
                    have hjc : (l0 : Int) ≤ (j : Int) := by omega
                    clear hb hby1
                    go_wp2
                    go_roundg (ln - (j + 1))
                    case measure => omega
                    case rel => exact ⟨j + 1, by omega, rfl, by go_num, HBn.out⟩
                · obtain rfl : ln = j := by omega
                  clear hb
                  go_wp2
                  go_roundg (ql - (m + 1))
                  case measure => omega
                  case rel => exact ⟨m + 1, by omega, rfl, by go_num, HBz.out⟩
            · obtain rfl : ql = m := by omega
              have HF := Lib.hid (HG.out.only.below hb)
              clear hb
              go_wp2
              go_ret
              exact ⟨rfl, HF.out⟩
end Go.Proofs.Ytbioanbokbhmgaa

/- apartRows: lists of rows, each grown with rows of its own, all looked at. Conditions: lists that lie apart. -/
namespace Go.Proofs.Ytbioanbokbhmgaa
open Go.RowKit

theorem ap8BBB : (Try.prog.info? 44).map (fun i => (i.zero, i.size, i.bytes)) = some (some (.slice none 0 0), 1, 24) := by kernel_rfl
/-- The row that is made for the list t. -/
def rE (t _q : Nat) : Array Value := #[.int .u8 (t : Int), .int .u8 99]
set_option maxRecDepth 100000 in
set_option maxHeartbeats 8000000 in
theorem apartR_any (AN : Option Addr) (N cN : Nat) (S : Nat → Option Addr) (L C : Nat → Nat) (f : Nat → Nat → Value) (Bt B0 : Nat) (w : World) (hN : N ≤ 200) (hL : ∀ t, t < N → L t ≤ 1000000000) (hT : Own w Bt 44 1 (.slice AN N cN) N (fun t => [.slice (S t) (L t) (C t)])) (hR : ∀ t, t < N → Own w B0 47 1 (.slice (S t) (L t) (C t)) (L t) (fun q => [f t q])) (hA : Apt N S) (hB : B0 ≤ w.heap.size) :
    Calls Try.prog 41 #[.slice AN N cN] w fun e w' => e = .returned (.bool true) ∧ Only (RB N S) w w' := by
  have HTN := Lib.hid (top_ne hT hR (by decide))
  have HT := Lib.hid hT; have HA := Lib.hid hA; have HL := Lib.hid hL
  have HGB := Lib.hid (RB8.init (el := rE) (B := 5) (eh := 44) (ti := 3) (W := 66) hR)
  have HCELL : Hid (∀ w', Only (RB N S) w w' → ∀ t, t < N → ∃ b o, AN = some ⟨b, o, none⟩ ∧ w'.cell? ⟨b, o + t, none⟩ = some (.slice (S t) (L t) (C t))) := Lib.hid fun w' ho t ht => by
    obtain ⟨A', c', e1, _, _, hr, _⟩ := (ho.own HT.out HTN.out).rd
    injection e1 with e1 _ _
    subst e1
    obtain ⟨b, o, e2, _, hc⟩ := hr t ht
    exact ⟨b, o, e2, hc⟩
  clear hT hR hA hL
  go_enter Try.func41, Try.ntmps41
  go_wp2
  go_loopg [3, 4, 5, 6] N (fun gk vl vi _ _ wr => ∃ (i ql : Nat) (SL : Nat → Option Addr) (LL CL I : Nat → Nat) (bk : Nat → Nat → Nat), i ≤ N ∧ gk = N - i ∧ vi = .int .i64 i ∧ ql = 66 * i ∧ Pl 66 I ql ∧ RB8 w wr B0 47 5 44 3 N 66 S L C f rE i ql vl SL LL CL I bk)
  case atStart => exact ⟨0, 0, _, _, _, _, _, Nat.zero_le _, rfl, rfl, rfl, Pl.nil _ _, HGB.out⟩
  case round =>
    clear HGB
    obtain ⟨i, ql, SL, LL, CL, I, bk, hi, rfl, rfl, hq, hP, hG⟩ := hrel
    have HQ := Lib.hid hq
    have hql : ql ≤ 66 * i := by omega
    clear hq
    by_cases hlt : i < N
    · obtain ⟨bT, oT, rfl, hcT⟩ := HCELL.out wr hG.1.only i hlt
      have hLi := HL.out i hlt
      have HGS := Lib.hid (hG.start HA.out hlt)
      have HP := Lib.hid hP
      clear hG hP
      go_wp2
      go_loopg [3, 5, 6] 66 (fun gk vl v vk wr => ∃ (k ql : Nat) (SL : Nat → Option Addr) (LL CL I : Nat → Nat) (bk : Nat → Nat → Nat), k ≤ 66 ∧ gk = 66 - k ∧ vk = .int .i64 k ∧ ql = 66 * i + k ∧ Pl 66 I ql ∧ RS8 w wr B0 47 5 44 3 N 66 S L C f rE i k v ql vl SL LL CL I bk k)
      case atStart => exact ⟨0, ql, SL, LL, CL, I, bk, Nat.zero_le _, rfl, rfl, HQ.out, HP.out, HGS.out⟩
      case round =>
        clear HGS hcT HQ hql HP
        obtain ⟨k, ql, SL, LL, CL, I, bk, hk, rfl, rfl, hq, hP, hG⟩ := hrel
        have HQ := Lib.hid hq
        have hql : ql ≤ 66 * i + k := by omega
        clear hq
        have HP := Lib.hid hP
        by_cases hlk : k < 66
        · have hsB : B0 ≤ (wr.alloc (.cells #[.int .u8 (i : Int), .int .u8 99] 5)).heap.size := Nat.le_trans hB (Nat.le_trans hG.1.1.only.size (by simp))
          have HG := Lib.hid (hG.elem (A := #[.int .u8 (i : Int), .int .u8 99]) rfl)
          have hu : Hid ((#[Value.slice (some ⟨wr.heap.size, 0, none⟩) 2 2] : Array Value).toList = rF f L rE (upd2 bk i (L i + k) wr.heap.size) i (L i + k)) := Lib.hid (by
            unfold rF eV
            rw [if_neg (by omega), upd2_at]
            rfl)
          have hw1 : (i : Int) % 256 = (i : Int) := by omega
          clear hG hP
          go_wp2_with (at_builtin; refine wpList_pushX _ rfl (.tmp 25) (.tmp 29) 44 rfl B0 47 1 24 (.slice none 0 0) #[.slice (some ⟨wr.heap.size, 0, none⟩) 2 2] Try.underlying44 ap8BB rfl _ (L i + k) _ rfl HG.out.1.1.own hsB _ (by simp) rfl hu.out rfl rfl (by omega) (by omega) ?_)
          intro v1 w1 hown1 hbel1 hg1
          obtain ⟨A1, c1, rfl, _, _, _, _⟩ := Own.rd (f := fun q => if q < L i then f i q else eV rE (upd2 bk i (L i + k) wr.heap.size) i q) hown1
          have HG1 := Lib.hid (HG.out.push HA.out hlt (by decide) hown1 hg1)
          have hsw1 := HG1.out.1.1.only.size
          clear hown1 hbel1 hg1 HG hu
          have hl1 : Own w1 w.heap.size 44 1 _ ql (fun m => [.slice (upd SL ql A1 m) (upd LL ql (L i + k + 1) m) (upd CL ql c1 m)]) := HG1.out.1.1.long.congr fun m hm => by rw [upd_ne _ _ _ (by omega), upd_ne _ _ _ (by omega), upd_ne _ _ _ (by omega)]
          have HL1 := Lib.hid hl1
          have hu2 : Hid ((#[Value.slice A1 (L i + k + 1) c1] : Array Value).toList = [.slice (upd SL ql A1 ql) (upd LL ql (L i + k + 1) ql) (upd CL ql c1 ql)]) := Lib.hid (by rw [upd_at, upd_at, upd_at])
          clear hl1
          go_wp2_with (at_builtin; refine wpList_pushX _ rfl (.tmp 31) (.tmp 33) 85 rfl w.heap.size 44 1 24 (.slice none 0 0) #[.slice A1 (L i + k + 1) c1] Try.underlying85 ap8BBB rfl _ ql _ rfl HL1.out hsw1 _ rfl rfl hu2.out rfl rfl (by omega) (by omega) ?_)
          intro v2 w2 hown2 hbel2 hg2
          have HG2 := Lib.hid (HG1.out.keepL rfl HA.out hlt (by decide) (by decide) (by omega) (by omega) hown2 hg2)
          have HP2 := Lib.hid (HP.out.next (k := k) (i := i) HQ.out (by omega))
          clear hown2 hbel2 hg2 HG1 HL1 hu2 HP
          go_wp2
          go_roundg (66 - (k + 1))
          case measure => omega
          case rel => exact ⟨k + 1, ql + 1, _, _, _, _, _, by omega, rfl, by go_num, (by have := HQ.out; omega), HP2.out, HG2.out⟩
        · obtain rfl : k = 66 := by omega
          have HG2 := Lib.hid hG.stop
          clear hG hP
          go_wp2
          go_roundg (N - (i + 1))
          case measure => omega
          case rel => exact ⟨i + 1, ql, SL, LL, CL, I, bk, by omega, rfl, by go_num, (by have := HQ.out; omega), HP.out, HG2.out⟩
    · obtain rfl : N = i := by omega
      have HG := Lib.hid hG
      have HP := Lib.hid hP
      clear hG hP
      obtain ⟨Al, cl, rfl, _, _, hrl, _⟩ := HG.out.1.long.rd
      obtain ⟨wz, hwz⟩ : ∃ wz, wz = wr := ⟨_, rfl⟩
      rw [← hwz] at HG hrl ⊢
      have HRL := Lib.hid hrl
      clear hwz hrl
      go_wp2
      go_loopg [7, 8, 9, 10] ql (fun gk vn _ _ _ wr => ∃ m : Nat, m ≤ ql ∧ gk = ql - m ∧ vn = .int .i64 m ∧ Below wz.heap.size wz wr)
      case atStart => exact ⟨0, Nat.zero_le _, rfl, rfl, Below.refl _ _⟩
      case round =>
        obtain ⟨m, hm, rfl, rfl, hb⟩ := hrel
        by_cases hlt : m < ql
        · obtain ⟨bl, ol, rfl, hbl, hcl⟩ := HRL.out m hlt
          have hi0 := (HG.out.1.kept m hlt).1
          have hIt := fun j (hl : L (I m) ≤ j) (hj : j < LL m) => HG.out.item hlt hl hj
          have hlnn := HG.out.1.lenb m hlt
          obtain ⟨i0, hi0e⟩ : ∃ i0, i0 = I m := ⟨_, rfl⟩
          obtain ⟨A0, hA0⟩ : ∃ A0, A0 = SL m := ⟨_, rfl⟩
          obtain ⟨ln, hln⟩ : ∃ ln, ln = LL m := ⟨_, rfl⟩
          obtain ⟨c0, hc0⟩ : ∃ c0, c0 = CL m := ⟨_, rfl⟩
          have hiq : (m : Int).tdiv 66 = (i0 : Int) := by rw [hi0e, HP.out m hlt, Int.tdiv_eq_ediv_of_nonneg (by omega)]; omega
          have hw1 : IntKind.i64.wrap (i0 : Int) = (i0 : Int) := by rw [← hi0e] at hi0; rw [IntKind.wrap_i64]; omega
          rw [← hi0e] at hi0 hIt
          rw [← hA0, ← hln] at hIt
          rw [← hln] at hlnn
          have HCL : Hid (∀ w', Below wr.heap.size wr w' → w'.cell? ⟨bl, ol + m, none⟩ = some (.slice A0 ln c0)) := Lib.hid fun w' hb' => by
            rw [hA0, hln, hc0]
            exact ((hb.trans (hb'.mono hb.size)).cell hbl).trans hcl
          obtain ⟨l0, hl0⟩ : ∃ l0, l0 = L i0 := ⟨_, rfl⟩
          rw [← hl0] at hIt
          have HIT := Lib.hid hIt
          obtain ⟨S0, hS0⟩ : ∃ S0, S0 = S i0 := ⟨_, rfl⟩
          obtain ⟨C0, hC0⟩ : ∃ C0, C0 = C i0 := ⟨_, rfl⟩
          obtain ⟨bT, oT, hATe, hct⟩ := HCELL.out wr (HG.out.1.only.below hb) i0 hi0
          subst hATe
          rw [← hS0, ← hl0, ← hC0] at hct
          have hlnb := HCL.out wr (Below.refl _ _)
          have hl0b : l0 ≤ 1000000000 := by rw [hl0]; exact HL.out i0 hi0
          have hw2 : (i0 : Int) % 256 = (i0 : Int) := by omega
          have HBz := Lib.hid hb
          clear hb hbl hcl hIt hi0e hA0 hln hc0 hl0 hS0 hC0
          go_wp2
          go_loopg [9, 10] ln (fun gk vj _ wr' => ∃ j : Nat, l0 ≤ j ∧ j ≤ l0 + ln ∧ gk = l0 + ln - j ∧ vj = .int .i64 j ∧ Below wr.heap.size wr wr')
          case atStart => exact ⟨l0, Nat.le_refl _, Nat.le_add_right _ _, by omega, rfl, Below.refl _ _⟩
          case round =>
            clear hlnb hct
            obtain ⟨j, hj0, hj, rfl, rfl, hb⟩ := hrel
            have hlnb := HCL.out _ hb
            have HBn := Lib.hid hb
            replace HBz := Lib.hid (HBz.out.trans (hb.mono HBz.out.size))
            by_cases hlj : j < ln
            · obtain ⟨by1, oy1, rfl, hby1, hcy1, hbj, hbjl⟩ := HIT.out j hj0 hlj
              unfold eV at hcy1
              obtain ⟨bj, hbje⟩ : ∃ bj, bj = bk i0 j := ⟨_, rfl⟩
              rw [← hbje] at hcy1 hbj hbjl
              replace hcy1 := (HBz.out.cell hby1).trans hcy1
              replace hcy1 : _ = some (Value.slice (some ⟨bj, 0, none⟩) 2 2) := hcy1
              replace hbj := (HBz.out.block _ hbjl).trans hbj
              have hx0 : wr.cell? ⟨bj, 0, none⟩ = some (.int .u8 (i0 : Int)) := by rw [cell_of_row _ bj 0 _ 5 (0, 0) hbj]; rfl
              have hx1 : wr.cell? ⟨bj, 1, none⟩ = some (.int .u8 99) := by rw [cell_of_row _ bj 1 _ 5 (0, 0) hbj]; rfl
              clear hb hby1 hbj hbjl hbje
              go_wp2
              go_roundg (l0 + ln - (j + 1))
              case measure => omega
              case rel => exact ⟨j + 1, by omega, by omega, rfl, by go_num, HBn.out⟩
            · have hjn : ¬ (j : Int) < (ln : Int) := by omega
              clear hb
              go_wp2
              go_roundg (ql - (m + 1))
              case measure => omega
              case rel => exact ⟨m + 1, by omega, rfl, by go_num, HBz.out⟩
        · obtain rfl : ql = m := by omega
          have HF := Lib.hid (HG.out.1.only.below hb)
          clear hb
          go_wp2
          go_ret
          exact ⟨rfl, HF.out⟩
end Go.Proofs.Ytbioanbokbhmgaa
