/- Join of both, as one fact; strings of bytes. Conditions: shards that memory bears. -/
import Derived.Test.YtjaaldandgfkgaaJoi
import Derived.Test.YtjaaldandgfkgaaJnU
import Derived.Test.YtjaaldandgfkgaaStrN
import Derived.Test.YtjaaldandgfkgaaFactT
namespace Go.Proofs.Ytjaaldandgfkgaa
open Go.RowKit

def strL (l : List Nat) : ByteArray := strN l.length fun i => l.getD i 0
theorem conv_strL {w : World} {A : Option Addr} {l : List Nat} (c : Nat) (hl : ∀ x ∈ l, x < 256) (h : RL w A l) : (convert 43 9 (.slice A l.length c)).run Try.prog w = .ok (.string (strL l)) w :=
 conv_str (P := Try.prog) w 43 9 5 A l.length c (fun i => l.getD i 0) Try.underlying43 Try.underlying5 Try.underlying9 (fun _ hi => getD_lt hl hi) h
/-- What Join answers, both of them. -/
def JoinR (n : Nat) (H : Nat → Hd) (BL : Nat → List (List Nat)) (er : Int) (l : List Nat) : Prop := LookE n H BL er ∧ (er ≠ 0 → l = []) ∧ (er = 0 → ∃ k, FstS n H k ∧ JnL n H BL (H k) l)
theorem JoinR.uniq {n : Nat} {H : Nat → Hd} {BL : Nat → List (List Nat)} {er er' : Int} {l l' : List Nat} (h : JoinR n H BL er l) (h' : JoinR n H BL er' l') : er = er' ∧ l = l' := join_uniq h.1 h'.1 h.2.1 h'.2.1 h.2.2 h'.2.2
theorem JoinR.lt {n : Nat} {H : Nat → Hd} {BL : Nat → List (List Nat)} {er : Int} {l : List Nat} (h : JoinR n H BL er l) : ∀ x ∈ l, x < 256 := by
 by_cases e : er = 0
 · obtain ⟨k, _, h1⟩ := h.2.2 e; exact h1.lt
 · rw [h.2.1 e]; simp
theorem LookE.checked {n : Nat} {H : Nat → Hd} {BL : Nat → List (List Nat)} {k : Nat} (h : LookE n H BL 0) (hk : FstS n H k) : checkE (H k) = 0 := by
 rcases h with ⟨_, h⟩ | ⟨k', hk', hz⟩
 · cases h
 · have := hk.uniq hk'
   subst this
   rcases hz with ⟨h1, h2⟩ | ⟨_, _, h2⟩ | ⟨_, _, t, _, _, _, h2⟩ | ⟨_, _, _, _, h2⟩ | ⟨h1, _⟩
   · exact absurd h2.symm h1
   · cases h2
   · rcases h2 with ⟨_, h2⟩ | ⟨_, _, h2⟩ <;> cases h2
   · cases h2
   · exact h1
theorem JoinR.len {n : Nat} {H : Nat → Hd} {BL : Nat → List (List Nat)} {er : Int} {l : List Nat} (h : JoinR n H BL er l) : l.length ≤ 140737488351232 := by
 by_cases e : er = 0
 · subst e
   obtain ⟨k, hk, O, _, h1⟩ := h.2.2 rfl
   rw [h1, mkL_length]
   have := (size_facts (check_facts (h.1.checked hk)).2.2.2.1)
   omega
 · rw [h.2.1 e]; decide
theorem join_all (A : Option Addr) (n c : Nat) (H : Nat → Hd) (BL : Nat → List (List Nat)) (w : World) (hn : n ≤ 1000000000000000) (hW : ∀ i, i < n → HdW (H i)) (hA : RSd w A n H BL) (hL : ∀ i, i < n → (BL i).length ≤ 140737488351232) (hLL : ∀ i, i < n → ∀ l ∈ BL i, l.length ≤ 140737488351232) (hX : ∀ i, i < n → ∀ l ∈ BL i, ∀ x ∈ l, x < 256) :
 Calls Try.prog 28 #[.slice A n c] w fun e w' => ∃ er l A' c', e = .returned (.tuple #[.slice A' l.length c', .int .i64 er]) ∧ JoinR n H BL er l ∧ OwnB w' w.heap.size (.slice A' l.length c') l ∧ Below w.heap.size w w' := by
 refine (join_any A n c H BL w hn hW hA hL hLL hX).mono ?_
 rintro e w' ⟨hb, er, l, v, h1, rfl, h2, h3, h4⟩
 obtain ⟨A', c', rfl, _, _, _, _⟩ := h2.own.rd
 exact ⟨er, l, A', c', rfl, ⟨h1, h3, h4⟩, h2, hb⟩
theorem own_rl' {w : World} {B n c : Nat} {A : Option Addr} {l : List Nat} (h : OwnB w B (.slice A n c) l) : RL w A l := by
 obtain ⟨A', c', e, _, _, hr, _⟩ := h.own.rd
 injection e with e1 _ _
 rw [e1]; exact hr
end Go.Proofs.Ytjaaldandgfkgaa

/- Piece of both; Cut. Conditions: shards that memory bears. -/
namespace Go.Proofs.Ytjaaldandgfkgaa
open Go.RowKit

def cutL (l : List Nat) (o m : Nat) : List Nat := (l.drop o).take m
theorem cutL_length (l : List Nat) (o m : Nat) : (cutL l o m).length = min m (l.length - o) := by simp [cutL]
theorem cutL_get {l : List Nat} {o m i : Nat} (h : i < (cutL l o m).length) : (cutL l o m).getD i 0 = l.getD (o + i) 0 := by
 rw [cutL_length] at h
 simp only [cutL, List.getD_eq_getElem?_getD]
 rw [List.getElem?_take_of_lt (by omega), List.getElem?_drop]
theorem cutL_lt {l : List Nat} (hl : ∀ x ∈ l, x < 256) (o m : Nat) : ∀ x ∈ cutL l o m, x < 256 := fun x hx => hl x (List.mem_of_mem_drop (List.mem_of_mem_take hx))
theorem cutL_over {l : List Nat} {o : Nat} (h : l.length ≤ o) (m : Nat) : cutL l o m = [] := by
 unfold cutL; rw [List.drop_eq_nil_of_le h]; exact List.take_nil
theorem cutL_zero (o m : Nat) : cutL [] o m = [] := by simp [cutL]
theorem cutL_yes {l : List Nat} {o m k : Nat} (hk : k < l.length) (h1 : o ≤ k) (h2 : k - o < m) : cutL (l.take k) o m ++ [l.getD k 0] = cutL (l.take (k + 1)) o m := by
 rw [take_next hk]
 unfold cutL
 have hl : (l.take k).length = k := by rw [List.length_take]; omega
 rw [List.drop_append_of_le_length (by omega)]
 have h3 : ((l.take k).drop o).length = k - o := by rw [List.length_drop, hl]
 rw [List.take_of_length_le (l := (l.take k).drop o) (by omega), List.take_of_length_le (l := (l.take k).drop o ++ [l.getD k 0]) (by rw [List.length_append, h3]; simp; omega)]
theorem cutL_no {l : List Nat} {o m k : Nat} (hk : k < l.length) (h : ¬ (o ≤ k ∧ k - o < m)) : cutL (l.take k) o m = cutL (l.take (k + 1)) o m := by
 rw [take_next hk]
 have hl : (l.take k).length = k := by rw [List.length_take]; omega
 by_cases h1 : o ≤ k
 · unfold cutL
   rw [List.drop_append_of_le_length (by omega)]
   have h3 : ((l.take k).drop o).length = k - o := by rw [List.length_drop, hl]
   rw [List.take_append_of_le_length (by omega)]
 · rw [cutL_over (by omega), cutL_over (by rw [List.length_append, hl]; simp; omega)]
/-- What Piece answers, both of them. -/
def PieceR (n : Nat) (H : Nat → Hd) (BL : Nat → List (List Nat)) (off q : Int) (er : Int) (l : List Nat) : Prop :=
 ∃ er0 l0, JoinR n H BL er0 l0 ∧ ((er0 ≠ 0 ∧ er = er0 ∧ l = []) ∨ (er0 = 0 ∧ (off < 0 ∨ q < 0) ∧ er = 2 ∧ l = []) ∨ (er0 = 0 ∧ 0 ≤ off ∧ 0 ≤ q ∧ er = 0 ∧ l = cutL l0 off.toNat q.toNat))
theorem PieceR.uniq {n : Nat} {H : Nat → Hd} {BL : Nat → List (List Nat)} {off q er er' : Int} {l l' : List Nat} (h : PieceR n H BL off q er l) (h' : PieceR n H BL off q er' l') : er = er' ∧ l = l' := by
 obtain ⟨e0, l0, hJ, h⟩ := h
 obtain ⟨e1, l1, hJ', h'⟩ := h'
 obtain ⟨rfl, rfl⟩ := hJ.uniq hJ'
 rcases h with ⟨a, b, c⟩ | ⟨a, b, c, d⟩ | ⟨a, b, c, d, e⟩ <;> rcases h' with ⟨a', b', c'⟩ | ⟨a', b', c', d'⟩ | ⟨a', b', c', d', e'⟩
 all_goals first
  | (subst b b' c c'; exact ⟨rfl, rfl⟩)
  | (subst c d c' d'; exact ⟨rfl, rfl⟩)
  | (subst d e d' e'; exact ⟨rfl, rfl⟩)
  | exact absurd a' a
  | exact absurd a a'
  | (exfalso; omega)
theorem PieceR.lt {n : Nat} {H : Nat → Hd} {BL : Nat → List (List Nat)} {off q er : Int} {l : List Nat} (h : PieceR n H BL off q er l) : ∀ x ∈ l, x < 256 := by
 obtain ⟨e0, l0, hJ, h⟩ := h
 rcases h with ⟨_, _, rfl⟩ | ⟨_, _, _, rfl⟩ | ⟨_, _, _, _, rfl⟩
 · simp
 · simp
 · exact cutL_lt hJ.lt _ _
theorem sub_rl {w : World} {B n c o : Nat} {A : Option Addr} {l : List Nat} (h : OwnB w B (.slice A n c) l) (g : Nat) (hA : A = some ⟨g, 0, none⟩) (m : Nat) : RL w (some ⟨g, o, none⟩) (cutL l o m) := by
 have h1 := own_rl' h
 subst hA
 intro i hi
 have h2 := hi
 rw [cutL_length] at h2
 obtain ⟨b, o1, e, hb, hc⟩ := h1 (o + i) (by omega)
 injection e with e; injection e with e1 e2
 subst e1 e2
 refine ⟨_, _, rfl, hb, ?_⟩
 rw [Nat.zero_add] at hc
 rw [hc]
 show some (Value.int .u8 _) = some (Value.int .u8 _)
 rw [cutL_get hi]
set_option maxRecDepth 100000 in
set_option maxHeartbeats 4000000 in
theorem piece_all (A : Option Addr) (n c : Nat) (H : Nat → Hd) (BL : Nat → List (List Nat)) (off q : Int) (w : World) (hn : n ≤ 1000000000000000) (ho : -9223372036854775808 ≤ off ∧ off ≤ 9223372036854775807) (hq : -9223372036854775808 ≤ q ∧ q ≤ 9223372036854775807) (hW : ∀ i, i < n → HdW (H i)) (hA : RSd w A n H BL) (hL : ∀ i, i < n → (BL i).length ≤ 140737488351232) (hLL : ∀ i, i < n → ∀ l ∈ BL i, l.length ≤ 140737488351232) (hX : ∀ i, i < n → ∀ l ∈ BL i, ∀ x ∈ l, x < 256) :
 Calls Try.prog 32 #[.slice A n c, .int .i64 off, .int .i64 q] w fun e w' => ∃ er l A' c', e = .returned (.tuple #[.slice A' l.length c', .int .i64 er]) ∧ PieceR n H BL off q er l ∧ RL w' A' l ∧ Below w.heap.size w w' := by
 have HJL := Lib.hid (join_all A n c H BL w hn hW hA hL hLL hX)
 clear hW hA hL hLL hX
 go_enter Try.func32, Try.ntmps32
 go_wp2_with fail
 refine HJL.out.mono ?_
 rintro e w1 ⟨er, l, A1, c1, rfl, hJ, hO, hb⟩
 have HJ := Lib.hid hJ; have HO := Lib.hid hO; have HB := Lib.hid hb
 have hln2 := hJ.len
 clear hJ hO hb HJL
 obtain ⟨ln, hln⟩ : ∃ ln, ln = l.length := ⟨_, rfl⟩
 have HLN := Lib.hid hln
 rw [← hln] at HO hln2 ⊢
 clear hln
 by_cases her : er = 0
 · subst her
   by_cases ho0 : off < 0
   · go_wp2
     go_ret2
     exact ⟨2, [], none, 0, rfl, ⟨0, l, HJ.out, .inr (.inl ⟨rfl, .inl ho0, rfl, rfl⟩)⟩, RL.nil _ _, HB.out⟩
   · by_cases hq0 : q < 0
     · go_wp2
       go_ret2
       exact ⟨2, [], none, 0, rfl, ⟨0, l, HJ.out, .inr (.inl ⟨rfl, .inr hq0, rfl, rfl⟩)⟩, RL.nil _ _, HB.out⟩
     · obtain ⟨o, rfl⟩ : ∃ o : Nat, off = (o : Int) := ⟨off.toNat, by omega⟩
       obtain ⟨m, rfl⟩ : ∃ m : Nat, q = (m : Int) := ⟨q.toNat, by omega⟩
       by_cases hol : ln ≤ o
       · have hol2 : (ln : Int) ≤ (o : Int) := by omega
         have HE := Lib.hid (cutL_over (l := l) (o := o) (by rw [← HLN.out]; exact hol) m)
         go_wp2
         go_ret2
         exact ⟨0, [], none, 0, rfl, ⟨0, l, HJ.out, .inr (.inr ⟨rfl, by omega, by omega, rfl, HE.out.symm⟩)⟩, RL.nil _ _, HB.out⟩
       · have hol2 : ¬ (ln : Int) ≤ (o : Int) := by omega
         obtain ⟨g, cg, e1, _, _, hlc, _⟩ := HO.out.own.form (show 0 < l.length by rw [← HLN.out]; omega)
         injection e1 with e1 e2 e3
         clear e2
         subst e1 e3
         rw [← HLN.out] at hlc
         have hsub : IntKind.i64.wrap ((ln : Int) - (o : Int)) = (ln : Int) - (o : Int) := by rw [IntKind.wrap_i64]; omega
         have HR := Lib.hid (sub_rl (o := o) HO.out g rfl m)
         have HCL := Lib.hid (cutL_length l o m)
         rw [← HLN.out] at HCL
         have h1 : (0 : Int) ≤ (o : Int) := by omega
         have hmn : 0 ≤ min (m : Int) ((ln : Int) - (o : Int)) ∧ min (m : Int) ((ln : Int) - (o : Int)) ≤ (ln : Int) - (o : Int) := by omega
         have hadd : IntKind.i64.wrap ((o : Int) + min (m : Int) ((ln : Int) - (o : Int))) = (o : Int) + min (m : Int) ((ln : Int) - (o : Int)) := by rw [IntKind.wrap_i64]; omega
         have h2 : (o : Int) ≤ (o : Int) + min (m : Int) ((ln : Int) - (o : Int)) := by omega
         have h3 : (o : Int) + min (m : Int) ((ln : Int) - (o : Int)) ≤ (c1 : Int) := by omega
         have HE : Hid (((o : Int) + min (m : Int) ((ln : Int) - (o : Int))).toNat - o = (cutL l o m).length) := Lib.hid (by rw [HCL.out]; omega)
         go_wp2
         go_ret2
         exact ⟨0, cutL l o m, some ⟨g, o, none⟩, c1 - o, by rw [← HE.out]; rfl, ⟨0, l, HJ.out, .inr (.inr ⟨rfl, by omega, by omega, rfl, rfl⟩)⟩, HR.out, HB.out⟩
 · go_wp2
   go_ret2
   exact ⟨er, [], none, 0, rfl, ⟨er, l, HJ.out, .inl ⟨her, rfl, rfl⟩⟩, RL.nil _ _, HB.out⟩
end Go.Proofs.Ytjaaldandgfkgaa

/- Piece of the whole: the walk, with whose memory the answer is. Conditions: shards that memory bears, of which Join makes l. -/
namespace Go.Proofs.Ytjaaldandgfkgaa
open Go.RowKit

set_option maxRecDepth 100000 in
set_option maxHeartbeats 4000000 in
theorem piece_own (A : Option Addr) (n c : Nat) (H : Nat → Hd) (BL : Nat → List (List Nat)) (l : List Nat) (w : World) (hn : n ≤ 1000000000000000) (hW : ∀ i, i < n → HdW (H i)) (hA : RSd w A n H BL) (hL : ∀ i, i < n → (BL i).length ≤ 140737488351232) (hLL : ∀ i, i < n → ∀ l ∈ BL i, l.length ≤ 140737488351232) (hX : ∀ i, i < n → ∀ l ∈ BL i, ∀ x ∈ l, x < 256)
 (hJ : ∀ er l', JoinR n H BL er l' → er = 0 ∧ l' = l) :
 Calls Try.prog 32 #[.slice A n c, .int .i64 0, .int .i64 (l.length : Nat)] w fun e w' => ∃ A' c', e = .returned (.tuple #[.slice A' l.length c', .int .i64 0]) ∧ OwnB w' w.heap.size (.slice A' l.length c') l ∧ Below w.heap.size w w' := by
 have HJL := Lib.hid (join_all A n c H BL w hn hW hA hL hLL hX)
 have HJ := Lib.hid hJ
 clear hW hA hL hLL hX hJ
 obtain ⟨ln, hln⟩ : ∃ ln, ln = l.length := ⟨_, rfl⟩
 have HLN := Lib.hid hln
 rw [← hln]
 clear hln
 go_enter Try.func32, Try.ntmps32
 go_wp2_with fail
 refine HJL.out.mono ?_
 rintro e w1 ⟨er, l', A1, c1, rfl, hJ1, hO, hb⟩
 obtain ⟨h1, h2⟩ := HJ.out er l' hJ1
 have hln2 := hJ1.len
 have HB := Lib.hid hb
 subst h1
 subst h2
 have HO := Lib.hid hO
 clear hJ1 hO hb HJL HJ
 rw [← HLN.out] at HO hln2 ⊢
 by_cases hol : ln = 0
 · have hol2 : (ln : Int) ≤ 0 := by omega
   have HE : Hid (OwnB w1 w.heap.size (.slice none 0 0) l') := Lib.hid (by
    have : l' = [] := List.eq_nil_of_length_eq_zero (by rw [← HLN.out]; exact hol)
    subst this
    exact OwnB.nil _ _)
   subst hol
   go_wp2
   go_ret2
   exact ⟨none, 0, rfl, HE.out, HB.out⟩
 · have hol2 : ¬ (ln : Int) ≤ 0 := by omega
   obtain ⟨g, cg, e1, _, _, hlc, _⟩ := HO.out.own.form (show 0 < l'.length by rw [← HLN.out]; omega)
   injection e1 with e1 e2 e3
   clear e2
   subst e1 e3
   rw [← HLN.out] at hlc
   have hsub : IntKind.i64.wrap ((ln : Int) - 0) = (ln : Int) := by rw [IntKind.wrap_i64]; omega
   have hsub2 : IntKind.i64.wrap (ln : Int) = (ln : Int) := by rw [IntKind.wrap_i64]; omega
   have hadd : IntKind.i64.wrap (0 + (ln : Int)) = (ln : Int) := by rw [IntKind.wrap_i64]; omega
   have hmn : min (ln : Int) (ln : Int) = (ln : Int) := by omega
   have h2 : (0 : Int) ≤ (ln : Int) := by omega
   have h3 : (ln : Int) ≤ (c1 : Int) := by omega
   go_wp2
   go_ret2
   exact ⟨some ⟨g, 0, none⟩, c1, rfl, HO.out, HB.out⟩
end Go.Proofs.Ytjaaldandgfkgaa

/- The law's page: pick, places, cut; counting. Conditions: small numbers; bytes that memory bears. -/
namespace Go.Proofs.Ytjaaldandgfkgaa
open Go.RowKit

def cntB (P : Nat → Bool) : Nat → Nat
 | 0 => 0
 | n + 1 => cntB P n + if P n then 1 else 0
theorem cntB_le (P : Nat → Bool) : ∀ n, cntB P n ≤ n
 | 0 => Nat.le_refl _
 | n + 1 => by have := cntB_le P n; unfold cntB; split <;> omega
theorem cntB_not (P : Nat → Bool) : ∀ n, cntB P n + cntB (fun i => !P i) n = n
 | 0 => rfl
 | n + 1 => by
  have := cntB_not P n
  unfold cntB
  cases P n <;> simp <;> omega
def pickN (k : Int) (n : Nat) : Nat := (k.emod n).toNat
theorem pickN_lt {k : Int} {n : Nat} (h : 0 < n) : pickN k n < n := by
 unfold pickN
 have h1 := Int.emod_nonneg k (b := (n : Int)) (by omega)
 have h2 := Int.emod_lt_of_pos k (b := (n : Int)) (by omega)
 show (k % (n : Int)).toNat < n
 omega
theorem pick_any (k : Int) (n : Nat) (w : World) (hn : 0 < n) (hn2 : n ≤ 4611686018427387904) :
 Calls Try.prog 35 #[.int .i64 k, .int .i64 n] w fun e w' => e = .returned (.int .i64 (pickN k n : Nat)) ∧ w = w' := by
 have h0 : ¬ ((n : Int) < 1) := by omega
 have hz : (n : Int) ≠ 0 := by omega
 have hP : Hid (((pickN k n : Nat) : Int) = k % (n : Int)) := Int.toNat_of_nonneg (Int.emod_nonneg k (b := (n : Int)) (by omega))
 have h1 := Int.emod_nonneg k (b := (n : Int)) (by omega)
 have h2 := Int.emod_lt_of_pos k (b := (n : Int)) (by omega)
 have h3 : k.tmod n = k % (n : Int) ∨ k.tmod n = k % (n : Int) - n := by
  rcases Int.le_total 0 k with h | h
  · exact .inl (Int.tmod_eq_emod_of_nonneg h)
  · by_cases hd : k % (n : Int) = 0
    · left; rw [hd]; exact Int.tmod_eq_zero_of_dvd (Int.dvd_of_emod_eq_zero hd)
    · right
      have := Int.tmod_eq_emod (a := k) (b := (n : Int))
      rw [this, if_neg]
      · omega
      · rintro (h' | h')
        · have : k = 0 := by omega
          subst this; simp at hd
        · exact hd (Int.emod_eq_zero_of_dvd h')
 have H3 := Lib.hid h3
 clear h3
 rw [hP.out]
 by_cases hneg : k.tmod n < 0
 · have hT : Hid (k.tmod n + n = k % (n : Int)) := by
    have := H3.out
    show _ = _
    omega
   have hw : IntKind.i64.wrap (k.tmod n + n) = k.tmod n + n := i64_small _ (by rw [hT.out]; omega) (by rw [hT.out]; omega)
   clear h1 h2 H3 hP
   go_enter Try.func35, Try.ntmps35
   go_wp2
   go_ret
   exact ⟨by rw [← hT.out]; rfl, rfl⟩
 · have hT : Hid (k.tmod n = k % (n : Int)) := by
    have := H3.out
    show _ = _
    omega
   clear h1 h2 H3 hP
   go_enter Try.func35, Try.ntmps35
   go_wp2
   go_ret
   exact ⟨by rw [← hT.out]; rfl, rfl⟩
theorem boolInfo : (Try.prog.info? 4).map (fun i => (i.zero, i.size, i.bytes)) = some (some (.bool false), 1, 1) := by kernel_rfl
theorem cntB_zero : ∀ n, cntB (fun _ => false) n = 0
 | 0 => rfl
 | n + 1 => by unfold cntB; rw [cntB_zero n]; rfl
theorem cntB_put (P : Nat → Bool) (q : Nat) : ∀ n, cntB (fun j => if j = q then true else P j) n ≤ cntB P n + 1 ∧ (n ≤ q → cntB (fun j => if j = q then true else P j) n = cntB P n)
 | 0 => ⟨by show 0 ≤ 0 + 1; omega, fun _ => rfl⟩
 | n + 1 => by
  obtain ⟨h1, h2⟩ := cntB_put P q n
  unfold cntB
  by_cases e : n = q
  · have := h2 (by omega)
    refine ⟨?_, fun h => by omega⟩
    rw [this]; simp only [e, if_true]; split <;> omega
  · refine ⟨?_, fun h => ?_⟩
    · simp only [e, if_false]; split <;> omega
    · rw [h2 (by omega)]; simp only [e, if_false]
set_option maxRecDepth 20000 in
set_option maxHeartbeats 1000000 in
theorem places_any (A : Option Addr) (np cp n most : Nat) (pi : Nat → Int) (w : World) (hn : 0 < n) (hn2 : n ≤ 1000) (hm : most ≤ 1000) (_hnp : np * 8 ≤ 140737488351232) (hA : Rd w A np fun i => .int .i64 (pi i)) :
 Calls Try.prog 37 #[.slice A np cp, .int .i64 n, .int .i64 most] w fun e w' => ∃ (b : Nat) (P : Nat → Bool), e = .returned (.slice (some ⟨b, 0, none⟩) n n) ∧ w'.rowIs b 4 n (fun i => .bool (P i)) ∧ cntB P n ≤ most ∧ w.heap.size ≤ b ∧ Below w.heap.size w w' := by
 have hmk := run_make_row' (P := Try.prog) 74 4 (.bool false) 1 Try.underlying74 boolInfo rfl .i64 .i64 n (by omega) (by omega)
 have HA := Lib.hid hA; clear hA
 have hz0 := Lib.hid (World.rowIs_made w (.bool false) n 4)
 have hb0 := Lib.hid ((Below.refl w.heap.size w).alloc (Nat.le_refl _) (.cells (madeCells #[.bool false] n) 4))
 obtain ⟨rb, hrb⟩ : ∃ rb, rb = w.heap.size := ⟨_, rfl⟩
 go_enter Try.func37, Try.ntmps37
 go_wp2
 clear hmk
 rw [← hrb] at hz0 hb0
 have HRB := Lib.hid hrb
 rw [← hrb]
 clear hrb
 go_loopg [8] np (fun gk i wr => ∃ (q : Nat) (P : Nat → Bool), q ≤ np ∧ q ≤ most ∧ gk = np - q ∧ i = .int .i64 q ∧ wr.rowIs rb 4 n (fun i => .bool (P i)) ∧ cntB P n ≤ q ∧ Below rb w wr)
 case atStart => exact ⟨0, fun _ => false, Nat.zero_le _, Nat.zero_le _, rfl, rfl, hz0.out, by rw [cntB_zero]; exact Nat.le_refl _, hb0.out⟩
 case round =>
  clear hz0 hb0
  obtain ⟨q, P, hq, hqm, rfl, rfl, hR, hcnt, hB⟩ := hrel
  have HR := Lib.hid hR; have HB := Lib.hid hB; have HC := Lib.hid hcnt
  clear hR hB hcnt
  by_cases hlt : q < np ∧ q < most
  · obtain ⟨hlt, hlm⟩ := hlt
    obtain ⟨b, o, rfl, hb, hc⟩ := HA.out q hlt
    have hc' : wr.cell? ⟨b, o + q, none⟩ = some (.int .i64 (pi q)) := by
     have h := HB.out
     rw [HRB.out] at h
     exact (h.cell hb).trans hc
    have hpl := pickN_lt (k := pi q) hn
    clear hc
    go_wp2_with fail
    refine (pick_any (pi q) n wr hn (by omega)).mono ?_
    rintro e w1 ⟨rfl, rfl⟩
    generalize pickN (pi q) n = j at *
    have hfz := HR.out.frozen j
    have HS := Lib.hid ((HR.out.set j (.bool true)).congr (g := fun i => .bool (if i = j then true else P i)) fun i _ => by by_cases e : i = j <;> simp [e])
    have HC2 : Hid (cntB (fun i => if i = j then true else P i) n ≤ q + 1) := by have := (cntB_put P j n).1; have := HC.out; show _ ≤ _; omega
    have HB2 : Hid (Below rb w (wr.setCell ⟨rb, j, none⟩ (.bool true))) := HB.out.setCell (Nat.le_refl _) _
    have hst := HR.out.cell hpl
    clear HR HB HC
    go_wp2
    go_roundg (np - (q + 1))
    case measure => omega
    case rel => exact ⟨q + 1, _, by omega, by omega, rfl, by go_num, HS.out, HC2.out, HB2.out⟩
  · have hcases : ¬ q < np ∨ (q < np ∧ ¬ q < most) := by omega
    have HF : Hid (cntB P n ≤ most) := Nat.le_trans HC.out hqm
    have HBF : Hid (Below w.heap.size w wr) := by have h := HB.out; rw [HRB.out] at h; exact h
    have HLE : Hid (w.heap.size ≤ rb) := by rw [HRB.out]; exact Nat.le_refl _
    clear hlt
    rcases hcases with hc | ⟨hc1, hc2⟩
    all_goals
     go_wp2
     go_ret
     exact ⟨rb, P, rfl, HR.out, HF.out, HLE.out, HBF.out⟩

theorem rl_some {w : World} {A : Option Addr} {l : List Nat} (h : RL w A l) (hl : 0 < l.length) : ∃ b o, A = some ⟨b, o, none⟩ := by
 obtain ⟨b, o, e, _⟩ := h 0 hl
 exact ⟨b, o, e⟩
theorem sub_rl' {w : World} {b o1 o : Nat} {l : List Nat} (h : RL w (some ⟨b, o1, none⟩) l) (m : Nat) : RL w (some ⟨b, o1 + o, none⟩) (cutL l o m) := by
 intro i hi
 have h2 := hi
 rw [cutL_length] at h2
 obtain ⟨b', o', e, hb, hc⟩ := h (o + i) (by omega)
 injection e with e; injection e with e1 e2
 subst e1 e2
 refine ⟨_, _, rfl, hb, ?_⟩
 rw [← Nat.add_assoc] at hc
 rw [hc]
 show some (Value.int .u8 _) = some (Value.int .u8 _)
 rw [cutL_get hi]
set_option maxRecDepth 20000 in
set_option maxHeartbeats 1000000 in
theorem cutp_any (A : Option Addr) (c o m : Nat) (l : List Nat) (w : World) (hl : l.length ≤ 140737488351232) (hlc : l.length ≤ c) (ho : o ≤ 9223372036854775807) (_hm : m ≤ 9223372036854775807) (hA : RL w A l) :
 Calls Try.prog 39 #[.slice A l.length c, .int .i64 (o : Nat), .int .i64 (m : Nat)] w fun e w' => (∃ A' c', e = .returned (.slice A' (cutL l o m).length c') ∧ RL w A' (cutL l o m)) ∧ w = w' := by
 have HA := Lib.hid hA
 have HCL := Lib.hid (cutL_length l o m)
 obtain ⟨ln, hln⟩ : ∃ ln, ln = l.length := ⟨_, rfl⟩
 have HLN := Lib.hid hln
 rw [← hln] at hl hlc HCL ⊢
 clear hA hln
 by_cases hol : ln ≤ o
 · have hol2 : (ln : Int) ≤ (o : Int) := by omega
   have HE := Lib.hid (cutL_over (l := l) (o := o) (by rw [← HLN.out]; exact hol) m)
   go_enter Try.func39, Try.ntmps39
   go_wp2
   go_ret
   exact ⟨⟨none, 0, by rw [HE.out]; rfl, by rw [HE.out]; exact RL.nil _ _⟩, rfl⟩
 · have hol2 : ¬ (ln : Int) ≤ (o : Int) := by omega
   obtain ⟨b, o1, rfl⟩ := rl_some HA.out (by rw [← HLN.out]; omega)
   have HR := Lib.hid (sub_rl' (o := o) HA.out m)
   have hsub : IntKind.i64.wrap ((ln : Int) - (o : Int)) = (ln : Int) - (o : Int) := by rw [IntKind.wrap_i64]; omega
   have h1 : (0 : Int) ≤ (o : Int) := by omega
   have hmn : 0 ≤ min (m : Int) ((ln : Int) - (o : Int)) ∧ min (m : Int) ((ln : Int) - (o : Int)) ≤ (ln : Int) - (o : Int) := by omega
   have hadd : IntKind.i64.wrap ((o : Int) + min (m : Int) ((ln : Int) - (o : Int))) = (o : Int) + min (m : Int) ((ln : Int) - (o : Int)) := by rw [IntKind.wrap_i64]; omega
   have h2 : (o : Int) ≤ (o : Int) + min (m : Int) ((ln : Int) - (o : Int)) := by omega
   have h3 : (o : Int) + min (m : Int) ((ln : Int) - (o : Int)) ≤ (c : Int) := by omega
   have HE : Hid (((o : Int) + min (m : Int) ((ln : Int) - (o : Int))).toNat - o = (cutL l o m).length) := Lib.hid (by rw [HCL.out]; omega)
   go_enter Try.func39, Try.ntmps39
   go_wp2
   go_ret
   exact ⟨⟨some ⟨b, o1 + o, none⟩, ⟨c - o, by rw [← HE.out]; rfl⟩, HR.out⟩, rfl⟩
end Go.Proofs.Ytjaaldandgfkgaa

/- some, fit of the law's page: the walks. Conditions: bytes that memory bears. -/
namespace Go.Proofs.Ytjaaldandgfkgaa
open Go.RowKit

/-- What an object is made of. -/
structure Pln where
 K : Int
 M : Int
 B : Int
 s0 : Int
 s1 : Int
 s2 : Int
 s3 : Int
 s4 : Int
 s5 : Int
 s6 : Int
 s7 : Int
 key : ByteArray
 ep : Int
 ct : Int
def keyF (k : ByteArray) : ByteArray := if k.size = 0 then ⟨#[107]⟩ else if 255 < k.size then k.extract 0 255 else k
def fK (p : Pln) : Nat := pickN p.K 254
def fM (p : Pln) : Nat := pickN p.M (min (1 + fK p) (255 - (1 + fK p)))
def fB (p : Pln) : Nat := pickN p.B 65536
def fitH (p : Pln) : Hd := ⟨p.s0, p.s1, p.s2, p.s3, p.s4, p.s5, p.s6, p.s7, 1 + (fK p : Int), 1 + (fM p : Int), 1 + (fB p : Int), keyF p.key, 0, 0, 1 + (pickN p.ep 4294967295 : Int), 1 + (pickN p.ct 4294967295 : Int)⟩
def fitN (p : Pln) (n : Nat) : Nat := min n (min 1048576 (4096 * (1 + fK p) * (1 + fB p)))
theorem fit_nums (p : Pln) : fK p < 254 ∧ fM p < 1 + fK p ∧ fM p + fK p < 254 ∧ fB p < 65536 := by
 have h1 : fK p < 254 := pickN_lt (by decide)
 have h2 : fM p < min (1 + fK p) (255 - (1 + fK p)) := pickN_lt (by omega)
 have h3 : fB p < 65536 := pickN_lt (by decide)
 omega
def Fact.newH (B0 : Nat) (cs : Array Value) (T : TypeId) : Fact := ⟨fun v w => ∃ g, v = .pointer (some ⟨g, 0, none⟩) ∧ B0 ≤ g ∧ w.heap[g]? = some (.cells cs T (0, 0)), fun v w w' h hb => by
 obtain ⟨g, e, h1, h2⟩ := h
 exact ⟨g, e, h1, by rw [hb.block g (Array.getElem?_eq_some_iff.1 h2).1]; exact h2⟩⟩
def Fact.ownN (B0 : Nat) (l : List Nat) : Fact := ⟨fun v w => ∃ A c, v = .slice A l.length c ∧ OwnB w B0 v l, fun v w w' h hb => by
 obtain ⟨A, c, e, h1⟩ := h
 exact ⟨A, c, e, h1.kept hb⟩⟩
theorem wpList_min3 {P : Program} {w : World} {ops : Array Oper} {rest : List Oper} {o : Oper} {a : Act} {Q : Exit → Act → World → Prop} (hgd : o.guard = none) (x y z : Operand) (ts : Array TypeId)
 (ho : o.op = .call { callee := .builtin .min, args := #[x, y, z], argTypes := ts }) (p q r m : Int) (hx : a.eval x = .int .i64 p) (hy : a.eval y = .int .i64 q) (hz : a.eval z = .int .i64 r) (hm : m = if r < (if q < p then q else p) then r else (if q < p then q else p))
 (h : wpList P ops Q rest (a.put o.dst (.int .i64 m)) w) : wpList P ops Q (o :: rest) a w := by
 refine wpList_plain hgd fun K hK => ?_
 subst hm
 unfold Oper.wp
 simp [execOp, ho, resolve, invoke, builtin, hx, hy, hz, Builtin.min_, Builtin.min2]
 exact hK _ _ h
theorem results_cell1 {P : Program} {fn : Func} {T : TypeId} {s : Tmp} {tmps : Array Value} {g : Nat} {cs : Array Value} {w : World} (hr : fn.results = #[.cell s T]) (hs : tmps.getD s undef = .pointer (some ⟨g, 0, none⟩)) (hl : (loadVar T ⟨g, 0, none⟩).run P w = .ok (.agg cs) w) :
 (results fn tmps).run P w = .ok (.agg cs) w := by
 simp only [Array.getD_eq_getD_getElem?] at hs
 simp [results, hr, hs, hl, asAddr]
theorem ret_cellH1 {fn : Func} {R : Ending → World → Prop} {ac : Act} {w : World} {s : Tmp} {g : Nat} {cs : Array Value} (hr : fn.results = #[.cell s 42]) (hd : ac.defers = []) (hs : ac.tmps.getD s undef = .pointer (some ⟨g, 0, none⟩)) (hz : cs.size = 16)
 (hg : w.heap[g]? = some (.cells cs 42 (0, 0))) (hR : R (.returned (.agg cs)) w) : bodyPost Try.prog fn R .ret ac w := by
 have hl : (loadVar 42 ⟨g, 0, none⟩).run Try.prog w = .ok (.agg cs) w := run_loadVar_row w g 42 42 cs (0, 0) _ hg Try.underlying42 rfl (by rw [info_H, hz])
 exact bodyPost_ret (results_cell1 hr hs hl) hd hR
set_option maxRecDepth 20000 in
theorem some_any (w : World) : Calls Try.prog 67 #[] w fun e w' => e = .returned (.agg #[.int .u8 0, .int .u8 0, .int .u8 0, .int .u8 0, .int .u8 0, .int .u8 0, .int .u8 0, .int .u8 0, .int .i64 2, .int .i64 1, .int .i64 4, .string ⟨#[97]⟩, .int .i64 0, .int .i64 0, .int .i64 1, .int .i64 1]) ∧ Below w.heap.size w w' := by
 go_enter Try.func67, Try.ntmps67
 go_wp2_with (refine wpList_storeNewH rfl (.tmp 0) (.tmp 3) rfl _ rfl rfl rfl rfl rfl ?_)
 exact ret_cellH1 Try.results67 rfl rfl rfl (heap_alloc_new w _) ⟨rfl, (Below.refl _ _).alloc (Nat.le_refl _) _⟩
theorem own_take {w : World} {B0 mo : Nat} {v : Value} {l : List Nat} (h : Own w B0 5 1 v mo (fun j => [.int .u8 (((l.take mo).getD j 0 : Nat) : Int)])) (hl : (l.take mo).length = mo) : ∃ A c, v = .slice A (l.take mo).length c ∧ OwnB w B0 v (l.take mo) := by
 obtain ⟨A, c, e, _⟩ := h.rd
 exact ⟨A, c, by rw [hl]; exact e, OwnB.of (by rw [hl]; exact h)⟩
set_option maxRecDepth 100000 in
set_option maxHeartbeats 4000000 in
theorem lfit_any (p : Pln) (A : Option Addr) (cd : Nat) (l : List Nat) (Pk : Value) (w : World) (hPk : Pk.oneCell' = true) (hl : l.length ≤ 140737488351232) (hlc : l.length ≤ cd) (hA : RL w A l) :
 Calls Try.prog 34 #[.agg #[.int .i64 p.K, .int .i64 p.M, .int .i64 p.B, .int .u8 p.s0, .int .u8 p.s1, .int .u8 p.s2, .int .u8 p.s3, .int .u8 p.s4, .int .u8 p.s5, .int .u8 p.s6, .int .u8 p.s7, .string p.key, .int .i64 p.ep, .int .i64 p.ct, .slice A l.length cd, Pk]] w fun e w' => ∃ A' c', e = .returned (.tuple #[.agg #[.int .u8 (fitH p).s0, .int .u8 (fitH p).s1, .int .u8 (fitH p).s2, .int .u8 (fitH p).s3, .int .u8 (fitH p).s4, .int .u8 (fitH p).s5, .int .u8 (fitH p).s6, .int .u8 (fitH p).s7, .int .i64 (fitH p).K, .int .i64 (fitH p).M, .int .i64 (fitH p).B, .string (fitH p).key, .int .i64 (fitH p).size, .int .i64 (fitH p).idx, .int .i64 (fitH p).ep, .int .i64 (fitH p).ct], .slice A' (fitN p l.length) c']) ∧ OwnB w' w.heap.size (.slice A' (fitN p l.length) c') (l.take (fitN p l.length)) ∧ Below w.heap.size w w' := by
 have hoc := And.intro hPk trivial
 clear hoc
 obtain ⟨hn1, hn2, hn3, hn4⟩ := fit_nums p
 have HK : Hid (∀ w', Calls Try.prog 35 #[.int .i64 p.K, .int .i64 254] w' fun e w'' => e = .returned (.int .i64 (fK p : Nat)) ∧ w' = w'') := Lib.hid fun w' => pick_any p.K 254 w' (by decide) (by decide)
 have CM : Hid (∀ w', Calls Try.prog 35 #[.int .i64 p.M, .int .i64 ((min (1 + fK p) (255 - (1 + fK p)) : Nat) : Int)] w' fun e w'' => e = .returned (.int .i64 (fM p : Nat)) ∧ w' = w'') := Lib.hid fun w' => pick_any p.M _ w' (by omega) (by omega)
 have CB : Hid (∀ w', Calls Try.prog 35 #[.int .i64 p.B, .int .i64 65536] w' fun e w'' => e = .returned (.int .i64 (fB p : Nat)) ∧ w' = w'') := Lib.hid fun w' => pick_any p.B 65536 w' (by decide) (by decide)
 have CE := Lib.hid fun w' => pick_any p.ep 4294967295 w' (by decide) (by decide)
 have CT := Lib.hid fun w' => pick_any p.ct 4294967295 w' (by decide) (by decide)
 have hep : pickN p.ep 4294967295 < 4294967295 := pickN_lt (by decide)
 have hct : pickN p.ct 4294967295 < 4294967295 := pickN_lt (by decide)
 have HFH := Lib.hid (show hdC (fitH p) = [.int .u8 p.s0, .int .u8 p.s1, .int .u8 p.s2, .int .u8 p.s3, .int .u8 p.s4, .int .u8 p.s5, .int .u8 p.s6, .int .u8 p.s7, .int .i64 (1 + (fK p : Int)), .int .i64 (1 + (fM p : Int)), .int .i64 (1 + (fB p : Int)), .string (keyF p.key), .int .i64 0, .int .i64 0, .int .i64 (1 + (pickN p.ep 4294967295 : Int)), .int .i64 (1 + (pickN p.ct 4294967295 : Int))] from rfl)
 have HFV : Hid ((#[.int .u8 (fitH p).s0, .int .u8 (fitH p).s1, .int .u8 (fitH p).s2, .int .u8 (fitH p).s3, .int .u8 (fitH p).s4, .int .u8 (fitH p).s5, .int .u8 (fitH p).s6, .int .u8 (fitH p).s7, .int .i64 (fitH p).K, .int .i64 (fitH p).M, .int .i64 (fitH p).B, .string (fitH p).key, .int .i64 (fitH p).size, .int .i64 (fitH p).idx, .int .i64 (fitH p).ep, .int .i64 (fitH p).ct] : Array Value) = #[.int .u8 p.s0, .int .u8 p.s1, .int .u8 p.s2, .int .u8 p.s3, .int .u8 p.s4, .int .u8 p.s5, .int .u8 p.s6, .int .u8 p.s7, .int .i64 (1 + (fK p : Int)), .int .i64 (1 + (fM p : Int)), .int .i64 (1 + (fB p : Int)), .string (keyF p.key), .int .i64 0, .int .i64 0, .int .i64 (1 + (pickN p.ep 4294967295 : Int)), .int .i64 (1 + (pickN p.ct 4294967295 : Int))]) := Lib.hid rfl
 have HFN : Hid (fitN p l.length = min l.length (min 1048576 (4096 * (1 + fK p) * (1 + fB p)))) := Lib.hid rfl
 rw [HFV.out]
 clear HFV HFH
 generalize fK p = a at *
 generalize fM p = q at *
 generalize fB p = b at *
 generalize pickN p.ep 4294967295 = ep at *
 generalize pickN p.ct 4294967295 = ct at *
 obtain ⟨nd, hnd⟩ : ∃ nd, nd = l.length := ⟨_, rfl⟩
 have HND := Lib.hid hnd
 have HA := Lib.hid hA
 rw [← hnd] at hl hlc HFN ⊢
 clear hA hnd
 obtain ⟨D, hD⟩ : ∃ D : Value, D = .slice A nd cd := ⟨_, rfl⟩
 have HW1 := Lib.hid (((Below.refl w.heap.size w).alloc (Nat.le_refl _) (.cells #[.int .i64 p.K, .int .i64 p.M, .int .i64 p.B, .int .u8 p.s0, .int .u8 p.s1, .int .u8 p.s2, .int .u8 p.s3, .int .u8 p.s4, .int .u8 p.s5, .int .u8 p.s6, .int .u8 p.s7, .string p.key, .int .i64 p.ep, .int .i64 p.ct, D, Pk] 64)).alloc (by simp) (.cells #[.int .u8 0, .int .u8 0, .int .u8 0, .int .u8 0, .int .u8 0, .int .u8 0, .int .u8 0, .int .u8 0, .int .i64 0, .int .i64 0, .int .i64 0, .string ⟨#[]⟩, .int .i64 0, .int .i64 0, .int .i64 0, .int .i64 0] 42))
 have HW2 := Lib.hid (show ((w.alloc (.cells #[.int .i64 p.K, .int .i64 p.M, .int .i64 p.B, .int .u8 p.s0, .int .u8 p.s1, .int .u8 p.s2, .int .u8 p.s3, .int .u8 p.s4, .int .u8 p.s5, .int .u8 p.s6, .int .u8 p.s7, .string p.key, .int .i64 p.ep, .int .i64 p.ct, D, Pk] 64)).alloc (.cells #[.int .u8 0, .int .u8 0, .int .u8 0, .int .u8 0, .int .u8 0, .int .u8 0, .int .u8 0, .int .u8 0, .int .i64 0, .int .i64 0, .int .i64 0, .string ⟨#[]⟩, .int .i64 0, .int .i64 0, .int .i64 0, .int .i64 0] 42)).heap[w.heap.size]? = some (.cells #[.int .i64 p.K, .int .i64 p.M, .int .i64 p.B, .int .u8 p.s0, .int .u8 p.s1, .int .u8 p.s2, .int .u8 p.s3, .int .u8 p.s4, .int .u8 p.s5, .int .u8 p.s6, .int .u8 p.s7, .string p.key, .int .i64 p.ep, .int .i64 p.ct, D, Pk] 64 (0, 0)) from (((Below.refl _ _).alloc (Nat.le_refl _) _).block _ (by simp)).trans (heap_alloc_new w _))
 have HW3 := Lib.hid (show ((w.alloc (.cells #[.int .i64 p.K, .int .i64 p.M, .int .i64 p.B, .int .u8 p.s0, .int .u8 p.s1, .int .u8 p.s2, .int .u8 p.s3, .int .u8 p.s4, .int .u8 p.s5, .int .u8 p.s6, .int .u8 p.s7, .string p.key, .int .i64 p.ep, .int .i64 p.ct, D, Pk] 64)).alloc (.cells #[.int .u8 0, .int .u8 0, .int .u8 0, .int .u8 0, .int .u8 0, .int .u8 0, .int .u8 0, .int .u8 0, .int .i64 0, .int .i64 0, .int .i64 0, .string ⟨#[]⟩, .int .i64 0, .int .i64 0, .int .i64 0, .int .i64 0] 42)).heap[w.heap.size + 1]? = some (.cells #[.int .u8 0, .int .u8 0, .int .u8 0, .int .u8 0, .int .u8 0, .int .u8 0, .int .u8 0, .int .u8 0, .int .i64 0, .int .i64 0, .int .i64 0, .string ⟨#[]⟩, .int .i64 0, .int .i64 0, .int .i64 0, .int .i64 0] 42 (0, 0)) by simpa using heap_alloc_new (w.alloc (.cells #[.int .i64 p.K, .int .i64 p.M, .int .i64 p.B, .int .u8 p.s0, .int .u8 p.s1, .int .u8 p.s2, .int .u8 p.s3, .int .u8 p.s4, .int .u8 p.s5, .int .u8 p.s6, .int .u8 p.s7, .string p.key, .int .i64 p.ep, .int .i64 p.ct, D, Pk] 64)) (.cells #[.int .u8 0, .int .u8 0, .int .u8 0, .int .u8 0, .int .u8 0, .int .u8 0, .int .u8 0, .int .u8 0, .int .i64 0, .int .i64 0, .int .i64 0, .string ⟨#[]⟩, .int .i64 0, .int .i64 0, .int .i64 0, .int .i64 0] 42))
 have HW4 := Lib.hid (show ((w.alloc (.cells #[.int .i64 p.K, .int .i64 p.M, .int .i64 p.B, .int .u8 p.s0, .int .u8 p.s1, .int .u8 p.s2, .int .u8 p.s3, .int .u8 p.s4, .int .u8 p.s5, .int .u8 p.s6, .int .u8 p.s7, .string p.key, .int .i64 p.ep, .int .i64 p.ct, D, Pk] 64)).alloc (.cells #[.int .u8 0, .int .u8 0, .int .u8 0, .int .u8 0, .int .u8 0, .int .u8 0, .int .u8 0, .int .u8 0, .int .i64 0, .int .i64 0, .int .i64 0, .string ⟨#[]⟩, .int .i64 0, .int .i64 0, .int .i64 0, .int .i64 0] 42)).heap.size = w.heap.size + 2 by simp)
 rw [hD] at HW1 HW2 HW3 HW4
 have hs1 : IntKind.i64.wrap (1 + (a : Int)) = 1 + (a : Int) := i64_small _ (by omega) (by omega)
 have hs2 : IntKind.i64.wrap (255 - (1 + (a : Int))) = 255 - (1 + (a : Int)) := i64_small _ (by omega) (by omega)
 have hs3 : IntKind.i64.wrap (1 + (q : Int)) = 1 + (q : Int) := i64_small _ (by omega) (by omega)
 have hs4 : IntKind.i64.wrap (1 + (b : Int)) = 1 + (b : Int) := i64_small _ (by omega) (by omega)
 have hs5 : IntKind.i64.wrap (1 + (ep : Int)) = 1 + (ep : Int) := i64_small _ (by omega) (by omega)
 have hs6 : IntKind.i64.wrap (1 + (ct : Int)) = 1 + (ct : Int) := i64_small _ (by omega) (by omega)
 go_enter Try.func34, Try.ntmps34
 go_wp2_with fail
 obtain ⟨W, hW⟩ : ∃ W, W = ((w.alloc (.cells #[.int .i64 p.K, .int .i64 p.M, .int .i64 p.B, .int .u8 p.s0, .int .u8 p.s1, .int .u8 p.s2, .int .u8 p.s3, .int .u8 p.s4, .int .u8 p.s5, .int .u8 p.s6, .int .u8 p.s7, .string p.key, .int .i64 p.ep, .int .i64 p.ct, .slice A nd cd, Pk] 64)).alloc (.cells #[.int .u8 0, .int .u8 0, .int .u8 0, .int .u8 0, .int .u8 0, .int .u8 0, .int .u8 0, .int .u8 0, .int .i64 0, .int .i64 0, .int .i64 0, .string ⟨#[]⟩, .int .i64 0, .int .i64 0, .int .i64 0, .int .i64 0] 42)) := ⟨_, rfl⟩
 rw [← hW] at HW1 HW2 HW3 HW4 ⊢
 clear hW
 obtain ⟨bx, hbx⟩ : ∃ bx, bx = w.heap.size := ⟨_, rfl⟩
 rw [← hbx] at HW2 HW3 HW4 ⊢
 have HBXE := Lib.hid hbx
 clear hbx
 have HC0 : Hid (∀ w', Below W.heap.size W w' → ∀ i v, (#[.int .i64 p.K, .int .i64 p.M, .int .i64 p.B, .int .u8 p.s0, .int .u8 p.s1, .int .u8 p.s2, .int .u8 p.s3, .int .u8 p.s4, .int .u8 p.s5, .int .u8 p.s6, .int .u8 p.s7, .string p.key, .int .i64 p.ep, .int .i64 p.ct, .slice A nd cd, Pk] : Array Value).toList[i]? = some v → w'.cell? ⟨bx, i, none⟩ = some v) := Lib.hid fun w' hb i v hv => by
  rw [hb.cell (p := ⟨bx, i, none⟩) (by show bx < _; rw [HW4.out]; omega), cell_of_row W bx i _ _ (0, 0) HW2.out]
  simpa using hv
 have hsz := HW4.out
 have k0 := HC0.out W (Below.refl _ _) 0 _ rfl
 have k1 := HC0.out W (Below.refl _ _) 1 _ rfl
 refine (HK.out W).mono ?_
 rintro e w1 ⟨rfl, rfl⟩
 go_wp2_with fail
 rw [show min ((1 : Int) + (a : Int)) (255 - (1 + (a : Int))) = ((min (1 + a) (255 - (1 + a)) : Nat) : Int) from by omega]
 refine (CM.out W).mono ?_
 rintro e w1 ⟨rfl, rfl⟩
 have HC : Hid (∀ w', Below W.heap.size W w' → ∀ i v, (#[.int .i64 p.K, .int .i64 p.M, .int .i64 p.B, .int .u8 p.s0, .int .u8 p.s1, .int .u8 p.s2, .int .u8 p.s3, .int .u8 p.s4, .int .u8 p.s5, .int .u8 p.s6, .int .u8 p.s7, .string p.key, .int .i64 p.ep, .int .i64 p.ct, .slice A nd cd, Pk] : Array Value).toList[i]? = some v → w'.cell? ⟨bx, i, none⟩ = some v) := HC0
 have HC8 : Hid (∀ w', Below W.heap.size W w' → ∀ j v, (#[.int .u8 p.s0, .int .u8 p.s1, .int .u8 p.s2, .int .u8 p.s3, .int .u8 p.s4, .int .u8 p.s5, .int .u8 p.s6, .int .u8 p.s7] : Array Value).toList[j]? = some v → w'.cell? ⟨bx, 3 + j, none⟩ = some v) := Lib.hid fun w' hb j v hv => HC.out w' hb (3 + j) v (by
  have hj : j < 8 := (List.getElem?_eq_some_iff.1 hv).1
  rw [← hv]
  rcases j with _ | _ | _ | _ | _ | _ | _ | _ | j <;> first | rfl | omega)
 clear k0 k1 hD
 go_wp2_with fail
 refine wp_region_factsT 22 [.is (.pointer (some ⟨bx, 3, none⟩)), .is (.agg #[.int .u8 p.s0, .int .u8 p.s1, .int .u8 p.s2, .int .u8 p.s3, .int .u8 p.s4, .int .u8 p.s5, .int .u8 p.s6, .int .u8 p.s7]), .is (.int .i64 (1 + (a : Int))), .is (.int .i64 (1 + (q : Int))), .is (.pointer (some ⟨bx, 2, none⟩)), .is (.int .i64 p.B), .is (.int .i64 (b : Int)), .is (.int .i64 (1 + (b : Int))), .is (.agg #[.int .i64 (1 + (a : Int)), .int .i64 (1 + (q : Int)), .int .i64 (1 + (b : Int))]), .is (.pointer (some ⟨bx, 11, none⟩)), .is (.string p.key), .is (.pointer (some ⟨bx, 12, none⟩)), .is (.int .i64 p.ep), .is (.int .i64 (ep : Int)), .is (.int .i64 (1 + (ep : Int))), .is (.pointer (some ⟨bx, 13, none⟩)), .is (.int .i64 p.ct), .is (.int .i64 (ct : Int)), .is (.int .i64 (1 + (ct : Int))), .is (.agg #[.int .i64 (1 + (ep : Int)), .int .i64 (1 + (ct : Int))]), .is (.agg #[.int .u8 p.s0, .int .u8 p.s1, .int .u8 p.s2, .int .u8 p.s3, .int .u8 p.s4, .int .u8 p.s5, .int .u8 p.s6, .int .u8 p.s7, .int .i64 (1 + (a : Int)), .int .i64 (1 + (q : Int)), .int .i64 (1 + (b : Int)), .string p.key, .int .i64 0, .int .i64 0, .int .i64 (1 + (ep : Int)), .int .i64 (1 + (ct : Int))]), Fact.newH W.heap.size #[.int .u8 0, .int .u8 0, .int .u8 0, .int .u8 0, .int .u8 0, .int .u8 0, .int .u8 0, .int .u8 0, .int .i64 0, .int .i64 0, .int .i64 0, .string ⟨#[]⟩, .int .i64 0, .int .i64 0, .int .i64 0, .int .i64 0] 42] mixed (by kernel_rfl) (fun hdr => ⟨?_, ?_, ?_, ?_, ?_, ?_, ?_, ?_, ?_, ?_, ?_, ?_, ?_, ?_, ?_, ?_, ?_, ?_, ?_, ?_, ?_, ?_, trivial⟩) (fun wE hbE => ?_)
 · intro a1 w2 hb hs K hK
   repeat (intro _)
   refine ⟨?_⟩
   have h1 : a1.tmps[1]?.getD undef = .pointer (some ⟨bx, 0, none⟩) := hs 1 (by kernel_rfl)
   rw [if_pos (by rfl)]
   go_simp; exact hK.out _ _ (Below.refl _ _) rfl
 · intro a1 w2 hb hs K hK
   repeat (intro _)
   refine ⟨?_⟩
   have h20 : a1.tmps[20]?.getD undef = .pointer (some ⟨bx, 3, none⟩) := by assumption
   rw [if_pos (by rfl)]
   exact wp_loadAgg 38 (.tmp 20) rfl ⟨bx, 3, none⟩ ((slot_eval a1 20).trans h20) #[.int .u8 p.s0, .int .u8 p.s1, .int .u8 p.s2, .int .u8 p.s3, .int .u8 p.s4, .int .u8 p.s5, .int .u8 p.s6, .int .u8 p.s7] _ (fun j v hj => by rw [add_addr]; exact HC8.out w2 (hdr.out.trans (hb.mono hdr.out.size)) j v hj) Try.underlying38 rfl (by kernel_rfl) (hK.out _ _ (Below.refl _ _) rfl)
 · intro a1 w2 hb hs K hK
   repeat (intro _)
   refine ⟨?_⟩
   have h4 : a1.tmps[4]?.getD undef = .int .i64 (1 + (a : Int)) := hs 4 (by kernel_rfl)
   rw [if_pos (by rfl)]
   go_simp; exact hK.out _ _ (Below.refl _ _) rfl
 · intro a1 w2 hb hs K hK
   repeat (intro _)
   refine ⟨?_⟩
   have h5 : a1.tmps[5]?.getD undef = .int .i64 (1 + (q : Int)) := hs 5 (by kernel_rfl)
   rw [if_pos (by rfl)]
   go_simp; exact hK.out _ _ (Below.refl _ _) rfl
 · intro a1 w2 hb hs K hK
   repeat (intro _)
   refine ⟨?_⟩
   have h1 : a1.tmps[1]?.getD undef = .pointer (some ⟨bx, 0, none⟩) := hs 1 (by kernel_rfl)
   rw [if_pos (by rfl)]
   go_simp; exact hK.out _ _ (Below.refl _ _) rfl
 · intro a1 w2 hb hs K hK
   repeat (intro _)
   refine ⟨?_⟩
   have h24 : a1.tmps[24]?.getD undef = .pointer (some ⟨bx, 2, none⟩) := by assumption
   rw [if_pos (by rfl)]
   have hcc : w2.cell? ⟨bx, 2, none⟩ = some (.int .i64 p.B) := HC.out w2 (hdr.out.trans (hb.mono hdr.out.size)) 2 _ rfl
   go_simp; exact hK.out _ _ (Below.refl _ _) rfl
 · intro a1 w2 hb hs K hK
   repeat (intro _)
   refine ⟨?_⟩
   have h25 : a1.tmps[25]?.getD undef = .int .i64 p.B := by assumption
   rw [if_pos (by rfl)]
   go_simp
   refine (CB.out w2).mono ?_
   rintro e w3 ⟨rfl, rfl⟩
   exact hK.out _ _ (Below.refl _ _) rfl
 · intro a1 w2 hb hs K hK
   repeat (intro _)
   refine ⟨?_⟩
   have h26 : a1.tmps[26]?.getD undef = .int .i64 (b : Int) := by assumption
   rw [if_pos (by rfl)]
   go_simp; exact hK.out _ _ (Below.refl _ _) rfl
 · intro a1 w2 hb hs K hK
   repeat (intro _)
   refine ⟨?_⟩
   have h22 : a1.tmps[22]?.getD undef = .int .i64 (1 + (a : Int)) := by assumption
   have h23 : a1.tmps[23]?.getD undef = .int .i64 (1 + (q : Int)) := by assumption
   have h27 : a1.tmps[27]?.getD undef = .int .i64 (1 + (b : Int)) := by assumption
   rw [if_pos (by rfl)]
   go_simp; exact hK.out _ _ (Below.refl _ _) rfl
 · intro a1 w2 hb hs K hK
   repeat (intro _)
   refine ⟨?_⟩
   have h1 : a1.tmps[1]?.getD undef = .pointer (some ⟨bx, 0, none⟩) := hs 1 (by kernel_rfl)
   rw [if_pos (by rfl)]
   go_simp; exact hK.out _ _ (Below.refl _ _) rfl
 · intro a1 w2 hb hs K hK
   repeat (intro _)
   refine ⟨?_⟩
   have h29 : a1.tmps[29]?.getD undef = .pointer (some ⟨bx, 11, none⟩) := by assumption
   rw [if_pos (by rfl)]
   have hcc : w2.cell? ⟨bx, 11, none⟩ = some (.string p.key) := HC.out w2 (hdr.out.trans (hb.mono hdr.out.size)) 11 _ rfl
   go_simp; exact hK.out _ _ (Below.refl _ _) rfl
 · intro a1 w2 hb hs K hK
   repeat (intro _)
   refine ⟨?_⟩
   have h1 : a1.tmps[1]?.getD undef = .pointer (some ⟨bx, 0, none⟩) := hs 1 (by kernel_rfl)
   rw [if_pos (by rfl)]
   go_simp; exact hK.out _ _ (Below.refl _ _) rfl
 · intro a1 w2 hb hs K hK
   repeat (intro _)
   refine ⟨?_⟩
   have h31 : a1.tmps[31]?.getD undef = .pointer (some ⟨bx, 12, none⟩) := by assumption
   rw [if_pos (by rfl)]
   have hcc : w2.cell? ⟨bx, 12, none⟩ = some (.int .i64 p.ep) := HC.out w2 (hdr.out.trans (hb.mono hdr.out.size)) 12 _ rfl
   go_simp; exact hK.out _ _ (Below.refl _ _) rfl
 · intro a1 w2 hb hs K hK
   repeat (intro _)
   refine ⟨?_⟩
   have h32 : a1.tmps[32]?.getD undef = .int .i64 p.ep := by assumption
   rw [if_pos (by rfl)]
   go_simp
   refine (CE.out w2).mono ?_
   rintro e w3 ⟨rfl, rfl⟩
   exact hK.out _ _ (Below.refl _ _) rfl
 · intro a1 w2 hb hs K hK
   repeat (intro _)
   refine ⟨?_⟩
   have h33 : a1.tmps[33]?.getD undef = .int .i64 (ep : Int) := by assumption
   rw [if_pos (by rfl)]
   go_simp; exact hK.out _ _ (Below.refl _ _) rfl
 · intro a1 w2 hb hs K hK
   repeat (intro _)
   refine ⟨?_⟩
   have h1 : a1.tmps[1]?.getD undef = .pointer (some ⟨bx, 0, none⟩) := hs 1 (by kernel_rfl)
   rw [if_pos (by rfl)]
   go_simp; exact hK.out _ _ (Below.refl _ _) rfl
 · intro a1 w2 hb hs K hK
   repeat (intro _)
   refine ⟨?_⟩
   have h35 : a1.tmps[35]?.getD undef = .pointer (some ⟨bx, 13, none⟩) := by assumption
   rw [if_pos (by rfl)]
   have hcc : w2.cell? ⟨bx, 13, none⟩ = some (.int .i64 p.ct) := HC.out w2 (hdr.out.trans (hb.mono hdr.out.size)) 13 _ rfl
   go_simp; exact hK.out _ _ (Below.refl _ _) rfl
 · intro a1 w2 hb hs K hK
   repeat (intro _)
   refine ⟨?_⟩
   have h36 : a1.tmps[36]?.getD undef = .int .i64 p.ct := by assumption
   rw [if_pos (by rfl)]
   go_simp
   refine (CT.out w2).mono ?_
   rintro e w3 ⟨rfl, rfl⟩
   exact hK.out _ _ (Below.refl _ _) rfl
 · intro a1 w2 hb hs K hK
   repeat (intro _)
   refine ⟨?_⟩
   have h37 : a1.tmps[37]?.getD undef = .int .i64 (ct : Int) := by assumption
   rw [if_pos (by rfl)]
   go_simp; exact hK.out _ _ (Below.refl _ _) rfl
 · intro a1 w2 hb hs K hK
   repeat (intro _)
   refine ⟨?_⟩
   have h34 : a1.tmps[34]?.getD undef = .int .i64 (1 + (ep : Int)) := by assumption
   have h38 : a1.tmps[38]?.getD undef = .int .i64 (1 + (ct : Int)) := by assumption
   rw [if_pos (by rfl)]
   go_simp; exact hK.out _ _ (Below.refl _ _) rfl
 · intro a1 w2 hb hs K hK
   repeat (intro _)
   refine ⟨?_⟩
   have h21 : a1.tmps[21]?.getD undef = .agg #[.int .u8 p.s0, .int .u8 p.s1, .int .u8 p.s2, .int .u8 p.s3, .int .u8 p.s4, .int .u8 p.s5, .int .u8 p.s6, .int .u8 p.s7] := by assumption
   have h28 : a1.tmps[28]?.getD undef = .agg #[.int .i64 (1 + (a : Int)), .int .i64 (1 + (q : Int)), .int .i64 (1 + (b : Int))] := by assumption
   have h30 : a1.tmps[30]?.getD undef = .string p.key := by assumption
   have h39 : a1.tmps[39]?.getD undef = .agg #[.int .i64 (1 + (ep : Int)), .int .i64 (1 + (ct : Int))] := by assumption
   rw [if_pos (by rfl)]
   go_simp; exact hK.out _ _ (Below.refl _ _) rfl
 · intro a1 w2 hb hs K hK
   repeat (intro _)
   refine ⟨?_⟩
   rw [if_pos (by rfl)]
   go_simp
   exact hK.out _ _ ((Below.refl _ _).alloc (Nat.le_refl _) _) ⟨_, rfl, by have := hb.size; have := hdr.out.size; omega, heap_alloc_new _ _⟩
 intro v0 f0 v1 f1 v2 f2 v3 f3 v4 f4 v5 f5 v6 f6 v7 f7 v8 f8 v9 f9 v10 f10 v11 f11 v12 f12 v13 f13 v14 f14 v15 f15 v16 f16 v17 f17 v18 f18 v19 f19 v20 f20 v21 f21
 refine finG_end rfl (kq_normal ?_)
 simp only [List.drop_succ_cons, List.drop_zero]
 simp only [Act.put, List.setIfInBounds_toArray, List.set_cons_zero, List.set_cons_succ]
 obtain ⟨gh, rfl, hgh, hgc⟩ := f21
 obtain rfl : v20 = .agg #[.int .u8 p.s0, .int .u8 p.s1, .int .u8 p.s2, .int .u8 p.s3, .int .u8 p.s4, .int .u8 p.s5, .int .u8 p.s6, .int .u8 p.s7, .int .i64 (1 + (a : Int)), .int .i64 (1 + (q : Int)), .int .i64 (1 + (b : Int)), .string p.key, .int .i64 0, .int .i64 0, .int .i64 (1 + (ep : Int)), .int .i64 (1 + (ct : Int))] := f20
 clear f0 f1 f2 f3 f4 f5 f6 f7 f8 f9 f10 f11 f12 f13 f14 f15 f16 f17 f18 f19
 refine wpList_storeH rfl (.tmp 6) (.tmp 40) rfl gh #[.int .u8 p.s0, .int .u8 p.s1, .int .u8 p.s2, .int .u8 p.s3, .int .u8 p.s4, .int .u8 p.s5, .int .u8 p.s6, .int .u8 p.s7, .int .i64 (1 + (a : Int)), .int .i64 (1 + (q : Int)), .int .i64 (1 + (b : Int)), .string p.key, .int .i64 0, .int .i64 0, .int .i64 (1 + (ep : Int)), .int .i64 (1 + (ct : Int))] rfl rfl rfl #[.int .u8 0, .int .u8 0, .int .u8 0, .int .u8 0, .int .u8 0, .int .u8 0, .int .u8 0, .int .u8 0, .int .i64 0, .int .i64 0, .int .i64 0, .string ⟨#[]⟩, .int .i64 0, .int .i64 0, .int .i64 0, .int .i64 0] rfl hgc rfl ?_
 intro w9 hw9 hg9 hs9
 refine NoPanic.normal ?_
 have hszE := hbE.size
 have hgW : gh < wE.heap.size := (Array.getElem?_eq_some_iff.1 hgc).1
 have HB9 : Hid (Below W.heap.size W w9) := Lib.hid ⟨hg9.os.trans hbE.os, hg9.tape.trans hbE.tape, hg9.output.trans hbE.output, Nat.le_trans hszE hg9.size, fun i hi => (hg9.block i (by omega) (fun e => by injection e with e; omega)).trans (hbE.block i hi)⟩
 have HG9 := Lib.hid hw9
 have hbg : bx + 2 ≤ gh := by omega
 have k11 : w9.cell? ⟨gh, 11, none⟩ = some (.string p.key) := by rw [cell_of_row w9 gh 11 _ _ (0, 0) HG9.out]; rfl
 have f11 : w9.frozen? ⟨gh, 11, none⟩ = false := by simp [World.frozen?, HG9.out]
 have hm1 : IntKind.i64.wrap (4096 * (1 + (a : Int))) = 4096 * (1 + (a : Int)) := i64_small _ (by omega) (by omega)
 have hmb : 4096 * (1 + a) * (1 + b) ≤ 4096 * 254 * 65536 := Nat.mul_le_mul (by omega) (by omega)
 have hmc : (4096 : Int) * (1 + (a : Int)) * (1 + (b : Int)) = ((4096 * (1 + a) * (1 + b) : Nat) : Int) := by simp
 have hm2 : IntKind.i64.wrap ((4096 : Int) * (1 + (a : Int)) * (1 + (b : Int))) = (4096 : Int) * (1 + (a : Int)) * (1 + (b : Int)) := i64_small _ (by rw [hmc]; omega) (by rw [hmc]; omega)
 obtain ⟨mx, hmx⟩ : ∃ mx, mx = 4096 * (1 + a) * (1 + b) := ⟨_, rfl⟩
 rw [← hmx] at hmc HFN
 have HMC := Lib.hid hmc
 obtain ⟨mo, hmo⟩ : ∃ mo, mo = min nd (min 1048576 mx) := ⟨_, rfl⟩
 have HMO : Hid ((mo : Int) = if (4096 : Int) * (1 + (a : Int)) * (1 + (b : Int)) < (if (1048576 : Int) < (nd : Int) then 1048576 else (nd : Int)) then (4096 : Int) * (1 + (a : Int)) * (1 + (b : Int)) else (if (1048576 : Int) < (nd : Int) then 1048576 else (nd : Int))) := Lib.hid (by
  rw [HMC.out, hmo]
  split <;> split <;> omega)
 have hmo1 : mo ≤ nd := by omega
 have hmo2 : mo ≤ 1048576 := by omega
 have HFN2 : Hid (fitN p nd = mo) := Lib.hid (by rw [HFN.out, hmo])
 have HLT : Hid ((l.take mo).length = mo) := Lib.hid (by rw [List.length_take, ← HND.out]; omega)
 have HTK : Hid (∀ w', Below W.heap.size W w' → Rd w' A mo (fun j => .int .u8 (((l.take mo).getD j 0 : Nat) : Int))) := Lib.hid fun w' hb i hi => by
  obtain ⟨b0, o0, e0, hb0, hc0⟩ := HA.out.below (HW1.out.trans (hb.mono HW1.out.size)) i (by rw [← HND.out]; omega)
  refine ⟨b0, o0, e0, hb0, hc0.trans ?_⟩
  show some (Value.int .u8 _) = some (Value.int .u8 _)
  rw [List.getD_eq_getElem?_getD, List.getD_eq_getElem?_getD, List.getElem?_take_of_lt hi]
 clear hmo
 clear hw9 hg9 hs9 hgc hbE hmc hmb hmx
 by_cases hk0 : p.key.size = 0
 · have hsl : (p.key.size : Int) = 0 := by omega
   have HKF : Hid (keyF p.key = ⟨#[107]⟩) := Lib.hid (if_pos hk0)
   have HG' : Hid ((w9.setCell ⟨gh, 11, none⟩ (.string ⟨#[107]⟩)).heap[gh]? = some (.cells #[.int .u8 p.s0, .int .u8 p.s1, .int .u8 p.s2, .int .u8 p.s3, .int .u8 p.s4, .int .u8 p.s5, .int .u8 p.s6, .int .u8 p.s7, .int .i64 (1 + (a : Int)), .int .i64 (1 + (q : Int)), .int .i64 (1 + (b : Int)), .string ⟨#[107]⟩, .int .i64 0, .int .i64 0, .int .i64 (1 + (ep : Int)), .int .i64 (1 + (ct : Int))] 42 (0, 0))) := Lib.hid (heap_setCell_same _ gh 11 _ _ _ HG9.out)
   have HB' : Hid (Below W.heap.size W (w9.setCell ⟨gh, 11, none⟩ (.string ⟨#[107]⟩))) := Lib.hid (HB9.out.setCell (p := ⟨gh, 11, none⟩) (by show W.heap.size ≤ gh; omega) _)
   have c14 : (w9.setCell ⟨gh, 11, none⟩ (.string ⟨#[107]⟩)).cell? ⟨bx, 14, none⟩ = some (.slice A nd cd) := HC.out _ HB'.out 14 _ rfl
   have c10 : (w9.setCell ⟨gh, 11, none⟩ (.string ⟨#[107]⟩)).cell? ⟨gh, 10, none⟩ = some (.int .i64 (1 + (b : Int))) := by rw [cell_of_row _ gh 10 _ _ (0, 0) HG'.out]; rfl
   have c11 : (w9.setCell ⟨gh, 11, none⟩ (.string ⟨#[107]⟩)).cell? ⟨gh, 11, none⟩ = some (.string ⟨#[107]⟩) := by rw [cell_of_row _ gh 11 _ _ (0, 0) HG'.out]; rfl
   go_wp2_with (refine wpList_min3 rfl (.tmp 56) (.const (.int .i64 1048576)) (.tmp 62) _ rfl (nd : Int) 1048576 (4096 * (1 + (a : Int)) * (1 + (b : Int))) (mo : Int) rfl rfl rfl HMO.out ?_)
   obtain ⟨W9, hW9⟩ : ∃ W9, W9 = (w9.setCell ⟨gh, 11, none⟩ (.string ⟨#[107]⟩)) := ⟨_, rfl⟩
   rw [← hW9] at HG' HB' ⊢
   clear hW9 c14 c10 c11 k11 f11 HC0 HC8 HB9 HG9
   have hsz9 := HB'.out.size
   have hg9 : gh < W9.heap.size := (Array.getElem?_eq_some_iff.1 HG'.out).1
   have HHC : Hid (∀ w', Below W9.heap.size W9 w' → ∀ j v, (#[.int .u8 p.s0, .int .u8 p.s1, .int .u8 p.s2, .int .u8 p.s3, .int .u8 p.s4, .int .u8 p.s5, .int .u8 p.s6, .int .u8 p.s7, .int .i64 (1 + (a : Int)), .int .i64 (1 + (q : Int)), .int .i64 (1 + (b : Int)), .string ⟨#[107]⟩, .int .i64 0, .int .i64 0, .int .i64 (1 + (ep : Int)), .int .i64 (1 + (ct : Int))] : Array Value).toList[j]? = some v → w'.cell? ⟨gh, j, none⟩ = some v) := Lib.hid fun w' hb j v hv => by
    rw [hb.cell (p := ⟨gh, j, none⟩) (by show gh < _; exact hg9), cell_of_row _ gh j _ _ (0, 0) HG'.out]
    simpa using hv
   have HDC : Hid (∀ w', Below W9.heap.size W9 w' → w'.cell? ⟨bx, 14, none⟩ = some (.slice A nd cd)) := Lib.hid fun w' hb => HC.out w' (HB'.out.trans (hb.mono hsz9)) 14 _ rfl
   have HRT : Hid (∀ w', Below W9.heap.size W9 w' → Rd w' A mo (fun j => .int .u8 (((l.take mo).getD j 0 : Nat) : Int))) := Lib.hid fun w' hb => (HTK.out w' (HB'.out.trans (hb.mono hsz9)))
   have hso1 : (0 : Int) ≤ (mo : Int) := by omega
   have hso2 : (mo : Int) ≤ (cd : Int) := by omega
   have HZ3 : Hid (∀ w', Below W9.heap.size W9 w' → w'.heap[bx + 1]? = some (.cells #[.int .u8 0, .int .u8 0, .int .u8 0, .int .u8 0, .int .u8 0, .int .u8 0, .int .u8 0, .int .u8 0, .int .i64 0, .int .i64 0, .int .i64 0, .string ⟨#[]⟩, .int .i64 0, .int .i64 0, .int .i64 0, .int .i64 0] 42 (0, 0))) := Lib.hid fun w' hb => ((HB'.out.trans (hb.mono hsz9)).block (bx + 1) (by omega)).trans HW3.out
   refine wp_region_factsT 6 [.is (.agg #[.int .u8 p.s0, .int .u8 p.s1, .int .u8 p.s2, .int .u8 p.s3, .int .u8 p.s4, .int .u8 p.s5, .int .u8 p.s6, .int .u8 p.s7, .int .i64 (1 + (a : Int)), .int .i64 (1 + (q : Int)), .int .i64 (1 + (b : Int)), .string ⟨#[107]⟩, .int .i64 0, .int .i64 0, .int .i64 (1 + (ep : Int)), .int .i64 (1 + (ct : Int))]), .is (.pointer (some ⟨bx, 14, none⟩)), .is (.slice A nd cd), .is (.int .i64 (mo : Int)), .is (.slice A mo cd), Fact.ownN W9.heap.size (l.take mo)] mixed (by kernel_rfl) (fun hdr => ⟨?_, ?_, ?_, ?_, ?_, ?_, trivial⟩) (fun wE hbE => ?_)
   · intro a1 w2 hb hs K hK
     repeat (intro _)
     refine ⟨?_⟩
     have h6 : a1.tmps[6]?.getD undef = .pointer (some ⟨gh, 0, none⟩) := hs 6 (by kernel_rfl)
     rw [if_pos (by rfl)]
     exact wp_loadAgg 42 (.tmp 6) rfl ⟨gh, 0, none⟩ ((slot_eval a1 6).trans h6) #[.int .u8 p.s0, .int .u8 p.s1, .int .u8 p.s2, .int .u8 p.s3, .int .u8 p.s4, .int .u8 p.s5, .int .u8 p.s6, .int .u8 p.s7, .int .i64 (1 + (a : Int)), .int .i64 (1 + (q : Int)), .int .i64 (1 + (b : Int)), .string ⟨#[107]⟩, .int .i64 0, .int .i64 0, .int .i64 (1 + (ep : Int)), .int .i64 (1 + (ct : Int))] _ (fun j v hj => by rw [add_zero_addr]; exact HHC.out w2 (hdr.out.trans (hb.mono hdr.out.size)) j v hj) Try.underlying42 rfl info_H (hK.out _ _ (Below.refl _ _) rfl)
   · intro a1 w2 hb hs K hK
     repeat (intro _)
     refine ⟨?_⟩
     have h1 : a1.tmps[1]?.getD undef = .pointer (some ⟨bx, 0, none⟩) := hs 1 (by kernel_rfl)
     rw [if_pos (by rfl)]
     go_simp; exact hK.out _ _ (Below.refl _ _) rfl
   · intro a1 w2 hb hs K hK
     repeat (intro _)
     refine ⟨?_⟩
     have h65 : a1.tmps[65]?.getD undef = .pointer (some ⟨bx, 14, none⟩) := by assumption
     rw [if_pos (by rfl)]
     have hcc : w2.cell? ⟨bx, 14, none⟩ = some (.slice A nd cd) := HDC.out w2 (hdr.out.trans (hb.mono hdr.out.size))
     go_simp; exact hK.out _ _ (Below.refl _ _) rfl
   · intro a1 w2 hb hs K hK
     repeat (intro _)
     refine ⟨?_⟩
     have h7 : a1.tmps[7]?.getD undef = .int .i64 (mo : Int) := hs 7 (by kernel_rfl)
     rw [if_pos (by rfl)]
     go_simp; exact hK.out _ _ (Below.refl _ _) rfl
   · intro a1 w2 hb hs K hK
     repeat (intro _)
     refine ⟨?_⟩
     have h66 : a1.tmps[66]?.getD undef = .slice A nd cd := by assumption
     have h67 : a1.tmps[67]?.getD undef = .int .i64 (mo : Int) := by assumption
     rw [if_pos (by rfl)]
     go_simp; exact hK.out _ _ (Below.refl _ _) rfl
   · intro a1 w2 hb hs K hK
     repeat (intro _)
     refine ⟨?_⟩
     have h68 : a1.tmps[68]?.getD undef = .slice A mo cd := by assumption
     rw [if_pos (by rfl)]
     refine wp_of_list rfl (fun Q' hQ => ?_)
     refine wpList_appendRd rfl (.const (.slice none 0 0)) (.tmp 68) 43 rfl w2.heap.size 5 1 (.int .u8 0) Try.underlying43 byteInfo rfl rfl (Nat.le_refl _) A mo cd (fun j => .int .u8 (((l.take mo).getD j 0 : Nat) : Int)) ((slot_eval a1 68).trans h68) (HRT.out w2 (hdr.out.trans (hb.mono hdr.out.size))) (fun _ _ => rfl) (by omega) (by omega) ?_
     intro v' w' hO hb'
     exact hQ _ _ (hK.out _ _ hb' (own_take (hO.mono (by have h1 := hb.size; have h2 := hdr.out.size; exact Nat.le_trans h2 h1)) HLT.out))
   intro v0 f0 v1 f1 v2 f2 v3 f3 v4 f4 v5 f5
   refine finG_end rfl (kq_normal ?_)
   simp only [List.drop_succ_cons, List.drop_zero]
   simp only [Act.put, List.setIfInBounds_toArray, List.set_cons_zero, List.set_cons_succ]
   obtain ⟨A5, c5, rfl, hO5⟩ := f5
   obtain rfl : v0 = .agg #[.int .u8 p.s0, .int .u8 p.s1, .int .u8 p.s2, .int .u8 p.s3, .int .u8 p.s4, .int .u8 p.s5, .int .u8 p.s6, .int .u8 p.s7, .int .i64 (1 + (a : Int)), .int .i64 (1 + (q : Int)), .int .i64 (1 + (b : Int)), .string ⟨#[107]⟩, .int .i64 0, .int .i64 0, .int .i64 (1 + (ep : Int)), .int .i64 (1 + (ct : Int))] := f0
   have HO5 := Lib.hid hO5
   have HFE : Hid ((#[.int .u8 p.s0, .int .u8 p.s1, .int .u8 p.s2, .int .u8 p.s3, .int .u8 p.s4, .int .u8 p.s5, .int .u8 p.s6, .int .u8 p.s7, .int .i64 (1 + (a : Int)), .int .i64 (1 + (q : Int)), .int .i64 (1 + (b : Int)), .string (keyF p.key), .int .i64 0, .int .i64 0, .int .i64 (1 + (ep : Int)), .int .i64 (1 + (ct : Int))] : Array Value) = #[.int .u8 p.s0, .int .u8 p.s1, .int .u8 p.s2, .int .u8 p.s3, .int .u8 p.s4, .int .u8 p.s5, .int .u8 p.s6, .int .u8 p.s7, .int .i64 (1 + (a : Int)), .int .i64 (1 + (q : Int)), .int .i64 (1 + (b : Int)), .string ⟨#[107]⟩, .int .i64 0, .int .i64 0, .int .i64 (1 + (ep : Int)), .int .i64 (1 + (ct : Int))]) := Lib.hid (by rw [HKF.out])
   clear f1 f2 f3 f4 hO5
   refine wpList_storeH rfl (.tmp 2) (.tmp 64) rfl (bx + 1) #[.int .u8 p.s0, .int .u8 p.s1, .int .u8 p.s2, .int .u8 p.s3, .int .u8 p.s4, .int .u8 p.s5, .int .u8 p.s6, .int .u8 p.s7, .int .i64 (1 + (a : Int)), .int .i64 (1 + (q : Int)), .int .i64 (1 + (b : Int)), .string ⟨#[107]⟩, .int .i64 0, .int .i64 0, .int .i64 (1 + (ep : Int)), .int .i64 (1 + (ct : Int))] rfl rfl rfl #[.int .u8 0, .int .u8 0, .int .u8 0, .int .u8 0, .int .u8 0, .int .u8 0, .int .u8 0, .int .u8 0, .int .i64 0, .int .i64 0, .int .i64 0, .string ⟨#[]⟩, .int .i64 0, .int .i64 0, .int .i64 0, .int .i64 0] rfl (HZ3.out _ hbE) rfl ?_
   intro w10 hw10 hg10 hs10
   have HBF : Hid (Below w.heap.size w w10) := Lib.hid (by
    have h1 := HW1.out.trans ((HB'.out.mono HW1.out.size).trans (hbE.mono (by have := HW1.out.size; omega)))
    have h2 := HBXE.out
    have h3 := h1.size
    exact ⟨hg10.os.trans h1.os, hg10.tape.trans h1.tape, hg10.output.trans h1.output, Nat.le_trans h3 hg10.size, fun i hi => (hg10.block i (by omega) (fun e => by injection e with e; omega)).trans (h1.block i hi)⟩)
   have HOF : Hid (OwnB w10 w.heap.size (.slice A5 (l.take mo).length c5) (l.take mo)) := Lib.hid ((HO5.out.mono (by have := HBXE.out; omega)).keptRow hg10 (.inr fun e => by
    have h1 := (HO5.out.lt _ e).1
    omega))
   have HW10 := Lib.hid hw10
   have hlt10 := HLT.out
   clear hw10 hg10 hs10 hbE HO5
   go_wp2
   refine NoPanic.normal ?_
   go_wp2
   exact ret_cellH Try.results34 rfl rfl rfl HW10.out ⟨A5, c5, by rw [HFE.out, HFN2.out]; rfl, by rw [HFN2.out]; have h0 := HOF.out; rw [HLT.out] at h0; exact h0, HBF.out⟩
 · have hsl : ¬ (p.key.size : Int) = 0 := by omega
   by_cases hk1 : 255 < p.key.size
   · have hsl2 : (255 : Int) < (p.key.size : Int) := by omega
     have HKF : Hid (keyF p.key = p.key.extract 0 255) := Lib.hid ((if_neg hk0).trans (if_pos hk1))
     have HG' : Hid ((w9.setCell ⟨gh, 11, none⟩ (.string (p.key.extract 0 255))).heap[gh]? = some (.cells #[.int .u8 p.s0, .int .u8 p.s1, .int .u8 p.s2, .int .u8 p.s3, .int .u8 p.s4, .int .u8 p.s5, .int .u8 p.s6, .int .u8 p.s7, .int .i64 (1 + (a : Int)), .int .i64 (1 + (q : Int)), .int .i64 (1 + (b : Int)), .string (p.key.extract 0 255), .int .i64 0, .int .i64 0, .int .i64 (1 + (ep : Int)), .int .i64 (1 + (ct : Int))] 42 (0, 0))) := Lib.hid (heap_setCell_same _ gh 11 _ _ _ HG9.out)
     have HB' : Hid (Below W.heap.size W (w9.setCell ⟨gh, 11, none⟩ (.string (p.key.extract 0 255)))) := Lib.hid (HB9.out.setCell (p := ⟨gh, 11, none⟩) (by show W.heap.size ≤ gh; omega) _)
     have c14 : (w9.setCell ⟨gh, 11, none⟩ (.string (p.key.extract 0 255))).cell? ⟨bx, 14, none⟩ = some (.slice A nd cd) := HC.out _ HB'.out 14 _ rfl
     have c10 : (w9.setCell ⟨gh, 11, none⟩ (.string (p.key.extract 0 255))).cell? ⟨gh, 10, none⟩ = some (.int .i64 (1 + (b : Int))) := by rw [cell_of_row _ gh 10 _ _ (0, 0) HG'.out]; rfl
     have c11 : (w9.setCell ⟨gh, 11, none⟩ (.string (p.key.extract 0 255))).cell? ⟨gh, 11, none⟩ = some (.string (p.key.extract 0 255)) := by rw [cell_of_row _ gh 11 _ _ (0, 0) HG'.out]; rfl
     go_wp2_with (refine wpList_min3 rfl (.tmp 56) (.const (.int .i64 1048576)) (.tmp 62) _ rfl (nd : Int) 1048576 (4096 * (1 + (a : Int)) * (1 + (b : Int))) (mo : Int) rfl rfl rfl HMO.out ?_)
     obtain ⟨W9, hW9⟩ : ∃ W9, W9 = (w9.setCell ⟨gh, 11, none⟩ (.string (p.key.extract 0 255))) := ⟨_, rfl⟩
     rw [← hW9] at HG' HB' ⊢
     clear hW9 c14 c10 c11 k11 f11 HC0 HC8 HB9 HG9
     have hsz9 := HB'.out.size
     have hg9 : gh < W9.heap.size := (Array.getElem?_eq_some_iff.1 HG'.out).1
     have HHC : Hid (∀ w', Below W9.heap.size W9 w' → ∀ j v, (#[.int .u8 p.s0, .int .u8 p.s1, .int .u8 p.s2, .int .u8 p.s3, .int .u8 p.s4, .int .u8 p.s5, .int .u8 p.s6, .int .u8 p.s7, .int .i64 (1 + (a : Int)), .int .i64 (1 + (q : Int)), .int .i64 (1 + (b : Int)), .string (p.key.extract 0 255), .int .i64 0, .int .i64 0, .int .i64 (1 + (ep : Int)), .int .i64 (1 + (ct : Int))] : Array Value).toList[j]? = some v → w'.cell? ⟨gh, j, none⟩ = some v) := Lib.hid fun w' hb j v hv => by
      rw [hb.cell (p := ⟨gh, j, none⟩) (by show gh < _; exact hg9), cell_of_row _ gh j _ _ (0, 0) HG'.out]
      simpa using hv
     have HDC : Hid (∀ w', Below W9.heap.size W9 w' → w'.cell? ⟨bx, 14, none⟩ = some (.slice A nd cd)) := Lib.hid fun w' hb => HC.out w' (HB'.out.trans (hb.mono hsz9)) 14 _ rfl
     have HRT : Hid (∀ w', Below W9.heap.size W9 w' → Rd w' A mo (fun j => .int .u8 (((l.take mo).getD j 0 : Nat) : Int))) := Lib.hid fun w' hb => (HTK.out w' (HB'.out.trans (hb.mono hsz9)))
     have hso1 : (0 : Int) ≤ (mo : Int) := by omega
     have hso2 : (mo : Int) ≤ (cd : Int) := by omega
     have HZ3 : Hid (∀ w', Below W9.heap.size W9 w' → w'.heap[bx + 1]? = some (.cells #[.int .u8 0, .int .u8 0, .int .u8 0, .int .u8 0, .int .u8 0, .int .u8 0, .int .u8 0, .int .u8 0, .int .i64 0, .int .i64 0, .int .i64 0, .string ⟨#[]⟩, .int .i64 0, .int .i64 0, .int .i64 0, .int .i64 0] 42 (0, 0))) := Lib.hid fun w' hb => ((HB'.out.trans (hb.mono hsz9)).block (bx + 1) (by omega)).trans HW3.out
     refine wp_region_factsT 6 [.is (.agg #[.int .u8 p.s0, .int .u8 p.s1, .int .u8 p.s2, .int .u8 p.s3, .int .u8 p.s4, .int .u8 p.s5, .int .u8 p.s6, .int .u8 p.s7, .int .i64 (1 + (a : Int)), .int .i64 (1 + (q : Int)), .int .i64 (1 + (b : Int)), .string (p.key.extract 0 255), .int .i64 0, .int .i64 0, .int .i64 (1 + (ep : Int)), .int .i64 (1 + (ct : Int))]), .is (.pointer (some ⟨bx, 14, none⟩)), .is (.slice A nd cd), .is (.int .i64 (mo : Int)), .is (.slice A mo cd), Fact.ownN W9.heap.size (l.take mo)] mixed (by kernel_rfl) (fun hdr => ⟨?_, ?_, ?_, ?_, ?_, ?_, trivial⟩) (fun wE hbE => ?_)
     · intro a1 w2 hb hs K hK
       repeat (intro _)
       refine ⟨?_⟩
       have h6 : a1.tmps[6]?.getD undef = .pointer (some ⟨gh, 0, none⟩) := hs 6 (by kernel_rfl)
       rw [if_pos (by rfl)]
       exact wp_loadAgg 42 (.tmp 6) rfl ⟨gh, 0, none⟩ ((slot_eval a1 6).trans h6) #[.int .u8 p.s0, .int .u8 p.s1, .int .u8 p.s2, .int .u8 p.s3, .int .u8 p.s4, .int .u8 p.s5, .int .u8 p.s6, .int .u8 p.s7, .int .i64 (1 + (a : Int)), .int .i64 (1 + (q : Int)), .int .i64 (1 + (b : Int)), .string (p.key.extract 0 255), .int .i64 0, .int .i64 0, .int .i64 (1 + (ep : Int)), .int .i64 (1 + (ct : Int))] _ (fun j v hj => by rw [add_zero_addr]; exact HHC.out w2 (hdr.out.trans (hb.mono hdr.out.size)) j v hj) Try.underlying42 rfl info_H (hK.out _ _ (Below.refl _ _) rfl)
     · intro a1 w2 hb hs K hK
       repeat (intro _)
       refine ⟨?_⟩
       have h1 : a1.tmps[1]?.getD undef = .pointer (some ⟨bx, 0, none⟩) := hs 1 (by kernel_rfl)
       rw [if_pos (by rfl)]
       go_simp; exact hK.out _ _ (Below.refl _ _) rfl
     · intro a1 w2 hb hs K hK
       repeat (intro _)
       refine ⟨?_⟩
       have h65 : a1.tmps[65]?.getD undef = .pointer (some ⟨bx, 14, none⟩) := by assumption
       rw [if_pos (by rfl)]
       have hcc : w2.cell? ⟨bx, 14, none⟩ = some (.slice A nd cd) := HDC.out w2 (hdr.out.trans (hb.mono hdr.out.size))
       go_simp; exact hK.out _ _ (Below.refl _ _) rfl
     · intro a1 w2 hb hs K hK
       repeat (intro _)
       refine ⟨?_⟩
       have h7 : a1.tmps[7]?.getD undef = .int .i64 (mo : Int) := hs 7 (by kernel_rfl)
       rw [if_pos (by rfl)]
       go_simp; exact hK.out _ _ (Below.refl _ _) rfl
     · intro a1 w2 hb hs K hK
       repeat (intro _)
       refine ⟨?_⟩
       have h66 : a1.tmps[66]?.getD undef = .slice A nd cd := by assumption
       have h67 : a1.tmps[67]?.getD undef = .int .i64 (mo : Int) := by assumption
       rw [if_pos (by rfl)]
       go_simp; exact hK.out _ _ (Below.refl _ _) rfl
     · intro a1 w2 hb hs K hK
       repeat (intro _)
       refine ⟨?_⟩
       have h68 : a1.tmps[68]?.getD undef = .slice A mo cd := by assumption
       rw [if_pos (by rfl)]
       refine wp_of_list rfl (fun Q' hQ => ?_)
       refine wpList_appendRd rfl (.const (.slice none 0 0)) (.tmp 68) 43 rfl w2.heap.size 5 1 (.int .u8 0) Try.underlying43 byteInfo rfl rfl (Nat.le_refl _) A mo cd (fun j => .int .u8 (((l.take mo).getD j 0 : Nat) : Int)) ((slot_eval a1 68).trans h68) (HRT.out w2 (hdr.out.trans (hb.mono hdr.out.size))) (fun _ _ => rfl) (by omega) (by omega) ?_
       intro v' w' hO hb'
       exact hQ _ _ (hK.out _ _ hb' (own_take (hO.mono (by have h1 := hb.size; have h2 := hdr.out.size; exact Nat.le_trans h2 h1)) HLT.out))
     intro v0 f0 v1 f1 v2 f2 v3 f3 v4 f4 v5 f5
     refine finG_end rfl (kq_normal ?_)
     simp only [List.drop_succ_cons, List.drop_zero]
     simp only [Act.put, List.setIfInBounds_toArray, List.set_cons_zero, List.set_cons_succ]
     obtain ⟨A5, c5, rfl, hO5⟩ := f5
     obtain rfl : v0 = .agg #[.int .u8 p.s0, .int .u8 p.s1, .int .u8 p.s2, .int .u8 p.s3, .int .u8 p.s4, .int .u8 p.s5, .int .u8 p.s6, .int .u8 p.s7, .int .i64 (1 + (a : Int)), .int .i64 (1 + (q : Int)), .int .i64 (1 + (b : Int)), .string (p.key.extract 0 255), .int .i64 0, .int .i64 0, .int .i64 (1 + (ep : Int)), .int .i64 (1 + (ct : Int))] := f0
     have HO5 := Lib.hid hO5
     have HFE : Hid ((#[.int .u8 p.s0, .int .u8 p.s1, .int .u8 p.s2, .int .u8 p.s3, .int .u8 p.s4, .int .u8 p.s5, .int .u8 p.s6, .int .u8 p.s7, .int .i64 (1 + (a : Int)), .int .i64 (1 + (q : Int)), .int .i64 (1 + (b : Int)), .string (keyF p.key), .int .i64 0, .int .i64 0, .int .i64 (1 + (ep : Int)), .int .i64 (1 + (ct : Int))] : Array Value) = #[.int .u8 p.s0, .int .u8 p.s1, .int .u8 p.s2, .int .u8 p.s3, .int .u8 p.s4, .int .u8 p.s5, .int .u8 p.s6, .int .u8 p.s7, .int .i64 (1 + (a : Int)), .int .i64 (1 + (q : Int)), .int .i64 (1 + (b : Int)), .string (p.key.extract 0 255), .int .i64 0, .int .i64 0, .int .i64 (1 + (ep : Int)), .int .i64 (1 + (ct : Int))]) := Lib.hid (by rw [HKF.out])
     clear f1 f2 f3 f4 hO5
     refine wpList_storeH rfl (.tmp 2) (.tmp 64) rfl (bx + 1) #[.int .u8 p.s0, .int .u8 p.s1, .int .u8 p.s2, .int .u8 p.s3, .int .u8 p.s4, .int .u8 p.s5, .int .u8 p.s6, .int .u8 p.s7, .int .i64 (1 + (a : Int)), .int .i64 (1 + (q : Int)), .int .i64 (1 + (b : Int)), .string (p.key.extract 0 255), .int .i64 0, .int .i64 0, .int .i64 (1 + (ep : Int)), .int .i64 (1 + (ct : Int))] rfl rfl rfl #[.int .u8 0, .int .u8 0, .int .u8 0, .int .u8 0, .int .u8 0, .int .u8 0, .int .u8 0, .int .u8 0, .int .i64 0, .int .i64 0, .int .i64 0, .string ⟨#[]⟩, .int .i64 0, .int .i64 0, .int .i64 0, .int .i64 0] rfl (HZ3.out _ hbE) rfl ?_
     intro w10 hw10 hg10 hs10
     have HBF : Hid (Below w.heap.size w w10) := Lib.hid (by
      have h1 := HW1.out.trans ((HB'.out.mono HW1.out.size).trans (hbE.mono (by have := HW1.out.size; omega)))
      have h2 := HBXE.out
      have h3 := h1.size
      exact ⟨hg10.os.trans h1.os, hg10.tape.trans h1.tape, hg10.output.trans h1.output, Nat.le_trans h3 hg10.size, fun i hi => (hg10.block i (by omega) (fun e => by injection e with e; omega)).trans (h1.block i hi)⟩)
     have HOF : Hid (OwnB w10 w.heap.size (.slice A5 (l.take mo).length c5) (l.take mo)) := Lib.hid ((HO5.out.mono (by have := HBXE.out; omega)).keptRow hg10 (.inr fun e => by
      have h1 := (HO5.out.lt _ e).1
      omega))
     have HW10 := Lib.hid hw10
     have hlt10 := HLT.out
     clear hw10 hg10 hs10 hbE HO5
     go_wp2
     refine NoPanic.normal ?_
     go_wp2
     exact ret_cellH Try.results34 rfl rfl rfl HW10.out ⟨A5, c5, by rw [HFE.out, HFN2.out]; rfl, by rw [HFN2.out]; have h0 := HOF.out; rw [HLT.out] at h0; exact h0, HBF.out⟩
   · have hsl2 : ¬ (255 : Int) < (p.key.size : Int) := by omega
     have HKF : Hid (keyF p.key = p.key) := Lib.hid ((if_neg hk0).trans (if_neg hk1))
     have HG' : Hid ((w9).heap[gh]? = some (.cells #[.int .u8 p.s0, .int .u8 p.s1, .int .u8 p.s2, .int .u8 p.s3, .int .u8 p.s4, .int .u8 p.s5, .int .u8 p.s6, .int .u8 p.s7, .int .i64 (1 + (a : Int)), .int .i64 (1 + (q : Int)), .int .i64 (1 + (b : Int)), .string p.key, .int .i64 0, .int .i64 0, .int .i64 (1 + (ep : Int)), .int .i64 (1 + (ct : Int))] 42 (0, 0))) := Lib.hid (HG9.out)
     have HB' : Hid (Below W.heap.size W (w9)) := Lib.hid (HB9.out)
     have c14 : (w9).cell? ⟨bx, 14, none⟩ = some (.slice A nd cd) := HC.out _ HB'.out 14 _ rfl
     have c10 : (w9).cell? ⟨gh, 10, none⟩ = some (.int .i64 (1 + (b : Int))) := by rw [cell_of_row _ gh 10 _ _ (0, 0) HG'.out]; rfl
     have c11 : (w9).cell? ⟨gh, 11, none⟩ = some (.string p.key) := by rw [cell_of_row _ gh 11 _ _ (0, 0) HG'.out]; rfl
     go_wp2_with (refine wpList_min3 rfl (.tmp 56) (.const (.int .i64 1048576)) (.tmp 62) _ rfl (nd : Int) 1048576 (4096 * (1 + (a : Int)) * (1 + (b : Int))) (mo : Int) rfl rfl rfl HMO.out ?_)
     obtain ⟨W9, hW9⟩ : ∃ W9, W9 = (w9) := ⟨_, rfl⟩
     rw [← hW9] at HG' HB' ⊢
     clear hW9 c14 c10 c11 k11 f11 HC0 HC8 HB9 HG9
     have hsz9 := HB'.out.size
     have hg9 : gh < W9.heap.size := (Array.getElem?_eq_some_iff.1 HG'.out).1
     have HHC : Hid (∀ w', Below W9.heap.size W9 w' → ∀ j v, (#[.int .u8 p.s0, .int .u8 p.s1, .int .u8 p.s2, .int .u8 p.s3, .int .u8 p.s4, .int .u8 p.s5, .int .u8 p.s6, .int .u8 p.s7, .int .i64 (1 + (a : Int)), .int .i64 (1 + (q : Int)), .int .i64 (1 + (b : Int)), .string p.key, .int .i64 0, .int .i64 0, .int .i64 (1 + (ep : Int)), .int .i64 (1 + (ct : Int))] : Array Value).toList[j]? = some v → w'.cell? ⟨gh, j, none⟩ = some v) := Lib.hid fun w' hb j v hv => by
      rw [hb.cell (p := ⟨gh, j, none⟩) (by show gh < _; exact hg9), cell_of_row _ gh j _ _ (0, 0) HG'.out]
      simpa using hv
     have HDC : Hid (∀ w', Below W9.heap.size W9 w' → w'.cell? ⟨bx, 14, none⟩ = some (.slice A nd cd)) := Lib.hid fun w' hb => HC.out w' (HB'.out.trans (hb.mono hsz9)) 14 _ rfl
     have HRT : Hid (∀ w', Below W9.heap.size W9 w' → Rd w' A mo (fun j => .int .u8 (((l.take mo).getD j 0 : Nat) : Int))) := Lib.hid fun w' hb => (HTK.out w' (HB'.out.trans (hb.mono hsz9)))
     have hso1 : (0 : Int) ≤ (mo : Int) := by omega
     have hso2 : (mo : Int) ≤ (cd : Int) := by omega
     have HZ3 : Hid (∀ w', Below W9.heap.size W9 w' → w'.heap[bx + 1]? = some (.cells #[.int .u8 0, .int .u8 0, .int .u8 0, .int .u8 0, .int .u8 0, .int .u8 0, .int .u8 0, .int .u8 0, .int .i64 0, .int .i64 0, .int .i64 0, .string ⟨#[]⟩, .int .i64 0, .int .i64 0, .int .i64 0, .int .i64 0] 42 (0, 0))) := Lib.hid fun w' hb => ((HB'.out.trans (hb.mono hsz9)).block (bx + 1) (by omega)).trans HW3.out
     refine wp_region_factsT 6 [.is (.agg #[.int .u8 p.s0, .int .u8 p.s1, .int .u8 p.s2, .int .u8 p.s3, .int .u8 p.s4, .int .u8 p.s5, .int .u8 p.s6, .int .u8 p.s7, .int .i64 (1 + (a : Int)), .int .i64 (1 + (q : Int)), .int .i64 (1 + (b : Int)), .string p.key, .int .i64 0, .int .i64 0, .int .i64 (1 + (ep : Int)), .int .i64 (1 + (ct : Int))]), .is (.pointer (some ⟨bx, 14, none⟩)), .is (.slice A nd cd), .is (.int .i64 (mo : Int)), .is (.slice A mo cd), Fact.ownN W9.heap.size (l.take mo)] mixed (by kernel_rfl) (fun hdr => ⟨?_, ?_, ?_, ?_, ?_, ?_, trivial⟩) (fun wE hbE => ?_)
     · intro a1 w2 hb hs K hK
       repeat (intro _)
       refine ⟨?_⟩
       have h6 : a1.tmps[6]?.getD undef = .pointer (some ⟨gh, 0, none⟩) := hs 6 (by kernel_rfl)
       rw [if_pos (by rfl)]
       exact wp_loadAgg 42 (.tmp 6) rfl ⟨gh, 0, none⟩ ((slot_eval a1 6).trans h6) #[.int .u8 p.s0, .int .u8 p.s1, .int .u8 p.s2, .int .u8 p.s3, .int .u8 p.s4, .int .u8 p.s5, .int .u8 p.s6, .int .u8 p.s7, .int .i64 (1 + (a : Int)), .int .i64 (1 + (q : Int)), .int .i64 (1 + (b : Int)), .string p.key, .int .i64 0, .int .i64 0, .int .i64 (1 + (ep : Int)), .int .i64 (1 + (ct : Int))] _ (fun j v hj => by rw [add_zero_addr]; exact HHC.out w2 (hdr.out.trans (hb.mono hdr.out.size)) j v hj) Try.underlying42 rfl info_H (hK.out _ _ (Below.refl _ _) rfl)
     · intro a1 w2 hb hs K hK
       repeat (intro _)
       refine ⟨?_⟩
       have h1 : a1.tmps[1]?.getD undef = .pointer (some ⟨bx, 0, none⟩) := hs 1 (by kernel_rfl)
       rw [if_pos (by rfl)]
       go_simp; exact hK.out _ _ (Below.refl _ _) rfl
     · intro a1 w2 hb hs K hK
       repeat (intro _)
       refine ⟨?_⟩
       have h65 : a1.tmps[65]?.getD undef = .pointer (some ⟨bx, 14, none⟩) := by assumption
       rw [if_pos (by rfl)]
       have hcc : w2.cell? ⟨bx, 14, none⟩ = some (.slice A nd cd) := HDC.out w2 (hdr.out.trans (hb.mono hdr.out.size))
       go_simp; exact hK.out _ _ (Below.refl _ _) rfl
     · intro a1 w2 hb hs K hK
       repeat (intro _)
       refine ⟨?_⟩
       have h7 : a1.tmps[7]?.getD undef = .int .i64 (mo : Int) := hs 7 (by kernel_rfl)
       rw [if_pos (by rfl)]
       go_simp; exact hK.out _ _ (Below.refl _ _) rfl
     · intro a1 w2 hb hs K hK
       repeat (intro _)
       refine ⟨?_⟩
       have h66 : a1.tmps[66]?.getD undef = .slice A nd cd := by assumption
       have h67 : a1.tmps[67]?.getD undef = .int .i64 (mo : Int) := by assumption
       rw [if_pos (by rfl)]
       go_simp; exact hK.out _ _ (Below.refl _ _) rfl
     · intro a1 w2 hb hs K hK
       repeat (intro _)
       refine ⟨?_⟩
       have h68 : a1.tmps[68]?.getD undef = .slice A mo cd := by assumption
       rw [if_pos (by rfl)]
       refine wp_of_list rfl (fun Q' hQ => ?_)
       refine wpList_appendRd rfl (.const (.slice none 0 0)) (.tmp 68) 43 rfl w2.heap.size 5 1 (.int .u8 0) Try.underlying43 byteInfo rfl rfl (Nat.le_refl _) A mo cd (fun j => .int .u8 (((l.take mo).getD j 0 : Nat) : Int)) ((slot_eval a1 68).trans h68) (HRT.out w2 (hdr.out.trans (hb.mono hdr.out.size))) (fun _ _ => rfl) (by omega) (by omega) ?_
       intro v' w' hO hb'
       exact hQ _ _ (hK.out _ _ hb' (own_take (hO.mono (by have h1 := hb.size; have h2 := hdr.out.size; exact Nat.le_trans h2 h1)) HLT.out))
     intro v0 f0 v1 f1 v2 f2 v3 f3 v4 f4 v5 f5
     refine finG_end rfl (kq_normal ?_)
     simp only [List.drop_succ_cons, List.drop_zero]
     simp only [Act.put, List.setIfInBounds_toArray, List.set_cons_zero, List.set_cons_succ]
     obtain ⟨A5, c5, rfl, hO5⟩ := f5
     obtain rfl : v0 = .agg #[.int .u8 p.s0, .int .u8 p.s1, .int .u8 p.s2, .int .u8 p.s3, .int .u8 p.s4, .int .u8 p.s5, .int .u8 p.s6, .int .u8 p.s7, .int .i64 (1 + (a : Int)), .int .i64 (1 + (q : Int)), .int .i64 (1 + (b : Int)), .string p.key, .int .i64 0, .int .i64 0, .int .i64 (1 + (ep : Int)), .int .i64 (1 + (ct : Int))] := f0
     have HO5 := Lib.hid hO5
     have HFE : Hid ((#[.int .u8 p.s0, .int .u8 p.s1, .int .u8 p.s2, .int .u8 p.s3, .int .u8 p.s4, .int .u8 p.s5, .int .u8 p.s6, .int .u8 p.s7, .int .i64 (1 + (a : Int)), .int .i64 (1 + (q : Int)), .int .i64 (1 + (b : Int)), .string (keyF p.key), .int .i64 0, .int .i64 0, .int .i64 (1 + (ep : Int)), .int .i64 (1 + (ct : Int))] : Array Value) = #[.int .u8 p.s0, .int .u8 p.s1, .int .u8 p.s2, .int .u8 p.s3, .int .u8 p.s4, .int .u8 p.s5, .int .u8 p.s6, .int .u8 p.s7, .int .i64 (1 + (a : Int)), .int .i64 (1 + (q : Int)), .int .i64 (1 + (b : Int)), .string p.key, .int .i64 0, .int .i64 0, .int .i64 (1 + (ep : Int)), .int .i64 (1 + (ct : Int))]) := Lib.hid (by rw [HKF.out])
     clear f1 f2 f3 f4 hO5
     refine wpList_storeH rfl (.tmp 2) (.tmp 64) rfl (bx + 1) #[.int .u8 p.s0, .int .u8 p.s1, .int .u8 p.s2, .int .u8 p.s3, .int .u8 p.s4, .int .u8 p.s5, .int .u8 p.s6, .int .u8 p.s7, .int .i64 (1 + (a : Int)), .int .i64 (1 + (q : Int)), .int .i64 (1 + (b : Int)), .string p.key, .int .i64 0, .int .i64 0, .int .i64 (1 + (ep : Int)), .int .i64 (1 + (ct : Int))] rfl rfl rfl #[.int .u8 0, .int .u8 0, .int .u8 0, .int .u8 0, .int .u8 0, .int .u8 0, .int .u8 0, .int .u8 0, .int .i64 0, .int .i64 0, .int .i64 0, .string ⟨#[]⟩, .int .i64 0, .int .i64 0, .int .i64 0, .int .i64 0] rfl (HZ3.out _ hbE) rfl ?_
     intro w10 hw10 hg10 hs10
     have HBF : Hid (Below w.heap.size w w10) := Lib.hid (by
      have h1 := HW1.out.trans ((HB'.out.mono HW1.out.size).trans (hbE.mono (by have := HW1.out.size; omega)))
      have h2 := HBXE.out
      have h3 := h1.size
      exact ⟨hg10.os.trans h1.os, hg10.tape.trans h1.tape, hg10.output.trans h1.output, Nat.le_trans h3 hg10.size, fun i hi => (hg10.block i (by omega) (fun e => by injection e with e; omega)).trans (h1.block i hi)⟩)
     have HOF : Hid (OwnB w10 w.heap.size (.slice A5 (l.take mo).length c5) (l.take mo)) := Lib.hid ((HO5.out.mono (by have := HBXE.out; omega)).keptRow hg10 (.inr fun e => by
      have h1 := (HO5.out.lt _ e).1
      omega))
     have HW10 := Lib.hid hw10
     have hlt10 := HLT.out
     clear hw10 hg10 hs10 hbE HO5
     go_wp2
     refine NoPanic.normal ?_
     go_wp2
     exact ret_cellH Try.results34 rfl rfl rfl HW10.out ⟨A5, c5, by rw [HFE.out, HFN2.out]; rfl, by rw [HFN2.out]; have h0 := HOF.out; rw [HLT.out] at h0; exact h0, HBF.out⟩
end Go.Proofs.Ytjaaldandgfkgaa
