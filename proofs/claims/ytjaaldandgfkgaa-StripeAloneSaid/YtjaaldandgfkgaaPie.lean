/- Join of both, as one fact; strings of bytes. Conditions: shards that memory bears. -/
import Derived.Test.YtjaaldandgfkgaaJoi
import Derived.Test.YtjaaldandgfkgaaJnR
import Derived.Test.YtjaaldandgfkgaaJnU
import Derived.Test.YtjaaldandgfkgaaStrN
namespace Go.Proofs.Ytjaaldandgfkgaa
open Go.RowKit

def strL (l : List Nat) : ByteArray := strN l.length fun i => l.getD i 0
theorem conv_strL {w : World} {A : Option Addr} {l : List Nat} (c : Nat) (hl : ∀ x ∈ l, x < 256) (h : RL w A l) : (convert 43 9 (.slice A l.length c)).run Try.prog w = .ok (.string (strL l)) w :=
  conv_str (P := Try.prog) w 43 9 5 A l.length c (fun i => l.getD i 0) Try.underlying43 Try.underlying5 Try.underlying9 (fun _ hi => getD_lt hl hi) h
/-- What Join answers, both of them. -/
def JoinR (n : Nat) (H : Nat → Hd) (BL : Nat → List (List Nat)) (er : Int) (l : List Nat) : Prop := LookE n H BL er ∧ (er ≠ 0 → l = []) ∧ (er = 0 → ∃ k, FstS n H k ∧ JnL n H BL (H k) l)
theorem JoinR.uniq {n : Nat} {H : Nat → Hd} {BL : Nat → List (List Nat)} {er er' : Int} {l l' : List Nat} (h : JoinR n H BL er l) (h' : JoinR n H BL er' l') : er = er' ∧ l = l' := join_uniq h.1 h'.1 h.2.1 h'.2.1 h.2.2 h'.2.2
theorem JoinR.lt {n : Nat} {H : Nat → Hd} {BL : Nat → List (List Nat)} {er : Int} {l : List Nat} (h : JoinR n H BL er l) : ∀ x ∈ l, x < 256 := by
  by_cases e : er = 0
  · obtain ⟨k, _, h1⟩ := h.2.2 e; exact h1.lt
  · rw [h.2.1 e]; simp
theorem LookE.checked {n : Nat} {H : Nat → Hd} {BL : Nat → List (List Nat)} {k : Nat} (h : LookE n H BL 0) (hk : FstS n H k) : checkE (H k) = 0 := by
  rcases h with ⟨_, h⟩ | ⟨k', hk', hz⟩
  · cases h
  · have := hk.uniq hk'
    subst this
    rcases hz with ⟨h1, h2⟩ | ⟨_, _, h2⟩ | ⟨_, _, t, _, _, _, h2⟩ | ⟨_, _, _, _, h2⟩ | ⟨h1, _⟩
    · exact absurd h2.symm h1
    · cases h2
    · rcases h2 with ⟨_, h2⟩ | ⟨_, _, h2⟩ <;> cases h2
    · cases h2
    · exact h1
theorem JoinR.len {n : Nat} {H : Nat → Hd} {BL : Nat → List (List Nat)} {er : Int} {l : List Nat} (h : JoinR n H BL er l) : l.length ≤ 140737488351232 := by
  by_cases e : er = 0
  · subst e
    obtain ⟨k, hk, O, _, h1⟩ := h.2.2 rfl
    rw [h1, mkL_length]
    have := (size_facts (check_facts (h.1.checked hk)).2.2.2.1)
    omega
  · rw [h.2.1 e]; decide
theorem join_all (A : Option Addr) (n c : Nat) (H : Nat → Hd) (BL : Nat → List (List Nat)) (w : World) (hn : n ≤ 1000000000000000) (hW : ∀ i, i < n → HdW (H i)) (hA : RSd w A n H BL) (hL : ∀ i, i < n → (BL i).length ≤ 140737488351232) (hLL : ∀ i, i < n → ∀ l ∈ BL i, l.length ≤ 140737488351232) (hX : ∀ i, i < n → ∀ l ∈ BL i, ∀ x ∈ l, x < 256) :
    Calls Try.prog 28 #[.slice A n c] w fun e w' => ∃ er l A' c', e = .returned (.tuple #[.slice A' l.length c', .int .i64 er]) ∧ JoinR n H BL er l ∧ OwnB w' w.heap.size (.slice A' l.length c') l ∧ Below w.heap.size w w' := by
  refine (join_any A n c H BL w hn hW hA hL hLL hX).mono ?_
  rintro e w' ⟨hb, er, l, v, h1, rfl, h2, h3, h4⟩
  obtain ⟨A', c', rfl, _, _, _, _⟩ := h2.own.rd
  exact ⟨er, l, A', c', rfl, ⟨h1, h3, h4⟩, h2, hb⟩
theorem rjoin_all (A : Option Addr) (n c : Nat) (H : Nat → Hd) (BL : Nat → List (List Nat)) (w : World) (hn : n ≤ 2000000000000) (hW : ∀ i, i < n → HdW (H i)) (hA : RSd w A n H BL) (hL : ∀ i, i < n → (BL i).length ≤ 140737488351232) (hLL : ∀ i, i < n → ∀ l ∈ BL i, l.length ≤ 140737488351232) (hX : ∀ i, i < n → ∀ l ∈ BL i, ∀ x ∈ l, x < 256) :
    Calls Try.prog 27 #[.slice A n c] w fun e w' => ∃ er l A' c', e = .returned (.tuple #[.slice A' l.length c', .int .i64 er]) ∧ JoinR n H BL er l ∧ RL w' A' l ∧ Below w.heap.size w w' := by
  refine (rjoin_any A n c H BL w hn hW hA hL hLL hX).mono ?_
  rintro e w' ⟨hb, er, A', c', l, h1, rfl, h2, h3, h4⟩
  exact ⟨er, l, A', c', rfl, ⟨h1, h3, h4⟩, h2, hb⟩
theorem own_rl' {w : World} {B n c : Nat} {A : Option Addr} {l : List Nat} (h : OwnB w B (.slice A n c) l) : RL w A l := by
  obtain ⟨A', c', e, _, _, hr, _⟩ := h.own.rd
  injection e with e1 _ _
  rw [e1]; exact hr
end Go.Proofs.Ytjaaldandgfkgaa

/- Piece of both; Cut. Conditions: shards that memory bears. -/
namespace Go.Proofs.Ytjaaldandgfkgaa
open Go.RowKit

def cutL (l : List Nat) (o m : Nat) : List Nat := (l.drop o).take m
theorem cutL_length (l : List Nat) (o m : Nat) : (cutL l o m).length = min m (l.length - o) := by simp [cutL]
theorem cutL_get {l : List Nat} {o m i : Nat} (h : i < (cutL l o m).length) : (cutL l o m).getD i 0 = l.getD (o + i) 0 := by
  rw [cutL_length] at h
  simp only [cutL, List.getD_eq_getElem?_getD]
  rw [List.getElem?_take_of_lt (by omega), List.getElem?_drop]
theorem cutL_lt {l : List Nat} (hl : ∀ x ∈ l, x < 256) (o m : Nat) : ∀ x ∈ cutL l o m, x < 256 := fun x hx => hl x (List.mem_of_mem_drop (List.mem_of_mem_take hx))
theorem cutL_over {l : List Nat} {o : Nat} (h : l.length ≤ o) (m : Nat) : cutL l o m = [] := by
  unfold cutL; rw [List.drop_eq_nil_of_le h]; exact List.take_nil
theorem cutL_zero (o m : Nat) : cutL [] o m = [] := by simp [cutL]
theorem cutL_yes {l : List Nat} {o m k : Nat} (hk : k < l.length) (h1 : o ≤ k) (h2 : k - o < m) : cutL (l.take k) o m ++ [l.getD k 0] = cutL (l.take (k + 1)) o m := by
  rw [take_next hk]
  unfold cutL
  have hl : (l.take k).length = k := by rw [List.length_take]; omega
  rw [List.drop_append_of_le_length (by omega)]
  have h3 : ((l.take k).drop o).length = k - o := by rw [List.length_drop, hl]
  rw [List.take_of_length_le (l := (l.take k).drop o) (by omega), List.take_of_length_le (l := (l.take k).drop o ++ [l.getD k 0]) (by rw [List.length_append, h3]; simp; omega)]
theorem cutL_no {l : List Nat} {o m k : Nat} (hk : k < l.length) (h : ¬ (o ≤ k ∧ k - o < m)) : cutL (l.take k) o m = cutL (l.take (k + 1)) o m := by
  rw [take_next hk]
  have hl : (l.take k).length = k := by rw [List.length_take]; omega
  by_cases h1 : o ≤ k
  · unfold cutL
    rw [List.drop_append_of_le_length (by omega)]
    have h3 : ((l.take k).drop o).length = k - o := by rw [List.length_drop, hl]
    rw [List.take_append_of_le_length (by omega)]
  · rw [cutL_over (by omega), cutL_over (by rw [List.length_append, hl]; simp; omega)]
/-- What Piece answers, both of them. -/
def PieceR (n : Nat) (H : Nat → Hd) (BL : Nat → List (List Nat)) (off q : Int) (er : Int) (l : List Nat) : Prop :=
  ∃ er0 l0, JoinR n H BL er0 l0 ∧ ((er0 ≠ 0 ∧ er = er0 ∧ l = []) ∨ (er0 = 0 ∧ (off < 0 ∨ q < 0) ∧ er = 2 ∧ l = []) ∨ (er0 = 0 ∧ 0 ≤ off ∧ 0 ≤ q ∧ er = 0 ∧ l = cutL l0 off.toNat q.toNat))
theorem PieceR.uniq {n : Nat} {H : Nat → Hd} {BL : Nat → List (List Nat)} {off q er er' : Int} {l l' : List Nat} (h : PieceR n H BL off q er l) (h' : PieceR n H BL off q er' l') : er = er' ∧ l = l' := by
  obtain ⟨e0, l0, hJ, h⟩ := h
  obtain ⟨e1, l1, hJ', h'⟩ := h'
  obtain ⟨rfl, rfl⟩ := hJ.uniq hJ'
  rcases h with ⟨a, b, c⟩ | ⟨a, b, c, d⟩ | ⟨a, b, c, d, e⟩ <;> rcases h' with ⟨a', b', c'⟩ | ⟨a', b', c', d'⟩ | ⟨a', b', c', d', e'⟩
  all_goals first
    | (subst b b' c c'; exact ⟨rfl, rfl⟩)
    | (subst c d c' d'; exact ⟨rfl, rfl⟩)
    | (subst d e d' e'; exact ⟨rfl, rfl⟩)
    | exact absurd a' a
    | exact absurd a a'
    | (exfalso; omega)
theorem PieceR.lt {n : Nat} {H : Nat → Hd} {BL : Nat → List (List Nat)} {off q er : Int} {l : List Nat} (h : PieceR n H BL off q er l) : ∀ x ∈ l, x < 256 := by
  obtain ⟨e0, l0, hJ, h⟩ := h
  rcases h with ⟨_, _, rfl⟩ | ⟨_, _, _, rfl⟩ | ⟨_, _, _, _, rfl⟩
  · simp
  · simp
  · exact cutL_lt hJ.lt _ _
set_option maxRecDepth 100000 in
set_option maxHeartbeats 4000000 in
theorem cut_any (A : Option Addr) (c o m : Nat) (l : List Nat) (w : World) (hl : l.length ≤ 140737488351232) (ho : o ≤ 9223372036854775807) (hm : m ≤ 9223372036854775807) (hA : RL w A l) :
    Calls Try.prog 66 #[.slice A l.length c, .int .i64 (o : Nat), .int .i64 (m : Nat)] w fun e w' => ∃ A' c', e = .returned (.slice A' (cutL l o m).length c') ∧ RL w' A' (cutL l o m) ∧ Below w.heap.size w w' := by
  obtain ⟨n, hn⟩ : ∃ n, n = l.length := ⟨_, rfl⟩
  have HN := Lib.hid hn; have HA := Lib.hid hA
  rw [← hn] at hl ⊢
  clear hn hA
  go_enter Try.func66, Try.ntmps66
  go_wp2
  go_loopg [7, 8] n (fun gk x i wr => ∃ (k : Nat) (v : Value), v = x ∧ k ≤ n ∧ gk = n - k ∧ i = .int .i64 k ∧ OwnB wr w.heap.size v (cutL (l.take k) o m) ∧ Below w.heap.size w wr)
  case atStart => exact ⟨0, _, rfl, Nat.zero_le _, rfl, rfl, by rw [List.take_zero, cutL_zero]; exact OwnB.nil _ _, Below.refl _ _⟩
  case round =>
    obtain ⟨k, v, rfl, hk, rfl, rfl, hO, hb⟩ := hrel
    have hsz := hb.size
    by_cases hlt : k < n
    · have HO := Lib.hid hO; have HB := Lib.hid hb
      obtain ⟨b, o1, rfl, hb1, hc1⟩ := HA.out k (by rw [← HN.out]; exact hlt)
      have hcell : wr.cell? ⟨b, o1 + k, none⟩ = some (.int .u8 (l.getD k 0 : Nat)) := (hb.cell hb1).trans hc1
      obtain ⟨x, hx⟩ : ∃ x, x = l.getD k 0 := ⟨_, rfl⟩
      rw [← hx] at hcell
      have HXE := Lib.hid hx
      clear hO hb hb1 hc1 hx
      by_cases hok : o ≤ k
      · have hge : (o : Int) ≤ (k : Int) := by omega
        have hsub : IntKind.i64.wrap ((k : Int) - (o : Int)) = (k : Int) - (o : Int) := by rw [IntKind.wrap_i64]; omega
        by_cases hlm : k - o < m
        · have hlm2 : (k : Int) - (o : Int) < (m : Int) := by omega
          have hlen : (cutL (l.take k) o m).length ≤ n := by rw [cutL_length, List.length_take]; omega
          have hszN : w.heap.size ≤ wr.heap.size := hsz
          go_wp2_with (at_builtin; refine wpList_pushB rfl (.tmp 25) (.tmp 30) rfl w.heap.size v (cutL (l.take k) o m) rfl HO.out hszN _ 1 [x] rfl rfl rfl rfl (by omega) ?_)
          intro v9 w9 hO9 hb9 _
          have HO9 : Hid (OwnB w9 w.heap.size v9 (cutL (l.take (k + 1)) o m)) := Lib.hid (by rw [← cutL_yes (by rw [← HN.out]; exact hlt) hok hlm, ← HXE.out]; exact hO9)
          have HB9 := Lib.hid (HB.out.trans hb9)
          clear hO9 hb9
          go_wp2
          go_roundg (n - (k + 1))
          case measure => omega
          case rel => exact ⟨k + 1, v9, rfl, by omega, rfl, by go_num, HO9.out, HB9.out⟩
        · have hlm2 : ¬ (k : Int) - (o : Int) < (m : Int) := by omega
          have HO9 : Hid (OwnB wr w.heap.size v (cutL (l.take (k + 1)) o m)) := Lib.hid (by rw [← cutL_no (by rw [← HN.out]; exact hlt) (fun h => hlm h.2)]; exact HO.out)
          go_wp2
          go_roundg (n - (k + 1))
          case measure => omega
          case rel => exact ⟨k + 1, v, rfl, by omega, rfl, by go_num, HO9.out, HB.out⟩
      · have hge : ¬ (o : Int) ≤ (k : Int) := by omega
        have HO9 : Hid (OwnB wr w.heap.size v (cutL (l.take (k + 1)) o m)) := Lib.hid (by rw [← cutL_no (by rw [← HN.out]; exact hlt) (fun h => hok h.1)]; exact HO.out)
        go_wp2
        go_roundg (n - (k + 1))
        case measure => omega
        case rel => exact ⟨k + 1, v, rfl, by omega, rfl, by go_num, HO9.out, HB.out⟩
    · obtain rfl : n = k := by omega
      rw [List.take_of_length_le (by rw [← HN.out]; exact Nat.le_refl _)] at hO
      obtain ⟨A', c', rfl, _, _, _, _⟩ := hO.own.rd
      have HR := Lib.hid (own_rl' hO); have HB := Lib.hid hb
      clear hO hb
      go_wp2
      go_ret
      exact ⟨A', c', rfl, HR.out, HB.out⟩
set_option maxRecDepth 100000 in
set_option maxHeartbeats 4000000 in
theorem rpiece_all (A : Option Addr) (n c : Nat) (H : Nat → Hd) (BL : Nat → List (List Nat)) (off q : Int) (w : World) (hn : n ≤ 2000000000000) (ho : -9223372036854775808 ≤ off ∧ off ≤ 9223372036854775807) (hq : -9223372036854775808 ≤ q ∧ q ≤ 9223372036854775807) (hW : ∀ i, i < n → HdW (H i)) (hA : RSd w A n H BL) (hL : ∀ i, i < n → (BL i).length ≤ 140737488351232) (hLL : ∀ i, i < n → ∀ l ∈ BL i, l.length ≤ 140737488351232) (hX : ∀ i, i < n → ∀ l ∈ BL i, ∀ x ∈ l, x < 256) :
    Calls Try.prog 31 #[.slice A n c, .int .i64 off, .int .i64 q] w fun e w' => ∃ er l A' c', e = .returned (.tuple #[.slice A' l.length c', .int .i64 er]) ∧ PieceR n H BL off q er l ∧ RL w' A' l ∧ Below w.heap.size w w' := by
  have HJL := Lib.hid (rjoin_all A n c H BL w hn hW hA hL hLL hX)
  clear hW hA hL hLL hX
  go_enter Try.func31, Try.ntmps31
  go_wp2_with fail
  refine HJL.out.mono ?_
  rintro e w1 ⟨er, l, A1, c1, rfl, hJ, hR, hb⟩
  have HJ := Lib.hid hJ; have HR := Lib.hid hR; have HB := Lib.hid hb
  clear hJ hR hb HJL
  obtain ⟨ln, hln⟩ : ∃ ln, ln = l.length := ⟨_, rfl⟩
  have HLN := Lib.hid hln
  rw [← hln]
  clear hln
  by_cases her : er = 0
  · subst her
    by_cases ho0 : off < 0
    · go_wp2
      go_ret2
      exact ⟨2, [], none, 0, rfl, ⟨0, l, HJ.out, .inr (.inl ⟨rfl, .inl ho0, rfl, rfl⟩)⟩, RL.nil _ _, HB.out⟩
    · by_cases hq0 : q < 0
      · go_wp2
        go_ret2
        exact ⟨2, [], none, 0, rfl, ⟨0, l, HJ.out, .inr (.inl ⟨rfl, .inr hq0, rfl, rfl⟩)⟩, RL.nil _ _, HB.out⟩
      · obtain ⟨o, rfl⟩ : ∃ o : Nat, off = (o : Int) := ⟨off.toNat, by omega⟩
        obtain ⟨m, rfl⟩ : ∃ m : Nat, q = (m : Int) := ⟨q.toNat, by omega⟩
        have HC := Lib.hid (cut_any A1 c1 o m l w1 HJ.out.len (by omega) (by omega) HR.out)
        rw [← HLN.out] at HC
        go_wp2_with fail
        refine HC.out.mono ?_
        rintro e w2 ⟨A2, c2, rfl, hR2, hb2⟩
        have HR2 := Lib.hid hR2; have HB2 := Lib.hid (HB.out.trans (hb2.mono HB.out.size))
        clear hR2 hb2
        obtain ⟨k, hk⟩ : ∃ k, k = (cutL l o m).length := ⟨_, rfl⟩
        have HK := Lib.hid hk
        rw [← hk]
        clear hk
        go_wp2
        go_ret2
        exact ⟨0, cutL l o m, A2, c2, by rw [← HK.out]; rfl, ⟨0, l, HJ.out, .inr (.inr ⟨rfl, by omega, by omega, rfl, rfl⟩)⟩, HR2.out, HB2.out⟩
  · go_wp2
    go_ret2
    exact ⟨er, [], none, 0, rfl, ⟨er, l, HJ.out, .inl ⟨her, rfl, rfl⟩⟩, RL.nil _ _, HB.out⟩
theorem sub_rl {w : World} {B n c o : Nat} {A : Option Addr} {l : List Nat} (h : OwnB w B (.slice A n c) l) (g : Nat) (hA : A = some ⟨g, 0, none⟩) (m : Nat) : RL w (some ⟨g, o, none⟩) (cutL l o m) := by
  have h1 := own_rl' h
  subst hA
  intro i hi
  have h2 := hi
  rw [cutL_length] at h2
  obtain ⟨b, o1, e, hb, hc⟩ := h1 (o + i) (by omega)
  injection e with e; injection e with e1 e2
  subst e1 e2
  refine ⟨_, _, rfl, hb, ?_⟩
  rw [Nat.zero_add] at hc
  rw [hc]
  show some (Value.int .u8 _) = some (Value.int .u8 _)
  rw [cutL_get hi]
set_option maxRecDepth 100000 in
set_option maxHeartbeats 4000000 in
theorem piece_all (A : Option Addr) (n c : Nat) (H : Nat → Hd) (BL : Nat → List (List Nat)) (off q : Int) (w : World) (hn : n ≤ 1000000000000000) (ho : -9223372036854775808 ≤ off ∧ off ≤ 9223372036854775807) (hq : -9223372036854775808 ≤ q ∧ q ≤ 9223372036854775807) (hW : ∀ i, i < n → HdW (H i)) (hA : RSd w A n H BL) (hL : ∀ i, i < n → (BL i).length ≤ 140737488351232) (hLL : ∀ i, i < n → ∀ l ∈ BL i, l.length ≤ 140737488351232) (hX : ∀ i, i < n → ∀ l ∈ BL i, ∀ x ∈ l, x < 256) :
    Calls Try.prog 32 #[.slice A n c, .int .i64 off, .int .i64 q] w fun e w' => ∃ er l A' c', e = .returned (.tuple #[.slice A' l.length c', .int .i64 er]) ∧ PieceR n H BL off q er l ∧ RL w' A' l ∧ Below w.heap.size w w' := by
  have HJL := Lib.hid (join_all A n c H BL w hn hW hA hL hLL hX)
  clear hW hA hL hLL hX
  go_enter Try.func32, Try.ntmps32
  go_wp2_with fail
  refine HJL.out.mono ?_
  rintro e w1 ⟨er, l, A1, c1, rfl, hJ, hO, hb⟩
  have HJ := Lib.hid hJ; have HO := Lib.hid hO; have HB := Lib.hid hb
  have hln2 := hJ.len
  clear hJ hO hb HJL
  obtain ⟨ln, hln⟩ : ∃ ln, ln = l.length := ⟨_, rfl⟩
  have HLN := Lib.hid hln
  rw [← hln] at HO hln2 ⊢
  clear hln
  by_cases her : er = 0
  · subst her
    by_cases ho0 : off < 0
    · go_wp2
      go_ret2
      exact ⟨2, [], none, 0, rfl, ⟨0, l, HJ.out, .inr (.inl ⟨rfl, .inl ho0, rfl, rfl⟩)⟩, RL.nil _ _, HB.out⟩
    · by_cases hq0 : q < 0
      · go_wp2
        go_ret2
        exact ⟨2, [], none, 0, rfl, ⟨0, l, HJ.out, .inr (.inl ⟨rfl, .inr hq0, rfl, rfl⟩)⟩, RL.nil _ _, HB.out⟩
      · obtain ⟨o, rfl⟩ : ∃ o : Nat, off = (o : Int) := ⟨off.toNat, by omega⟩
        obtain ⟨m, rfl⟩ : ∃ m : Nat, q = (m : Int) := ⟨q.toNat, by omega⟩
        by_cases hol : ln ≤ o
        · have hol2 : (ln : Int) ≤ (o : Int) := by omega
          have HE := Lib.hid (cutL_over (l := l) (o := o) (by rw [← HLN.out]; exact hol) m)
          go_wp2
          go_ret2
          exact ⟨0, [], none, 0, rfl, ⟨0, l, HJ.out, .inr (.inr ⟨rfl, by omega, by omega, rfl, HE.out.symm⟩)⟩, RL.nil _ _, HB.out⟩
        · have hol2 : ¬ (ln : Int) ≤ (o : Int) := by omega
          obtain ⟨g, cg, e1, _, _, hlc, _⟩ := HO.out.own.form (show 0 < l.length by rw [← HLN.out]; omega)
          injection e1 with e1 e2 e3
          clear e2
          subst e1 e3
          rw [← HLN.out] at hlc
          have hsub : IntKind.i64.wrap ((ln : Int) - (o : Int)) = (ln : Int) - (o : Int) := by rw [IntKind.wrap_i64]; omega
          have HR := Lib.hid (sub_rl (o := o) HO.out g rfl m)
          have HCL := Lib.hid (cutL_length l o m)
          rw [← HLN.out] at HCL
          have h1 : (0 : Int) ≤ (o : Int) := by omega
          have hmn : 0 ≤ min (m : Int) ((ln : Int) - (o : Int)) ∧ min (m : Int) ((ln : Int) - (o : Int)) ≤ (ln : Int) - (o : Int) := by omega
          have hadd : IntKind.i64.wrap ((o : Int) + min (m : Int) ((ln : Int) - (o : Int))) = (o : Int) + min (m : Int) ((ln : Int) - (o : Int)) := by rw [IntKind.wrap_i64]; omega
          have h2 : (o : Int) ≤ (o : Int) + min (m : Int) ((ln : Int) - (o : Int)) := by omega
          have h3 : (o : Int) + min (m : Int) ((ln : Int) - (o : Int)) ≤ (c1 : Int) := by omega
          have HE : Hid (((o : Int) + min (m : Int) ((ln : Int) - (o : Int))).toNat - o = (cutL l o m).length) := Lib.hid (by rw [HCL.out]; omega)
          go_wp2
          go_ret2
          exact ⟨0, cutL l o m, some ⟨g, o, none⟩, c1 - o, by rw [← HE.out]; rfl, ⟨0, l, HJ.out, .inr (.inr ⟨rfl, by omega, by omega, rfl, rfl⟩)⟩, HR.out, HB.out⟩
  · go_wp2
    go_ret2
    exact ⟨er, [], none, 0, rfl, ⟨er, l, HJ.out, .inl ⟨her, rfl, rfl⟩⟩, RL.nil _ _, HB.out⟩
end Go.Proofs.Ytjaaldandgfkgaa
