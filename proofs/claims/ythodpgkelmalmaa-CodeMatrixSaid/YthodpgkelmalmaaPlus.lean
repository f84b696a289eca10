/- copied, with rows that the call owns; plus. Conditions: lengths that memory bears. -/
import Derived.Test.YthodpgkelmalmaaLin
namespace Go.Proofs.Ythodpgkelmalmaa
open Go.RowKit

/-- Rows of one length that the call has made, no two in one place. -/
structure CopO (w : World) (B : Nat) (v : Value) (n len : Nat) (S : Nat → Option Addr) (C : Nat → Nat) (f : Nat → Nat → Nat) : Prop where
  own : OwnM w B 24 5 v n S C (fun _ => len) (fun i j => .int .u8 (f i j : Nat))
  inj : ∀ i j, i < n → j < n → ∀ a a' : Addr, S i = some a → S j = some a' → a.block = a'.block → i = j
theorem CopO.set {w : World} {B : Nat} {v : Value} {n len : Nat} {S : Nat → Option Addr} {C : Nat → Nat} {f : Nat → Nat → Nat} (h : CopO w B v n len S C f) {i j s : Nat} (hi : i < n) (hj : j < len) (hs : S i = some ⟨s, 0, none⟩) (x : Nat) : CopO (w.setCell ⟨s, j, none⟩ (.int .u8 x)) B v n len S C (fun a b => if a = i ∧ b = j then x else f a b) := by
  refine ⟨⟨h.own.1.setOther (a := ⟨s, j, none⟩) (fun e => ?_) _, fun t ht => ?_⟩, h.inj⟩
  · rcases own_ne (h.own.2 i hi) h.own.1 (by decide) with h1 | h1
    · rw [hs] at h1; simp [Value.ownBlock] at h1
    · apply h1; rw [e, hs]; rfl
  · have ho := h.own.2 t ht
    by_cases e : t = i
    · subst e
      rw [hs] at ho ⊢
      exact (ho.set1 hj _).congr fun q _ => by by_cases e : q = j <;> simp [e]
    · refine (ho.setOther (a := ⟨s, j, none⟩) (fun e2 => ?_) _).congr fun q _ => by simp [e]
      cases hst : S t with
      | none => rw [hst] at e2; simp [Value.ownBlock] at e2
      | some a =>
        rw [hst] at e2
        have e3 : a.block = s := by simpa [Value.ownBlock] using e2
        exact e (h.inj t i ht hi a ⟨s, 0, none⟩ hst hs e3)
set_option maxRecDepth 20000 in
set_option maxHeartbeats 1000000 in
theorem copied_own (A : Option Addr) (n c len : Nat) (g : Nat → Nat → Nat) (w : World) (hn : n * 24 ≤ 140737488351232) (hL : len ≤ 140737488351232) (hA : RdM w A n (fun _ => len) fun i j => .int .u8 (g i j)) :
    Calls Try.prog 18 #[.slice A n c] w fun e w' => ∃ v S C, e = .returned v ∧ CopO w' w.heap.size v n len S C g ∧ Below w.heap.size w w' := by
  obtain ⟨SA, CA, hA1, hA2⟩ := hA
  have HA1 := Lib.hid hA1; have HA2 := Lib.hid hA2; clear hA1 hA2
  go_enter Try.func18, Try.ntmps18
  go_wp2
  go_loopg [3, 4] n (fun gk v i wr => ∃ (k : Nat) (S : Nat → Option Addr) (C : Nat → Nat), k ≤ n ∧ gk = n - k ∧ i = .int .i64 k ∧ CopO wr w.heap.size v k len S C g ∧ Below w.heap.size w wr)
  case atStart => exact ⟨0, fun _ => none, fun _ => 0, Nat.zero_le _, rfl, rfl, ⟨OwnM.nil _ _ _ _ _ _ _ _, fun i j hi => absurd hi (by omega)⟩, Below.refl _ _⟩
  case round =>
    obtain ⟨k, S, C, hk, rfl, rfl, hcop, hbel⟩ := hrel
    have hown := hcop.own
    have hinj := Lib.hid hcop.inj
    have hsz := hbel.size
    by_cases hlt : k < n
    · obtain ⟨b, o, rfl, hb, hc⟩ := HA1.out k hlt
      have hc' : wr.cell? ⟨b, o + k, none⟩ = some (.slice (SA k) len (CA k)) := (hbel.cell hb).trans hc
      have hrow : Rd wr (SA k) len (fun j => .int .u8 (g k j)) := (HA2.out k hlt).below hbel
      have HLT : Hid (∀ i, i < k → ∀ a : Addr, S i = some a → a.block < wr.heap.size) := fun i hi a ha => ((hown.2 i hi).lt a.block (by rw [ha]; rfl)).2
      clear hc hcop
      go_wp2_with (at_builtin; refine wpList_appendRd rfl (.const (.slice none 0 0)) (.tmp 15) 24 rfl wr.heap.size 5 1 (.int .u8 0) Try.underlying24 byteInfo rfl rfl (Nat.le_refl _) (SA k) len (CA k) (fun j => .int .u8 (g k j)) rfl hrow (fun _ _ => rfl) (by omega) (by omega) ?_)
      intro v1 w1 hown1 hbel1
      obtain ⟨A1, c1, rfl, _, _, _, hge⟩ := hown1.rd
      have hownB := (hown.kept hbel1).next A1 c1
      have hown1' : Own w1 w.heap.size 5 1 (.slice (upd S k A1 k) len (upd C k c1 k)) len (fun j => [.int .u8 (g k j : Nat)]) := by
        rw [upd_at, upd_at]; exact hown1.mono hsz
      have hu : Hid ((#[Value.slice A1 len c1] : Array Value).toList = [.slice (upd S k A1 k) len (upd C k c1 k)]) := by rw [upd_at, upd_at]; rfl
      have HINJ : Hid (∀ i j, i < k + 1 → j < k + 1 → ∀ a a' : Addr, upd S k A1 i = some a → upd S k A1 j = some a' → a.block = a'.block → i = j) := fun i j hi hj a a' h1 h2 h3 => by
        have low : ∀ t, t < k + 1 → t ≠ k → ∀ x : Addr, upd S k A1 t = some x → x.block < wr.heap.size := fun t ht hne x hx => by
          rw [upd_ne _ _ _ hne] at hx
          exact HLT.out t (by omega) x hx
        have high : ∀ x : Addr, A1 = some x → wr.heap.size ≤ x.block := fun x hx => (hown1.lt x.block (by rw [hx]; rfl)).1
        by_cases ei : i = k
        · by_cases ej : j = k
          · omega
          · subst ei
            rw [upd_at] at h1
            have := high a h1; have := low j hj ej a' h2; omega
        · by_cases ej : j = k
          · subst ej
            rw [upd_at] at h2
            have := high a' h2; have := low i hi ei a h1; omega
          · rw [upd_ne _ _ _ ei] at h1
            rw [upd_ne _ _ _ ej] at h2
            exact hinj.out i j (by omega) (by omega) a a' h1 h2 h3
      have hbel1' := hbel.trans (hbel1.mono hsz)
      have hsz1 := hbel1'.size
      clear hown hown1 hbel1 hbel hc' hrow hge HLT hinj
      go_wp2_with (at_builtin; refine wpList_push _ rfl (.tmp 11) (.tmp 17) 23 rfl w.heap.size 24 1 24 (.slice none 0 0) #[.slice A1 len c1] Try.underlying23 bytesInfo rfl (by decide) _ k _ rfl hownB.1 hsz1 _ rfl rfl hu.out rfl rfl (by omega) (by omega) ?_)
      intro v' w2 hown2 hbel2 hg2 _
      have hO := hownB.push (by decide) hown1' hown2 hg2
      have hbelF := hbel1'.trans hbel2
      clear hownB hown1' hown2 hg2 hbel2 hbel1'
      go_wp2
      go_roundg (n - (k + 1))
      case measure => omega
      case rel => exact ⟨k + 1, _, _, by omega, rfl, by go_num, ⟨hO, HINJ.out⟩, hbelF⟩
    · have hkn : k = n := by omega
      subst k
      have HR := Lib.hid hcop; have HB := Lib.hid hbel
      clear hown hinj hcop hbel
      go_wp2
      go_ret
      exact ⟨_, S, C, rfl, HR.out, HB.out⟩
/-- The sum while it is being made: i rows are, of row i the first j. -/
def plF (f g : Nat → Nat → Nat) (i j a b : Nat) : Nat := if a < i ∨ a = i ∧ b < j then (gE.a (el (f a b)) (el (g a b))).val else f a b
set_option maxRecDepth 40000 in
set_option maxHeartbeats 2000000 in
theorem plus_any (A1 A2 : Option Addr) (n c1 c2 len : Nat) (f g : Nat → Nat → Nat) (w : World) (hn : n ≤ 1000000) (hL : len ≤ 140737488351232) (hf : ∀ i, i < n → ∀ j, j < len → f i j < 256) (hg : ∀ i, i < n → ∀ j, j < len → g i j < 256) (h1 : RdM w A1 n (fun _ => len) fun i j => .int .u8 (f i j)) (h2 : RdM w A2 n (fun _ => len) fun i j => .int .u8 (g i j)) :
    Calls Try.prog 35 #[.slice A1 n c1, .slice A2 n c2] w fun e w' => ∃ A' c', e = .returned (.slice A' n c') ∧ RdM w' A' n (fun _ => len) (fun i j => .int .u8 ((gE.a (el (f i j)) (el (g i j))).val : Nat)) ∧ Below w.heap.size w w' := by
  obtain ⟨SB, CB, hB1, hB2⟩ := h2
  have HF := Lib.hid hf; have HG := Lib.hid hg; have HB1 := Lib.hid hB1; have HB2 := Lib.hid hB2
  clear hf hg hB1 hB2
  go_enter Try.func35, Try.ntmps35
  go_wp2_with fail
  refine (copied_own A1 n c1 len f w (by omega) hL h1).mono ?_
  rintro e w1 ⟨v, S, C, rfl, hO, hb1⟩
  have HO : Hid (CopO w1 w.heap.size v n len S C (plF f g 0 0)) := by
    have e : plF f g 0 0 = f := by funext a b; unfold plF; rw [if_neg (by omega)]
    rw [e]; exact hO
  obtain ⟨A', c', rfl, _, _, _, _⟩ := hO.own.1.rd
  have HB := Lib.hid hb1
  clear hO hb1 h1
  go_wp2
  go_loopg [6] n (fun gk v wr => ∃ i : Nat, i ≤ n ∧ gk = n - i ∧ v = .int .i64 i ∧ CopO wr w.heap.size (.slice A' n c') n len S C (plF f g i 0) ∧ Below w.heap.size w wr)
  case atStart => exact ⟨0, Nat.zero_le _, rfl, rfl, HO.out, HB.out⟩
  case round =>
    clear HO HB
    obtain ⟨i, hi, rfl, rfl, hO, hb⟩ := hrel
    have HO := Lib.hid hO; have HB := Lib.hid hb
    clear hO hb
    by_cases hlt : i < n
    · go_wp2
      go_loopg [7] len (fun gk v wr => ∃ j : Nat, j ≤ len ∧ gk = len - j ∧ v = .int .i64 j ∧ CopO wr w.heap.size (.slice A' n c') n len S C (plF f g i j) ∧ Below w.heap.size w wr)
      case atStart => exact ⟨0, Nat.zero_le _, rfl, rfl, HO.out, HB.out⟩
      case round =>
        clear HO HB
        obtain ⟨j, hj, rfl, rfl, hO, hb⟩ := hrel
        obtain ⟨T, cT, hT, _, hTl, _, _⟩ := hO.own.1.form (by omega)
        injection hT with hT _ hT3
        subst hT hT3
        have hy1 : wr.cell? ⟨T, i, none⟩ = some (.slice (S i) len (C i)) := hO.own.1.cell1 hlt
        obtain ⟨b2, o2, rfl, hb2, hx2⟩ := HB1.out i hlt
        have hy2 : wr.cell? ⟨b2, o2 + i, none⟩ = some (.slice (SB i) len (CB i)) := (hb.cell hb2).trans hx2
        by_cases hlj : j < len
        · obtain ⟨s, cs, hS, hsB, hsl, _, hfz⟩ := (hO.own.2 i hlt).form (show 0 < len by omega)
          injection hS with hSi _ hSc
          obtain ⟨b3, o3, hSB, hb3, hx3⟩ := HB2.out i hlt j hlj
          have hrow := hO.own.2 i hlt
          rw [hSi] at hrow hy1
          have hcl : wr.cell? ⟨s, j, none⟩ = some (.int .u8 (plF f g i j i j : Nat)) := hrow.cell1 hlj
          have e0 : plF f g i j i j = f i j := by unfold plF; rw [if_neg (by omega)]
          rw [e0] at hcl
          have hfj := hfz j
          have q2 : wr.cell? ⟨b2, o2 + i, none⟩ = some (.slice (some ⟨b3, o3, none⟩) len (CB i)) := by rw [← hSB]; exact hy2
          have q3 : wr.cell? ⟨b3, o3 + j, none⟩ = some (.int .u8 (g i j : Nat)) := (hb.cell hb3).trans hx3
          have hXO : bits .xor .u8 (f i j : Nat) (g i j : Nat) = (((gE.a (el (f i j)) (el (g i j))).val : Nat) : Int) := by
            have h := xor_el8 (el (f i j)) (el (g i j))
            rw [el_val (HF.out i hlt j hlj), el_val (HG.out i hlt j hlj)] at h
            exact h
          have HO2 := Lib.hid (hO.set hlt hlj hSi ((gE.a (el (f i j)) (el (g i j))).val))
          have HFN : Hid ((fun a b => if a = i ∧ b = j then (gE.a (el (f i j)) (el (g i j))).val else plF f g i j a b) = plF f g i (j + 1)) := by
            funext a b
            unfold plF
            by_cases e : a = i ∧ b = j
            · obtain ⟨rfl, rfl⟩ := e
              rw [if_pos ⟨rfl, rfl⟩, if_pos (.inr ⟨rfl, by omega⟩)]
            · rw [if_neg e]
              by_cases e2 : a < i ∨ a = i ∧ b < j
              · rw [if_pos e2, if_pos (by omega)]
              · rw [if_neg e2, if_neg (by omega)]
          rw [HFN.out] at HO2
          have HB2' := Lib.hid (hb.setCell (p := ⟨s, j, none⟩) hsB (.int .u8 ((gE.a (el (f i j)) (el (g i j))).val : Nat)))
          have KS : Hid (wr.cell? ⟨T, i, none⟩ = some (.slice (some ⟨s, 0, none⟩) len (C i)) ∧ wr.cell? ⟨s, j, none⟩ = some (.int .u8 (f i j : Nat)) ∧ wr.cell? ⟨b2, o2 + i, none⟩ = some (.slice (some ⟨b3, o3, none⟩) len (CB i)) ∧ wr.cell? ⟨b3, o3 + j, none⟩ = some (.int .u8 (g i j : Nat))) := ⟨hy1, hcl, q2, q3⟩
          clear hfz hrow e0 hO hb hx2 hx3 hSB hSc hy2 HFN hSi
          generalize (gE.a (el (f i j)) (el (g i j))).val = z at *
          generalize f i j = x at *
          generalize g i j = y at *
          go_wp2_with fail
          clear hy1 q2 q3
          refine wp_region_mix [(true, true, false), (true, true, false), (true, true, false), (true, true, true), (true, true, false), (true, true, false), (true, true, false), (true, true, false), (true, true, true), (true, true, false), (true, true, false), (true, true, true), (true, true, false), (true, true, false), (true, true, false), (true, true, true), (true, true, false), (true, true, false), (true, true, true), (true, true, false), (true, true, false), (false, false, true)] mixed (by kernel_rfl) (fun w4 => w4.cell? ⟨T, i, none⟩ = some (.slice (some ⟨s, 0, none⟩) len (C i)) ∧ w4.cell? ⟨s, j, none⟩ = some (.int .u8 (x : Nat)) ∧ w4.cell? ⟨b2, o2 + i, none⟩ = some (.slice (some ⟨b3, o3, none⟩) len (CB i)) ∧ w4.cell? ⟨b3, o3 + j, none⟩ = some (.int .u8 (y : Nat))) (KS.out) ?_
          intro hSw0
          simp only [hdM, tlM, List.cons_append, List.nil_append]
          repeat (first
            | (refine mix_look hSw0.out ?_ (by rfl) (fun w4 hSw => ?_) ?_; rotate_left; (focus (obtain ⟨s1, s2, s3, s4⟩ := hSw; go_simp; try with_reducible rfl)); simp only [Act.put, List.setIfInBounds_toArray, List.set_cons_zero, List.set_cons_succ])
            | (refine mix_pure ?_ (by rfl) (fun w4 => ?_) ?_; rotate_left; (focus (go_simp; try with_reducible rfl)); simp only [Act.put, List.setIfInBounds_toArray, List.set_cons_zero, List.set_cons_succ]))
          refine mix_step (fun K hK => ?_)
          go_simp
          refine hK.out _ _ (fun h => absurd h (by decide)) ?_
          clear hK K
          try simp only [Act.put, List.setIfInBounds_toArray, List.set_cons_zero, List.set_cons_succ]
          refine mix_nil ?_
          go_wp2
          go_roundg (len - (j + 1))
          case measure => omega
          case rel => exact ⟨j + 1, by omega, rfl, by go_num, ⟨⟨HO2.out.own.1.kept (Below.refl _ _).drew, fun t ht => (HO2.out.own.2 t ht).kept (Below.refl _ _).drew⟩, HO2.out.inj⟩, HB2'.out.drew⟩
        · have hjl : j = len := by omega
          subst j
          have HN : Hid (CopO wr w.heap.size (.slice (some ⟨T, 0, none⟩) n c') n len S C (plF f g (i + 1) 0)) := ⟨⟨hO.own.1, fun t ht => (hO.own.2 t ht).congr fun q hq => by
            show [Value.int .u8 ((plF f g i len t q : Nat) : Int)] = [Value.int .u8 ((plF f g (i + 1) 0 t q : Nat) : Int)]
            have hq' : q < len := hq
            unfold plF
            by_cases e : t < i ∨ t = i ∧ q < len
            · rw [if_pos e, if_pos (by omega)]
            · rw [if_neg e, if_neg (by omega)]⟩, hO.inj⟩
          have HB3 := Lib.hid hb
          clear hO hb hx2
          go_wp2
          go_roundg (n - (i + 1))
          case measure => omega
          case rel => exact ⟨i + 1, by omega, rfl, by go_num, HN.out, HB3.out⟩
    · have hin : i = n := by omega
      subst i
      have hRR := HO.out.own.rdm
      obtain ⟨A'', c'', hv, _, hR⟩ := hRR
      injection hv with hv1 _ hv2
      have HR := Lib.hid (hR.congr (g := fun i j => .int .u8 ((gE.a (el (f i j)) (el (g i j))).val : Nat)) fun i hi j hj => by
        show Value.int .u8 ((plF f g n 0 i j : Nat) : Int) = Value.int .u8 ((gE.a (el (f i j)) (el (g i j))).val : Int)
        unfold plF
        rw [if_pos (.inl hi)])
      rw [← hv1] at HR
      clear hv1 hv2 hR HO
      go_wp2
      go_ret
      exact ⟨A', ⟨c', rfl⟩, HR.out, HB.out⟩
/-- A row of another's is put in the list. -/
theorem CopO.put {w : World} {B T cT q cq : Nat} {n len : Nat} {S : Nat → Option Addr} {C : Nat → Nat} {f : Nat → Nat → Nat} {d : Nat → Nat} {Sq : Option Addr} (h : CopO w B (.slice (some ⟨T, 0, none⟩) n cT) n len S C f) (hq : q < n)
    (hr : Rd (w.setCell ⟨T, q, none⟩ (.slice Sq len cq)) Sq len (fun c => .int .u8 (d c : Nat))) :
    RdM (w.setCell ⟨T, q, none⟩ (.slice Sq len cq)) (some ⟨T, 0, none⟩) n (fun _ => len) (fun i c => .int .u8 (if i = q then d c else f i c : Nat)) := by
  have ht := h.own.1.set1 hq (.slice Sq len cq)
  have hT := (h.own.1.lt T rfl).2
  refine ⟨fun i => if i = q then Sq else S i, fun i => if i = q then cq else C i, fun i hi => ⟨T, 0, rfl, by simpa using hT, ?_⟩, fun i hi => ?_⟩
  · rw [Nat.zero_add, ht.cell1 hi]
    by_cases e : i = q <;> simp [e]
  · by_cases e : i = q
    · subst e
      simp only [if_true]
      exact hr
    · have ho := (h.own.2 i hi).setOther (a := ⟨T, q, none⟩) (fun e2 => by
        rcases own_ne (h.own.2 i hi) h.own.1 (by decide) with h1 | h1
        · rw [h1] at e2; cases e2
        · exact h1 e2) (.slice Sq len cq)
      obtain ⟨A, c, e3, _, _, hrd, _⟩ := ho.rd
      injection e3 with e3 _ _
      simp only [e, if_false]
      rw [e3]
      exact hrd
end Go.Proofs.Ythodpgkelmalmaa
