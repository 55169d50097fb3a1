/- Parts of a proof, put together; the conditions stand in each theorem. -/
import Derived.Test.YtiaigcdckmpepaaXJ4
section
/-! Four figures of sixteen. -/
set_option linter.unusedVariables false
set_option linter.unusedSimpArgs false
set_option linter.unnecessarySimpa false
namespace Go.Proofs.Ytiaigcdckmpepaa
open Go.Bb

/-- So many figures of sixteen. -/
def hexN : Nat → Nat → Bs → Option Nat
  | 0, acc, _ => some acc
  | _ + 1, _, [] => none
  | n + 1, acc, b :: s => match hx b with
    | none => none
    | some v => hexN n (acc * 16 + v) s
theorem hexN_step {n acc : Nat} {b : UInt8} {s : Bs} : hexN (n + 1) acc (b :: s) = match hx b with | none => none | some v => hexN n (acc * 16 + v) s := rfl
def sHex : Option Nat → Lp Int (Int × Int)
  | some v => .go (v : Int)
  | none => .ret (0, 0)
theorem ev_sHex : ∀ (n : Nat) (s pre : Bs) (acc : Nat), pre.length + n = 5 → (acc + 1) * 16 ^ n ≤ 65536 → pre.length + s.length ≤ 1048576 → Ev (fun k => m_spec_l1Stroke_l1 k (pre ++ s) (acc : Int) (pre.length : Int)) (sHex (hexN n acc s))
  | 0, s, pre, acc, hn, ha, hl => by
    rw [ev_shift]; simp only [m_spec_l1Stroke_l1]
    exact ev_ifF (by omega) (ev_some _)
  | n + 1, [], pre, acc, hn, ha, hl => by
    rw [ev_shift]; simp only [m_spec_l1Stroke_l1]
    exact ev_ifT (by omega) (Ev.go (s := true) (ev_ifT (by simp) (ev_some _)) (ev_ifT rfl (ev_eq (ev_some _) rfl)))
  | n + 1, b :: s, pre, acc, hn, ha, hl => by
    simp only [List.length_cons] at hl
    rw [ev_shift]; simp only [m_spec_l1Stroke_l1]
    have hlen : ((pre ++ b :: s).length : Int) = pre.length + 1 + s.length := by simp; omega
    have hacc : acc + 1 ≤ 65536 := Nat.le_trans (Nat.le_mul_of_pos_right _ (Nat.pow_pos (by omega))) ha
    rw [byt_mid, hlen, wrap_id (n := (acc : Int) * 16) (by omega), wrap_id (n := (pre.length : Int) + 1) (by omega)]
    refine ev_ifT (by omega) ?_
    rw [hexN_step]
    cases h : hx b with
    | none =>
      have e : hxI b = -1 := by unfold hxI; rw [h]
      exact Ev.go (s := true) (ev_ifF (by omega) (ev_ifT (by omega) (Ev.bind (ev_sixteen b) (ev_eq (ev_some _) (by simp [e]))))) (ev_ifT rfl (ev_eq (ev_some _) rfl))
    | some v =>
      have hv := hx_lt h
      have e : hxI b = (v : Int) := by unfold hxI; rw [h]
      refine Ev.go (s := false) (ev_ifF (by omega) (ev_ifT (by omega) (Ev.bind (ev_sixteen b) (ev_eq (ev_some _) (by simp [e]))))) (ev_ifF (by simp) (ev_ifT (by omega) (Ev.bind (ev_sixteen b) ?_)))
      have hp : (acc * 16 + v + 1) * 16 ^ n ≤ 65536 := by
        have h1 : (acc * 16 + v + 1) * 16 ^ n ≤ ((acc + 1) * 16) * 16 ^ n := Nat.mul_le_mul_right _ (by omega)
        have h2 : ((acc + 1) * 16) * 16 ^ n = (acc + 1) * 16 ^ (n + 1) := by rw [Nat.pow_succ, Nat.mul_assoc, Nat.mul_comm 16]
        omega
      have := ev_sHex n s (pre ++ [b]) (acc * 16 + v) (by simp; omega) hp (by simp; omega)
      rw [e, wrap_id (n := (acc : Int) * 16 + (v : Int)) (by omega)]
      simpa using this
def iHex : Option Nat → Lp Int (Int × Bool)
  | some v => .go (v : Int)
  | none => .ret (0, false)
theorem hexN_len : ∀ (s : Bs) (acc : Nat), True := fun _ _ => trivial
theorem ev_iHex (a : Bs) (p : Int) (l : Bs) (hl : toI (sub a p (IntKind.wrap .i64 (p + 4))) = toI l) (h4 : l.length ≤ 4) : ∀ (rest pre : Bs) (acc : Nat), l = pre ++ rest → (acc + 1) * 16 ^ rest.length ≤ 65536 → Ev (fun k => m_impl_hexAt_l1 k a p (acc : Int) (pre.length : Int)) (iHex (hexN rest.length acc rest))
  | [], pre, acc, he, ha => by
    subst he
    rw [ev_shift]; simp only [m_impl_hexAt_l1]
    rw [hl]
    exact ev_ifF (by simp [toI]) (ev_some _)
  | b :: rest, pre, acc, he, ha => by
    have hb := b.toNat_lt
    have hacc : acc + 1 ≤ 65536 := Nat.le_trans (Nat.le_mul_of_pos_right _ (Nat.pow_pos (by omega))) ha
    have hll : (toI l).length = l.length := by simp [toI]
    have hlen : l.length = pre.length + 1 + rest.length := by rw [he]; simp; omega
    have hix : ix (toI l) (pre.length : Int) = (b.toNat : Int) := by
      rw [ix_nat (by omega)]
      simp [toI, he]
    rw [ev_shift]; simp only [m_impl_hexAt_l1]
    rw [hl, hix, hll, wrap_id (n := (acc : Int) * 16) (by omega), wrap_id (n := (pre.length : Int) + 1) (by omega)]
    have hp : ∀ v, v < 16 → (acc * 16 + v + 1) * 16 ^ rest.length ≤ 65536 := fun v hv => by
      have h1 : (acc * 16 + v + 1) * 16 ^ rest.length ≤ ((acc + 1) * 16) * 16 ^ rest.length := Nat.mul_le_mul_right _ (by omega)
      have h2 : ((acc + 1) * 16) * 16 ^ rest.length = (acc + 1) * 16 ^ (rest.length + 1) := by rw [Nat.pow_succ, Nat.mul_assoc, Nat.mul_comm 16]
      simp only [List.length_cons] at ha
      omega
    have ih := fun v hv => ev_iHex a p l hl h4 rest (pre ++ [b]) (acc * 16 + v) (by rw [he]; simp) (hp v hv)
    rw [List.length_cons, hexN_step, ev_iFigure]
    simp only [Option.bind_some]
    refine ev_ifT (by omega) (ev_ifT (by omega) ?_)
    unfold figB hx
    by_cases h1 : 48 ≤ b.toNat ∧ b.toNat ≤ 57
    · have hw := u8_sub (a := b.toNat) (c := 48) h1.1 (by omega)
      refine ev_ifT (by simp; omega) ?_
      rw [if_pos h1, show ((b.toNat : Int) - 48) = (b.toNat : Int) - ((48 : Nat) : Int) by omega, hw, wrap_id (n := ((b.toNat - 48 : Nat) : Int)) (by omega), wrap_id (by omega)]
      have := ih (b.toNat - 48) (by omega)
      simpa using this
    · refine ev_ifF (by simp; omega) ?_
      rw [if_neg h1]
      by_cases h2 : 97 ≤ b.toNat ∧ b.toNat ≤ 102
      · have hw := u8_sub (a := b.toNat) (c := 97) h2.1 (by omega)
        refine Ev.go (s := true) (ev_ifT (by omega) (ev_eq (ev_some _) (by simp; omega))) (ev_ifT rfl ?_)
        rw [if_pos h2, show ((b.toNat : Int) - 97) = (b.toNat : Int) - ((97 : Nat) : Int) by omega, hw, wrap_id (n := ((b.toNat - 97 : Nat) : Int)) (by omega), wrap_id (n := (acc : Int) * 16 + ((b.toNat - 97 : Nat) : Int)) (by omega), wrap_id (by omega)]
        have := ih (b.toNat - 87) (by omega)
        have e : ((acc * 16 + (b.toNat - 87) : Nat) : Int) = (acc : Int) * 16 + ((b.toNat - 97 : Nat) : Int) + 10 := by omega
        rw [e] at this
        simpa using this
      · rw [if_neg h2]
        have g2 : Ev (fun _ : Nat => if (97 : Int) ≤ (b.toNat : Int) then some (Lp.go (β := Lp Int (Int × Bool)) (decide ((b.toNat : Int) ≤ 102))) else some (Lp.go false)) (.go false) := by
          by_cases c : 97 ≤ b.toNat
          · exact ev_ifT (by omega) (ev_eq (ev_some _) (by simp; omega))
          · exact ev_ifF (by omega) (ev_some _)
        refine Ev.go g2 (ev_ifF (by simp) ?_)
        by_cases h3 : 65 ≤ b.toNat ∧ b.toNat ≤ 70
        · have hw := u8_sub (a := b.toNat) (c := 65) h3.1 (by omega)
          refine Ev.go (s := true) (ev_ifT (by omega) (ev_eq (ev_some _) (by simp; omega))) (ev_ifT rfl ?_)
          rw [if_pos h3, show ((b.toNat : Int) - 65) = (b.toNat : Int) - ((65 : Nat) : Int) by omega, hw, wrap_id (n := ((b.toNat - 65 : Nat) : Int)) (by omega), wrap_id (n := (acc : Int) * 16 + ((b.toNat - 65 : Nat) : Int)) (by omega), wrap_id (by omega)]
          have := ih (b.toNat - 55) (by omega)
          have e : ((acc * 16 + (b.toNat - 55) : Nat) : Int) = (acc : Int) * 16 + ((b.toNat - 65 : Nat) : Int) + 10 := by omega
          rw [e] at this
          simpa using this
        · rw [if_neg h3]
          have g3 : Ev (fun _ : Nat => if (65 : Int) ≤ (b.toNat : Int) then some (Lp.go (β := Lp Int (Int × Bool)) (decide ((b.toNat : Int) ≤ 70))) else some (Lp.go false)) (.go false) := by
            by_cases c : 65 ≤ b.toNat
            · exact ev_ifT (by omega) (ev_eq (ev_some _) (by simp; omega))
            · exact ev_ifF (by omega) (ev_some _)
          exact Ev.go g3 (ev_ifF (by simp) (ev_eq (ev_some _) rfl))
end Go.Proofs.Ytiaigcdckmpepaa
end
section
/-! Strokes. -/
set_option linter.unusedVariables false
set_option linter.unusedSimpArgs false
set_option linter.unnecessarySimpa false
namespace Go.Proofs.Ytiaigcdckmpepaa
open Go.Bb

/-- What one letter behind a stroke says. -/
def esc1 (c : UInt8) : Option UInt8 := if c = 34 ∨ c = 92 ∨ c = 47 then some c else if c = 110 then some 10 else if c = 116 then some 9 else if c = 114 then some 13 else if c = 98 then some 8 else if c = 102 then some 12 else none
/-- What stands behind a stroke says, and how long it is. -/
def stroke : Bs → Option (UInt8 × Nat)
  | [] => none
  | c :: r => if c = 117 then (hexN 4 0 r).bind fun v => if v ≤ 255 then some (UInt8.ofNat v, 5) else none else (esc1 c).map fun x => (x, 1)
theorem stroke_cons (c : UInt8) (r : Bs) : stroke (c :: r) = if c = 117 then (hexN 4 0 r).bind fun v => if v ≤ 255 then some (UInt8.ofNat v, 5) else none else (esc1 c).map fun x => (x, 1) := rfl
def strO : Option (UInt8 × Nat) → Int × Int
  | some p => ((p.1.toNat : Int), (p.2 : Int))
  | none => (0, 0)
theorem u8_nat {v : Nat} (h : v ≤ 255) : IntKind.wrap .u8 (v : Int) = ((UInt8.ofNat v).toNat : Int) := by
  have := u8_sub (a := v) (c := 0) (by omega) h
  have e : (UInt8.ofNat v).toNat = v := by simp; omega
  rw [e]
  simpa using this
theorem ev_three (c : UInt8) {β : Type} : Ev (fun _ : Nat => if (c.toNat : Int) = 34 then some (Lp.go (β := β) (decide ((c.toNat : Int) = 34))) else if (c.toNat : Int) = 92 then some (Lp.go (decide ((c.toNat : Int) = 92))) else some (Lp.go (decide ((c.toNat : Int) = 47)))) (.go (decide (c = 34 ∨ c = 92 ∨ c = 47))) := by
  have e34 : ((c.toNat : Int) = 34) ↔ c = 34 := nat_eq c 34
  have e92 : ((c.toNat : Int) = 92) ↔ c = 92 := nat_eq c 92
  have e47 : ((c.toNat : Int) = 47) ↔ c = 47 := nat_eq c 47
  refine ev_ite (fun h => ev_eq (ev_some _) ?_) (fun h => ev_ite (fun h2 => ev_eq (ev_some _) ?_) (fun h2 => ev_eq (ev_some _) ?_))
  · simp [h, e34.1 h]
  · simp [h2, e92.1 h2]
  · have n34 : ¬ c = 34 := fun e => h (e34.2 e)
    have n92 : ¬ c = 92 := fun e => h2 (e92.2 e)
    by_cases h3 : c = 47
    · simp [h3]
    · have : ¬ ((c.toNat : Int) = 47) := fun e => h3 (e47.1 e)
      simp [n34, n92, h3, this]
theorem ev_sStroke (s : Bs) (hl : s.length ≤ 1048576) : Ev (fun k => m_spec_l1Stroke k s) (strO (stroke s)) := by
  simp only [m_spec_l1Stroke]
  cases s with
  | nil => exact ev_ifT rfl (ev_some _)
  | cons c r =>
    simp only [List.length_cons] at hl
    have ne : ∀ d : UInt8, c ≠ d → ¬ ((c.toNat : Int) = (d.toNat : Int)) := fun d h e => h ((nat_eq c d).1 e)
    rw [byt_head]
    refine ev_ifF (by simp only [List.length_cons]; omega) (ev_ifT (by simp only [List.length_cons]; omega) (Ev.go (ev_three c) ?_))
    rw [stroke_cons]
    unfold esc1
    by_cases h3 : c = 34 ∨ c = 92 ∨ c = 47
    · have h117 : c ≠ 117 := by rintro rfl; revert h3; decide
      rw [if_neg h117, if_pos h3]
      exact ev_ifT (by simpa using h3) (ev_ifT (by simp only [List.length_cons]; omega) (ev_eq (ev_some _) rfl))
    · rw [if_neg h3]
      refine ev_ifF (by simpa using h3) ?_
      by_cases c1 : c = 110
      · subst c1; exact ev_ifT rfl (ev_eq (ev_some _) rfl)
      refine ev_ifF (ne 110 c1) ?_
      by_cases c2 : c = 116
      · subst c2; exact ev_ifT rfl (ev_eq (ev_some _) rfl)
      refine ev_ifF (ne 116 c2) ?_
      by_cases c3 : c = 114
      · subst c3; exact ev_ifT rfl (ev_eq (ev_some _) rfl)
      refine ev_ifF (ne 114 c3) ?_
      by_cases c4 : c = 98
      · subst c4; exact ev_ifT rfl (ev_eq (ev_some _) rfl)
      refine ev_ifF (ne 98 c4) ?_
      by_cases c5 : c = 102
      · subst c5; exact ev_ifT rfl (ev_eq (ev_some _) rfl)
      refine ev_ifF (ne 102 c5) ?_
      by_cases c6 : c = 117
      · subst c6
        refine ev_ifT rfl ?_
        rw [if_pos rfl]
        have := ev_sHex 4 r [117] 0 rfl (by decide) (by simp; omega)
        cases h : hexN 4 0 r with
        | none =>
          rw [h] at this
          exact Ev.ret (by simpa [sHex, strO] using this)
        | some v =>
          rw [h] at this
          refine Ev.go (s := (v : Int)) (by simpa [sHex] using this) ?_
          by_cases hv : v ≤ 255
          · refine ev_ifF (by omega) (ev_eq (ev_some _) ?_)
            rw [u8_nat hv]
            simp [hv, strO]
          · refine ev_ifT (by omega) (ev_eq (ev_some _) ?_)
            simp [hv, strO]
      · refine ev_ifF (ne 117 c6) (ev_eq (ev_some _) ?_)
        rw [if_neg c6, if_neg c1, if_neg c2, if_neg c3, if_neg c4, if_neg c5]; rfl
end Go.Proofs.Ytiaigcdckmpepaa
end
section
/-! Texts. -/
set_option linter.unusedVariables false
set_option linter.unusedSimpArgs false
set_option linter.unnecessarySimpa false
namespace Go.Proofs.Ytiaigcdckmpepaa
open Go.Bb

theorem ofI_toI (s : Bs) : ofI (toI s) = s := by
  unfold ofI toI; rw [List.map_map]
  conv => rhs; rw [← List.map_id s]
  apply List.map_congr_left
  intro x _
  simp
theorem hexN_long : ∀ (n acc : Nat) (s : Bs) (v : Nat), hexN n acc s = some v → n ≤ s.length
  | 0, acc, s, v, h => Nat.zero_le _
  | n + 1, acc, [], v, h => by cases h
  | n + 1, acc, b :: s, v, h => by
    rw [hexN_step] at h
    cases hb : hx b with
    | none => rw [hb] at h; cases h
    | some w =>
      rw [hb] at h
      have := hexN_long n _ s v h
      simp; omega
theorem stroke_len {r : Bs} {p : UInt8 × Nat} (h : stroke r = some p) : 1 ≤ p.2 ∧ p.2 ≤ r.length := by
  cases r with
  | nil => cases h
  | cons c r =>
    rw [stroke_cons] at h
    by_cases c1 : c = 117
    · rw [if_pos c1] at h
      cases hh : hexN 4 0 r with
      | none => rw [hh] at h; cases h
      | some v =>
        rw [hh] at h
        have hl := hexN_long 4 0 r v hh
        simp only [Option.bind_some] at h
        split at h
        · cases h; simp; omega
        · cases h
    · rw [if_neg c1] at h
      obtain ⟨x, _, rfl⟩ := Option.map_eq_some_iff.1 h
      simp
/-- A text behind its opening quote, and what follows its closing one. -/
def rdT : Nat → Bs → Option (Bs × Bs)
  | 0, _ => none
  | _ + 1, [] => none
  | n + 1, b :: r => if b = 34 then some ([], r) else if b = 92 then (match stroke r with | none => none | some p => (rdT n (r.drop p.2)).map fun q => (p.1 :: q.1, q.2)) else if b.toNat < 32 then none else (rdT n r).map fun q => (b :: q.1, q.2)
theorem rdT_cons (n : Nat) (b : UInt8) (r : Bs) : rdT (n + 1) (b :: r) = if b = 34 then some ([], r) else if b = 92 then (match stroke r with | none => none | some p => (rdT n (r.drop p.2)).map fun q => (p.1 :: q.1, q.2)) else if b.toNat < 32 then none else (rdT n r).map fun q => (b :: q.1, q.2) := rfl
def SEnd (acc : List Int) (o : Lp Unit (Bs × Bs × Bool)) : Option (Bs × Bs) → Prop
  | some p => o = .ret (ofI (acc ++ toI p.1), p.2, true)
  | none => o = .go () ∨ o = .ret ([], [], false)
theorem SEnd.map {acc : List Int} {o : Lp Unit (Bs × Bs × Bool)} {x : UInt8} {q : Option (Bs × Bs)} (h : SEnd (acc ++ [(x.toNat : Int)]) o q) : SEnd acc o (q.map fun q => (x :: q.1, q.2)) := by
  cases q with
  | none => exact h
  | some p =>
    have h' : o = .ret (ofI ((acc ++ [(x.toNat : Int)]) ++ toI p.1), p.2, true) := h
    show o = .ret (ofI (acc ++ toI (x :: p.1)), p.2, true)
    rw [h']; simp [toI]
theorem ev_sTextL : ∀ (n : Nat) (rest pre : Bs) (acc : List Int), rest.length < n → pre.length + rest.length ≤ 1048576 → acc.length ≤ pre.length → ∃ o, Ev (fun k => m_spec_l1Text_l1 k (pre ++ rest) acc (pre.length : Int)) o ∧ SEnd acc o (rdT n rest)
  | 0, rest, pre, acc, hn, hl, ha => by omega
  | n + 1, [], pre, acc, hn, hl, ha => by
    refine ⟨.go (), ?_, .inl rfl⟩
    rw [ev_shift]; simp only [m_spec_l1Text_l1]
    exact ev_ifF (by simp) (ev_some _)
  | n + 1, b :: r, pre, acc, hn, hl, ha => by
    simp only [List.length_cons] at hn hl
    have hlen : ((pre ++ b :: r).length : Int) = pre.length + 1 + r.length := by simp; omega
    have hsub : sub (pre ++ b :: r) ((pre.length : Int) + 1) ((pre ++ b :: r).length : Int) = r := by
      unfold sub
      have e : ((pre.length : Int) + 1).toNat = pre.length + 1 := by omega
      rw [e, Int.toNat_natCast, List.take_length]
      simp [List.drop_append]
    rw [rdT_cons]
    by_cases c1 : b = 34
    · subst c1
      refine ⟨.ret (ofI acc, r, true), ?_, by rw [if_pos rfl]; show _ = _; simp [toI]⟩
      rw [ev_shift]; simp only [m_spec_l1Text_l1]
      rw [wrap_id (n := (pre.length : Int) + 1) (by omega), byt_mid, hsub, hlen]
      exact ev_ifT (by omega) (ev_ifT (by omega) (ev_ifT rfl (ev_ifT (by omega) (ev_some _))))
    · rw [if_neg c1]
      have n1 : ¬ ((b.toNat : Int) = 34) := fun e => c1 ((nat_eq b 34).1 e)
      by_cases c2 : b = 92
      · subst c2
        rw [if_pos rfl]
        have hst := ev_sStroke r (by omega)
        cases h : stroke r with
        | none =>
          rw [h] at hst
          refine ⟨.ret ([], [], false), ?_, .inr rfl⟩
          rw [ev_shift]; simp only [m_spec_l1Text_l1]
          rw [wrap_id (n := (pre.length : Int) + 1) (by omega), byt_mid, hsub, hlen]
          exact ev_ifT (by omega) (ev_ifT (by omega) (ev_ifF n1 (ev_ifT (by omega) (ev_ifT rfl (ev_ifT (by omega) (Ev.bind hst (ev_ifT rfl (ev_some _))))))))
        | some p =>
          obtain ⟨p1, p2⟩ := stroke_len h
          rw [h] at hst
          obtain ⟨o, h1, h2⟩ := ev_sTextL n (r.drop p.2) (pre ++ 92 :: r.take p.2) (acc ++ [(p.1.toNat : Int)]) (by simp; omega) (by simp; omega) (by simp; omega)
          refine ⟨o, ?_, SEnd.map h2⟩
          rw [ev_shift]; simp only [m_spec_l1Text_l1]
          rw [wrap_id (n := (pre.length : Int) + 1) (by omega), byt_mid, hsub, hlen]
          refine ev_ifT (by omega) (ev_ifT (by omega) (ev_ifF n1 (ev_ifT (by omega) (ev_ifT rfl (ev_ifT (by omega) (Ev.bind hst (ev_ifF (by simp [strO]; omega) (ev_ifT (by simp; omega) ?_))))))))
          have e1 : IntKind.wrap .i64 (IntKind.wrap .i64 ((pre.length : Int) + (strO (some p)).2) + 1) = (((pre ++ 92 :: r.take p.2).length : Nat) : Int) := by
            show IntKind.wrap .i64 (IntKind.wrap .i64 ((pre.length : Int) + (p.2 : Int)) + 1) = _
            rw [wrap_id (n := (pre.length : Int) + (p.2 : Int)) (by omega), wrap_id (by omega)]
            simp; omega
          rw [e1]
          have e2 : (pre ++ 92 :: r.take p.2) ++ r.drop p.2 = pre ++ 92 :: r := by simp
          rw [e2] at h1
          exact h1
      · rw [if_neg c2]
        have n2 : ¬ ((b.toNat : Int) = 92) := fun e => c2 ((nat_eq b 92).1 e)
        by_cases c3 : b.toNat < 32
        · rw [if_pos c3]
          refine ⟨.ret ([], [], false), ?_, .inr rfl⟩
          rw [ev_shift]; simp only [m_spec_l1Text_l1]
          rw [wrap_id (n := (pre.length : Int) + 1) (by omega), byt_mid, hsub, hlen]
          exact ev_ifT (by omega) (ev_ifT (by omega) (ev_ifF n1 (ev_ifT (by omega) (ev_ifF n2 (ev_ifT (by omega) (ev_ifT (by omega) (ev_some _)))))))
        · rw [if_neg c3]
          obtain ⟨o, h1, h2⟩ := ev_sTextL n r (pre ++ [b]) (acc ++ [(b.toNat : Int)]) (by omega) (by simp; omega) (by simp; omega)
          refine ⟨o, ?_, SEnd.map h2⟩
          rw [ev_shift]; simp only [m_spec_l1Text_l1]
          rw [wrap_id (n := (pre.length : Int) + 1) (by omega), byt_mid, hsub, hlen]
          exact ev_ifT (by omega) (ev_ifT (by omega) (ev_ifF n1 (ev_ifT (by omega) (ev_ifF n2 (ev_ifT (by omega) (ev_ifF (by omega) (ev_ifT (by omega) (ev_ifT (by simp; omega) (by simpa using h1)))))))))
def textO : Option (Bs × Bs) → Bs × Bs × Bool
  | some p => (p.1, p.2, true)
  | none => ([], [], false)
theorem ev_sText (s : Bs) (hs : s.length ≤ 1048576) : Ev (fun k => m_spec_l1Text k s) (textO (rdT (s.length + 1) s)) := by
  obtain ⟨o, h1, h2⟩ := ev_sTextL (s.length + 1) s [] [] (by omega) (by simp; omega) (by simp)
  simp only [m_spec_l1Text]
  have h1 : Ev (fun k => m_spec_l1Text_l1 k s [] 0) o := by simpa using h1
  cases h : rdT (s.length + 1) s with
  | some p =>
    rw [h] at h2
    have h2 : o = .ret (ofI ([] ++ toI p.1), p.2, true) := h2
    rw [List.nil_append, ofI_toI] at h2
    subst h2
    exact Ev.ret h1
  | none =>
    rw [h] at h2
    rcases (h2 : o = .go () ∨ o = .ret ([], [], false)) with rfl | rfl
    · exact Ev.go h1 (ev_some _)
    · exact Ev.ret h1
end Go.Proofs.Ytiaigcdckmpepaa
end
section
/-! Texts, by the program. -/
set_option linter.unusedVariables false
set_option linter.unusedSimpArgs false
set_option linter.unnecessarySimpa false
namespace Go.Proofs.Ytiaigcdckmpepaa
open Go.Bb

theorem hexN_take : ∀ (n acc : Nat) (s : Bs), hexN n acc (s.take n) = hexN n acc s
  | 0, acc, s => rfl
  | n + 1, acc, [] => rfl
  | n + 1, acc, b :: s => by
    rw [List.take_succ_cons, hexN_step, hexN_step]
    cases hx b with
    | none => rfl
    | some v => exact hexN_take n _ s
def hexO : Option Nat → Int × Bool
  | some v => (IntKind.wrap .u8 (v : Int), decide ((v : Int) ≤ 255))
  | none => (0, false)
theorem ev_hexAt (pre r : Bs) (hl : pre.length + r.length ≤ 1048576) : Ev (fun k => m_impl_hexAt k (pre ++ r) (pre.length : Int)) (hexO (hexN 4 0 r)) := by
  simp only [m_impl_hexAt]
  have hlen : ((pre ++ r).length : Int) = pre.length + r.length := by simp
  have hw : IntKind.wrap .i64 ((pre.length : Int) + 4) = (pre.length : Int) + 4 := wrap_id (by omega)
  by_cases h4 : r.length < 4
  · have hn : hexN 4 0 r = none := by
      cases h : hexN 4 0 r with
      | none => rfl
      | some v => have := hexN_long 4 0 r v h; omega
    rw [hn]
    exact ev_ifT (by rw [hw]; omega) (ev_some _)
  · have hsub : sub (pre ++ r) (pre.length : Int) (IntKind.wrap .i64 ((pre.length : Int) + 4)) = r.take 4 := by
      rw [hw]
      unfold sub
      have e : ((pre.length : Int) + 4).toNat = pre.length + 4 := by omega
      rw [e, Int.toNat_natCast, List.take_append, List.drop_append]
      simp
    have := ev_iHex (pre ++ r) (pre.length : Int) (r.take 4) (by rw [hsub]) (by simp; omega) (r.take 4) [] 0 rfl (by
      have : (r.take 4).length = 4 := by simp; omega
      rw [this]; decide)
    have hl4 : (r.take 4).length = 4 := by simp; omega
    rw [hl4, hexN_take] at this
    refine ev_ifF (by rw [hw]; omega) (ev_ifT (by rw [hw]; omega) ?_)
    cases h : hexN 4 0 r with
    | none =>
      rw [h] at this
      exact Ev.ret (by simpa [iHex, hexO] using this)
    | some v =>
      rw [h] at this
      exact Ev.go (s := (v : Int)) (by simpa [iHex] using this) (ev_some _)
def escO : Option UInt8 → Int × Bool
  | some x => ((x.toNat : Int), true)
  | none => (0, false)
theorem ev_plainEscape (c : UInt8) : Ev (fun _ => m_impl_plainEscape (c.toNat : Int)) (escO (esc1 c)) := by
  simp only [m_impl_plainEscape]
  have ne : ∀ d : UInt8, c ≠ d → ¬ ((c.toNat : Int) = (d.toNat : Int)) := fun d h e => h ((nat_eq c d).1 e)
  refine Ev.go (ev_three c) ?_
  unfold esc1
  by_cases h3 : c = 34 ∨ c = 92 ∨ c = 47
  · rw [if_pos h3]
    exact ev_ifT (by simpa using h3) (ev_eq (ev_some _) rfl)
  · rw [if_neg h3]
    refine ev_ifF (by simpa using h3) ?_
    by_cases c1 : c = 110
    · subst c1; exact ev_ifT rfl (ev_eq (ev_some _) rfl)
    rw [if_neg c1]
    refine ev_ifF (ne 110 c1) ?_
    by_cases c2 : c = 116
    · subst c2; exact ev_ifT rfl (ev_eq (ev_some _) rfl)
    rw [if_neg c2]
    refine ev_ifF (ne 116 c2) ?_
    by_cases c3 : c = 114
    · subst c3; exact ev_ifT rfl (ev_eq (ev_some _) rfl)
    rw [if_neg c3]
    refine ev_ifF (ne 114 c3) ?_
    by_cases c4 : c = 98
    · subst c4; exact ev_ifT rfl (ev_eq (ev_some _) rfl)
    rw [if_neg c4]
    refine ev_ifF (ne 98 c4) ?_
    by_cases c5 : c = 102
    · subst c5; exact ev_ifT rfl (ev_eq (ev_some _) rfl)
    rw [if_neg c5]
    exact ev_ifF (ne 102 c5) (ev_eq (ev_some _) rfl)
end Go.Proofs.Ytiaigcdckmpepaa
end
section
/-! Texts, by the program. -/
set_option linter.unusedVariables false
set_option linter.unusedSimpArgs false
set_option linter.unnecessarySimpa false
namespace Go.Proofs.Ytiaigcdckmpepaa
open Go.Bb

def IEnd (a1 tot : Int) (acc : List Int) (o : Lp Unit (Bs × Int × Bool)) : Option (Bs × Bs) → Prop
  | some p => o = .ret (ofI (acc ++ toI p.1), tot - (p.2.length : Int), true)
  | none => o = .go () ∨ o = .ret ([], a1, false)
theorem IEnd.map {a1 tot : Int} {acc : List Int} {o : Lp Unit (Bs × Int × Bool)} {x : UInt8} {q : Option (Bs × Bs)} (h : IEnd a1 tot (acc ++ [(x.toNat : Int)]) o q) : IEnd a1 tot acc o (q.map fun q => (x :: q.1, q.2)) := by
  cases q with
  | none => exact h
  | some p =>
    have h' : o = .ret (ofI ((acc ++ [(x.toNat : Int)]) ++ toI p.1), tot - (p.2.length : Int), true) := h
    show o = .ret (ofI (acc ++ toI (x :: p.1)), tot - (p.2.length : Int), true)
    rw [h']; simp [toI]
theorem ev_iTextL : ∀ (n : Nat) (rest pre : Bs) (acc : List Int) (a1 : Int), rest.length < n → pre.length + rest.length ≤ 1048576 → acc.length ≤ pre.length → ∃ o, Ev (fun k => m_impl_textAt_l1 k (pre ++ rest) a1 (pre.length : Int) acc) o ∧ IEnd a1 ((pre.length : Int) + rest.length) acc o (rdT n rest)
  | 0, rest, pre, acc, a1, hn, hl, ha => by omega
  | n + 1, [], pre, acc, a1, hn, hl, ha => by
    refine ⟨.go (), ?_, .inl rfl⟩
    rw [ev_shift]; simp only [m_impl_textAt_l1]
    exact ev_ifF (by simp) (ev_some _)
  | n + 1, b :: r, pre, acc, a1, hn, hl, ha => by
    simp only [List.length_cons] at hn hl
    have hlen : ((pre ++ b :: r).length : Int) = pre.length + 1 + r.length := by simp; omega
    have hw1 : IntKind.wrap .i64 ((pre.length : Int) + 1) = (pre.length : Int) + 1 := wrap_id (by omega)
    rw [rdT_cons]
    by_cases c1 : b = 34
    · subst c1
      refine ⟨.ret (ofI acc, (pre.length : Int) + 1, true), ?_, by rw [if_pos rfl]; show _ = _; simp [toI]; omega⟩
      rw [ev_shift]; simp only [m_impl_textAt_l1]
      rw [hw1, byt_mid, hlen]
      exact ev_ifT (by omega) (ev_ifT (by omega) (ev_ifT rfl (ev_some _)))
    · rw [if_neg c1]
      have n1 : ¬ ((b.toNat : Int) = 34) := fun e => c1 ((nat_eq b 34).1 e)
      by_cases c2 : b = 92
      · subst c2
        rw [if_pos rfl]
        have n3 : ¬ (((92 : UInt8).toNat : Int) < 32) := by decide
        cases r with
        | nil =>
          refine ⟨.ret ([], a1, false), ?_, .inr rfl⟩
          rw [ev_shift]; simp only [m_impl_textAt_l1]
          rw [hw1, byt_mid, hlen]
          exact ev_ifT (by omega) (ev_ifT (by omega) (ev_ifF n1 (ev_ifF n3 (ev_ifT rfl (Ev.go (s := false) (ev_ifF (by simp) (ev_some _)) (ev_ifF (by simp) (ev_ifT (by simp) (ev_some _))))))))
        | cons c r =>
          simp only [List.length_cons] at hn hl
          have hr1 : (pre.length : Int) + 1 < pre.length + 1 + ((c :: r).length : Int) := by simp only [List.length_cons]; omega
          have hbc : byt (pre ++ 92 :: c :: r) ((pre.length : Int) + 1) = (c.toNat : Int) := by
            have := byt_mid (pre ++ [92]) r c
            simpa using this
          have hw2 : IntKind.wrap .i64 ((pre.length : Int) + 2) = (((pre ++ [92, c]).length : Nat) : Int) := by rw [wrap_id (by omega)]; simp
          have hst : stroke (c :: r) = if c = 117 then (hexN 4 0 r).bind fun v => if v ≤ 255 then some (UInt8.ofNat v, 5) else none else (esc1 c).map fun x => (x, 1) := stroke_cons c r
          have htot : ((pre.length : Int) + ((92 :: c :: r : Bs).length : Int)) = pre.length + 2 + r.length := by simp; omega
          by_cases cu : c = 117
          · subst cu
            rw [if_pos rfl] at hst
            have hx := ev_hexAt (pre ++ [92, 117]) r (by simp; omega)
            have ha2 : (pre ++ [92, 117]) ++ r = pre ++ 92 :: 117 :: r := by simp
            rw [ha2] at hx
            have fail : hexN 4 0 r = none ∨ (∃ v, hexN 4 0 r = some v ∧ ¬ v ≤ 255) → ∃ o, Ev (fun k => m_impl_textAt_l1 k (pre ++ 92 :: 117 :: r) a1 (pre.length : Int) acc) o ∧ IEnd a1 ((pre.length : Int) + ((92 :: 117 :: r : Bs).length : Int)) acc o none := by
              intro hf
              refine ⟨.ret ([], a1, false), ?_, .inr rfl⟩
              rw [ev_shift]; simp only [m_impl_textAt_l1]
              rw [hw1, byt_mid, hlen, hbc, hw2]
              refine ev_ifT (by omega) (ev_ifT (by omega) (ev_ifF n1 (ev_ifF n3 (ev_ifT rfl (Ev.go (s := true) (ev_ifT hr1 (ev_ifT ⟨by omega, hr1⟩ (ev_eq (ev_some _) rfl))) (ev_ifT rfl (Ev.bind hx (ev_ifF ?_ (ev_some _)))))))))
              rcases hf with hf | ⟨v, hf, hv⟩
              · rw [hf]; simp [hexO]
              · rw [hf]; simp [hexO]; omega
            cases hh : hexN 4 0 r with
            | none =>
              rw [hh] at hst
              rw [hst]
              exact fail (.inl hh)
            | some v =>
              rw [hh] at hst hx
              by_cases hv : v ≤ 255
              · simp only [Option.bind_some, if_pos hv] at hst
                rw [hst]
                have h4 := hexN_long 4 0 r v hh
                obtain ⟨o, g1, g2⟩ := ev_iTextL n ((117 :: r).drop 5) (pre ++ 92 :: 117 :: r.take 4) (acc ++ [((UInt8.ofNat v).toNat : Int)]) a1 (by simp; omega) (by simp; omega) (by simp; omega)
                refine ⟨o, ?_, ?_⟩
                · rw [ev_shift]; simp only [m_impl_textAt_l1]
                  rw [hw1, byt_mid, hlen, hbc, hw2]
                  refine ev_ifT (by omega) (ev_ifT (by omega) (ev_ifF n1 (ev_ifF n3 (ev_ifT rfl (Ev.go (s := true) (ev_ifT hr1 (ev_ifT ⟨by omega, hr1⟩ (ev_eq (ev_some _) rfl))) (ev_ifT rfl (Ev.bind hx (ev_ifT (by simp [hexO]; omega) (ev_ifT (by simp; omega) ?_)))))))))
                  have e1 : IntKind.wrap .i64 (IntKind.wrap .i64 ((pre.length : Int) + 5) + 1) = (((pre ++ 92 :: 117 :: r.take 4).length : Nat) : Int) := by
                    rw [wrap_id (n := (pre.length : Int) + 5) (by omega), wrap_id (by omega)]
                    simp; omega
                  have e2 : (hexO (some v)).1 = ((UInt8.ofNat v).toNat : Int) := u8_nat hv
                  have e3 : (pre ++ 92 :: 117 :: r.take 4) ++ (117 :: r).drop 5 = pre ++ 92 :: 117 :: r := by simp
                  rw [e1, e2]
                  rw [e3] at g1
                  exact g1
                · have e4 : ((((pre ++ 92 :: 117 :: r.take 4).length : Nat) : Int) + (((117 :: r : Bs).drop 5).length : Int)) = (pre.length : Int) + ((92 :: 117 :: r : Bs).length : Int) := by simp; omega
                  rw [e4] at g2
                  exact IEnd.map g2
              · simp only [Option.bind_some, if_neg hv] at hst
                rw [hst]
                exact fail (.inr ⟨v, hh, hv⟩)
          · rw [if_neg cu] at hst
            have nu : ¬ ((c.toNat : Int) = 117) := fun e => cu ((nat_eq c 117).1 e)
            have hp := ev_plainEscape c
            cases he : esc1 c with
            | none =>
              rw [he] at hst hp
              rw [hst]
              refine ⟨.ret ([], a1, false), ?_, .inr rfl⟩
              rw [ev_shift]; simp only [m_impl_textAt_l1]
              rw [hw1, byt_mid, hlen, hbc]
              exact ev_ifT (by omega) (ev_ifT (by omega) (ev_ifF n1 (ev_ifF n3 (ev_ifT rfl (Ev.go (s := false) (ev_ifT hr1 (ev_ifT ⟨by omega, hr1⟩ (ev_eq (ev_some _) (by simp [nu])))) (ev_ifF (by simp) (ev_ifF (by omega) (ev_ifT ⟨by omega, hr1⟩ (Ev.bind hp (ev_ifF (by simp [escO]) (ev_some _)))))))))))
            | some x =>
              rw [he] at hst hp
              rw [hst]
              obtain ⟨o, g1, g2⟩ := ev_iTextL n r (pre ++ [92, c]) (acc ++ [(x.toNat : Int)]) a1 (by omega) (by simp; omega) (by simp; omega)
              refine ⟨o, ?_, ?_⟩
              · rw [ev_shift]; simp only [m_impl_textAt_l1]
                rw [hw1, byt_mid, hlen, hbc]
                refine ev_ifT (by omega) (ev_ifT (by omega) (ev_ifF n1 (ev_ifF n3 (ev_ifT rfl (Ev.go (s := false) (ev_ifT hr1 (ev_ifT ⟨by omega, hr1⟩ (ev_eq (ev_some _) (by simp [nu])))) (ev_ifF (by simp) (ev_ifF (by omega) (ev_ifT ⟨by omega, hr1⟩ (Ev.bind hp (ev_ifT rfl (ev_ifT (by simp; omega) ?_)))))))))))
                have e1 : IntKind.wrap .i64 ((pre.length : Int) + 1 + 1) = (((pre ++ [92, c]).length : Nat) : Int) := by rw [wrap_id (by omega)]; simp; omega
                have e3 : (pre ++ [92, c]) ++ r = pre ++ 92 :: c :: r := by simp
                rw [e1]
                rw [e3] at g1
                exact g1
              · have e4 : ((((pre ++ [92, c]).length : Nat) : Int) + (r.length : Int)) = (pre.length : Int) + ((92 :: c :: r : Bs).length : Int) := by simp; omega
                rw [e4] at g2
                exact IEnd.map g2
      · rw [if_neg c2]
        have n2 : ¬ ((b.toNat : Int) = 92) := fun e => c2 ((nat_eq b 92).1 e)
        by_cases c3 : b.toNat < 32
        · rw [if_pos c3]
          refine ⟨.ret ([], a1, false), ?_, .inr rfl⟩
          rw [ev_shift]; simp only [m_impl_textAt_l1]
          rw [hw1, byt_mid, hlen]
          exact ev_ifT (by omega) (ev_ifT (by omega) (ev_ifF n1 (ev_ifT (by omega) (ev_some _))))
        · rw [if_neg c3]
          obtain ⟨o, g1, g2⟩ := ev_iTextL n r (pre ++ [b]) (acc ++ [(b.toNat : Int)]) a1 (by omega) (by simp; omega) (by simp; omega)
          refine ⟨o, ?_, ?_⟩
          · rw [ev_shift]; simp only [m_impl_textAt_l1]
            rw [hw1, byt_mid, hlen]
            exact ev_ifT (by omega) (ev_ifT (by omega) (ev_ifF n1 (ev_ifF (by omega) (ev_ifF n2 (ev_ifT (by simp; omega) (by simpa using g1))))))
          · have e4 : ((((pre ++ [b]).length : Nat) : Int) + (r.length : Int)) = (pre.length : Int) + ((b :: r : Bs).length : Int) := by simp; omega
            rw [e4] at g2
            exact IEnd.map g2
end Go.Proofs.Ytiaigcdckmpepaa
end
section
/-! A text at a place. -/
set_option linter.unusedVariables false
set_option linter.unusedSimpArgs false
set_option linter.unnecessarySimpa false
namespace Go.Proofs.Ytiaigcdckmpepaa
open Go.Bb

/-- A text with its quotes. -/
def rdQ : Bs → Option (Bs × Bs)
  | [] => none
  | b :: r => if b = 34 then rdT (r.length + 1) r else none
def placeO (a1 tot : Int) : Option (Bs × Bs) → Bs × Int × Bool
  | some p => (p.1, tot - (p.2.length : Int), true)
  | none => ([], a1, false)
theorem ev_iText (pre rest : Bs) (hl : pre.length + rest.length ≤ 1048576) : Ev (fun k => m_impl_textAt k (pre ++ rest) (pre.length : Int)) (placeO (pre.length : Int) ((pre.length : Int) + rest.length) (rdQ rest)) := by
  simp only [m_impl_textAt]
  cases rest with
  | nil => exact Ev.go (s := true) (ev_ifT (by simp) (ev_some _)) (ev_ifT rfl (ev_some _))
  | cons b r =>
    simp only [List.length_cons] at hl
    have hlen : ((pre ++ b :: r).length : Int) = pre.length + 1 + r.length := by simp; omega
    rw [byt_mid, hlen, wrap_id (n := (pre.length : Int) + 1) (by omega)]
    by_cases hb : b = 34
    · subst hb
      refine Ev.go (s := false) (ev_ifF (by omega) (ev_ifT (by omega) (ev_eq (ev_some _) rfl))) (ev_ifF (by simp) ?_)
      obtain ⟨o, g1, g2⟩ := ev_iTextL (r.length + 1) r (pre ++ [34]) [] (pre.length : Int) (by omega) (by simp; omega) (by simp)
      have g1 : Ev (fun k => m_impl_textAt_l1 k (pre ++ 34 :: r) (pre.length : Int) ((pre.length : Int) + 1) []) o := by simpa using g1
      have hq : rdQ (34 :: r) = rdT (r.length + 1) r := by rw [rdQ, if_pos rfl]
      rw [hq]
      cases h : rdT (r.length + 1) r with
      | some p =>
        rw [h] at g2
        have g2 : o = .ret (ofI ([] ++ toI p.1), (((pre ++ [34]).length : Nat) : Int) + r.length - (p.2.length : Int), true) := g2
        rw [List.nil_append, ofI_toI] at g2
        subst g2
        refine ev_eq (Ev.ret g1) ?_
        simp [placeO]; omega
      | none =>
        rw [h] at g2
        rcases (g2 : o = .go () ∨ o = .ret ([], (pre.length : Int), false)) with rfl | rfl
        · exact Ev.go g1 (ev_some _)
        · exact Ev.ret g1
    · have nb : ¬ ((b.toNat : Int) = 34) := fun e => hb ((nat_eq b 34).1 e)
      rw [show rdQ (b :: r) = none by rw [rdQ, if_neg hb]]
      exact Ev.go (s := true) (ev_ifF (by omega) (ev_ifT (by omega) (ev_eq (ev_some _) (by simp [nb])))) (ev_ifT rfl (ev_some _))
end Go.Proofs.Ytiaigcdckmpepaa
end
section
/-! Blanks and signs at a place. -/
set_option linter.unusedVariables false
set_option linter.unusedSimpArgs false
set_option linter.unnecessarySimpa false
namespace Go.Proofs.Ytiaigcdckmpepaa
open Go.Bb

/-- A reader at a place: what is passed, what is left. -/
def At (pre rest : Bs) : GJsonReader := ⟨pre ++ rest, (pre.length : Int)⟩
theorem at_blank (pre rest : Bs) : (⟨pre ++ rest, ((pre.length + (rest.takeWhile blk).length : Nat) : Int)⟩ : GJsonReader) = At (pre ++ rest.takeWhile blk) (rest.dropWhile blk) := by
  unfold At
  rw [List.append_assoc, List.takeWhile_append_dropWhile, List.length_append]
theorem ev_blanks (pre rest : Bs) (hl : pre.length + rest.length ≤ 1048576) : Ev (fun k => m_impl_jsonReader_blanks k (At pre rest)) (At (pre ++ rest.takeWhile blk) (rest.dropWhile blk)) := by
  rw [← at_blank]
  exact ev_iBlank rest pre hl
theorem drop_len (rest : Bs) : (rest.takeWhile blk).length + (rest.dropWhile blk).length = rest.length := by
  rw [← List.length_append, List.takeWhile_append_dropWhile]
/-- Whether a sign is next, behind blanks, and where the reader then is. -/
def signO (pre rest : Bs) (c : UInt8) : Bool × GJsonReader :=
  match rest.dropWhile blk with
  | [] => (false, At (pre ++ rest.takeWhile blk) [])
  | b :: r => if b = c then (true, At (pre ++ rest.takeWhile blk ++ [b]) r) else (false, At (pre ++ rest.takeWhile blk) (b :: r))
theorem ev_sign (pre rest : Bs) (c : UInt8) (hl : pre.length + rest.length ≤ 1048576) : Ev (fun k => m_impl_jsonReader_sign k (At pre rest) (c.toNat : Int)) (signO pre rest c) := by
  simp only [m_impl_jsonReader_sign]
  refine Ev.bind (ev_blanks pre rest hl) ?_
  have hd := drop_len rest
  unfold signO
  cases h : rest.dropWhile blk with
  | nil =>
    rw [h] at hd
    refine Ev.go (s := false) (ev_ifF (by simp [At]) (ev_some _)) (ev_ifF (by simp) (ev_some _))
  | cons b r =>
    rw [h] at hd
    simp only [List.length_cons] at hd
    generalize rest.takeWhile blk = bl at hd ⊢
    have hb : byt (At (pre ++ bl) (b :: r)).text (At (pre ++ bl) (b :: r)).at_ = (b.toNat : Int) := byt_mid (pre ++ bl) r b
    have h1 : (At (pre ++ bl) (b :: r)).at_ < ((At (pre ++ bl) (b :: r)).text.length : Int) := by simp [At]; omega
    have h0 : (0 : Int) ≤ (At (pre ++ bl) (b :: r)).at_ := by simp [At]; omega
    rw [hb]
    by_cases hc : b = c
    · subst hc
      refine Ev.go (s := true) (ev_ifT h1 (ev_ifT ⟨h0, h1⟩ (ev_eq (ev_some _) (by simp)))) (ev_ifT rfl (ev_eq (ev_some _) ?_))
      show _ = if b = b then (true, At (pre ++ bl ++ [b]) r) else (false, At (pre ++ bl) (b :: r))
      rw [if_pos rfl]
      have hw : IntKind.wrap .i64 ((At (pre ++ bl) (b :: r)).at_ + 1) = (((pre ++ bl ++ [b]).length : Nat) : Int) := by
        show IntKind.wrap .i64 ((((pre ++ bl).length : Nat) : Int) + 1) = _
        rw [wrap_id (by simp; omega)]; simp; omega
      rw [hw]
      simp [At]
    · have nc : ¬ ((b.toNat : Int) = (c.toNat : Int)) := fun e => hc ((nat_eq b c).1 e)
      show Ev _ (if b = c then (true, At (pre ++ bl ++ [b]) r) else (false, At (pre ++ bl) (b :: r)))
      rw [if_neg hc]
      exact Ev.go (s := false) (ev_ifT h1 (ev_ifT ⟨h0, h1⟩ (ev_eq (ev_some _) (by simp [nc])))) (ev_ifF (by simp) (ev_some _))
end Go.Proofs.Ytiaigcdckmpepaa
end
section
/-! Numbers. -/
set_option linter.unusedVariables false
set_option linter.unusedSimpArgs false
set_option linter.unnecessarySimpa false
namespace Go.Proofs.Ytiaigcdckmpepaa
open Go.Bb

/-- A figure. -/
def fig (b : UInt8) : Bool := figB (b.toNat : Int)
theorem fig_iff (b : UInt8) : fig b = true ↔ 48 ≤ b.toNat ∧ b.toNat ≤ 57 := by unfold fig figB; simp; omega
theorem u8_fig {b : UInt8} (h : fig b = true) : IntKind.wrap .i64 (IntKind.wrap .u8 ((b.toNat : Int) - 48)) = ((b.toNat - 48 : Nat) : Int) := by
  have hb := b.toNat_lt
  obtain ⟨h1, h2⟩ := (fig_iff b).1 h
  have hw := u8_sub (a := b.toNat) (c := 48) h1 (by omega)
  rw [show ((b.toNat : Int) - 48) = (b.toNat : Int) - ((48 : Nat) : Int) by omega, hw, wrap_id (by omega)]
/-- What figures say, and what they say to one who stops adding. -/
def val : Nat → Bs → Nat
  | n, [] => n
  | n, b :: r => val (n * 10 + (b.toNat - 48)) r
def cap : Nat → Bs → Nat
  | n, [] => n
  | n, b :: r => cap (if n ≤ 2147483647 then n * 10 + (b.toNat - 48) else n) r
theorem val_ge : ∀ (s : Bs) (n : Nat), n * 10 ^ s.length ≤ val n s
  | [], n => by rw [List.length_nil, Nat.pow_zero, Nat.mul_one]; exact Nat.le_refl _
  | b :: r, n => by
    have := val_ge r (n * 10 + (b.toNat - 48))
    have h1 : n * 10 ^ (b :: r).length ≤ (n * 10 + (b.toNat - 48)) * 10 ^ r.length := by
      rw [List.length_cons, Nat.pow_succ, Nat.mul_comm (10 ^ r.length) 10, ← Nat.mul_assoc]
      exact Nat.mul_le_mul_right _ (by omega)
    exact Nat.le_trans h1 this
theorem val_le (s : Bs) (n : Nat) : n ≤ val n s := Nat.le_trans (Nat.le_mul_of_pos_right _ (Nat.pow_pos (by omega))) (val_ge s n)
theorem val_app : ∀ (a b : Bs) (n : Nat), val n (a ++ b) = val (val n a) b
  | [], b, n => rfl
  | c :: a, b, n => val_app a b _
theorem cap_big : ∀ (s : Bs) (n : Nat), 2147483647 < n → cap n s = n
  | [], n, h => rfl
  | b :: r, n, h => by
    show cap (if n ≤ 2147483647 then _ else n) r = n
    rw [if_neg (by omega)]; exact cap_big r n h
theorem cap_val : ∀ (s : Bs) (n : Nat), (val n s ≤ 2147483647 → cap n s = val n s) ∧ (2147483647 < val n s → 2147483647 < cap n s)
  | [], n => by
    have e1 : val n [] = n := rfl
    have e2 : cap n [] = n := rfl
    rw [e1, e2]; exact ⟨fun _ => rfl, fun h => h⟩
  | b :: r, n => by
    show (val (n * 10 + (b.toNat - 48)) r ≤ _ → cap (if n ≤ 2147483647 then n * 10 + (b.toNat - 48) else n) r = _) ∧ (_ → _ < cap (if n ≤ 2147483647 then n * 10 + (b.toNat - 48) else n) r)
    by_cases hn : n ≤ 2147483647
    · rw [if_pos hn]; exact cap_val r _
    · rw [if_neg hn, cap_big r n (by omega)]
      have := val_le r (n * 10 + (b.toNat - 48))
      exact ⟨fun h => by omega, fun _ => by omega⟩
theorem cap_lt : ∀ (s : Bs) (n : Nat), (∀ b ∈ s, fig b = true) → n ≤ 21474836479 → cap n s ≤ 21474836479
  | [], n, hs, h => by rw [show cap n [] = n from rfl]; exact h
  | b :: r, n, hs, h => by
    show cap (if n ≤ 2147483647 then n * 10 + (b.toNat - 48) else n) r ≤ _
    have hb := (fig_iff b).1 (hs b (by simp))
    exact cap_lt r _ (fun x hx => hs x (by simp [hx])) (by split <;> omega)
theorem val_lt : ∀ (s : Bs) (n : Nat), (∀ b ∈ s, fig b = true) → val n s < (n + 1) * 10 ^ s.length
  | [], n, hs => by rw [List.length_nil, Nat.pow_zero, Nat.mul_one]; exact Nat.lt_succ_self _
  | b :: r, n, hs => by
    have hb := (fig_iff b).1 (hs b (by simp))
    have := val_lt r (n * 10 + (b.toNat - 48)) (fun x hx => hs x (by simp [hx]))
    have h1 : (n * 10 + (b.toNat - 48) + 1) * 10 ^ r.length ≤ (n + 1) * 10 ^ (b :: r).length := by
      rw [List.length_cons, Nat.pow_succ, Nat.mul_comm (10 ^ r.length) 10, ← Nat.mul_assoc]
      exact Nat.mul_le_mul_right _ (by omega)
    exact Nat.lt_of_lt_of_le this h1
theorem figs_all (s : Bs) : ∀ b ∈ s.takeWhile fig, fig b = true := by
  induction s with
  | nil => intro b hb; cases hb
  | cons c r ih =>
    intro b hb
    rw [List.takeWhile_cons] at hb
    split at hb
    · rcases List.mem_cons.1 hb with rfl | h
      · assumption
      · exact ih b h
    · cases hb
theorem ev_iNumL : ∀ (rest pre : Bs) (n : Nat), pre.length + rest.length ≤ 1048576 → n ≤ 21474836479 → Ev (fun k => m_impl_numAt_l1 k (pre ++ rest) (pre.length : Int) (n : Int)) (.go (((pre.length + (rest.takeWhile fig).length : Nat) : Int), (cap n (rest.takeWhile fig) : Int)))
  | [], pre, n, hl, hn => by
    rw [ev_shift]; simp only [m_impl_numAt_l1]
    simp [evS, evT, evF, thenG, cap]
  | b :: r, pre, n, hl, hn => by
    simp only [List.length_cons] at hl
    have hlen : ((pre ++ b :: r).length : Int) = pre.length + 1 + r.length := by simp; omega
    rw [ev_shift]; simp only [m_impl_numAt_l1]
    rw [byt_mid, hlen, ev_iFigure]
    rw [show figB (b.toNat : Int) = fig b from rfl]
    simp (disch := omega) only [evbT, evbS, thenG, Option.bind_some]
    by_cases hf : fig b = true
    · have hb := (fig_iff b).1 hf
      have ih := fun m hm => ev_iNumL r (pre ++ [b]) m (by simp; omega) hm
      rw [List.takeWhile_cons, if_pos hf, u8_fig hf]
      have e1 : IntKind.wrap .i64 ((pre.length : Int) + 1) = ((pre ++ [b]).length : Int) := by rw [wrap_id (by omega)]; simp
      have e2 : pre ++ b :: r = (pre ++ [b]) ++ r := by simp
      have e3 : ((pre.length + (b :: r.takeWhile fig).length : Nat) : Int) = (((pre ++ [b]).length + (r.takeWhile fig).length : Nat) : Int) := by simp; omega
      rw [e1, e2, e3, wrap_id (n := (n : Int) * 10) (by omega), wrap_id (n := (n : Int) * 10 + _) (by omega)]
      rw [evT hf]
      show Ev _ (Lp.go (_, (cap (if n ≤ 2147483647 then n * 10 + (b.toNat - 48) else n) (r.takeWhile fig) : Int)))
      by_cases hn2 : n ≤ 2147483647
      · rw [if_pos hn2, evT (by omega), evT (by omega)]
        have := ih (n * 10 + (b.toNat - 48)) (by omega)
        simpa using this
      · rw [if_neg hn2, evF (by omega)]
        exact ih n hn
    · rw [List.takeWhile_cons, if_neg hf, evF hf]
      exact ev_eq (ev_some _) (by simp [cap])
theorem ev_sNumL : ∀ (rest pre : Bs) (n j : Nat) (s1 : Int), s1 + j = pre.length → j ≤ 11 → pre.length + rest.length ≤ 1048576 → n < 10 ^ j → Ev (fun k => m_spec_l1Whole_l1 k (pre ++ rest) s1 (pre.length : Int) (n : Int)) (.go (((pre.length + ((rest.takeWhile fig).take (11 - j)).length : Nat) : Int), (val n ((rest.takeWhile fig).take (11 - j)) : Int)))
  | [], pre, n, j, s1, hs1, hj, hl, hn => by
    rw [ev_shift]; simp only [m_spec_l1Whole_l1]
    rw [show ([] : Bs).takeWhile fig = [] from rfl, List.take_nil, show val n [] = n from rfl, List.append_nil, List.length_nil, Nat.add_zero]
    rw [evbF (Int.lt_irrefl _), evbS]
    simp only [thenG]
    rw [evF Bool.false_ne_true, evS]
  | b :: r, pre, n, j, s1, hs1, hj, hl, hn => by
    simp only [List.length_cons] at hl
    have hlen : ((pre ++ b :: r).length : Int) = pre.length + 1 + r.length := by simp; omega
    rw [ev_shift]; simp only [m_spec_l1Whole_l1]
    rw [byt_mid, hlen]
    have hpw : 10 ^ j ≤ 10 ^ 11 := Nat.pow_le_pow_right (by omega) hj
    simp (disch := omega) only [evbT, evJ, evbS, evC (ev_sFigure _), wrap_id]
    rw [show figB (b.toNat : Int) = fig b from rfl]
    by_cases hf : fig b = true
    · have hb := (fig_iff b).1 hf
      rw [evbT hf]
      simp only [evbS, thenG, decide_eq_true_eq]
      by_cases hj2 : j = 11
      · rw [evF (by omega), evS, hj2, Nat.sub_self, List.take_zero, List.length_nil, Nat.add_zero]
        rfl
      · rw [evT (by omega), evT (by omega), u8_fig hf, List.takeWhile_cons, if_pos hf]
        obtain ⟨m, hm⟩ : ∃ m, 11 - j = m + 1 := ⟨10 - j, by omega⟩
        have hp1 : 10 ^ (j + 1) = 10 ^ j * 10 := Nat.pow_succ ..
        have ih := ev_sNumL r (pre ++ [b]) (n * 10 + (b.toNat - 48)) (j + 1) s1 (by simp; omega) (by omega) (by simp; omega) (by omega)
        rw [show 11 - (j + 1) = m by omega] at ih
        rw [hm, List.take_succ_cons, wrap_id (n := (n : Int) * 10 + _) (by omega)]
        have e3 : ((pre.length + (b :: (r.takeWhile fig).take m).length : Nat) : Int) = (((pre ++ [b]).length + ((r.takeWhile fig).take m).length : Nat) : Int) := by simp; omega
        rw [e3]
        show Ev _ (Lp.go (_, (val (n * 10 + (b.toNat - 48)) ((r.takeWhile fig).take m) : Int)))
        simpa using ih
    · rw [evbF hf, List.takeWhile_cons, if_neg hf, evbS, List.take_nil, List.length_nil, Nat.add_zero]
      simp only [thenG]
      rw [evF Bool.false_ne_true, evS]
      rfl
end Go.Proofs.Ytiaigcdckmpepaa
end
section
/-! Numbers, whole. -/
set_option linter.unusedVariables false
set_option linter.unusedSimpArgs false
set_option linter.unnecessarySimpa false
namespace Go.Proofs.Ytiaigcdckmpepaa
open Go.Bb

/-- A letter or a figure. -/
def wrd (b : UInt8) : Bool := letB (b.toNat : Int) || figB (b.toNat : Int)
def nextBad : Bs → Bool
  | [] => false
  | c :: _ => wrd c || decide (c = 46)
def sgnOf (s : Bs) : Bool × Bs := match s with | [] => (false, []) | b :: r => if b = 45 then (true, r) else (false, b :: r)
def sgnN (neg : Bool) (n : Nat) : Int := if neg = true then -(n : Int) else (n : Int)
/-- A number as the program reads it, and as the reference does. -/
def numI2 (neg : Bool) (ds rr : Bs) : Option (Int × Bs) := if ds = [] ∨ (1 < ds.length ∧ ds.head? = some 48) ∨ (neg = true ∧ cap 0 ds = 0) ∨ nextBad rr = true then none else some (sgnN neg (cap 0 ds), rr)
def numI (s : Bs) : Option (Int × Bs) := numI2 (sgnOf s).1 ((sgnOf s).2.takeWhile fig) ((sgnOf s).2.dropWhile fig)
def numS2 (neg : Bool) (ds rr : Bs) : Option (Int × Bs) := if ds = [] ∨ (1 < ds.length ∧ ds.head? = some 48) ∨ 2147483647 < val 0 ds ∨ (neg = true ∧ val 0 ds = 0) ∨ nextBad rr = true then none else some (sgnN neg (val 0 ds), rr)
def numS (s : Bs) : Option (Int × Bs) := numS2 (sgnOf s).1 ((sgnOf s).2.takeWhile fig) ((sgnOf s).2.dropWhile fig)
theorem num_both (s : Bs) : numS s = numI s ∨ (numS s = none ∧ ∃ n r, numI s = some (n, r) ∧ (n < -2147483647 ∨ 2147483647 < n)) := by
  unfold numS numI
  generalize (sgnOf s).1 = neg
  generalize (sgnOf s).2.takeWhile fig = ds
  generalize (sgnOf s).2.dropWhile fig = rr
  obtain ⟨h1, h2⟩ := cap_val ds 0
  unfold numS2 numI2
  by_cases hv : val 0 ds ≤ 2147483647
  · rw [h1 hv]
    refine .inl ?_
    have : ¬ 2147483647 < val 0 ds := by omega
    simp [this]
  · have hv : 2147483647 < val 0 ds := by omega
    have hc := h2 hv
    rw [if_pos (.inr (.inr (.inl hv)))]
    split
    · exact .inl rfl
    · refine .inr ⟨rfl, _, _, rfl, ?_⟩
      unfold sgnN
      split <;> omega
def placeN (a1 tot : Int) : Option (Int × Bs) → Int × Int × Bool
  | some p => (p.1, tot - (p.2.length : Int), true)
  | none => (0, a1, false)
theorem ev_word (n : UInt8) : m_impl_isWordByte (n.toNat : Int) = some (wrd n) := ev_iWord _
theorem ev_numAt (pre rest : Bs) (hl : pre.length + rest.length ≤ 1048576) : Ev (fun k => m_impl_numAt k (pre ++ rest) (pre.length : Int)) (placeN (pre.length : Int) ((pre.length : Int) + rest.length) (numI rest)) := by
  simp only [m_impl_numAt]
  obtain ⟨sb, t, hs, hg⟩ : ∃ sb t, rest = sb ++ t ∧ ((sgnOf rest = (true, t) ∧ sb = [45]) ∨ (sgnOf rest = (false, t) ∧ sb = [] ∧ ∀ c r, t = c :: r → c ≠ 45)) := by
    cases rest with
    | nil => exact ⟨[], [], rfl, .inr ⟨rfl, rfl, fun c r h => by cases h⟩⟩
    | cons b r =>
      by_cases hb : b = 45
      · exact ⟨[45], r, by rw [hb]; rfl, .inl ⟨by unfold sgnOf; simp [hb], rfl⟩⟩
      · exact ⟨[], b :: r, rfl, .inr ⟨by unfold sgnOf; simp [hb], rfl, fun c r' h => by cases h; exact hb⟩⟩
  have hneg : ∃ neg, sgnOf rest = (neg, t) ∧ Ev (fun _ : Nat => (if (pre.length : Int) < ((pre ++ rest).length : Int) then if (0 : Int) ≤ (pre.length : Int) ∧ (pre.length : Int) < ((pre ++ rest).length : Int) then some (Lp.go (β := Lp (Int × Int) (Int × Int × Bool)) (decide (byt (pre ++ rest) (pre.length : Int) = 45))) else none else some (Lp.go false)).bind fun o6 => o6.then fun s6 => if s6 = true then some (Lp.go (IntKind.wrap .i64 ((pre.length : Int) + 1), (-1 : Int))) else some (Lp.go ((pre.length : Int), (1 : Int)))) (.go (((pre ++ sb).length : Int), if neg = true then (-1 : Int) else 1)) := by
    rcases hg with ⟨h1, h2⟩ | ⟨h1, h2, h3⟩
    · refine ⟨true, h1, ?_⟩
      subst hs h2
      have hlen : ((pre ++ ([45] ++ t)).length : Int) = pre.length + 1 + t.length := by simp; omega
      have hb : byt (pre ++ ([45] ++ t)) (pre.length : Int) = 45 := byt_mid pre t 45
      rw [hb, hlen, wrap_id (n := (pre.length : Int) + 1) (by omega)]
      simp (disch := omega) only [evbT, evbS, thenG, evT, evS, decide_true]
      simp only [List.length_append, List.length_cons, List.length_nil, if_true]
      exact ev_some _
    · refine ⟨false, h1, ?_⟩
      subst hs h2
      cases t with
      | nil => simp [evS, evbS, evbF, thenG, evF]
      | cons c r =>
        have hlen : ((pre ++ ([] ++ c :: r)).length : Int) = pre.length + 1 + r.length := by simp; omega
        have hb : byt (pre ++ ([] ++ c :: r)) (pre.length : Int) = (c.toNat : Int) := byt_mid pre r c
        have nc : ¬ ((c.toNat : Int) = 45) := fun e => h3 c r rfl ((nat_eq c 45).1 e)
        rw [hb, hlen]
        simp (disch := omega) only [evbT, evbS, thenG, evF, evS, decide_eq_true_eq]
        simp
  obtain ⟨neg, hsg, hev⟩ := hneg
  refine Ev.go hev ?_
  unfold numI
  rw [hsg]
  simp only
  have hw : pre ++ rest = (pre ++ sb) ++ t := by rw [hs, List.append_assoc]
  have hlt : (pre ++ sb).length + t.length = pre.length + rest.length := by rw [hs]; simp; omega
  rw [hw]
  generalize pre ++ sb = p at hlt ⊢
  refine Ev.go (ev_iNumL t p 0 (by omega) (by omega)) ?_
  have htd : t = t.takeWhile fig ++ t.dropWhile fig := by simp
  have hall := figs_all t
  generalize t.takeWhile fig = ds at htd hall ⊢
  generalize t.dropWhile fig = rr at htd ⊢
  have hcl := cap_lt ds 0 hall (by omega)
  have hlen2 : t.length = ds.length + rr.length := by rw [htd]; simp
  have hlp : ((p ++ t).length : Int) = p.length + ds.length + rr.length := by simp; omega
  have hN0 : (ds = [] ∨ (1 < ds.length ∧ ds.head? = some 48) ∨ (neg = true ∧ cap 0 ds = 0) ∨ nextBad rr = true) → numI2 neg ds rr = none := fun h => if_pos h
  have hN1 : ¬ (ds = [] ∨ (1 < ds.length ∧ ds.head? = some 48) ∨ (neg = true ∧ cap 0 ds = 0) ∨ nextBad rr = true) → numI2 neg ds rr = some (sgnN neg (cap 0 ds), rr) := fun h => if_neg h
  have e1 : IntKind.wrap .i64 (((p.length + ds.length : Nat) : Int) - (p.length : Int)) = (ds.length : Int) := by rw [wrap_id (by omega)]; omega
  simp only [e1]
  by_cases hd0 : ds = []
  · rw [hN0 (.inl hd0)]
    subst hd0
    simp [evbT, evbS, thenG, evT, evS, placeN]
  · obtain ⟨d, ds', hds⟩ := List.exists_cons_of_ne_nil hd0
    have hb1 : byt (p ++ t) (p.length : Int) = (d.toNat : Int) := by rw [htd, hds]; exact byt_mid p (ds' ++ rr) d
    have hd1 : (0 : Int) < ds.length := by rw [hds]; simp only [List.length_cons]; omega
    rw [hb1, hlp]
    simp (disch := omega) only [evbF]
    have hn0 : ¬ (ds.length : Int) = 0 := by omega
    have d48 : ((d.toNat : Int) = 48) ↔ d = 48 := nat_eq d 48
    have hh : ds.head? = some d := by rw [hds]; rfl
    have tail : ∀ (X : Nat → Bool), ¬ (1 < ds.length ∧ d = 48) → Ev (fun k => (if ((cap 0 ds : Nat) : Int) = 0 then some (Lp.go (β := Int × Int × Bool) (decide ((if neg = true then (-1 : Int) else 1) < 0))) else some (Lp.go false))) (.go (decide (neg = true ∧ cap 0 ds = 0))) := by
      intro _ _
      by_cases hc : cap 0 ds = 0
      · rw [evT (by omega), evS]; cases neg <;> simp [hc]
      · rw [evF (by omega), evS]; simp [hc]
    by_cases hz : 1 < ds.length ∧ d = 48
    · rw [hN0 (.inr (.inl ⟨hz.1, by rw [hh, hz.2]⟩))]
      rw [evbT (by omega), evbT (by omega), evbT (d48.2 hz.2)]
      simp [evbS, thenG, evT, evS, placeN]
    · have h2 : Ev (fun _ : Nat => (if (1 : Int) < (ds.length : Int) then if (0 : Int) ≤ (p.length : Int) ∧ (p.length : Int) < (p.length : Int) + ds.length + rr.length then if (d.toNat : Int) = 48 then some (Lp.go (β := Int × Int × Bool) true) else if ((cap 0 ds : Nat) : Int) = 0 then some (Lp.go (decide ((if neg = true then (-1 : Int) else 1) < 0))) else some (Lp.go false) else none else if ((cap 0 ds : Nat) : Int) = 0 then some (Lp.go (decide ((if neg = true then (-1 : Int) else 1) < 0))) else some (Lp.go false))) (.go (decide (neg = true ∧ cap 0 ds = 0))) := by
        by_cases h1 : 1 < ds.length
        · have nd : ¬ ((d.toNat : Int) = 48) := fun e => hz ⟨h1, d48.1 e⟩
          rw [evT (by omega), evT (by omega), evF nd]
          exact tail (fun _ => true) hz
        · rw [evF (by omega)]
          exact tail (fun _ => true) hz
      refine Ev.go h2 ?_
      by_cases hc : neg = true ∧ cap 0 ds = 0
      · rw [hN0 (.inr (.inr (.inl hc)))]
        simp [hc, evT, evS, placeN]
      · rw [evF (by simpa using hc)]
        have hx : Ev (fun _ : Nat => (if ((p.length + ds.length : Nat) : Int) < (p.length : Int) + ds.length + rr.length then if (0 : Int) ≤ ((p.length + ds.length : Nat) : Int) ∧ ((p.length + ds.length : Nat) : Int) < (p.length : Int) + ds.length + rr.length then (m_impl_isWordByte (byt (p ++ t) ((p.length + ds.length : Nat) : Int))).bind fun y1 => if y1 = true then some (Lp.go (β := Int × Int × Bool) true) else if (0 : Int) ≤ ((p.length + ds.length : Nat) : Int) ∧ ((p.length + ds.length : Nat) : Int) < (p.length : Int) + ds.length + rr.length then some (Lp.go (decide (byt (p ++ t) ((p.length + ds.length : Nat) : Int) = 46))) else none else none else some (Lp.go false))) (.go (nextBad rr)) := by
          cases rr with
          | nil => rw [evF (by simp), evS]; rfl
          | cons c r =>
            simp only [List.length_cons]
            have hb2 : byt (p ++ t) ((p.length + ds.length : Nat) : Int) = (c.toNat : Int) := by
              rw [htd, ← List.append_assoc, ← List.length_append]; exact byt_mid (p ++ ds) r c
            rw [hb2, evT (by omega), evT (by omega), ev_word, evbS]
            have c46 : ((c.toNat : Int) = 46) ↔ c = 46 := nat_eq c 46
            by_cases hwc : wrd c = true
            · rw [evT hwc, evS]; simp [nextBad, hwc]
            · rw [evF hwc, evT (by omega), evS]
              by_cases h46 : c = 46
              · simp [nextBad, h46]
              · have : ¬ ((c.toNat : Int) = 46) := fun e => h46 (c46.1 e)
                simp [nextBad, h46, hwc, this]
        refine Ev.go hx ?_
        by_cases hnb : nextBad rr = true
        · rw [hN0 (.inr (.inr (.inr hnb))), evT hnb, evS]; rfl
        · rw [hN1 (by rw [hh]; simp [hd0, hnb]; exact ⟨fun h h' => hz ⟨h, h'⟩, fun h h' => hc ⟨h, h'⟩⟩), evF hnb, evS]
          have hv : IntKind.wrap .i64 ((if neg = true then (-1 : Int) else 1) * (cap 0 ds : Int)) = sgnN neg (cap 0 ds) := by
            unfold sgnN
            cases neg
            · simp only [if_false, Bool.false_eq_true]; rw [Int.one_mul, wrap_id (by omega)]
            · simp only [if_true]; rw [wrap_id (by omega)]; omega
          have hp : ((p.length + ds.length : Nat) : Int) = (pre.length : Int) + rest.length - rr.length := by omega
          rw [hv, hp]; rfl
end Go.Proofs.Ytiaigcdckmpepaa
end
section
/-! Numbers by the reference, words. -/
set_option linter.unusedVariables false
set_option linter.unusedSimpArgs false
set_option linter.unnecessarySimpa false
namespace Go.Proofs.Ytiaigcdckmpepaa
open Go.Bb

def wholeO : Option (Int × Bs) → Int × Bs × Bool
  | some p => (p.1, p.2, true)
  | none => (0, [], false)
theorem take_big {ds : Bs} {d : UInt8} {ds' : Bs} (hds : ds = d :: ds') (hall : ∀ b ∈ ds, fig b = true) (hd : ¬ d = 48) (h : 11 < ds.length) : 2147483647 < val 0 (ds.take 11) := by
  have h1 := (fig_iff d).1 (hall d (by rw [hds]; simp))
  have hne : d.toNat ≠ 48 := fun e => hd (UInt8.toNat_inj.1 e)
  rw [hds, List.take_succ_cons]
  have h2 : val 0 (d :: ds'.take 10) = val (0 * 10 + (d.toNat - 48)) (ds'.take 10) := rfl
  rw [h2]
  have h3 := val_ge (ds'.take 10) (0 * 10 + (d.toNat - 48))
  have h4 : (ds'.take 10).length = 10 := by rw [hds, List.length_cons] at h; rw [List.length_take]; omega
  rw [h4] at h3
  have h5 : 1 * 10 ^ 10 ≤ (0 * 10 + (d.toNat - 48)) * 10 ^ 10 := Nat.mul_le_mul_right _ (by omega)
  have h6 : 2147483647 < 1 * 10 ^ 10 := by decide
  exact Nat.lt_of_lt_of_le h6 (Nat.le_trans h5 h3)
theorem val_take (ds : Bs) (n : Nat) : val 0 (ds.take n) ≤ val 0 ds := by
  have h : val 0 ds = val (val 0 (ds.take n)) (ds.drop n) := by rw [← val_app, List.take_append_drop]
  rw [h]; exact val_le _ _
theorem ev_sWhole (s : Bs) (hl : s.length ≤ 1048576) : Ev (fun k => m_spec_l1Whole k s) (wholeO (numS s)) := by
  simp only [m_spec_l1Whole]
  obtain ⟨sb, t, hs, hg⟩ : ∃ sb t, s = sb ++ t ∧ ((sgnOf s = (true, t) ∧ sb = [45]) ∨ (sgnOf s = (false, t) ∧ sb = [] ∧ ∀ c r, t = c :: r → c ≠ 45)) := by
    cases s with
    | nil => exact ⟨[], [], rfl, .inr ⟨rfl, rfl, fun c r h => by cases h⟩⟩
    | cons b r =>
      by_cases hb : b = 45
      · exact ⟨[45], r, by rw [hb]; rfl, .inl ⟨by unfold sgnOf; simp [hb], rfl⟩⟩
      · exact ⟨[], b :: r, rfl, .inr ⟨by unfold sgnOf; simp [hb], rfl, fun c r' h => by cases h; exact hb⟩⟩
  have hneg : ∃ neg, sgnOf s = (neg, t) ∧ ((sb.length : Int) = 1 ↔ neg = true) ∧ Ev (fun _ : Nat => (if 0 < (s.length : Int) then if (0 : Int) ≤ 0 ∧ 0 < (s.length : Int) then some (Lp.go (β := Lp Int (Int × Bs × Bool)) (decide (byt s 0 = 45))) else none else some (Lp.go false)).bind fun o7 => o7.then fun s7 => if s7 = true then some (Lp.go (1 : Int)) else some (Lp.go (0 : Int))) (.go (sb.length : Int)) := by
    rcases hg with ⟨h1, h2⟩ | ⟨h1, h2, h3⟩
    · refine ⟨true, h1, by simp [h2], ?_⟩
      subst hs h2
      have hlen : (([45] ++ t : Bs).length : Int) = 1 + t.length := by simp; omega
      have hb : byt ([45] ++ t) 0 = 45 := byt_head t 45
      rw [hb, hlen]
      simp (disch := omega) only [evbT, evbS, thenG, evT, evS, decide_true]
      simp only [if_true]
      exact ev_some _
    · refine ⟨false, h1, by simp [h2], ?_⟩
      subst hs h2
      cases t with
      | nil => simp [evS, evbS, evbF, thenG, evF]
      | cons c r =>
        have hlen : (([] ++ c :: r : Bs).length : Int) = 1 + r.length := by simp; omega
        have hb : byt ([] ++ c :: r) 0 = (c.toNat : Int) := byt_head r c
        have nc : ¬ ((c.toNat : Int) = 45) := fun e => h3 c r rfl ((nat_eq c 45).1 e)
        rw [hb, hlen]
        simp (disch := omega) only [evbT, evbS, thenG, evF, evS, decide_eq_true_eq]
        rfl
  obtain ⟨neg, hsg, hs1, hev⟩ := hneg
  refine Ev.go hev ?_
  unfold numS
  rw [hsg]
  simp only
  have hsl : sb.length ≤ 1 := by rcases hg with ⟨_, h⟩ | ⟨_, h, _⟩ <;> simp [h]
  have hlt : sb.length + t.length = s.length := by rw [hs]; simp
  rw [hs]
  have hlo := ev_sNumL t sb 0 0 (sb.length : Int) (by omega) (by omega) (by omega) (by decide)
  refine Ev.go hlo ?_
  clear hlo hev
  have htd : t = t.takeWhile fig ++ t.dropWhile fig := by simp
  have hall := figs_all t
  have hnf : ∀ c r, t.dropWhile fig = c :: r → fig c = false := by
    intro c r h
    have := List.head?_dropWhile_not fig t
    rw [h] at this
    simpa using this
  generalize t.takeWhile fig = ds at htd hall ⊢
  generalize t.dropWhile fig = rr at htd hnf ⊢
  have hlen2 : t.length = ds.length + rr.length := by rw [htd]; simp
  have hlp : ((sb ++ t).length : Int) = sb.length + ds.length + rr.length := by simp; omega
  have hN0 : (ds = [] ∨ (1 < ds.length ∧ ds.head? = some 48) ∨ 2147483647 < val 0 ds ∨ (neg = true ∧ val 0 ds = 0) ∨ nextBad rr = true) → numS2 neg ds rr = none := fun h => if_pos h
  have hN1 : ¬ (ds = [] ∨ (1 < ds.length ∧ ds.head? = some 48) ∨ 2147483647 < val 0 ds ∨ (neg = true ∧ val 0 ds = 0) ∨ nextBad rr = true) → numS2 neg ds rr = some (sgnN neg (val 0 ds), rr) := fun h => if_neg h
  simp only [Nat.sub_zero]
  have htl : (ds.take 11).length ≤ ds.length := by rw [List.length_take]; omega
  have hvt := val_take ds 11
  have hvl := val_lt (ds.take 11) 0 (fun b hb => hall b (List.mem_of_mem_take hb))
  have hpw : (0 + 1) * 10 ^ (ds.take 11).length ≤ 100000000000 := Nat.le_trans (Nat.mul_le_mul_left _ (Nat.pow_le_pow_right (by omega) (show (ds.take 11).length ≤ 11 by rw [List.length_take]; omega))) (by decide)
  have hvb := Nat.lt_of_lt_of_le hvl hpw
  clear hvl hpw
  have e1 : IntKind.wrap .i64 (((sb.length + (ds.take 11).length : Nat) : Int) - (sb.length : Int)) = ((ds.take 11).length : Int) := by rw [wrap_id (by omega)]; omega
  simp only [e1]
  by_cases hd0 : ds = []
  · rw [hN0 (.inl hd0)]
    subst hd0
    simp [evbT, evbS, thenG, evT, evS, wholeO]
  · obtain ⟨d, ds', hds⟩ := List.exists_cons_of_ne_nil hd0
    have hb1 : byt (sb ++ t) (sb.length : Int) = (d.toNat : Int) := by rw [htd, hds]; exact byt_mid sb (ds' ++ rr) d
    have hd1 : 0 < ds.length := by rw [hds]; simp
    have hd2 : 0 < (ds.take 11).length := by rw [List.length_take]; omega
    have hd3 : 1 < (ds.take 11).length ↔ 1 < ds.length := by rw [List.length_take]; omega
    rw [hb1, hlp]
    have d48 : ((d.toNat : Int) = 48) ↔ d = 48 := nat_eq d 48
    have hh : ds.head? = some d := by rw [hds]; rfl
    rw [evbF (by omega)]
    by_cases hz : 1 < ds.length ∧ d = 48
    · rw [hN0 (.inr (.inl ⟨hz.1, by rw [hh, hz.2]⟩))]
      rw [evbT (by omega), evbT (by omega), evbT (d48.2 hz.2)]
      simp [evbS, thenG, evT, evS, wholeO]
    · have key : Ev (fun _ : Nat => (if (1 : Int) < ((ds.take 11).length : Int) then if (0 : Int) ≤ (sb.length : Int) ∧ (sb.length : Int) < (sb.length : Int) + ds.length + rr.length then if (d.toNat : Int) = 48 then some (Lp.go (β := Int × Bs × Bool) true) else if (2147483647 : Int) < (val 0 (ds.take 11) : Int) then some (Lp.go true) else if (sb.length : Int) = 1 then some (Lp.go (decide ((val 0 (ds.take 11) : Int) = 0))) else some (Lp.go false) else none else if (2147483647 : Int) < (val 0 (ds.take 11) : Int) then some (Lp.go true) else if (sb.length : Int) = 1 then some (Lp.go (decide ((val 0 (ds.take 11) : Int) = 0))) else some (Lp.go false))) (.go (decide (2147483647 < val 0 (ds.take 11) ∨ (neg = true ∧ val 0 (ds.take 11) = 0)))) := by
        have tl : Ev (fun _ : Nat => (if (2147483647 : Int) < (val 0 (ds.take 11) : Int) then some (Lp.go (β := Int × Bs × Bool) true) else if (sb.length : Int) = 1 then some (Lp.go (decide ((val 0 (ds.take 11) : Int) = 0))) else some (Lp.go false))) (.go (decide (2147483647 < val 0 (ds.take 11) ∨ (neg = true ∧ val 0 (ds.take 11) = 0)))) := by
          by_cases c1 : 2147483647 < val 0 (ds.take 11)
          · rw [evT (by omega), evS]; simp [c1]
          · rw [evF (by omega)]
            by_cases c2 : neg = true
            · rw [evT (hs1.2 c2), evS]; simp [c1, c2]
            · rw [evF (fun h => c2 (hs1.1 h)), evS]; simp [c1, c2]
        by_cases h1 : 1 < ds.length
        · have nd : ¬ ((d.toNat : Int) = 48) := fun e => hz ⟨h1, d48.1 e⟩
          rw [evT (by omega), evT (by omega), evF nd]
          exact tl
        · rw [evF (by omega)]
          exact tl
      refine Ev.go key ?_
      by_cases hb : 11 < ds.length
      · have hbig := take_big hds hall (fun e => hz ⟨by omega, e⟩) hb
        rw [hN0 (.inr (.inr (.inl (by omega))))]
        rw [evT (by simp [hbig]), evS]
        rfl
      · have htk : ds.take 11 = ds := List.take_of_length_le (by omega)
        rw [htk] at hvb e1 ⊢
        by_cases hc : 2147483647 < val 0 ds ∨ (neg = true ∧ val 0 ds = 0)
        · rw [hN0 (.inr (.inr (by rcases hc with h | h; exact .inl h; exact .inr (.inl h))))]
          rw [evT (by simpa using hc), evS]
          rfl
        · rw [evF (by simpa using hc)]
          have hx : Ev (fun _ : Nat => (if ((sb.length + ds.length : Nat) : Int) < (sb.length : Int) + ds.length + rr.length then if (0 : Int) ≤ ((sb.length + ds.length : Nat) : Int) ∧ ((sb.length + ds.length : Nat) : Int) < (sb.length : Int) + ds.length + rr.length then (m_spec_l1Figure (byt (sb ++ t) ((sb.length + ds.length : Nat) : Int))).bind fun y1 => if y1 = true then some (Lp.go (β := Int × Bs × Bool) true) else if (0 : Int) ≤ ((sb.length + ds.length : Nat) : Int) ∧ ((sb.length + ds.length : Nat) : Int) < (sb.length : Int) + ds.length + rr.length then (m_spec_l1Letter (byt (sb ++ t) ((sb.length + ds.length : Nat) : Int))).bind fun y2 => if y2 = true then some (Lp.go true) else if (0 : Int) ≤ ((sb.length + ds.length : Nat) : Int) ∧ ((sb.length + ds.length : Nat) : Int) < (sb.length : Int) + ds.length + rr.length then some (Lp.go (decide (byt (sb ++ t) ((sb.length + ds.length : Nat) : Int) = 46))) else none else none else none else some (Lp.go false))) (.go (nextBad rr)) := by
            cases rr with
            | nil => rw [evF (by simp), evS]; rfl
            | cons c r =>
              simp only [List.length_cons]
              have hb2 : byt (sb ++ t) ((sb.length + ds.length : Nat) : Int) = (c.toNat : Int) := by
                rw [htd, ← List.append_assoc, ← List.length_append]; exact byt_mid (sb ++ ds) r c
              rw [hb2, evT (by omega), evT (by omega), evC (ev_sFigure _)]
              have c46 : ((c.toNat : Int) = 46) ↔ c = 46 := nat_eq c 46
              have hfc : figB (c.toNat : Int) = false := hnf c r rfl
              rw [hfc, evF (by simp), evT (by omega), evC (ev_sLetter _)]
              by_cases hwc : letB (c.toNat : Int) = true
              · rw [evT hwc, evS]; simp [nextBad, wrd, hwc]
              · rw [evF hwc, evT (by omega), evS]
                by_cases h46 : c = 46
                · simp [nextBad, h46]
                · have : ¬ ((c.toNat : Int) = 46) := fun e => h46 (c46.1 e)
                  simp [nextBad, wrd, hfc, h46, hwc, this]
          refine Ev.go hx ?_
          have hor : ¬ 2147483647 < val 0 ds ∧ ¬ (neg = true ∧ val 0 ds = 0) := ⟨fun h => hc (.inl h), fun h => hc (.inr h)⟩
          by_cases hnb : nextBad rr = true
          · rw [hN0 (.inr (.inr (.inr (.inr hnb)))), evT hnb, evS]; rfl
          · rw [hN1 (by rw [hh]; rintro (h | h | h | h | h); exact hd0 h; exact hz ⟨h.1, by simpa using h.2⟩; exact hor.1 h; exact hor.2 h; exact hnb h), evF hnb]
            have hsub : sub (sb ++ t) ((sb.length + ds.length : Nat) : Int) ((sb.length : Int) + ds.length + rr.length) = rr := by
              have e2 : ((sb.length : Int) + ds.length + rr.length) = ((sb.length + ds.length + rr.length : Nat) : Int) := by omega
              rw [e2]
              unfold sub
              rw [Int.toNat_natCast, Int.toNat_natCast, htd, List.take_of_length_le (by simp; omega), ← List.append_assoc]
              rw [← List.length_append, List.drop_left]
            refine Ev.go (s := sgnN neg (val 0 ds)) ?_ ?_
            · unfold sgnN
              by_cases c2 : neg = true
              · rw [evT (hs1.2 c2), evS, if_pos c2, wrap_id (by omega)]; congr 1; omega
              · rw [evF (fun h => c2 (hs1.1 h)), evS, if_neg c2]
            · rw [evT (by omega), evS, hsub]; rfl
/-- The letters and figures at the beginning. -/
theorem ev_sWordL : ∀ (rest pre : Bs), pre.length + rest.length ≤ 1048576 → Ev (fun k => m_spec_l1Word_l1 k (pre ++ rest) (pre.length : Int)) (.go ((pre.length + (rest.takeWhile wrd).length : Nat) : Int))
  | [], pre, hl => by
    rw [ev_shift]; simp only [m_spec_l1Word_l1]
    simp [evS, evbS, thenG, evbF, evF]
  | b :: r, pre, hl => by
    simp only [List.length_cons] at hl
    have hlen : ((pre ++ b :: r).length : Int) = pre.length + 1 + r.length := by simp; omega
    rw [ev_shift]; simp only [m_spec_l1Word_l1]
    rw [byt_mid, hlen]
    simp (disch := omega) only [evbT, evJ, evC (ev_sLetter _), evC (ev_sFigure _), wrap_id]
    have hgo : Ev (fun k => (if letB (b.toNat : Int) = true then some (Lp.go (β := Lp Int Bs) true) else if 0 ≤ (pre.length : Int) ∧ (pre.length : Int) < (pre.length : Int) + 1 + r.length then (m_spec_l1Figure (b.toNat : Int)).bind fun y2 => some (Lp.go y2) else none)) (.go (wrd b)) := by
      unfold wrd
      by_cases h1 : letB (b.toNat : Int) = true
      · rw [evT h1, evS]; simp [h1]
      · rw [evF h1, evT (by omega), evC (ev_sFigure _), evS]; simp [h1]
    refine Ev.go hgo ?_
    by_cases hw : wrd b = true
    · rw [evT hw, List.takeWhile_cons, if_pos hw]
      have ih := ev_sWordL r (pre ++ [b]) (by simp; omega)
      have e3 : ((pre.length + (b :: r.takeWhile wrd).length : Nat) : Int) = (((pre ++ [b]).length + (r.takeWhile wrd).length : Nat) : Int) := by simp; omega
      rw [e3]
      simpa using ih
    · rw [evF hw, List.takeWhile_cons, if_neg hw, evS]; simp
theorem ev_sWord (s : Bs) (hl : s.length ≤ 1048576) : Ev (fun k => m_spec_l1Word k s) (s.takeWhile wrd) := by
  simp only [m_spec_l1Word]
  have h := ev_sWordL s [] (by simp; omega)
  refine Ev.go (s := ((s.takeWhile wrd).length : Int)) (by simpa using h) ?_
  have hle : (s.takeWhile wrd).length ≤ s.length := (List.takeWhile_prefix wrd).length_le
  rw [evT (by omega), evS]
  unfold sub
  rw [Int.toNat_natCast]
  show (s.take (s.takeWhile wrd).length).drop 0 = _
  rw [List.drop_zero]
  exact (List.prefix_iff_eq_take.1 (List.takeWhile_prefix wrd)).symm
/-- A word at a place. -/
theorem word_at (pre rest w : Bs) (hl : pre.length + rest.length ≤ 1048576) : m_impl_jsonReader_word (At pre rest) w = some (if w <+: rest then (true, At (pre ++ w) (rest.drop w.length)) else (false, At pre rest)) := by
  unfold m_impl_jsonReader_word
  have h1 : (0 : Int) ≤ (At pre rest).at_ ∧ (At pre rest).at_ ≤ ((At pre rest).text.length : Int) ∧ ((At pre rest).text.length : Int) ≤ ((At pre rest).text.length : Int) := by simp only [At, List.length_append]; omega
  rw [if_pos h1]
  have hs : sub (At pre rest).text (At pre rest).at_ ((At pre rest).text.length : Int) = rest := by
    unfold sub At
    simp only
    rw [Int.toNat_natCast, Int.toNat_natCast, List.take_length, List.drop_left]
  rw [hs]
  unfold m_strings_HasPrefix m_internal_stringslite_HasPrefix
  by_cases hw : w <+: rest
  · have hle := hw.length_le
    rw [if_pos (by omega), if_pos (by omega), if_pos hw]
    have e : sub rest 0 (w.length : Int) = w := by
      unfold sub; simp
      exact (List.prefix_iff_eq_take.1 hw).symm
    rw [e]
    simp only [decide_true, Option.bind_some, if_true]
    congr 1
    congr 1
    obtain ⟨r, rfl⟩ := hw
    have hwr : IntKind.wrap .i64 ((At pre (w ++ r)).at_ + (w.length : Int)) = ((pre ++ w).length : Int) := by
      show IntKind.wrap .i64 ((pre.length : Int) + (w.length : Int)) = _
      simp only [List.length_append] at hl
      rw [wrap_id (by omega)]; simp
    rw [hwr]
    unfold At
    simp
  · rw [if_neg hw]
    by_cases hle : (w.length : Int) ≤ (rest.length : Int)
    · rw [if_pos hle, if_pos (by omega)]
      have e : ¬ sub rest 0 (w.length : Int) = w := by
        intro e
        apply hw
        rw [← e]
        unfold sub; simp
        exact List.take_prefix _ _
      simp [e]
    · rw [if_neg hle]; simp
end Go.Proofs.Ytiaigcdckmpepaa
end
section
/-! Lists. -/
set_option linter.unusedVariables false
set_option linter.unusedSimpArgs false
set_option linter.unnecessarySimpa false
namespace Go.Proofs.Ytiaigcdckmpepaa
open Go.Bb

/-- A value that is not ok at any depth. -/
inductive BadV : Val → Prop
  | num (v : Val) (h : v.kind = 2) (h2 : v.num < -2147483647 ∨ 2147483647 < v.num) : BadV v
  | long (v : Val) (h : 12 < v.list.length) : BadV v
  | sub (v x : Val) (h : x ∈ v.list) (hx : BadV x) : BadV v
theorem plain_len {v : Val} (h : plainOk v = true) : v.list.length ≤ 12 := by
  have z : ∀ {a b : Prop}, a ∧ b ∧ noneIn v → v.list.length ≤ 12 := fun h => by have := h.2.2.1; omega
  unfold plainOk at h
  repeat' split at h
  · exact z (of_decide_eq_true h)
  · exact z (of_decide_eq_true h)
  · exact z (of_decide_eq_true h)
  · exact z (of_decide_eq_true h)
  · exact (of_decide_eq_true h).2.2.2
  · exact (of_decide_eq_true h).2.2.2
  · rw [Bool.and_eq_true] at h
    have := (of_decide_eq_true h.2 : noneIn v).1; omega
  · cases h
theorem bad_ok {v : Val} (h : BadV v) : ∀ (d : Int) (f : Bool), okV v d f = false := by
  induction h with
  | num v h h2 =>
    intro d f
    rw [okV_eq]
    have : plainOk v = false := by
      unfold plainOk
      rw [if_neg (by omega), if_neg (by omega), if_pos h]
      simp only [decide_eq_false_iff_not]
      rintro ⟨h3, h4, _⟩
      omega
    simp [this]
  | long v h =>
    intro d f
    rw [okV_eq]
    have : plainOk v = false := by
      cases hp : plainOk v with
      | false => rfl
      | true => have := plain_len hp; omega
    simp [this]
  | sub v x h hx ih =>
    intro d f
    rw [okV_eq]
    have : (v.list.all fun x => okV x (d - 1) f) = false := by
      rw [List.all_eq_false]
      exact ⟨x, h, by simp [ih]⟩
    simp [this]
def headW (r : Bs) : Prop := ∃ c r', r = c :: r' ∧ wrd c = true
def Rel2 (oi os : Option (Val × Bs)) : Prop := os = oi ∨ (os = none ∧ ∃ v r, oi = some (v, r) ∧ (BadV v ∨ headW r))
def IRes (w : Bs) (x : Val × Bool × GJsonReader) : Option (Val × Bs) → Prop
  | some o => ∃ p, p ++ o.2 = w ∧ x = (o.1, true, At p o.2)
  | none => ∃ z p r, p ++ r = w ∧ x = (z, false, At p r)
def SRes (y : Val × Bs × Bool) : Option (Val × Bs) → Prop
  | some o => y = (o.1, o.2, true)
  | none => ∃ z, y = (z, [], false)
def ValOk (n : Nat) : Prop := ∀ (rest pre : Bs) (d : Int), rest.length < n → pre.length + rest.length ≤ 1048576 → 0 ≤ d → d ≤ 1000 → ∃ oi os x y, Ev (fun k => m_impl_jsonReader_value k (At pre rest) d) x ∧ IRes (pre ++ rest) x oi ∧ Ev (fun k => m_spec_l1Read k rest d) y ∧ SRes y os ∧ Rel2 oi os ∧ ∀ v r, oi = some (v, r) → Bd 1048576 v ∧ r.length < rest.length
theorem drop_head {r r' : Bs} {b : UInt8} (h : r.dropWhile blk = b :: r') : blk b = false := by
  have := List.head?_dropWhile_not blk r
  rw [h] at this
  simpa using this
theorem sign_nb (p r : Bs) (b c : UInt8) (h : blk b = false) : signO p (b :: r) c = if b = c then (true, At (p ++ [b]) r) else (false, At p (b :: r)) := by
  have h1 : (b :: r).takeWhile blk = [] := by rw [List.takeWhile_cons, if_neg (by simp [h])]
  have h2 : (b :: r).dropWhile blk = b :: r := by rw [List.dropWhile_cons, if_neg (by simp [h])]
  unfold signO
  rw [h2, h1, List.append_nil]
theorem sign_nil (p : Bs) (c : UInt8) : signO p [] c = (false, At p []) := by unfold signO; simp
theorem sign_some {r r' : Bs} {b : UInt8} (p : Bs) (c : UInt8) (h : r.dropWhile blk = b :: r') : signO p r c = if b = c then (true, At (p ++ r.takeWhile blk ++ [b]) r') else (false, At (p ++ r.takeWhile blk) (b :: r')) := by
  unfold signO; rw [h]
theorem sign_none {r : Bs} (p : Bs) (c : UInt8) (h : r.dropWhile blk = []) : signO p r c = (false, At (p ++ r.takeWhile blk) []) := by
  unfold signO; rw [h]
theorem wrd_blk {c : UInt8} (h : wrd c = true) : blk c = false := by
  unfold wrd letB figB at h
  unfold blk
  simp only [Bool.or_eq_true, decide_eq_true_eq] at h
  simp only [decide_eq_false_iff_not]
  omega
theorem headW_drop {r : Bs} (h : headW r) : ∃ c r', r.dropWhile blk = c :: r' ∧ wrd c = true := by
  obtain ⟨c, r', rfl, h⟩ := h
  exact ⟨c, r', by rw [List.dropWhile_cons, if_neg (by simp [wrd_blk h])], h⟩
theorem drop_split (r : Bs) : r.takeWhile blk ++ r.dropWhile blk = r := List.takeWhile_append_dropWhile
theorem blank_idem (s : Bs) : (s.dropWhile blk).dropWhile blk = s.dropWhile blk := by
  cases h : s.dropWhile blk with
  | nil => rfl
  | cons b r => rw [List.dropWhile_cons, if_neg (by simp [drop_head h])]
theorem drop_le (s : Bs) : (s.dropWhile blk).length ≤ s.length := (List.dropWhile_sublist blk).length_le
theorem read_blank (s : Bs) (d : Int) (hs : s.length ≤ 1048576) (y : Val × Bs × Bool) : Ev (fun k => m_spec_l1Read k (s.dropWhile blk) d) y ↔ Ev (fun k => m_spec_l1Read k s d) y := by
  have h := drop_le s
  rw [ev_shift, ev_shift (m := fun k => m_spec_l1Read k s d)]
  simp only [m_spec_l1Read]
  rw [evC (ev_sBlank _ (by omega)), evC (ev_sBlank _ hs), blank_idem]
theorem rel_none {os : Option (Val × Bs)} (h : Rel2 none os) : os = none := by
  rcases h with h | ⟨_, _, _, h, _⟩
  · exact h
  · cases h
theorem sRes_none {y : Val × Bs × Bool} {os : Option (Val × Bs)} (h : SRes y os) (e : os = none) : ∃ z, y = (z, [], false) := by subst e; exact h
/-- A loop of the reference that has read a value: how it goes on. -/
def sTail (a1 kd : Int) (acc : List Val) (nms : List Bs) (v : Val) (r : Bs) : Option (Lp (Bs × List Val) (Option (Val × Bs))) :=
  match r.dropWhile blk with
  | [] => some (.ret none)
  | b :: r' => if 12 ≤ acc.length then some (.ret none) else if (b.toNat : Int) = a1 then some (.ret (some (.mk kd 0 [] (acc ++ [v]) nms, r'))) else if b = 44 then some (.go (r', acc ++ [v])) else some (.ret none)
theorem sub_one (b : UInt8) (r : Bs) : sub (b :: r) 1 ((r.length : Int) + 1) = r := by
  have := sub_cons b r
  rwa [show (((b :: r).length : Nat) : Int) = (r.length : Int) + 1 by simp] at this

theorem list_loop {n : Nat} (hA : ValOk n) (d : Int) (hd : 1 ≤ d) (hd2 : d ≤ 1000) : ∀ (m : Nat) (rest pre : Bs) (acc : List Val), rest.length < m → m ≤ n → pre.length + rest.length ≤ 1048576 → acc.length ≤ pre.length → (∀ x ∈ acc, Bd 1048576 x) →
    ∃ oi os x y, Ev (fun k => m_impl_jsonReader_list_l1 k d (pre ++ rest) (pre.length : Int) acc) (.ret x) ∧ IRes (pre ++ rest) x oi ∧ Ev (fun k => m_spec_l1Items_l1 k 93 d 4 (rest.dropWhile blk) acc []) (.ret y) ∧ SRes y os ∧ Rel2 oi os ∧ ∀ v r, oi = some (v, r) → Bd 1048576 v ∧ r.length < rest.length ∧ ∃ tl, v.list = acc ++ tl
  | 0, rest, pre, acc, hm, hmn, hl, ha, hb => by omega
  | m + 1, rest, pre, acc, hm, hmn, hl, ha, hb => by
    obtain ⟨oi, os, x, y, h1, h2, h3, h4, h5, h6⟩ := hA rest pre (d - 1) (by omega) hl (by omega) (by omega)
    have hdl := drop_le rest
    have h3' := (read_blank rest (d - 1) (by omega) y).2 h3
    -- the reference fails
    have sfail : os = none → ∃ z, Ev (fun k => m_spec_l1Items_l1 k 93 d 4 (rest.dropWhile blk) acc []) (.ret (z, [], false)) := by
      intro e
      obtain ⟨z, hz⟩ := sRes_none h4 e
      subst hz
      refine ⟨.mk 4 0 [] acc [], ?_⟩
      rw [ev_shift]; simp only [m_spec_l1Items_l1]
      rw [evbF (by omega), wrap_id (n := d - 1) (by omega), evbS]
      simp only [thenG]
      rw [evC h3']
      rw [evC (ev_sBlank [] (by simp)), evbF (by simp), evbS]
      simp only [thenG, if_true, Option.bind_some]
      exact ev_some _
    have istep : ∀ r, Ev (fun k => (m_impl_jsonReader_value k (At pre rest) (d - 1)).bind fun y2 =>
        if y2.2.1 = true then
          if (acc ++ [y2.1]).length * 80 ≤ 140737488355328 then
            (m_impl_jsonReader_sign k y2.2.2 93).bind fun y3 =>
            if y3.1 = true then
              (some ((Val.mk 4 0 ([] : Bs) (acc ++ [y2.1]) ([] : List Bs)), true, y3.2)).bind fun z =>
              some (Lp.ret z)
            else
              (m_impl_jsonReader_sign k y3.2 44).bind fun y4 =>
              if y4.1 = true then
                m_impl_jsonReader_list_l1 k d y4.2.text y4.2.at_ (acc ++ [y2.1])
              else
                (some ((Val.mk 0 0 ([] : Bs) ([] : List Val) ([] : List Bs)), false, y4.2)).bind fun z =>
                some (Lp.ret z)
          else none
        else
          (some ((Val.mk 0 0 ([] : Bs) ([] : List Val) ([] : List Bs)), false, y2.2.2)).bind fun z =>
          some (Lp.ret z)) r → Ev (fun k => m_impl_jsonReader_list_l1 k d (pre ++ rest) (pre.length : Int) acc) r := by
      intro r h
      rw [ev_shift]; simp only [m_impl_jsonReader_list_l1]
      rw [wrap_id (n := d - 1) (by omega)]
      exact h
    cases oi with
    | none =>
      obtain ⟨z, p, r, hp, rfl⟩ := h2
      obtain ⟨z', hz'⟩ := sfail (rel_none h5)
      refine ⟨none, none, (.mk 0 0 [] [] [], false, At p r), _, istep _ ?_, ⟨_, p, r, hp, rfl⟩, hz', ⟨_, rfl⟩, .inl rfl, fun v r h => by cases h⟩
      rw [evC h1]
      simp only [Bool.false_eq_true, if_false, Option.bind_some]
      exact ev_some _
    | some o =>
      obtain ⟨v, r2⟩ := o
      obtain ⟨p, hp, rfl⟩ := h2
      obtain ⟨hbv, hlr⟩ := h6 v r2 rfl
      have hpl : p.length + r2.length = pre.length + rest.length := by rw [← List.length_append, hp, List.length_append]
      have hs1 : Ev (fun k => m_impl_jsonReader_sign k (At p r2) 93) (signO p r2 93) := ev_sign p r2 93 (by omega)
      have hal : (acc ++ [v]).length * 80 ≤ 140737488355328 := by simp only [List.length_append, List.length_cons, List.length_nil]; omega
      have hbA : ∀ x ∈ acc ++ [v], Bd 1048576 x := by
        intro x hx
        rcases List.mem_append.1 hx with h | h
        · exact hb x h
        · simp only [List.mem_cons, List.not_mem_nil, or_false] at h; subst h; exact hbv
      cases hdw : r2.dropWhile blk with
      | nil =>
        have hs2 : Ev (fun k => m_impl_jsonReader_sign k (At (p ++ r2.takeWhile blk) []) 44) (signO (p ++ r2.takeWhile blk) [] 44) := ev_sign (p ++ r2.takeWhile blk) [] 44 (by have := drop_len r2; simp; omega)
        rw [sign_none _ _ hdw] at hs1
        rw [sign_nil] at hs2
        have hi : Ev (fun k => m_impl_jsonReader_list_l1 k d (pre ++ rest) (pre.length : Int) acc) (.ret (.mk 0 0 [] [] [], false, At (p ++ r2.takeWhile blk) [])) := by
          refine istep _ ?_
          rw [evC h1]
          simp only [if_true]
          rw [evT hal, evC hs1]
          simp only [Bool.false_eq_true, if_false]
          rw [evC hs2]
          simp only [Bool.false_eq_true, if_false, Option.bind_some]
          exact ev_some _
        have hw : (p ++ r2.takeWhile blk) ++ [] = pre ++ rest := by rw [List.append_nil, ← hp]; congr 1; have := drop_split r2; rw [hdw, List.append_nil] at this; exact this
        cases hos : os with
        | none =>
          obtain ⟨z', hz'⟩ := sfail hos
          exact ⟨none, none, _, _, hi, ⟨_, _, _, hw, rfl⟩, hz', ⟨_, rfl⟩, .inl rfl, fun v r h => by cases h⟩
        | some o =>
          have e : os = some (v, r2) := by rcases h5 with h | ⟨h, _⟩; exact h; rw [h] at hos; cases hos
          subst e
          have h4 : y = (v, r2, true) := h4
          subst h4
          refine ⟨none, none, _, (.mk 4 0 [] acc [], [], false), hi, ⟨_, _, _, hw, rfl⟩, ?_, ⟨_, rfl⟩, .inl rfl, fun v r h => by cases h⟩
          rw [ev_shift]; simp only [m_spec_l1Items_l1]
          rw [evbF (by omega), wrap_id (n := d - 1) (by omega), evbS]
          simp only [thenG]
          rw [evC h3', evC (ev_sBlank r2 (by omega)), hdw]
          simp only
          rw [evbT trivial, evbT (by simp), evbS]
          simp only [thenG, if_true, Option.bind_some]
          exact ev_some _
      | cons b r3 =>
        have hnb := drop_head hdw
        have hdl3 := drop_le r2
        rw [hdw, List.length_cons] at hdl3
        have htw := drop_len r2
        rw [hdw, List.length_cons] at htw
        have hw : (p ++ r2.takeWhile blk ++ [b]) ++ r3 = pre ++ rest := by
          rw [← hp, List.append_assoc, List.append_assoc]; congr 1
          have := drop_split r2; rw [hdw] at this; simpa using this
        have hw2 : (p ++ r2.takeWhile blk) ++ b :: r3 = pre ++ rest := by rw [← hw]; simp
        have hB : (b :: r3 : Bs).length = r3.length + 1 := List.length_cons
        rw [sign_some _ _ hdw] at hs1
        have hnw : headW r2 → wrd b = true := fun h => by
          obtain ⟨c, r', h1, h2⟩ := headW_drop h
          rw [hdw] at h1; cases h1; exact h2
        have sgo2 : ∀ r, os = some (v, r2) → Ev (fun k => if 12 ≤ (acc.length : Int) then some (.ret (.mk 4 0 [] acc [], [], false)) else if (b.toNat : Int) = 93 then some (.ret (.mk 4 0 [] (acc ++ [v]) [], r3, true)) else if (b.toNat : Int) = 44 then m_spec_l1Items_l1 k 93 d 4 (r3.dropWhile blk) (acc ++ [v]) [] else some (.ret (.mk 4 0 [] (acc ++ [v]) [], [], false))) r → Ev (fun k => m_spec_l1Items_l1 k 93 d 4 (rest.dropWhile blk) acc []) r := by
          intro r e h
          subst e
          have h4 : y = (v, r2, true) := h4
          subst h4
          rw [ev_shift]; simp only [m_spec_l1Items_l1]
          rw [evbF (by omega), wrap_id (n := d - 1) (by omega), evbS]
          simp only [thenG]
          rw [evC h3', evC (ev_sBlank r2 (by omega)), hdw]
          simp only
          have hc : ((b :: r3 : Bs).length : Int) = r3.length + 1 := by simp
          rw [byt_head, hc, sub_one]
          rw [evbT trivial, evbF (by omega), evbS]
          simp only [thenG]
          by_cases h12 : 12 ≤ (acc.length : Int)
          · rw [evT h12] at h
            rw [evT (by simpa using h12)]
            exact h
          · rw [evF h12] at h
            rw [evF (by simpa using h12), evT hal, evT (by omega)]
            by_cases h93 : (b.toNat : Int) = 93
            · rw [evT h93] at h
              rw [evT h93, evT (by omega)]
              exact h
            · rw [evF h93] at h
              rw [evF h93, evT (by omega)]
              by_cases h44 : (b.toNat : Int) = 44
              · rw [evT h44] at h
                rw [evT h44, evT (by omega), evC (ev_sBlank r3 (by omega))]
                exact h
              · rw [evF h44] at h
                rw [evF h44]
                exact h
        have istep2 : ∀ r, Ev (fun k => if (if b = 93 then (true, At (p ++ r2.takeWhile blk ++ [b]) r3) else (false, At (p ++ r2.takeWhile blk) (b :: r3))).1 = true then some (Lp.ret (.mk 4 0 [] (acc ++ [v]) [], true, At (p ++ r2.takeWhile blk ++ [b]) r3)) else if (if b = 44 then (true, At (p ++ r2.takeWhile blk ++ [b]) r3) else (false, At (p ++ r2.takeWhile blk) (b :: r3))).1 = true then m_impl_jsonReader_list_l1 k d ((p ++ r2.takeWhile blk ++ [b]) ++ r3) (((p ++ r2.takeWhile blk ++ [b]).length : Nat) : Int) (acc ++ [v]) else some (Lp.ret (.mk 0 0 [] [] [], false, At (p ++ r2.takeWhile blk) (b :: r3)))) r → Ev (fun k => m_impl_jsonReader_list_l1 k d (pre ++ rest) (pre.length : Int) acc) r := by
          intro r h
          refine istep _ ?_
          rw [evC h1]
          simp only [if_true]
          rw [evT hal, evC hs1]
          by_cases h93 : b = 93
          · rw [if_pos h93] at h ⊢
            simp only [if_true, Option.bind_some] at h ⊢
            exact h
          · rw [if_neg h93] at h ⊢
            simp only [Bool.false_eq_true, if_false] at h ⊢
            have hs2 : Ev (fun k => m_impl_jsonReader_sign k (At (p ++ r2.takeWhile blk) (b :: r3)) 44) (signO (p ++ r2.takeWhile blk) (b :: r3) 44) := ev_sign (p ++ r2.takeWhile blk) (b :: r3) 44 (by simp only [List.length_append, List.length_cons]; omega)
            rw [sign_nb _ _ _ _ hnb] at hs2
            rw [evC hs2]
            by_cases h44 : b = 44
            · rw [if_pos h44] at h ⊢
              simp only [if_true] at h ⊢
              exact h
            · rw [if_neg h44] at h ⊢
              simp only [Bool.false_eq_true, if_false, Option.bind_some] at h ⊢
              exact h
        have hvl : Bd 1048576 (.mk 4 0 [] (acc ++ [v]) []) := .mk _ (by simp) (by simp; omega) (by simp) (by simp) hbA
        by_cases h93 : b = 93
        · have hi := istep2 (.ret (.mk 4 0 [] (acc ++ [v]) [], true, At (p ++ r2.takeWhile blk ++ [b]) r3)) (by rw [if_pos h93]; exact ev_some _)
          have hin : ∀ v' r', some (Val.mk 4 0 [] (acc ++ [v]) [], r3) = some (v', r') → Bd 1048576 v' ∧ r'.length < rest.length ∧ ∃ tl, v'.list = acc ++ tl := by
            rintro v' r' h; cases h
            exact ⟨hvl, by omega, [v], rfl⟩
          have hir : IRes (pre ++ rest) (.mk 4 0 [] (acc ++ [v]) [], true, At (p ++ r2.takeWhile blk ++ [b]) r3) (some (Val.mk 4 0 [] (acc ++ [v]) [], r3)) := ⟨_, hw, rfl⟩
          have hb93 : (b.toNat : Int) = 93 := (nat_eq b 93).2 h93
          cases hos : os with
          | none =>
            obtain ⟨z', hz'⟩ := sfail hos
            refine ⟨_, none, _, _, hi, hir, hz', ⟨_, rfl⟩, .inr ⟨rfl, _, _, rfl, ?_⟩, hin⟩
            rcases h5 with h | ⟨_, v', r', h, hbad⟩
            · rw [h] at hos; cases hos
            · cases h
              rcases hbad with h | h
              · exact .inl (.sub _ v (by simp) h)
              · have := hnw h
                rw [h93] at this
                exact absurd this (by decide)
          | some o =>
            have e : os = some (v, r2) := by rcases h5 with h | ⟨h, _⟩; exact h; rw [h] at hos; cases hos
            by_cases h12 : 12 ≤ (acc.length : Int)
            · refine ⟨_, none, _, _, hi, hir, sgo2 _ e (by rw [evT h12]; exact ev_some _), ⟨_, rfl⟩, .inr ⟨rfl, _, _, rfl, .inl (.long _ ?_)⟩, hin⟩
              simp; omega
            · exact ⟨_, some (Val.mk 4 0 [] (acc ++ [v]) [], r3), _, _, hi, hir, sgo2 _ e (by rw [evF h12, evT hb93]; exact ev_some _), rfl, .inl rfl, hin⟩
        · have hb93 : ¬ (b.toNat : Int) = 93 := fun h => h93 ((nat_eq b 93).1 h)
          by_cases h44 : b = 44
          · have hb44 : (b.toNat : Int) = 44 := (nat_eq b 44).2 h44
            obtain ⟨oi', os', x', y', g1, g2, g3, g4, g5, g6⟩ := list_loop hA d hd hd2 m r3 (p ++ r2.takeWhile blk ++ [b]) (acc ++ [v]) (by omega) (by omega) (by simp only [List.length_append, List.length_cons, List.length_nil]; omega) (by simp only [List.length_append, List.length_cons, List.length_nil]; omega) hbA
            have hi := istep2 _ (by rw [if_neg h93, if_pos h44]; simp only [Bool.false_eq_true, if_false, if_true]; exact g1)
            rw [hw] at g2
            have hin : ∀ v' r', oi' = some (v', r') → Bd 1048576 v' ∧ r'.length < rest.length ∧ ∃ tl, v'.list = acc ++ tl := by
              rintro v' r' h
              obtain ⟨k1, k2, tl, k3⟩ := g6 v' r' h
              exact ⟨k1, by omega, v :: tl, by rw [k3]; simp⟩
            have hbad : (BadV v ∨ 12 ≤ (acc.length : Int)) → Rel2 oi' none := by
              intro h
              cases hoi : oi' with
              | none => exact .inl rfl
              | some o =>
                obtain ⟨v', r'⟩ := o
                obtain ⟨_, _, tl, k3⟩ := g6 v' r' hoi
                refine .inr ⟨rfl, _, _, rfl, .inl ?_⟩
                rcases h with h | h
                · exact .sub _ v (by rw [k3]; simp) h
                · exact .long _ (by rw [k3]; simp; omega)
            cases hos : os with
            | none =>
              obtain ⟨z', hz'⟩ := sfail hos
              refine ⟨oi', none, _, _, hi, g2, hz', ⟨_, rfl⟩, hbad ?_, hin⟩
              rcases h5 with h | ⟨_, v', r', h, hb'⟩
              · rw [h] at hos; cases hos
              · cases h
                rcases hb' with h | h
                · exact .inl h
                · have := hnw h
                  rw [h44] at this
                  exact absurd this (by decide)
            | some o =>
              have e : os = some (v, r2) := by rcases h5 with h | ⟨h, _⟩; exact h; rw [h] at hos; cases hos
              by_cases h12 : 12 ≤ (acc.length : Int)
              · exact ⟨oi', none, _, _, hi, g2, sgo2 _ e (by rw [evT h12]; exact ev_some _), ⟨_, rfl⟩, hbad (.inr h12), hin⟩
              · exact ⟨oi', os', _, _, hi, g2, sgo2 _ e (by rw [evF h12, evF hb93, evT hb44]; exact g3), g4, g5, hin⟩
          · have hb44 : ¬ (b.toNat : Int) = 44 := fun h => h44 ((nat_eq b 44).1 h)
            have hi := istep2 (.ret (.mk 0 0 [] [] [], false, At (p ++ r2.takeWhile blk) (b :: r3))) (by rw [if_neg h93, if_neg h44]; simp only [Bool.false_eq_true, if_false]; exact ev_some _)
            cases hos : os with
            | none =>
              obtain ⟨z', hz'⟩ := sfail hos
              exact ⟨none, none, _, _, hi, ⟨_, _, _, hw2, rfl⟩, hz', ⟨_, rfl⟩, .inl rfl, fun v r h => by cases h⟩
            | some o =>
              have e : os = some (v, r2) := by rcases h5 with h | ⟨h, _⟩; exact h; rw [h] at hos; cases hos
              by_cases h12 : 12 ≤ (acc.length : Int)
              · exact ⟨none, none, _, _, hi, ⟨_, _, _, hw2, rfl⟩, sgo2 _ e (by rw [evT h12]; exact ev_some _), ⟨_, rfl⟩, .inl rfl, fun v r h => by cases h⟩
              · exact ⟨none, none, _, _, hi, ⟨_, _, _, hw2, rfl⟩, sgo2 _ e (by rw [evF h12, evF hb93, evF hb44]; exact ev_some _), ⟨_, rfl⟩, .inl rfl, fun v r h => by cases h⟩
end Go.Proofs.Ytiaigcdckmpepaa
end
section
/-! Trees. -/
set_option linter.unusedVariables false
set_option linter.unusedSimpArgs false
set_option linter.unnecessarySimpa false
namespace Go.Proofs.Ytiaigcdckmpepaa
open Go.Bb

theorem rdT_suf : ∀ (n : Nat) (s t r : Bs), rdT n s = some (t, r) → (∃ p, p ++ r = s) ∧ t.length + r.length + 1 ≤ s.length
  | 0, s, t, r, h => by cases h
  | n + 1, [], t, r, h => by cases h
  | n + 1, b :: s, t, r, h => by
    rw [rdT_cons] at h
    by_cases h1 : b = 34
    · rw [if_pos h1] at h
      cases h
      exact ⟨⟨[b], rfl⟩, by simp⟩
    rw [if_neg h1] at h
    by_cases h2 : b = 92
    · rw [if_pos h2] at h
      cases hs : stroke s with
      | none => rw [hs] at h; cases h
      | some p =>
        rw [hs] at h
        obtain ⟨p1, p2⟩ := stroke_len hs
        obtain ⟨q, hq, e⟩ := Option.map_eq_some_iff.1 h
        obtain ⟨qt, qr⟩ := q
        cases e
        obtain ⟨⟨u, hu⟩, hl⟩ := rdT_suf n _ _ _ hq
        refine ⟨⟨b :: s.take p.2 ++ u, ?_⟩, ?_⟩
        · rw [List.append_assoc, hu]; simp
        · rw [List.length_drop] at hl; simp only [List.length_cons]; omega
    rw [if_neg h2] at h
    by_cases h3 : b.toNat < 32
    · rw [if_pos h3] at h; cases h
    · rw [if_neg h3] at h
      obtain ⟨q, hq, e⟩ := Option.map_eq_some_iff.1 h
      obtain ⟨qt, qr⟩ := q
      cases e
      obtain ⟨⟨u, hu⟩, hl⟩ := rdT_suf n _ _ _ hq
      exact ⟨⟨b :: u, by rw [List.cons_append, hu]⟩, by simp only [List.length_cons]; omega⟩
theorem rdQ_suf {s t r : Bs} (h : rdQ s = some (t, r)) : (∃ p, p ++ r = s) ∧ t.length + r.length + 2 ≤ s.length := by
  cases s with
  | nil => cases h
  | cons b s =>
    rw [rdQ] at h
    split at h
    · obtain ⟨⟨u, hu⟩, hl⟩ := rdT_suf _ _ _ _ h
      exact ⟨⟨b :: u, by rw [List.cons_append, hu]⟩, by simp only [List.length_cons]; omega⟩
    · cases h
theorem place_at {w p r : Bs} (h : p ++ r = w) : (⟨w, (w.length : Int) - (r.length : Int)⟩ : GJsonReader) = At p r := by
  subst h
  unfold At
  congr 1
  simp only [List.length_append]; omega
theorem tree_tail {n : Nat} (hA : ValOk n) (d : Int) (hd : 1 ≤ d) (hd2 : d ≤ 1000) {m : Nat} (IH : ∀ (rest pre : Bs) (acc : List Val) (nms : List Bs), rest.length < m → pre.length + rest.length ≤ 1048576 → acc.length ≤ pre.length → nms.length = acc.length → (∀ x ∈ acc, Bd 1048576 x) → (∀ s ∈ nms, s.length ≤ 1048576) → ∃ oi os x y, Ev (fun k => m_impl_jsonReader_tree_l1 k d (pre ++ rest) (pre.length : Int) acc nms) (.ret x) ∧ IRes (pre ++ rest) x oi ∧ Ev (fun k => m_spec_l1Items_l1 k 125 d 5 (rest.dropWhile blk) acc nms) (.ret y) ∧ SRes y os ∧ Rel2 oi os ∧ ∀ v r, oi = some (v, r) → Bd 1048576 v ∧ r.length < rest.length ∧ ∃ tl, v.list = acc ++ tl)
    {rest pre t2 q2 : Bs} {acc : List Val} {nms nms2 : List Bs} (hqt : q2 ++ t2 = pre ++ rest) (ht2 : t2.length < rest.length) (ht2n : t2.length < n) (ht2m : t2.length ≤ m) (haq : acc.length ≤ q2.length) (hl : pre.length + rest.length ≤ 1048576) (hnl : nms2.length = acc.length + 1) (hb : ∀ x ∈ acc, Bd 1048576 x) (hbn2 : ∀ s ∈ nms2, s.length ≤ 1048576)
    (istep : ∀ r, Ev (fun k => (m_impl_jsonReader_value k (At q2 t2) (d - 1)).bind fun y4 =>
              if y4.2.1 = true then
                if nms2.length * 16 ≤ 140737488355328 then
                  if (acc ++ [y4.1]).length * 80 ≤ 140737488355328 then
                    (m_impl_jsonReader_sign k y4.2.2 125).bind fun y5 =>
                    if y5.1 = true then
                      (some ((Val.mk 5 0 ([] : Bs) (acc ++ [y4.1]) nms2), true, y5.2)).bind fun z =>
                      some (Lp.ret z)
                    else
                      (m_impl_jsonReader_sign k y5.2 44).bind fun y6 =>
                      if y6.1 = true then
                        m_impl_jsonReader_tree_l1 k d y6.2.text y6.2.at_ (acc ++ [y4.1]) nms2
                      else
                        (some ((Val.mk 0 0 ([] : Bs) ([] : List Val) ([] : List Bs)), false, y6.2)).bind fun z =>
                        some (Lp.ret z)
                  else none
                else none
              else
                (some ((Val.mk 0 0 ([] : Bs) ([] : List Val) ([] : List Bs)), false, y4.2.2)).bind fun z =>
                some (Lp.ret z)) r → Ev (fun k => m_impl_jsonReader_tree_l1 k d (pre ++ rest) (pre.length : Int) acc nms) r)
    (sstep : ∀ r, Ev (fun k => (m_spec_l1Read k t2 (d - 1)).bind fun y2 =>
              (m_spec_l1Blank k y2.2.1).bind fun y3 =>
              (if y2.2.2 = true then
                  if (y3.length : Int) = 0 then
                    some (Lp.go true)
                  else
                    some (Lp.go (decide (12 ≤ (acc.length : Int))))
                else
                  some (Lp.go true)).bind fun o5 =>
              o5.then fun s4 =>
              if s4 = true then
                (some ((Val.mk 5 0 ([] : Bs) acc nms2), [], false)).bind fun z =>
                some (Lp.ret z)
              else
                if (acc ++ [y2.1]).length * 80 ≤ 140737488355328 then
                  if (0 : Int) ≤ 0 ∧ 0 < (y3.length : Int) then
                    if (byt y3 0) = 125 then
                      if (0 : Int) ≤ 1 ∧ (1 : Int) ≤ (y3.length : Int) ∧ (y3.length : Int) ≤ (y3.length : Int) then
                        (some ((Val.mk 5 0 ([] : Bs) (acc ++ [y2.1]) nms2), sub y3 1 (y3.length : Int), true)).bind fun z =>
                        some (Lp.ret z)
                      else none
                    else
                      if (0 : Int) ≤ 0 ∧ 0 < (y3.length : Int) then
                        if (byt y3 0) = 44 then
                          if (0 : Int) ≤ 1 ∧ (1 : Int) ≤ (y3.length : Int) ∧ (y3.length : Int) ≤ (y3.length : Int) then
                            (m_spec_l1Blank k (sub y3 1 (y3.length : Int))).bind fun y4 =>
                            m_spec_l1Items_l1 k 125 d 5 y4 (acc ++ [y2.1]) nms2
                          else none
                        else
                          (some ((Val.mk 5 0 ([] : Bs) (acc ++ [y2.1]) nms2), [], false)).bind fun z =>
                          some (Lp.ret z)
                      else none
                  else none
                else none) r → Ev (fun k => m_spec_l1Items_l1 k 125 d 5 (rest.dropWhile blk) acc nms) r) :
    ∃ oi os x y, Ev (fun k => m_impl_jsonReader_tree_l1 k d (pre ++ rest) (pre.length : Int) acc nms) (.ret x) ∧ IRes (pre ++ rest) x oi ∧ Ev (fun k => m_spec_l1Items_l1 k 125 d 5 (rest.dropWhile blk) acc nms) (.ret y) ∧ SRes y os ∧ Rel2 oi os ∧ ∀ v r, oi = some (v, r) → Bd 1048576 v ∧ r.length < rest.length ∧ ∃ tl, v.list = acc ++ tl := by
    have hql : q2.length + t2.length = pre.length + rest.length := by rw [← List.length_append, hqt, List.length_append]
    have hn16 : nms2.length * 16 ≤ 140737488355328 := by omega
    obtain ⟨oi, os, x, y, h1, h2, h3, h4, h5, h6⟩ := hA t2 q2 (d - 1) ht2n (by omega) (by omega) (by omega)
    rw [hqt] at h2
    have hdl := drop_le rest
    -- the reference fails
    have sfail : os = none → ∃ z, Ev (fun k => m_spec_l1Items_l1 k 125 d 5 (rest.dropWhile blk) acc nms) (.ret (z, [], false)) := by
      intro e
      obtain ⟨z, hz⟩ := sRes_none h4 e
      subst hz
      refine ⟨.mk 5 0 [] acc nms2, ?_⟩
      refine sstep _ ?_
      rw [evC h3, evC (ev_sBlank [] (by simp)), evbF (by simp), evbS]
      simp only [thenG, if_true, Option.bind_some]
      exact ev_some _
    cases oi with
    | none =>
      obtain ⟨z, p, r, hp, rfl⟩ := h2
      obtain ⟨z', hz'⟩ := sfail (rel_none h5)
      refine ⟨none, none, (.mk 0 0 [] [] [], false, At p r), _, istep _ ?_, ⟨_, p, r, hp, rfl⟩, hz', ⟨_, rfl⟩, .inl rfl, fun v r h => by cases h⟩
      rw [evC h1]
      simp only [Bool.false_eq_true, if_false, Option.bind_some]
      exact ev_some _
    | some o =>
      obtain ⟨v, r2⟩ := o
      obtain ⟨p, hp, rfl⟩ := h2
      obtain ⟨hbv, hlr⟩ := h6 v r2 rfl
      have hpl : p.length + r2.length = pre.length + rest.length := by rw [← List.length_append, hp, List.length_append]
      have hs1 : Ev (fun k => m_impl_jsonReader_sign k (At p r2) 125) (signO p r2 125) := ev_sign p r2 125 (by omega)
      have hal : (acc ++ [v]).length * 80 ≤ 140737488355328 := by simp only [List.length_append, List.length_cons, List.length_nil]; omega
      have hbA : ∀ x ∈ acc ++ [v], Bd 1048576 x := by
        intro x hx
        rcases List.mem_append.1 hx with h | h
        · exact hb x h
        · simp only [List.mem_cons, List.not_mem_nil, or_false] at h; subst h; exact hbv
      cases hdw : r2.dropWhile blk with
      | nil =>
        have hs2 : Ev (fun k => m_impl_jsonReader_sign k (At (p ++ r2.takeWhile blk) []) 44) (signO (p ++ r2.takeWhile blk) [] 44) := ev_sign (p ++ r2.takeWhile blk) [] 44 (by have := drop_len r2; simp; omega)
        rw [sign_none _ _ hdw] at hs1
        rw [sign_nil] at hs2
        have hi : Ev (fun k => m_impl_jsonReader_tree_l1 k d (pre ++ rest) (pre.length : Int) acc nms) (.ret (.mk 0 0 [] [] [], false, At (p ++ r2.takeWhile blk) [])) := by
          refine istep _ ?_
          rw [evC h1]
          simp only [if_true]
          rw [evT hn16, evT hal, evC hs1]
          simp only [Bool.false_eq_true, if_false]
          rw [evC hs2]
          simp only [Bool.false_eq_true, if_false, Option.bind_some]
          exact ev_some _
        have hw : (p ++ r2.takeWhile blk) ++ [] = pre ++ rest := by rw [List.append_nil, ← hp]; congr 1; have := drop_split r2; rw [hdw, List.append_nil] at this; exact this
        cases hos : os with
        | none =>
          obtain ⟨z', hz'⟩ := sfail hos
          exact ⟨none, none, _, _, hi, ⟨_, _, _, hw, rfl⟩, hz', ⟨_, rfl⟩, .inl rfl, fun v r h => by cases h⟩
        | some o =>
          have e : os = some (v, r2) := by rcases h5 with h | ⟨h, _⟩; exact h; rw [h] at hos; cases hos
          subst e
          have h4 : y = (v, r2, true) := h4
          subst h4
          refine ⟨none, none, _, (.mk 5 0 [] acc nms2, [], false), hi, ⟨_, _, _, hw, rfl⟩, ?_, ⟨_, rfl⟩, .inl rfl, fun v r h => by cases h⟩
          refine sstep _ ?_
          rw [evC h3, evC (ev_sBlank r2 (by omega)), hdw]
          simp only
          rw [evbT trivial, evbT (by simp), evbS]
          simp only [thenG, if_true, Option.bind_some]
          exact ev_some _
      | cons b r3 =>
        have hnb := drop_head hdw
        have hdl3 := drop_le r2
        rw [hdw, List.length_cons] at hdl3
        have htw := drop_len r2
        rw [hdw, List.length_cons] at htw
        have hw : (p ++ r2.takeWhile blk ++ [b]) ++ r3 = pre ++ rest := by
          rw [← hp, List.append_assoc, List.append_assoc]; congr 1
          have := drop_split r2; rw [hdw] at this; simpa using this
        have hw2 : (p ++ r2.takeWhile blk) ++ b :: r3 = pre ++ rest := by rw [← hw]; simp
        have hB : (b :: r3 : Bs).length = r3.length + 1 := List.length_cons
        rw [sign_some _ _ hdw] at hs1
        have hnw : headW r2 → wrd b = true := fun h => by
          obtain ⟨c, r', h1, h2⟩ := headW_drop h
          rw [hdw] at h1; cases h1; exact h2
        have sgo2 : ∀ r, os = some (v, r2) → Ev (fun k => if 12 ≤ (acc.length : Int) then some (.ret (.mk 5 0 [] acc nms2, [], false)) else if (b.toNat : Int) = 125 then some (.ret (.mk 5 0 [] (acc ++ [v]) nms2, r3, true)) else if (b.toNat : Int) = 44 then m_spec_l1Items_l1 k 125 d 5 (r3.dropWhile blk) (acc ++ [v]) nms2 else some (.ret (.mk 5 0 [] (acc ++ [v]) nms2, [], false))) r → Ev (fun k => m_spec_l1Items_l1 k 125 d 5 (rest.dropWhile blk) acc nms) r := by
          intro r e h
          subst e
          have h4 : y = (v, r2, true) := h4
          subst h4
          refine sstep _ ?_
          rw [evC h3, evC (ev_sBlank r2 (by omega)), hdw]
          simp only
          have hc : ((b :: r3 : Bs).length : Int) = r3.length + 1 := by simp
          rw [byt_head, hc, sub_one]
          rw [evbT trivial, evbF (by omega), evbS]
          simp only [thenG]
          by_cases h12 : 12 ≤ (acc.length : Int)
          · rw [evT h12] at h
            rw [evT (by simpa using h12)]
            exact h
          · rw [evF h12] at h
            rw [evF (by simpa using h12), evT hal, evT (by omega)]
            by_cases h125 : (b.toNat : Int) = 125
            · rw [evT h125] at h
              rw [evT h125, evT (by omega)]
              exact h
            · rw [evF h125] at h
              rw [evF h125, evT (by omega)]
              by_cases h44 : (b.toNat : Int) = 44
              · rw [evT h44] at h
                rw [evT h44, evT (by omega), evC (ev_sBlank r3 (by omega))]
                exact h
              · rw [evF h44] at h
                rw [evF h44]
                exact h
        have istep2 : ∀ r, Ev (fun k => if (if b = 125 then (true, At (p ++ r2.takeWhile blk ++ [b]) r3) else (false, At (p ++ r2.takeWhile blk) (b :: r3))).1 = true then some (Lp.ret (.mk 5 0 [] (acc ++ [v]) nms2, true, At (p ++ r2.takeWhile blk ++ [b]) r3)) else if (if b = 44 then (true, At (p ++ r2.takeWhile blk ++ [b]) r3) else (false, At (p ++ r2.takeWhile blk) (b :: r3))).1 = true then m_impl_jsonReader_tree_l1 k d ((p ++ r2.takeWhile blk ++ [b]) ++ r3) (((p ++ r2.takeWhile blk ++ [b]).length : Nat) : Int) (acc ++ [v]) nms2 else some (Lp.ret (.mk 0 0 [] [] [], false, At (p ++ r2.takeWhile blk) (b :: r3)))) r → Ev (fun k => m_impl_jsonReader_tree_l1 k d (pre ++ rest) (pre.length : Int) acc nms) r := by
          intro r h
          refine istep _ ?_
          rw [evC h1]
          simp only [if_true]
          rw [evT hn16, evT hal, evC hs1]
          by_cases h125 : b = 125
          · rw [if_pos h125] at h ⊢
            simp only [if_true, Option.bind_some] at h ⊢
            exact h
          · rw [if_neg h125] at h ⊢
            simp only [Bool.false_eq_true, if_false] at h ⊢
            have hs2 : Ev (fun k => m_impl_jsonReader_sign k (At (p ++ r2.takeWhile blk) (b :: r3)) 44) (signO (p ++ r2.takeWhile blk) (b :: r3) 44) := ev_sign (p ++ r2.takeWhile blk) (b :: r3) 44 (by simp only [List.length_append, List.length_cons]; omega)
            rw [sign_nb _ _ _ _ hnb] at hs2
            rw [evC hs2]
            by_cases h44 : b = 44
            · rw [if_pos h44] at h ⊢
              simp only [if_true] at h ⊢
              exact h
            · rw [if_neg h44] at h ⊢
              simp only [Bool.false_eq_true, if_false, Option.bind_some] at h ⊢
              exact h
        have hvl : Bd 1048576 (.mk 5 0 [] (acc ++ [v]) nms2) := .mk _ (by simp) (by simp; omega) (by show nms2.length ≤ _; omega) hbn2 hbA
        by_cases h125 : b = 125
        · have hi := istep2 (.ret (.mk 5 0 [] (acc ++ [v]) nms2, true, At (p ++ r2.takeWhile blk ++ [b]) r3)) (by rw [if_pos h125]; exact ev_some _)
          have hin : ∀ v' r', some (Val.mk 5 0 [] (acc ++ [v]) nms2, r3) = some (v', r') → Bd 1048576 v' ∧ r'.length < rest.length ∧ ∃ tl, v'.list = acc ++ tl := by
            rintro v' r' h; cases h
            exact ⟨hvl, by omega, [v], rfl⟩
          have hir : IRes (pre ++ rest) (.mk 5 0 [] (acc ++ [v]) nms2, true, At (p ++ r2.takeWhile blk ++ [b]) r3) (some (Val.mk 5 0 [] (acc ++ [v]) nms2, r3)) := ⟨_, hw, rfl⟩
          have hb125 : (b.toNat : Int) = 125 := (nat_eq b 125).2 h125
          cases hos : os with
          | none =>
            obtain ⟨z', hz'⟩ := sfail hos
            refine ⟨_, none, _, _, hi, hir, hz', ⟨_, rfl⟩, .inr ⟨rfl, _, _, rfl, ?_⟩, hin⟩
            rcases h5 with h | ⟨_, v', r', h, hbad⟩
            · rw [h] at hos; cases hos
            · cases h
              rcases hbad with h | h
              · exact .inl (.sub _ v (by simp) h)
              · have := hnw h
                rw [h125] at this
                exact absurd this (by decide)
          | some o =>
            have e : os = some (v, r2) := by rcases h5 with h | ⟨h, _⟩; exact h; rw [h] at hos; cases hos
            by_cases h12 : 12 ≤ (acc.length : Int)
            · refine ⟨_, none, _, _, hi, hir, sgo2 _ e (by rw [evT h12]; exact ev_some _), ⟨_, rfl⟩, .inr ⟨rfl, _, _, rfl, .inl (.long _ ?_)⟩, hin⟩
              simp; omega
            · exact ⟨_, some (Val.mk 5 0 [] (acc ++ [v]) nms2, r3), _, _, hi, hir, sgo2 _ e (by rw [evF h12, evT hb125]; exact ev_some _), rfl, .inl rfl, hin⟩
        · have hb125 : ¬ (b.toNat : Int) = 125 := fun h => h125 ((nat_eq b 125).1 h)
          by_cases h44 : b = 44
          · have hb44 : (b.toNat : Int) = 44 := (nat_eq b 44).2 h44
            obtain ⟨oi', os', x', y', g1, g2, g3, g4, g5, g6⟩ := IH r3 (p ++ r2.takeWhile blk ++ [b]) (acc ++ [v]) nms2 (by omega) (by simp only [List.length_append, List.length_cons, List.length_nil]; omega) (by simp only [List.length_append, List.length_cons, List.length_nil]; omega) (by simp only [List.length_append, List.length_cons, List.length_nil]; omega) hbA hbn2
            have hi := istep2 _ (by rw [if_neg h125, if_pos h44]; simp only [Bool.false_eq_true, if_false, if_true]; exact g1)
            rw [hw] at g2
            have hin : ∀ v' r', oi' = some (v', r') → Bd 1048576 v' ∧ r'.length < rest.length ∧ ∃ tl, v'.list = acc ++ tl := by
              rintro v' r' h
              obtain ⟨k1, k2, tl, k3⟩ := g6 v' r' h
              exact ⟨k1, by omega, v :: tl, by rw [k3]; simp⟩
            have hbad : (BadV v ∨ 12 ≤ (acc.length : Int)) → Rel2 oi' none := by
              intro h
              cases hoi : oi' with
              | none => exact .inl rfl
              | some o =>
                obtain ⟨v', r'⟩ := o
                obtain ⟨_, _, tl, k3⟩ := g6 v' r' hoi
                refine .inr ⟨rfl, _, _, rfl, .inl ?_⟩
                rcases h with h | h
                · exact .sub _ v (by rw [k3]; simp) h
                · exact .long _ (by rw [k3]; simp; omega)
            cases hos : os with
            | none =>
              obtain ⟨z', hz'⟩ := sfail hos
              refine ⟨oi', none, _, _, hi, g2, hz', ⟨_, rfl⟩, hbad ?_, hin⟩
              rcases h5 with h | ⟨_, v', r', h, hb'⟩
              · rw [h] at hos; cases hos
              · cases h
                rcases hb' with h | h
                · exact .inl h
                · have := hnw h
                  rw [h44] at this
                  exact absurd this (by decide)
            | some o =>
              have e : os = some (v, r2) := by rcases h5 with h | ⟨h, _⟩; exact h; rw [h] at hos; cases hos
              by_cases h12 : 12 ≤ (acc.length : Int)
              · exact ⟨oi', none, _, _, hi, g2, sgo2 _ e (by rw [evT h12]; exact ev_some _), ⟨_, rfl⟩, hbad (.inr h12), hin⟩
              · exact ⟨oi', os', _, _, hi, g2, sgo2 _ e (by rw [evF h12, evF hb125, evT hb44]; exact g3), g4, g5, hin⟩
          · have hb44 : ¬ (b.toNat : Int) = 44 := fun h => h44 ((nat_eq b 44).1 h)
            have hi := istep2 (.ret (.mk 0 0 [] [] [], false, At (p ++ r2.takeWhile blk) (b :: r3))) (by rw [if_neg h125, if_neg h44]; simp only [Bool.false_eq_true, if_false]; exact ev_some _)
            cases hos : os with
            | none =>
              obtain ⟨z', hz'⟩ := sfail hos
              exact ⟨none, none, _, _, hi, ⟨_, _, _, hw2, rfl⟩, hz', ⟨_, rfl⟩, .inl rfl, fun v r h => by cases h⟩
            | some o =>
              have e : os = some (v, r2) := by rcases h5 with h | ⟨h, _⟩; exact h; rw [h] at hos; cases hos
              by_cases h12 : 12 ≤ (acc.length : Int)
              · exact ⟨none, none, _, _, hi, ⟨_, _, _, hw2, rfl⟩, sgo2 _ e (by rw [evT h12]; exact ev_some _), ⟨_, rfl⟩, .inl rfl, fun v r h => by cases h⟩
              · exact ⟨none, none, _, _, hi, ⟨_, _, _, hw2, rfl⟩, sgo2 _ e (by rw [evF h12, evF hb125, evF hb44]; exact ev_some _), ⟨_, rfl⟩, .inl rfl, fun v r h => by cases h⟩
theorem tree_loop {n : Nat} (hA : ValOk n) (d : Int) (hd : 1 ≤ d) (hd2 : d ≤ 1000) : ∀ (m : Nat) (rest pre : Bs) (acc : List Val) (nms : List Bs), rest.length < m → m ≤ n → pre.length + rest.length ≤ 1048576 → acc.length ≤ pre.length → nms.length = acc.length → (∀ x ∈ acc, Bd 1048576 x) → (∀ s ∈ nms, s.length ≤ 1048576) →
    ∃ oi os x y, Ev (fun k => m_impl_jsonReader_tree_l1 k d (pre ++ rest) (pre.length : Int) acc nms) (.ret x) ∧ IRes (pre ++ rest) x oi ∧ Ev (fun k => m_spec_l1Items_l1 k 125 d 5 (rest.dropWhile blk) acc nms) (.ret y) ∧ SRes y os ∧ Rel2 oi os ∧ ∀ v r, oi = some (v, r) → Bd 1048576 v ∧ r.length < rest.length ∧ ∃ tl, v.list = acc ++ tl
  | 0, rest, pre, acc, nms, hm, hmn, hl, ha, hn, hb, hbn => by omega
  | m + 1, rest, pre, acc, nms, hm, hmn, hl, ha, hn, hb, hbn => by
    have hdl := drop_le rest
    have htw0 := drop_len rest
    have hw0 : (pre ++ rest.takeWhile blk) ++ rest.dropWhile blk = pre ++ rest := by rw [List.append_assoc, drop_split]
    have hbl := ev_blanks pre rest hl
    have hp0 : (pre ++ rest.takeWhile blk).length + (rest.dropWhile blk).length = pre.length + rest.length := by rw [← List.length_append, hw0, List.length_append]
    have htx := ev_iText (pre ++ rest.takeWhile blk) (rest.dropWhile blk) (by omega)
    -- no name
    have nofail : ∀ p r, p ++ r = pre ++ rest → Ev (fun k => m_impl_jsonReader_tree_l1 k d (pre ++ rest) (pre.length : Int) acc nms) (.ret (.mk 0 0 [] [] [], false, At p r)) → Ev (fun k => m_spec_l1Items_l1 k 125 d 5 (rest.dropWhile blk) acc nms) (.ret (.mk 5 0 [] acc nms, [], false)) →
        ∃ oi os x y, Ev (fun k => m_impl_jsonReader_tree_l1 k d (pre ++ rest) (pre.length : Int) acc nms) (.ret x) ∧ IRes (pre ++ rest) x oi ∧ Ev (fun k => m_spec_l1Items_l1 k 125 d 5 (rest.dropWhile blk) acc nms) (.ret y) ∧ SRes y os ∧ Rel2 oi os ∧ ∀ v r, oi = some (v, r) → Bd 1048576 v ∧ r.length < rest.length ∧ ∃ tl, v.list = acc ++ tl :=
      fun p r hpr h1 h2 => ⟨none, none, _, _, h1, ⟨_, p, r, hpr, rfl⟩, h2, ⟨_, rfl⟩, .inl rfl, fun v r h => by cases h⟩
    have ibeg : ∀ r, Ev (fun k => (m_impl_textAt k ((pre ++ rest.takeWhile blk) ++ rest.dropWhile blk) (((pre ++ rest.takeWhile blk).length : Nat) : Int)).bind fun y3 =>
        (if y3.2.2 = true then
            (m_impl_jsonReader_sign k (GJsonReader.mk (pre ++ rest) y3.2.1) 58).bind fun y7 =>
            some (Lp.go (y7.2.text, y7.2.at_, (!y7.1)))
          else
            some (Lp.go (pre ++ rest, y3.2.1, true))).bind fun o2 =>
        o2.then fun s1 =>
        if s1.2.2 = true then
          (some ((Val.mk 0 0 ([] : Bs) ([] : List Val) ([] : List Bs)), false, (GJsonReader.mk s1.1 s1.2.1))).bind fun z =>
          some (Lp.ret z)
        else
          (m_impl_jsonReader_value k (GJsonReader.mk s1.1 s1.2.1) (d - 1)).bind fun y4 =>
          if y4.2.1 = true then
            if (nms ++ [y3.1]).length * 16 ≤ 140737488355328 then
              if (acc ++ [y4.1]).length * 80 ≤ 140737488355328 then
                (m_impl_jsonReader_sign k y4.2.2 125).bind fun y5 =>
                if y5.1 = true then
                  (some ((Val.mk 5 0 ([] : Bs) (acc ++ [y4.1]) (nms ++ [y3.1])), true, y5.2)).bind fun z =>
                  some (Lp.ret z)
                else
                  (m_impl_jsonReader_sign k y5.2 44).bind fun y6 =>
                  if y6.1 = true then
                    m_impl_jsonReader_tree_l1 k d y6.2.text y6.2.at_ (acc ++ [y4.1]) (nms ++ [y3.1])
                  else
                    (some ((Val.mk 0 0 ([] : Bs) ([] : List Val) ([] : List Bs)), false, y6.2)).bind fun z =>
                    some (Lp.ret z)
              else none
            else none
          else
            (some ((Val.mk 0 0 ([] : Bs) ([] : List Val) ([] : List Bs)), false, y4.2.2)).bind fun z =>
            some (Lp.ret z)) r → Ev (fun k => m_impl_jsonReader_tree_l1 k d (pre ++ rest) (pre.length : Int) acc nms) r := by
      intro r h
      rw [ev_shift]; simp only [m_impl_jsonReader_tree_l1]
      have hbl : Ev (fun k => m_impl_jsonReader_blanks k (GJsonReader.mk (pre ++ rest) (pre.length : Int))) (At (pre ++ rest.takeWhile blk) (rest.dropWhile blk)) := hbl
      rw [wrap_id (n := d - 1) (by omega), evC hbl]
      simp only [At]
      rw [← hw0] at h
      exact h
    have sbeg : ∀ s r, rest.dropWhile blk = 34 :: s → Ev (fun k => (m_spec_l1Text k s).bind fun y5 =>
        (m_spec_l1Blank k y5.2.1).bind fun y6 =>
        ((if y5.2.2 = true then
            if (y6.length : Int) = 0 then
              some (Lp.go true)
            else
              if (0 : Int) ≤ 0 ∧ 0 < (y6.length : Int) then
                some (Lp.go (!(decide ((byt y6 0) = 58))))
              else none
          else
            some (Lp.go true)).bind fun o7 =>
        o7.then fun s6 =>
          if s6 = true then
            ((some ((Val.mk 5 0 ([] : Bs) acc nms), [], false)).bind fun z =>
              some (Lp.ret z)).bind fun z =>
            some (Lp.ret z)
          else
            if (nms ++ [y5.1]).length * 16 ≤ 140737488355328 then
              if (0 : Int) ≤ 1 ∧ (1 : Int) ≤ (y6.length : Int) ∧ (y6.length : Int) ≤ (y6.length : Int) then
                some (Lp.go (sub y6 1 (y6.length : Int), nms ++ [y5.1]))
              else none
            else none).bind fun o4 =>
        o4.then fun s3 =>
        (m_spec_l1Read k s3.1 (d - 1)).bind fun y2 =>
        (m_spec_l1Blank k y2.2.1).bind fun y3 =>
        (if y2.2.2 = true then
            if (y3.length : Int) = 0 then
              some (Lp.go true)
            else
              some (Lp.go (decide (12 ≤ (acc.length : Int))))
          else
            some (Lp.go true)).bind fun o5 =>
        o5.then fun s4 =>
        if s4 = true then
          (some ((Val.mk 5 0 ([] : Bs) acc s3.2), [], false)).bind fun z =>
          some (Lp.ret z)
        else
          if (acc ++ [y2.1]).length * 80 ≤ 140737488355328 then
            if (0 : Int) ≤ 0 ∧ 0 < (y3.length : Int) then
              if (byt y3 0) = 125 then
                if (0 : Int) ≤ 1 ∧ (1 : Int) ≤ (y3.length : Int) ∧ (y3.length : Int) ≤ (y3.length : Int) then
                  (some ((Val.mk 5 0 ([] : Bs) (acc ++ [y2.1]) s3.2), sub y3 1 (y3.length : Int), true)).bind fun z =>
                  some (Lp.ret z)
                else none
              else
                if (0 : Int) ≤ 0 ∧ 0 < (y3.length : Int) then
                  if (byt y3 0) = 44 then
                    if (0 : Int) ≤ 1 ∧ (1 : Int) ≤ (y3.length : Int) ∧ (y3.length : Int) ≤ (y3.length : Int) then
                      (m_spec_l1Blank k (sub y3 1 (y3.length : Int))).bind fun y4 =>
                      m_spec_l1Items_l1 k 125 d 5 y4 (acc ++ [y2.1]) s3.2
                    else none
                  else
                    (some ((Val.mk 5 0 ([] : Bs) (acc ++ [y2.1]) s3.2), [], false)).bind fun z =>
                    some (Lp.ret z)
                else none
            else none
          else none) r → Ev (fun k => m_spec_l1Items_l1 k 125 d 5 (rest.dropWhile blk) acc nms) r := by
      intro s r hs h
      rw [hs, ev_shift]; simp only [m_spec_l1Items_l1]
      have hc : ((34 :: s : Bs).length : Int) = s.length + 1 := by simp
      rw [evbT trivial, byt_head, hc, sub_one, wrap_id (n := d - 1) (by omega)]
      simp only [Option.bind_assoc]
      rw [evbF (by omega), evbT (by omega), evbS]
      simp only [thenG]
      rw [evbF (by simp), evbT (by omega)]
      simp only [Option.bind_assoc] at h ⊢
      exact h
    cases hq : rdQ (rest.dropWhile blk) with
    | none =>
      rw [hq] at htx
      have htx : Ev (fun k => m_impl_textAt k ((pre ++ rest.takeWhile blk) ++ rest.dropWhile blk) (((pre ++ rest.takeWhile blk).length : Nat) : Int)) (([] : Bs), (((pre ++ rest.takeWhile blk).length : Nat) : Int), false) := htx
      refine nofail _ _ hw0 (ibeg _ ?_) ?_
      · rw [evC htx]
        simp only
        rw [evbF (by simp), evbS]
        simp only [thenG]
        rw [evT trivial, evbS, evS]
        congr 1; congr 1; congr 1
        unfold At; rw [hw0]
      · cases h0 : rest.dropWhile blk with
        | nil =>
          rw [ev_shift]; simp only [m_spec_l1Items_l1]
          rw [evbT (by simp)]
          simp only [Option.bind_assoc]
          rw [evbT (by simp), evbS]
          simp only [thenG]
          rw [evbT trivial]
          exact ev_some _
        | cons b s =>
          by_cases hb34 : b = 34
          · subst hb34
            rw [h0, rdQ, if_pos rfl] at hq
            have hst := ev_sText s (by rw [h0, List.length_cons] at hdl; omega)
            rw [hq] at hst
            have hst : Ev (fun k => m_spec_l1Text k s) (([] : Bs), ([] : Bs), false) := hst
            rw [← h0]
            refine sbeg s _ h0 ?_
            rw [evC hst]
            simp only
            rw [evC (ev_sBlank [] (by simp))]
            simp only [Option.bind_assoc]
            rw [evbF (by simp), evbS]
            simp only [thenG]
            rw [evbT trivial]
            exact ev_some _
          · have hb34' : ¬ (b.toNat : Int) = 34 := fun e => hb34 ((nat_eq b 34).1 e)
            rw [ev_shift]; simp only [m_spec_l1Items_l1]
            have hc : ((b :: s : Bs).length : Int) = s.length + 1 := by simp
            rw [evbT (by simp), byt_head, hc]
            simp only [Option.bind_assoc]
            rw [evbF (by omega), evbT (by omega), evbS]
            simp only [thenG]
            rw [evbT (by simp [hb34'])]
            exact ev_some _
    | some o =>
      obtain ⟨nm, r1⟩ := o
      rw [hq] at htx
      have htx : Ev (fun k => m_impl_textAt k ((pre ++ rest.takeWhile blk) ++ rest.dropWhile blk) (((pre ++ rest.takeWhile blk).length : Nat) : Int)) (nm, (((pre ++ rest.takeWhile blk).length : Nat) : Int) + (rest.dropWhile blk).length - (r1.length : Int), true) := htx
      obtain ⟨⟨p1', hp1'⟩, hlen1⟩ := rdQ_suf hq
      obtain ⟨s, hs34, hs⟩ : ∃ s, rest.dropWhile blk = 34 :: s ∧ rdT (s.length + 1) s = some (nm, r1) := by
        cases h0 : rest.dropWhile blk with
        | nil => rw [h0] at hq; cases hq
        | cons b s =>
          rw [h0, rdQ] at hq
          split at hq
          · rename_i e; subst e; exact ⟨s, rfl, hq⟩
          · cases hq
      have hst := ev_sText s (by rw [hs34, List.length_cons] at hdl; omega)
      rw [hs] at hst
      have hst : Ev (fun k => m_spec_l1Text k s) (nm, r1, true) := hst
      have hw1 : (pre ++ rest.takeWhile blk ++ p1') ++ r1 = pre ++ rest := by rw [List.append_assoc, hp1', hw0]
      generalize hp1 : pre ++ rest.takeWhile blk ++ p1' = p1 at hw1
      have hpl1 : p1.length + r1.length = pre.length + rest.length := by rw [← List.length_append, hw1, List.length_append]
      have hpos : (⟨pre ++ rest, (((pre ++ rest.takeWhile blk).length : Nat) : Int) + (rest.dropWhile blk).length - (r1.length : Int)⟩ : GJsonReader) = At p1 r1 := by
        rw [← place_at hw1]; congr 1; rw [show (pre ++ rest).length = pre.length + rest.length from List.length_append]; omega
      have hs58 : Ev (fun k => m_impl_jsonReader_sign k (At p1 r1) 58) (signO p1 r1 58) := ev_sign p1 r1 58 (by omega)
      have hdl1 := drop_le r1
      have colfail : ∀ p r, p ++ r = pre ++ rest → signO p1 r1 58 = (false, At p r) → (r1.dropWhile blk = [] ∨ ∃ b r2, r1.dropWhile blk = b :: r2 ∧ b ≠ 58) →
          ∃ oi os x y, Ev (fun k => m_impl_jsonReader_tree_l1 k d (pre ++ rest) (pre.length : Int) acc nms) (.ret x) ∧ IRes (pre ++ rest) x oi ∧ Ev (fun k => m_spec_l1Items_l1 k 125 d 5 (rest.dropWhile blk) acc nms) (.ret y) ∧ SRes y os ∧ Rel2 oi os ∧ ∀ v r, oi = some (v, r) → Bd 1048576 v ∧ r.length < rest.length ∧ ∃ tl, v.list = acc ++ tl := by
        intro p r hpr hsg hcase
        refine nofail p r hpr (ibeg _ ?_) (sbeg s _ hs34 ?_)
        · rw [evC htx]
          simp only
          rw [evbT trivial, hpos]
          simp only [Option.bind_assoc]
          rw [evC hs58, hsg, evbS]
          simp only [thenG]
          rw [evT (by simp), evbS, evS]
        · rw [evC hst]
          simp only
          rw [evC (ev_sBlank r1 (by omega))]
          simp only [Option.bind_assoc]
          rw [evbT trivial]
          rcases hcase with h | ⟨b, r2, h, hne⟩
          · rw [h, evbT (by simp), evbS]
            simp only [thenG]
            rw [evbT trivial]
            exact ev_some _
          · have hne' : ¬ (b.toNat : Int) = 58 := fun e => hne ((nat_eq b 58).1 e)
            have hc : ((b :: r2 : Bs).length : Int) = r2.length + 1 := by simp
            rw [h, byt_head, hc, evbF (by omega), evbT (by omega), evbS]
            simp only [thenG]
            rw [evbT (by simp [hne'])]
            exact ev_some _
      cases hd1 : r1.dropWhile blk with
      | nil =>
        refine colfail (p1 ++ r1.takeWhile blk) [] ?_ (sign_none _ _ hd1) (.inl hd1)
        rw [List.append_nil, ← hw1]; congr 1; have := drop_split r1; rw [hd1, List.append_nil] at this; exact this
      | cons b0 r2 =>
        have hw2 : (p1 ++ r1.takeWhile blk ++ [b0]) ++ r2 = pre ++ rest := by
          rw [← hw1, List.append_assoc, List.append_assoc]; congr 1
          have := drop_split r1; rw [hd1] at this; simpa using this
        by_cases hb58 : b0 = 58
        · subst hb58
          have hsg := sign_some p1 58 hd1
          rw [if_pos rfl] at hsg
          rw [hsg] at hs58
          generalize hp2 : p1 ++ r1.takeWhile blk ++ [58] = p2 at hw2 hs58
          have hpl2 : p2.length + r2.length = pre.length + rest.length := by rw [← List.length_append, hw2, List.length_append]
          have hr2 : r2.length + 1 ≤ r1.length := by rw [hd1, List.length_cons] at hdl1; exact hdl1
          have hn16 : (nms ++ [nm]).length * 16 ≤ 140737488355328 := by simp only [List.length_append, List.length_cons, List.length_nil]; omega
          have hnl : (nms ++ [nm]).length = acc.length + 1 := by simp [hn]
          have hbn2 : ∀ s ∈ nms ++ [nm], s.length ≤ 1048576 := by
            intro x hx
            rcases List.mem_append.1 hx with h | h
            · exact hbn x h
            · simp only [List.mem_cons, List.not_mem_nil, or_false] at h; subst h; omega
          have istep : ∀ r, Ev (fun k => (m_impl_jsonReader_value k (At p2 r2) (d - 1)).bind fun y4 =>
              if y4.2.1 = true then
                if (nms ++ [nm]).length * 16 ≤ 140737488355328 then
                  if (acc ++ [y4.1]).length * 80 ≤ 140737488355328 then
                    (m_impl_jsonReader_sign k y4.2.2 125).bind fun y5 =>
                    if y5.1 = true then
                      (some ((Val.mk 5 0 ([] : Bs) (acc ++ [y4.1]) (nms ++ [nm])), true, y5.2)).bind fun z =>
                      some (Lp.ret z)
                    else
                      (m_impl_jsonReader_sign k y5.2 44).bind fun y6 =>
                      if y6.1 = true then
                        m_impl_jsonReader_tree_l1 k d y6.2.text y6.2.at_ (acc ++ [y4.1]) (nms ++ [nm])
                      else
                        (some ((Val.mk 0 0 ([] : Bs) ([] : List Val) ([] : List Bs)), false, y6.2)).bind fun z =>
                        some (Lp.ret z)
                  else none
                else none
              else
                (some ((Val.mk 0 0 ([] : Bs) ([] : List Val) ([] : List Bs)), false, y4.2.2)).bind fun z =>
                some (Lp.ret z)) r → Ev (fun k => m_impl_jsonReader_tree_l1 k d (pre ++ rest) (pre.length : Int) acc nms) r := by
            intro r h
            refine ibeg _ ?_
            rw [evC htx]
            simp only
            rw [evbT trivial, hpos]
            simp only [Option.bind_assoc]
            rw [evC hs58, evbS]
            simp only [thenG]
            rw [evF (by simp)]
            exact h
          have sstep : ∀ r, Ev (fun k => (m_spec_l1Read k r2 (d - 1)).bind fun y2 =>
              (m_spec_l1Blank k y2.2.1).bind fun y3 =>
              (if y2.2.2 = true then
                  if (y3.length : Int) = 0 then
                    some (Lp.go true)
                  else
                    some (Lp.go (decide (12 ≤ (acc.length : Int))))
                else
                  some (Lp.go true)).bind fun o5 =>
              o5.then fun s4 =>
              if s4 = true then
                (some ((Val.mk 5 0 ([] : Bs) acc (nms ++ [nm])), [], false)).bind fun z =>
                some (Lp.ret z)
              else
                if (acc ++ [y2.1]).length * 80 ≤ 140737488355328 then
                  if (0 : Int) ≤ 0 ∧ 0 < (y3.length : Int) then
                    if (byt y3 0) = 125 then
                      if (0 : Int) ≤ 1 ∧ (1 : Int) ≤ (y3.length : Int) ∧ (y3.length : Int) ≤ (y3.length : Int) then
                        (some ((Val.mk 5 0 ([] : Bs) (acc ++ [y2.1]) (nms ++ [nm])), sub y3 1 (y3.length : Int), true)).bind fun z =>
                        some (Lp.ret z)
                      else none
                    else
                      if (0 : Int) ≤ 0 ∧ 0 < (y3.length : Int) then
                        if (byt y3 0) = 44 then
                          if (0 : Int) ≤ 1 ∧ (1 : Int) ≤ (y3.length : Int) ∧ (y3.length : Int) ≤ (y3.length : Int) then
                            (m_spec_l1Blank k (sub y3 1 (y3.length : Int))).bind fun y4 =>
                            m_spec_l1Items_l1 k 125 d 5 y4 (acc ++ [y2.1]) (nms ++ [nm])
                          else none
                        else
                          (some ((Val.mk 5 0 ([] : Bs) (acc ++ [y2.1]) (nms ++ [nm])), [], false)).bind fun z =>
                          some (Lp.ret z)
                      else none
                  else none
                else none) r → Ev (fun k => m_spec_l1Items_l1 k 125 d 5 (rest.dropWhile blk) acc nms) r := by
            intro r h
            refine sbeg s _ hs34 ?_
            rw [evC hst]
            simp only
            rw [evC (ev_sBlank r1 (by omega)), hd1]
            have hc : ((58 :: r2 : Bs).length : Int) = r2.length + 1 := by simp
            rw [byt_head, hc, sub_one]
            simp only [Option.bind_assoc]
            rw [evbT trivial, evbF (by omega), evbT (by omega), evbS]
            simp only [thenG]
            rw [evbF (by simp), evbT hn16, evbT (by omega), evbS]
            simp only [thenG, Option.bind_assoc] at h ⊢
            exact h
          exact tree_tail hA d hd hd2 (fun rest pre acc nms a1 a2 a3 a4 a5 a6 => tree_loop hA d hd hd2 m rest pre acc nms a1 (by omega) a2 a3 a4 a5 a6) hw2 (by omega) (by omega) (by omega) (by omega) hl hnl hb hbn2 istep sstep
        · exact colfail (p1 ++ r1.takeWhile blk) (b0 :: r2) (by rw [← hw2]; simp) (by rw [sign_some _ _ hd1, if_neg hb58]) (.inr ⟨b0, r2, hd1, hb58⟩)
end Go.Proofs.Ytiaigcdckmpepaa
end
section
/-! Values. -/
set_option linter.unusedVariables false
set_option linter.unusedSimpArgs false
set_option linter.unnecessarySimpa false
namespace Go.Proofs.Ytiaigcdckmpepaa
open Go.Bb

theorem list_both {n : Nat} (hA : ValOk n) (d : Int) (hd : 1 ≤ d) (hd2 : d ≤ 1000) (s q : Bs) (hs : s.length < n) (hl : q.length + s.length ≤ 1048576) :
    ∃ oi os x y, Ev (fun k => m_impl_jsonReader_list k (At q s) d) x ∧ IRes (q ++ s) x oi ∧ Ev (fun k => m_spec_l1Items k s 93 d) y ∧ SRes y os ∧ Rel2 oi os ∧ ∀ v r, oi = some (v, r) → Bd 1048576 v ∧ r.length ≤ s.length := by
  have hdl := drop_le s
  have hw0 : (q ++ s.takeWhile blk) ++ s.dropWhile blk = q ++ s := by rw [List.append_assoc, drop_split]
  have hp0 : (q ++ s.takeWhile blk).length + (s.dropWhile blk).length = q.length + s.length := by rw [← List.length_append, hw0, List.length_append]
  have hsg : Ev (fun k => m_impl_jsonReader_sign k (At q s) 93) (signO q s 93) := ev_sign q s 93 hl
  have hv0 : Bd 1048576 (.mk 4 0 [] [] []) := .mk _ (by simp) (by simp) (by simp) (by simp) (by simp)
  -- not empty
  have go : signO q s 93 = (false, At (q ++ s.takeWhile blk) (s.dropWhile blk)) → Ev (fun _ : Nat => (if 0 < ((s.dropWhile blk).length : Int) then if (0 : Int) ≤ 0 ∧ 0 < ((s.dropWhile blk).length : Int) then some (Lp.go (β := Val × Bs × Bool) (decide ((byt (s.dropWhile blk) 0) = 93))) else none else some (Lp.go false))) (.go false) →
      ∃ oi os x y, Ev (fun k => m_impl_jsonReader_list k (At q s) d) x ∧ IRes (q ++ s) x oi ∧ Ev (fun k => m_spec_l1Items k s 93 d) y ∧ SRes y os ∧ Rel2 oi os ∧ ∀ v r, oi = some (v, r) → Bd 1048576 v ∧ r.length ≤ s.length := by
    intro e hh
    obtain ⟨oi, os, x, y, h1, h2, h3, h4, h5, h6⟩ := list_loop hA d hd hd2 n (s.dropWhile blk) (q ++ s.takeWhile blk) [] (by omega) (Nat.le_refl _) (by omega) (by simp) (by simp)
    rw [hw0] at h2
    rw [blank_idem] at h3
    refine ⟨oi, os, x, y, ?_, h2, ?_, h4, h5, fun v r h => ⟨(h6 v r h).1, by have := (h6 v r h).2.1; omega⟩⟩
    · rw [ev_shift]; simp only [m_impl_jsonReader_list]
      rw [evC hsg, e, evF (by simp)]
      exact Ev.ret h1
    · rw [ev_shift]; simp only [m_spec_l1Items]
      rw [evbF (by omega), evbS]
      simp only [thenG]
      rw [evC (ev_sBlank s (by omega))]
      refine Ev.go hh ?_
      rw [evF (by simp)]
      exact Ev.ret h3
  cases h0 : s.dropWhile blk with
  | nil => exact go (by rw [sign_none _ _ h0, h0]) (by rw [h0]; rw [evF (by simp)]; exact ev_some _)
  | cons b r =>
    by_cases hb : b = 93
    · subst hb
      have e := sign_some q 93 h0
      rw [if_pos rfl] at e
      rw [e] at hsg
      have hw : (q ++ s.takeWhile blk ++ [93]) ++ r = q ++ s := by rw [← hw0, h0]; simp
      rw [h0, List.length_cons] at hdl
      refine ⟨some (.mk 4 0 [] [] [], r), some (.mk 4 0 [] [] [], r), _, _, ?_, ⟨_, hw, rfl⟩, ?_, rfl, .inl rfl, fun v r' h => by cases h; exact ⟨hv0, by omega⟩⟩
      · rw [ev_shift]; simp only [m_impl_jsonReader_list]
        rw [evC hsg, evT rfl]
        exact ev_some _
      · rw [ev_shift]; simp only [m_spec_l1Items]
        rw [evbF (by omega), evbS]
        simp only [thenG]
        have hc : ((93 :: r : Bs).length : Int) = r.length + 1 := by simp
        rw [evC (ev_sBlank s (by omega)), h0, byt_head, hc, sub_one, evbT (by omega), evbT (by omega), evbS]
        simp only [thenG]
        rw [evT (by simp), evT (by omega)]
        exact ev_some _
    · have hb' : ¬ (b.toNat : Int) = 93 := fun e => hb ((nat_eq b 93).1 e)
      refine go (by rw [sign_some _ _ h0, if_neg hb, h0]) ?_
      rw [h0, byt_head, evT (by simp), evT (by simp)]
      simp only [hb', decide_false]
      exact ev_some _
theorem tree_both2 {n : Nat} (hA : ValOk n) (d : Int) (hd : 1 ≤ d) (hd2 : d ≤ 1000) (s q : Bs) (hs : s.length < n) (hl : q.length + s.length ≤ 1048576) :
    ∃ oi os x y, Ev (fun k => m_impl_jsonReader_tree k (At q s) d) x ∧ IRes (q ++ s) x oi ∧ Ev (fun k => m_spec_l1Items k s 125 d) y ∧ SRes y os ∧ Rel2 oi os ∧ ∀ v r, oi = some (v, r) → Bd 1048576 v ∧ r.length ≤ s.length := by
  have hdl := drop_le s
  have hw0 : (q ++ s.takeWhile blk) ++ s.dropWhile blk = q ++ s := by rw [List.append_assoc, drop_split]
  have hp0 : (q ++ s.takeWhile blk).length + (s.dropWhile blk).length = q.length + s.length := by rw [← List.length_append, hw0, List.length_append]
  have hsg : Ev (fun k => m_impl_jsonReader_sign k (At q s) 125) (signO q s 125) := ev_sign q s 125 hl
  have hv0 : Bd 1048576 (.mk 5 0 [] [] []) := .mk _ (by simp) (by simp) (by simp) (by simp) (by simp)
  have go : signO q s 125 = (false, At (q ++ s.takeWhile blk) (s.dropWhile blk)) → Ev (fun _ : Nat => (if 0 < ((s.dropWhile blk).length : Int) then if (0 : Int) ≤ 0 ∧ 0 < ((s.dropWhile blk).length : Int) then some (Lp.go (β := Val × Bs × Bool) (decide ((byt (s.dropWhile blk) 0) = 125))) else none else some (Lp.go false))) (.go false) →
      ∃ oi os x y, Ev (fun k => m_impl_jsonReader_tree k (At q s) d) x ∧ IRes (q ++ s) x oi ∧ Ev (fun k => m_spec_l1Items k s 125 d) y ∧ SRes y os ∧ Rel2 oi os ∧ ∀ v r, oi = some (v, r) → Bd 1048576 v ∧ r.length ≤ s.length := by
    intro e hh
    obtain ⟨oi, os, x, y, h1, h2, h3, h4, h5, h6⟩ := tree_loop hA d hd hd2 n (s.dropWhile blk) (q ++ s.takeWhile blk) [] [] (by omega) (Nat.le_refl _) (by omega) (by simp) rfl (by simp) (by simp)
    rw [hw0] at h2
    rw [blank_idem] at h3
    refine ⟨oi, os, x, y, ?_, h2, ?_, h4, h5, fun v r h => ⟨(h6 v r h).1, by have := (h6 v r h).2.1; omega⟩⟩
    · rw [ev_shift]; simp only [m_impl_jsonReader_tree]
      rw [evC hsg, e, evF (by simp)]
      exact Ev.ret h1
    · rw [ev_shift]; simp only [m_spec_l1Items]
      rw [evbT trivial, evbS]
      simp only [thenG]
      rw [evC (ev_sBlank s (by omega))]
      refine Ev.go hh ?_
      rw [evF (by simp)]
      exact Ev.ret h3
  cases h0 : s.dropWhile blk with
  | nil => exact go (by rw [sign_none _ _ h0, h0]) (by rw [h0]; rw [evF (by simp)]; exact ev_some _)
  | cons b r =>
    by_cases hb : b = 125
    · subst hb
      have e := sign_some q 125 h0
      rw [if_pos rfl] at e
      rw [e] at hsg
      have hw : (q ++ s.takeWhile blk ++ [125]) ++ r = q ++ s := by rw [← hw0, h0]; simp
      rw [h0, List.length_cons] at hdl
      refine ⟨some (.mk 5 0 [] [] [], r), some (.mk 5 0 [] [] [], r), _, _, ?_, ⟨_, hw, rfl⟩, ?_, rfl, .inl rfl, fun v r' h => by cases h; exact ⟨hv0, by omega⟩⟩
      · rw [ev_shift]; simp only [m_impl_jsonReader_tree]
        rw [evC hsg, evT rfl]
        exact ev_some _
      · rw [ev_shift]; simp only [m_spec_l1Items]
        rw [evbT trivial, evbS]
        simp only [thenG]
        have hc : ((125 :: r : Bs).length : Int) = r.length + 1 := by simp
        rw [evC (ev_sBlank s (by omega)), h0, byt_head, hc, sub_one, evbT (by omega), evbT (by omega), evbS]
        simp only [thenG]
        rw [evT (by simp), evT (by omega)]
        exact ev_some _
    · have hb' : ¬ (b.toNat : Int) = 125 := fun e => hb ((nat_eq b 125).1 e)
      refine go (by rw [sign_some _ _ h0, if_neg hb, h0]) ?_
      rw [h0, byt_head, evT (by simp), evT (by simp)]
      simp only [hb', decide_false]
      exact ev_some _

abbrev wNull : Bs := [110, 117, 108, 108]
abbrev wTrue : Bs := [116, 114, 117, 101]
abbrev wFalse : Bs := [102, 97, 108, 115, 101]
theorem numI_none {b : UInt8} {s : Bs} (h1 : b ≠ 45) (h2 : fig b = false) : numI (b :: s) = none := by
  have h3 : sgnOf (b :: s) = (false, b :: s) := by unfold sgnOf; simp [h1]
  unfold numI
  rw [h3]
  have h4 : (b :: s).takeWhile fig = [] := by rw [List.takeWhile_cons, if_neg (by simp [h2])]
  simp only
  rw [h4]
  unfold numI2
  rw [if_pos (.inl rfl)]
theorem numI_suf {s r : Bs} {v : Int} (h : numI s = some (v, r)) : (∃ p, p ++ r = s) ∧ r.length < s.length := by
  unfold numI at h
  have hs : ∃ sb, sb ++ (sgnOf s).2 = s := by
    cases s with
    | nil => exact ⟨[], rfl⟩
    | cons b t =>
      unfold sgnOf
      by_cases hb : b = 45
      · exact ⟨[45], by simp [hb]⟩
      · exact ⟨[], by simp [hb]⟩
  obtain ⟨sb, hsb⟩ := hs
  generalize (sgnOf s).2 = t at h hsb
  generalize (sgnOf s).1 = neg at h
  have htd : t.takeWhile fig ++ t.dropWhile fig = t := List.takeWhile_append_dropWhile
  unfold numI2 at h
  split at h
  · cases h
  · rename_i hc
    cases h
    refine ⟨⟨sb ++ t.takeWhile fig, by rw [List.append_assoc, htd, hsb]⟩, ?_⟩
    have h1 : 0 < (t.takeWhile fig).length := List.length_pos_iff.2 fun e => hc (.inl e)
    have h2 : (t.takeWhile fig).length + (t.dropWhile fig).length = t.length := by rw [← List.length_append, htd]
    have h3 : sb.length + t.length = s.length := by rw [← List.length_append, hsb]
    omega

theorem bind_eta {α β γ : Type} (o : Option (α × β × γ)) : (o.bind fun y => some (y.1, y.2.1, y.2.2)) = o := by cases o <;> rfl

theorem val_step {n : Nat} (hA : ValOk n) : ValOk (n + 1) := by
  intro rest pre d hn hl hd0 hd2
  have hdl := drop_le rest
  have hw0 : (pre ++ rest.takeWhile blk) ++ rest.dropWhile blk = pre ++ rest := by rw [List.append_assoc, drop_split]
  have hbl := ev_blanks pre rest hl
  have hp0 : (pre ++ rest.takeWhile blk).length + (rest.dropWhile blk).length = pre.length + rest.length := by rw [← List.length_append, hw0, List.length_append]
  have fail : Ev (fun k => m_impl_jsonReader_value k (At pre rest) d) (.mk 0 0 [] [] [], false, At (pre ++ rest.takeWhile blk) (rest.dropWhile blk)) → Ev (fun k => m_spec_l1Read k rest d) (.mk 0 0 [] [] [], [], false) →
      ∃ oi os x y, Ev (fun k => m_impl_jsonReader_value k (At pre rest) d) x ∧ IRes (pre ++ rest) x oi ∧ Ev (fun k => m_spec_l1Read k rest d) y ∧ SRes y os ∧ Rel2 oi os ∧ ∀ v r, oi = some (v, r) → Bd 1048576 v ∧ r.length < rest.length :=
    fun h1 h2 => ⟨none, none, _, _, h1, ⟨_, _, _, hw0, rfl⟩, h2, ⟨_, rfl⟩, .inl rfl, fun v r h => by cases h⟩
  by_cases hd1 : d < 1
  · refine fail ?_ ?_
    · rw [ev_shift]; simp only [m_impl_jsonReader_value]
      rw [evC hbl, evbT hd1, evbS]
      simp only [thenG]
      rw [evT trivial]
      exact ev_some _
    · rw [ev_shift]; simp only [m_spec_l1Read]
      rw [evC (ev_sBlank rest (by omega))]
      by_cases h0 : ((rest.dropWhile blk).length : Int) = 0
      · rw [evbT h0, evbS]; simp only [thenG]; rw [evT trivial]; exact ev_some _
      · rw [evbF h0, evbS]; simp only [thenG]; rw [evT (by simpa using hd1)]; exact ev_some _
  cases h0 : rest.dropWhile blk with
  | nil =>
    refine fail ?_ ?_
    · rw [ev_shift]; simp only [m_impl_jsonReader_value]
      rw [evC hbl, evbF hd1, evbS]
      simp only [thenG]
      rw [evT (by rw [h0]; simp [At])]
      exact ev_some _
    · rw [ev_shift]; simp only [m_spec_l1Read]
      rw [evC (ev_sBlank rest (by omega)), h0, evbT (by simp), evbS]; simp only [thenG]; rw [evT trivial]; exact ev_some _
  | cons b s =>
    rw [h0, List.length_cons] at hdl
    rw [h0, List.length_cons] at hp0
    rw [h0] at hw0 hbl
    have hnb := drop_head h0
    generalize pre ++ rest.takeWhile blk = p0 at hw0 hbl hp0
    have hll : p0.length + (b :: s : Bs).length ≤ 1048576 := by rw [List.length_cons]; omega
    have hc : ((b :: s : Bs).length : Int) = s.length + 1 := by simp
    have hword : ∀ w, m_impl_jsonReader_word (At p0 (b :: s)) w = some (if w <+: (b :: s) then (true, At (p0 ++ w) ((b :: s).drop w.length)) else (false, At p0 (b :: s))) := fun w => word_at p0 (b :: s) w hll
    have hs91 : Ev (fun k => m_impl_jsonReader_sign k (At p0 (b :: s)) 91) (signO p0 (b :: s) 91) := ev_sign p0 (b :: s) 91 hll
    have hs123 : Ev (fun k => m_impl_jsonReader_sign k (At p0 (b :: s)) 123) (signO p0 (b :: s) 123) := ev_sign p0 (b :: s) 123 hll
    rw [sign_nb _ _ _ _ hnb] at hs91 hs123
    have hne : ∀ c : UInt8, b ≠ c → ¬ (b.toNat : Int) = (c.toNat : Int) := fun c h e => h ((nat_eq b c).1 e)
    -- the program
    have ibeg : ∀ x, Ev (fun k => if wNull <+: (b :: s) then some (.mk 0 0 [] [] [], true, At (p0 ++ wNull) ((b :: s).drop 4)) else if wTrue <+: (b :: s) then some (.mk 1 1 [] [] [], true, At (p0 ++ wTrue) ((b :: s).drop 4)) else if wFalse <+: (b :: s) then some (.mk 1 0 [] [] [], true, At (p0 ++ wFalse) ((b :: s).drop 5)) else if b = 91 then m_impl_jsonReader_list k (At (p0 ++ [b]) s) d else if b = 123 then m_impl_jsonReader_tree k (At (p0 ++ [b]) s) d else if b = 34 then (m_impl_textAt k (p0 ++ b :: s) (p0.length : Int)).bind fun y9 => some (.mk 3 0 y9.1 [] [], y9.2.2, ⟨p0 ++ b :: s, y9.2.1⟩) else (m_impl_numAt k (p0 ++ b :: s) (p0.length : Int)).bind fun y10 => some (.mk 2 y10.1 [] [] [], y10.2.2, ⟨p0 ++ b :: s, y10.2.1⟩)) x → Ev (fun k => m_impl_jsonReader_value k (At pre rest) d) x := by
      intro x h
      rw [ev_shift]; simp only [m_impl_jsonReader_value]
      rw [evC hbl, evbF hd1, evbS]
      simp only [thenG]
      rw [evF (by simp only [At, List.length_append, List.length_cons, decide_eq_true_eq]; omega), hword, evbS]
      by_cases c1 : wNull <+: (b :: s)
      · rw [evT c1] at h
        rw [if_pos c1, evT rfl]; exact h
      · rw [evF c1] at h
        rw [if_neg c1, evF (by simp), hword, evbS]
        by_cases c2 : wTrue <+: (b :: s)
        · rw [evT c2] at h
          rw [if_pos c2, evT rfl]; exact h
        · rw [evF c2] at h
          rw [if_neg c2, evF (by simp), hword, evbS]
          by_cases c3 : wFalse <+: (b :: s)
          · rw [evT c3] at h
            rw [if_pos c3, evT rfl]; exact h
          · rw [evF c3] at h
            rw [if_neg c3, evF (by simp), evC hs91]
            by_cases c4 : b = 91
            · rw [evT c4] at h
              rw [if_pos c4, evT rfl]
              have e : (fun k => (m_impl_jsonReader_list k (At (p0 ++ [b]) s) d).bind fun y6 => some (y6.1, y6.2.1, y6.2.2)) = fun k => m_impl_jsonReader_list k (At (p0 ++ [b]) s) d := by funext k; exact bind_eta _
              exact e ▸ h
            · rw [evF c4] at h
              rw [if_neg c4, evF (by simp), evC hs123]
              by_cases c5 : b = 123
              · rw [evT c5] at h
                rw [if_pos c5, evT rfl]
                have e : (fun k => (m_impl_jsonReader_tree k (At (p0 ++ [b]) s) d).bind fun y8 => some (y8.1, y8.2.1, y8.2.2)) = fun k => m_impl_jsonReader_tree k (At (p0 ++ [b]) s) d := by funext k; exact bind_eta _
                exact e ▸ h
              · rw [evF c5] at h
                rw [if_neg c5, evF (by simp), evT (by simp [At]; omega)]
                change Ev (fun k => if byt (p0 ++ b :: s) (p0.length : Int) = 34 then (m_impl_textAt k (p0 ++ b :: s) (p0.length : Int)).bind fun y9 => some (.mk 3 0 y9.1 [] [], y9.2.2, (⟨p0 ++ b :: s, y9.2.1⟩ : GJsonReader)) else (m_impl_numAt k (p0 ++ b :: s) (p0.length : Int)).bind fun y10 => some (.mk 2 y10.1 [] [] [], y10.2.2, (⟨p0 ++ b :: s, y10.2.1⟩ : GJsonReader))) x
                rw [byt_mid]
                by_cases c6 : b = 34
                · rw [evT c6] at h
                  rw [evT (show (b.toNat : Int) = 34 from (nat_eq b 34).2 c6)]; exact h
                · rw [evF c6] at h
                  rw [evF (show ¬ (b.toNat : Int) = 34 from hne 34 c6)]; exact h
    -- the reference
    have sbeg : ∀ y, Ev (fun k => if b = 34 then (m_spec_l1Text k s).bind fun y2 => some ((Val.mk 3 0 y2.1 ([] : List Val) ([] : List Bs)), y2.2.1, y2.2.2) else if b = 91 then m_spec_l1Items k s 93 d else if b = 123 then m_spec_l1Items k s 125 d else if b = 45 ∨ fig b = true then (m_spec_l1Whole k (b :: s)).bind fun y5 => some ((Val.mk 2 y5.1 ([] : Bs) ([] : List Val) ([] : List Bs)), y5.2.1, y5.2.2) else (m_spec_l1Word k (b :: s)).bind fun y6 => if y6 = [116, 114, 117, 101] then if (0 : Int) ≤ 4 ∧ (4 : Int) ≤ (s.length + 1 : Int) ∧ (s.length + 1 : Int) ≤ (s.length + 1 : Int) then some ((Val.mk 1 1 ([] : Bs) ([] : List Val) ([] : List Bs)), sub (b :: s) 4 (s.length + 1 : Int), true) else none else if y6 = [102, 97, 108, 115, 101] then if (0 : Int) ≤ 5 ∧ (5 : Int) ≤ (s.length + 1 : Int) ∧ (s.length + 1 : Int) ≤ (s.length + 1 : Int) then some ((Val.mk 1 0 ([] : Bs) ([] : List Val) ([] : List Bs)), sub (b :: s) 5 (s.length + 1 : Int), true) else none else if y6 = [110, 117, 108, 108] then if (0 : Int) ≤ 4 ∧ (4 : Int) ≤ (s.length + 1 : Int) ∧ (s.length + 1 : Int) ≤ (s.length + 1 : Int) then some ((Val.mk 0 0 ([] : Bs) ([] : List Val) ([] : List Bs)), sub (b :: s) 4 (s.length + 1 : Int), true) else none else some ((Val.mk 0 0 ([] : Bs) ([] : List Val) ([] : List Bs)), [], false)) y → Ev (fun k => m_spec_l1Read k rest d) y := by
      intro y h
      rw [ev_shift]; simp only [m_spec_l1Read]
      rw [evC (ev_sBlank rest (by omega)), h0, byt_head, hc, sub_one, evbF (by omega), evbS]
      simp only [thenG]
      rw [evF (by simpa using hd1), evT (by omega)]
      by_cases c1 : b = 34
      · rw [evT c1] at h
        rw [evT (show (b.toNat : Int) = 34 from (nat_eq b 34).2 c1), evT (by omega)]; exact h
      rw [evF c1] at h
      rw [evF (show ¬ (b.toNat : Int) = 34 from hne 34 c1), evT (by omega)]
      by_cases c2 : b = 91
      · rw [evT c2] at h
        rw [evT (show (b.toNat : Int) = 91 from (nat_eq b 91).2 c2), evT (by omega)]
        have e : (fun k => (m_spec_l1Items k s 93 d).bind fun y3 => some (y3.1, y3.2.1, y3.2.2)) = fun k => m_spec_l1Items k s 93 d := by funext k; exact bind_eta _
        exact e ▸ h
      rw [evF c2] at h
      rw [evF (show ¬ (b.toNat : Int) = 91 from hne 91 c2), evT (by omega)]
      by_cases c3 : b = 123
      · rw [evT c3] at h
        rw [evT (show (b.toNat : Int) = 123 from (nat_eq b 123).2 c3), evT (by omega)]
        have e : (fun k => (m_spec_l1Items k s 125 d).bind fun y4 => some (y4.1, y4.2.1, y4.2.2)) = fun k => m_spec_l1Items k s 125 d := by funext k; exact bind_eta _
        exact e ▸ h
      rw [evF c3] at h
      rw [evF (show ¬ (b.toNat : Int) = 123 from hne 123 c3), evbT (by omega)]
      have hsg : Ev (fun k => (if (b.toNat : Int) = 45 then some (Lp.go (β := Val × Bs × Bool) true) else if (0 : Int) ≤ 0 ∧ 0 < (s.length : Int) + 1 then (m_spec_l1Figure (b.toNat : Int)).bind fun y7 => some (Lp.go y7) else none)) (.go (decide (b = 45 ∨ fig b = true))) := by
        by_cases c4 : b = 45
        · rw [evT (show (b.toNat : Int) = 45 from (nat_eq b 45).2 c4)]; exact ev_eq (ev_some _) (by simp [c4])
        · rw [evF (show ¬ (b.toNat : Int) = 45 from hne 45 c4), evT (by omega), evC (ev_sFigure _)]; exact ev_eq (ev_some _) (by simp [c4, fig])
      refine Ev.go hsg ?_
      by_cases c5 : b = 45 ∨ fig b = true
      · rw [evT c5] at h
        rw [evT (by simpa using c5)]; exact h
      · rw [evF c5] at h
        rw [evF (by simpa using c5)]; exact h
    have pref : ∀ (c : UInt8) (w : Bs), b ≠ c → ¬ (c :: w) <+: (b :: s) := fun c w h hp => h (List.cons_prefix_cons.1 hp).1.symm
    by_cases c34 : b = 34
    · subst c34
      have htx := ev_iText p0 (34 :: s) (by rw [List.length_cons]; omega)
      have hst := ev_sText s (by omega)
      have hrq : rdQ (34 :: s) = rdT (s.length + 1) s := by rw [rdQ, if_pos rfl]
      rw [hrq] at htx
      have hi : ∀ x, Ev (fun k => (m_impl_textAt k (p0 ++ 34 :: s) (p0.length : Int)).bind fun y9 => some (.mk 3 0 y9.1 [] [], y9.2.2, ⟨p0 ++ 34 :: s, y9.2.1⟩)) x → Ev (fun k => m_impl_jsonReader_value k (At pre rest) d) x := by
        intro x h
        refine ibeg x ?_
        rw [evF (pref _ _ (by decide)), evF (pref _ _ (by decide)), evF (pref _ _ (by decide)), evF (by decide), evF (by decide), evT rfl]
        exact h
      have hs' : ∀ y, Ev (fun k => (m_spec_l1Text k s).bind fun y2 => some ((Val.mk 3 0 y2.1 ([] : List Val) ([] : List Bs)), y2.2.1, y2.2.2)) y → Ev (fun k => m_spec_l1Read k rest d) y := by
        intro y h
        refine sbeg y ?_
        rw [evT rfl]; exact h
      cases hr : rdT (s.length + 1) s with
      | none =>
        rw [hr] at htx hst
        refine ⟨none, none, _, _, hi _ (by rw [evC htx]; exact ev_some _), ⟨_, p0, 34 :: s, hw0, rfl⟩, hs' _ (by rw [evC hst]; exact ev_some _), ⟨_, rfl⟩, .inl rfl, fun v r h => by cases h⟩
      | some o =>
        obtain ⟨t, r⟩ := o
        rw [hr] at htx hst
        obtain ⟨⟨p1, hp1⟩, hlen⟩ := rdQ_suf (hrq.trans hr)
        have hw1 : (p0 ++ p1) ++ r = pre ++ rest := by rw [List.append_assoc, hp1, hw0]
        have hpl : (⟨p0 ++ 34 :: s, (p0.length : Int) + (34 :: s : Bs).length - (r.length : Int)⟩ : GJsonReader) = At (p0 ++ p1) r := by
          rw [hw0, ← place_at hw1]; congr 1; rw [← hw0, List.length_append]; omega
        rw [List.length_cons] at hlen
        refine ⟨some (.mk 3 0 t [] [], r), some (.mk 3 0 t [] [], r), _, _, hi _ (by rw [evC htx]; exact ev_some _), ⟨_, hw1, ?_⟩, hs' _ (by rw [evC hst]; exact ev_some _), rfl, .inl rfl, fun v r' h => by cases h; exact ⟨.mk _ (by show t.length ≤ _; omega) (by simp) (by simp) (by simp) (by simp), by omega⟩⟩
        show (Val.mk 3 0 t [] [], true, (⟨p0 ++ 34 :: s, (p0.length : Int) + (34 :: s : Bs).length - (r.length : Int)⟩ : GJsonReader)) = _
        rw [hpl]
    by_cases c91 : b = 91
    · subst c91
      obtain ⟨oi, os, x, y, h1, h2, h3, h4, h5, h6⟩ := list_both hA d (by omega) hd2 s (p0 ++ [91]) (by omega) (by simp only [List.length_append, List.length_cons, List.length_nil]; omega)
      have hw : p0 ++ [91] ++ s = pre ++ rest := by rw [← hw0]; simp
      rw [hw] at h2
      refine ⟨oi, os, x, y, ibeg x ?_, h2, sbeg y ?_, h4, h5, fun v r h => ⟨(h6 v r h).1, by have := (h6 v r h).2; omega⟩⟩
      · rw [evF (pref _ _ (by decide)), evF (pref _ _ (by decide)), evF (pref _ _ (by decide)), evT rfl]
        exact h1
      · rw [evF (by decide), evT rfl]; exact h3
    by_cases c123 : b = 123
    · subst c123
      obtain ⟨oi, os, x, y, h1, h2, h3, h4, h5, h6⟩ := tree_both2 hA d (by omega) hd2 s (p0 ++ [123]) (by omega) (by simp only [List.length_append, List.length_cons, List.length_nil]; omega)
      have hw : p0 ++ [123] ++ s = pre ++ rest := by rw [← hw0]; simp
      rw [hw] at h2
      refine ⟨oi, os, x, y, ibeg x ?_, h2, sbeg y ?_, h4, h5, fun v r h => ⟨(h6 v r h).1, by have := (h6 v r h).2; omega⟩⟩
      · rw [evF (pref _ _ (by decide)), evF (pref _ _ (by decide)), evF (pref _ _ (by decide)), evF (by decide), evT rfl]
        exact h1
      · rw [evF (by decide), evF (by decide), evT rfl]; exact h3
    have inum : ¬ wNull <+: (b :: s) → ¬ wTrue <+: (b :: s) → ¬ wFalse <+: (b :: s) → ∀ x, Ev (fun k => (m_impl_numAt k (p0 ++ b :: s) (p0.length : Int)).bind fun y10 => some (.mk 2 y10.1 [] [] [], y10.2.2, ⟨p0 ++ b :: s, y10.2.1⟩)) x → Ev (fun k => m_impl_jsonReader_value k (At pre rest) d) x := by
      intro n1 n2 n3 x h
      refine ibeg x ?_
      rw [evF n1, evF n2, evF n3, evF c91, evF c123, evF c34]
      exact h
    have hna := ev_numAt p0 (b :: s) hll
    by_cases c45 : b = 45 ∨ fig b = true
    · have hnw : ∀ c w, c ≠ 45 → fig c = false → ¬ (c :: w) <+: (b :: s) := by
        intro c w h1 h2
        refine pref c w ?_
        rintro rfl
        rcases c45 with h | h
        · exact h1 h
        · rw [h2] at h; cases h
      have hi := inum (hnw _ _ (by decide) (by decide)) (hnw _ _ (by decide) (by decide)) (hnw _ _ (by decide) (by decide))
      have hsw := ev_sWhole (b :: s) (by rw [List.length_cons]; omega)
      have hs' : ∀ y, Ev (fun k => (m_spec_l1Whole k (b :: s)).bind fun y5 => some ((Val.mk 2 y5.1 ([] : Bs) ([] : List Val) ([] : List Bs)), y5.2.1, y5.2.2)) y → Ev (fun k => m_spec_l1Read k rest d) y := by
        intro y h
        refine sbeg y ?_
        rw [evF c34, evF c91, evF c123, evT c45]; exact h
      have hsres : ∀ o, numS (b :: s) = o → ∃ y, Ev (fun k => m_spec_l1Read k rest d) y ∧ SRes y (o.map fun p => (.mk 2 p.1 [] [] [], p.2)) := by
        intro o ho
        rw [ho] at hsw
        cases o with
        | none => exact ⟨_, hs' _ (by rw [evC hsw]; exact ev_some _), ⟨_, rfl⟩⟩
        | some p => exact ⟨_, hs' _ (by rw [evC hsw]; exact ev_some _), rfl⟩
      obtain ⟨y, hy1, hy2⟩ := hsres _ rfl
      cases hr : numI (b :: s) with
      | none =>
        have hns : numS (b :: s) = none := by
          rcases num_both (b :: s) with h | ⟨h, _⟩
          · rw [h, hr]
          · exact h
        rw [hns] at hy2
        rw [hr] at hna
        exact ⟨none, none, _, y, hi _ (by rw [evC hna]; exact ev_some _), ⟨_, p0, b :: s, hw0, rfl⟩, hy1, hy2, .inl rfl, fun v r h => by cases h⟩
      | some o =>
        obtain ⟨v, r⟩ := o
        rw [hr] at hna
        obtain ⟨⟨p1, hp1⟩, hlen⟩ := numI_suf hr
        have hw1 : (p0 ++ p1) ++ r = pre ++ rest := by rw [List.append_assoc, hp1, hw0]
        have hpl : (⟨p0 ++ b :: s, (p0.length : Int) + (b :: s : Bs).length - (r.length : Int)⟩ : GJsonReader) = At (p0 ++ p1) r := by
          rw [hw0, ← place_at hw1]; congr 1; rw [← hw0, List.length_append]; omega
        rw [List.length_cons] at hlen
        refine ⟨some (.mk 2 v [] [] [], r), _, _, y, hi _ (by rw [evC hna]; exact ev_some _), ⟨_, hw1, ?_⟩, hy1, hy2, ?_, fun v' r' h => by cases h; exact ⟨.mk _ (by simp) (by simp) (by simp) (by simp) (by simp), by omega⟩⟩
        · show (Val.mk 2 v [] [] [], true, (⟨p0 ++ b :: s, (p0.length : Int) + (b :: s : Bs).length - (r.length : Int)⟩ : GJsonReader)) = _
          rw [hpl]
        · rcases num_both (b :: s) with h | ⟨h, n', r', h1, h2⟩
          · rw [h, hr]; exact .inl rfl
          · rw [h]
            rw [hr] at h1
            cases h1
            exact .inr ⟨rfl, _, _, rfl, .inl (.num _ rfl h2)⟩
    · have hfig : fig b = false := by cases h : fig b with | false => rfl | true => exact absurd (.inr h) c45
      have hsW := ev_sWord (b :: s) (by rw [List.length_cons]; omega)
      have hsub4 : ∀ (w r : Bs), w ++ r = b :: s → sub (b :: s) (w.length : Int) (s.length + 1 : Int) = r := by
        intro w r h
        have e : (s.length + 1 : Int) = ((w ++ r).length : Int) := by rw [h]; simp
        rw [e, ← h]
        unfold sub
        rw [Int.toNat_natCast, Int.toNat_natCast, List.take_length, List.drop_left]
      have hs' : ∀ y, Ev (fun k => (m_spec_l1Word k (b :: s)).bind fun y6 => if y6 = [116, 114, 117, 101] then if (0 : Int) ≤ 4 ∧ (4 : Int) ≤ (s.length + 1 : Int) ∧ (s.length + 1 : Int) ≤ (s.length + 1 : Int) then some ((Val.mk 1 1 ([] : Bs) ([] : List Val) ([] : List Bs)), sub (b :: s) 4 (s.length + 1 : Int), true) else none else if y6 = [102, 97, 108, 115, 101] then if (0 : Int) ≤ 5 ∧ (5 : Int) ≤ (s.length + 1 : Int) ∧ (s.length + 1 : Int) ≤ (s.length + 1 : Int) then some ((Val.mk 1 0 ([] : Bs) ([] : List Val) ([] : List Bs)), sub (b :: s) 5 (s.length + 1 : Int), true) else none else if y6 = [110, 117, 108, 108] then if (0 : Int) ≤ 4 ∧ (4 : Int) ≤ (s.length + 1 : Int) ∧ (s.length + 1 : Int) ≤ (s.length + 1 : Int) then some ((Val.mk 0 0 ([] : Bs) ([] : List Val) ([] : List Bs)), sub (b :: s) 4 (s.length + 1 : Int), true) else none else some ((Val.mk 0 0 ([] : Bs) ([] : List Val) ([] : List Bs)), [], false)) y → Ev (fun k => m_spec_l1Read k rest d) y := by
        intro y h
        refine sbeg y ?_
        rw [evF c34, evF c91, evF c123, evF c45]; exact h
      -- a word that is there
      have done : ∀ (w r : Bs) (v : Val), w ++ r = b :: s → 0 < w.length → (∀ c ∈ w, wrd c = true) → Bd 1048576 v → Ev (fun k => m_impl_jsonReader_value k (At pre rest) d) (v, true, At (p0 ++ w) r) → (r.takeWhile wrd = [] → Ev (fun k => m_spec_l1Read k rest d) (v, r, true)) → (r.takeWhile wrd ≠ [] → Ev (fun k => m_spec_l1Read k rest d) (.mk 0 0 [] [] [], [], false)) →
          ∃ oi os x y, Ev (fun k => m_impl_jsonReader_value k (At pre rest) d) x ∧ IRes (pre ++ rest) x oi ∧ Ev (fun k => m_spec_l1Read k rest d) y ∧ SRes y os ∧ Rel2 oi os ∧ ∀ v r, oi = some (v, r) → Bd 1048576 v ∧ r.length < rest.length := by
        intro w r v hwr hw0' _ hv h1 h2 h3
        have hww : (p0 ++ w) ++ r = pre ++ rest := by rw [List.append_assoc, hwr, hw0]
        have hlr : r.length < rest.length := by
          have : w.length + r.length = s.length + 1 := by rw [← List.length_append, hwr, List.length_cons]
          omega
        by_cases hr : r.takeWhile wrd = []
        · exact ⟨some (v, r), some (v, r), _, _, h1, ⟨_, hww, rfl⟩, h2 hr, rfl, .inl rfl, fun v' r' h => by cases h; exact ⟨hv, hlr⟩⟩
        · refine ⟨some (v, r), none, _, _, h1, ⟨_, hww, rfl⟩, h3 hr, ⟨_, rfl⟩, .inr ⟨rfl, _, _, rfl, .inr ?_⟩, fun v' r' h => by cases h; exact ⟨hv, hlr⟩⟩
          cases r with
          | nil => exact absurd rfl hr
          | cons c r' =>
            refine ⟨c, r', rfl, ?_⟩
            cases hc' : wrd c with
            | true => rfl
            | false => exact absurd (by rw [List.takeWhile_cons, if_neg (by simp [hc'])]) hr
      have bd0 : ∀ a n : Int, Bd 1048576 (.mk a n [] [] []) := fun a n => .mk _ (by simp) (by simp) (by simp) (by simp) (by simp)
      have tw : ∀ (w r : Bs), w ++ r = b :: s → (∀ c ∈ w, wrd c = true) → (b :: s).takeWhile wrd = w ++ r.takeWhile wrd := by
        intro w r h hw
        rw [← h, List.takeWhile_append_of_pos hw]
      have hneq : ∀ (w r : Bs), w ++ r.takeWhile wrd = w → r.takeWhile wrd = [] := fun w r h => by
        have := congrArg List.length h
        rw [List.length_append] at this
        exact List.eq_nil_of_length_eq_zero (by omega)
      have first : ∀ (c : UInt8) (w x : Bs) (c' : UInt8) (w' : Bs), c ≠ c' → ¬ (c :: w) ++ x = c' :: w' := fun c w x c' w' h e => h (List.cons.inj e).1
      by_cases cN : wNull <+: (b :: s)
      · obtain ⟨r, hr⟩ := cN
        have hall : ∀ c ∈ wNull, wrd c = true := by decide
        have ht := tw _ _ hr hall
        rw [ht] at hsW
        have hdr : (b :: s).drop 4 = r := by rw [← hr]; rfl
        have hlen : (4 : Int) + r.length = s.length + 1 := by have := congrArg List.length hr; simp at this; omega
        refine done wNull r (.mk 0 0 [] [] []) hr (by decide) hall (bd0 _ _) (ibeg _ ?_) (fun h => hs' _ ?_) (fun h => hs' _ ?_)
        · rw [evT ⟨r, hr⟩, hdr]; exact ev_some _
        · rw [h] at hsW
          rw [evC hsW, evF (first _ _ _ _ _ (by decide)), evF (first _ _ _ _ _ (by decide)), evT (by simp), evT (by omega)]
          have := hsub4 wNull r hr
          exact ev_eq (ev_some _) (by rw [show (4 : Int) = (wNull.length : Int) from rfl, this])
        · rw [evC hsW, evF (first _ _ _ _ _ (by decide)), evF (first _ _ _ _ _ (by decide)), evF (fun e => h (hneq _ _ e))]
          exact ev_some _
      by_cases cT : wTrue <+: (b :: s)
      · obtain ⟨r, hr⟩ := cT
        have hall : ∀ c ∈ wTrue, wrd c = true := by decide
        have ht := tw _ _ hr hall
        rw [ht] at hsW
        have hdr : (b :: s).drop 4 = r := by rw [← hr]; rfl
        have hlen : (4 : Int) + r.length = s.length + 1 := by have := congrArg List.length hr; simp at this; omega
        refine done wTrue r (.mk 1 1 [] [] []) hr (by decide) hall (bd0 _ _) (ibeg _ ?_) (fun h => hs' _ ?_) (fun h => hs' _ ?_)
        · rw [evF cN, evT ⟨r, hr⟩, hdr]; exact ev_some _
        · rw [h] at hsW
          rw [evC hsW, evT (by simp), evT (by omega)]
          have := hsub4 wTrue r hr
          exact ev_eq (ev_some _) (by rw [show (4 : Int) = (wTrue.length : Int) from rfl, this])
        · rw [evC hsW, evF (fun e => h (hneq _ _ e)), evF (first _ _ _ _ _ (by decide)), evF (first _ _ _ _ _ (by decide))]
          exact ev_some _
      by_cases cF : wFalse <+: (b :: s)
      · obtain ⟨r, hr⟩ := cF
        have hall : ∀ c ∈ wFalse, wrd c = true := by decide
        have ht := tw _ _ hr hall
        rw [ht] at hsW
        have hdr : (b :: s).drop 5 = r := by rw [← hr]; rfl
        have hlen : (5 : Int) + r.length = s.length + 1 := by have := congrArg List.length hr; simp at this; omega
        refine done wFalse r (.mk 1 0 [] [] []) hr (by decide) hall (bd0 _ _) (ibeg _ ?_) (fun h => hs' _ ?_) (fun h => hs' _ ?_)
        · rw [evF cN, evF cT, evT ⟨r, hr⟩, hdr]; exact ev_some _
        · rw [h] at hsW
          rw [evC hsW, evF (first _ _ _ _ _ (by decide)), evT (by simp), evT (by omega)]
          have := hsub4 wFalse r hr
          exact ev_eq (ev_some _) (by rw [show (5 : Int) = (wFalse.length : Int) from rfl, this])
        · rw [evC hsW, evF (first _ _ _ _ _ (by decide)), evF (fun e => h (hneq _ _ e)), evF (first _ _ _ _ _ (by decide))]
          exact ev_some _
      · rw [numI_none (fun h => c45 (.inl h)) hfig] at hna
        have hpf : ∀ w, ¬ w <+: (b :: s) → ¬ (b :: s).takeWhile wrd = w := fun w h e => h (e ▸ List.takeWhile_prefix wrd)
        refine ⟨none, none, _, _, inum cN cT cF _ (by rw [evC hna]; exact ev_some _), ⟨_, p0, b :: s, hw0, rfl⟩, hs' (.mk 0 0 [] [] [], [], false) ?_, ⟨_, rfl⟩, .inl rfl, fun v r h => by cases h⟩
        rw [evC hsW, evF (hpf _ cT), evF (hpf _ cF), evF (hpf _ cN)]
        exact ev_some _
theorem val_ok : ∀ n, ValOk n
  | 0 => fun rest pre d h => by omega
  | n + 1 => val_step (val_ok n)
end Go.Proofs.Ytiaigcdckmpepaa
end
section
/-! The law of JsonGet. -/
set_option linter.unusedVariables false
set_option linter.unusedSimpArgs false
set_option linter.unnecessarySimpa false
namespace Go.Proofs.Ytiaigcdckmpepaa
open Go.Bb

def zW : Val := .mk 0 0 [] [] []
theorem zW_bd : Bd 1048576 zW := .mk _ (by simp [zW]) (by simp [zW]) (by simp [zW]) (by simp [zW]) (by simp [zW])
theorem plain_names {v : Val} (h : plainOk v = true) : v.names.length ≤ 12 := by
  have z : ∀ {a b : Prop}, a ∧ b ∧ noneIn v → v.names.length ≤ 12 := fun h => by have := h.2.2.2; omega
  unfold plainOk at h
  repeat' split at h
  · exact z (of_decide_eq_true h)
  · exact z (of_decide_eq_true h)
  · exact z (of_decide_eq_true h)
  · exact z (of_decide_eq_true h)
  · have := (of_decide_eq_true h).2.2.1; omega
  · have := (of_decide_eq_true h).2.2; omega
  · rw [Bool.and_eq_true] at h
    have := (of_decide_eq_true h.2 : noneIn v).2; omega
  · cases h
theorem wtVs_le {B : Nat} : ∀ (l : List Val), (∀ v ∈ l, wtV v ≤ B) → wtVs l ≤ l.length * B
  | [], _ => by simp [wtVs]
  | v :: l, h => by
    have h1 := h v (by simp)
    have h2 := wtVs_le l (fun x hx => h x (by simp [hx]))
    simp only [wtVs, List.length_cons]
    rw [Nat.add_mul, Nat.one_mul]
    omega
/-- What is ok weighs little. -/
theorem ok_wt : ∀ (n : Nat) (v : Val) (f : Bool), okV v (n : Int) f = true → wtV v ≤ 20 * 13 ^ n
  | 0, v, f, h => by rw [okV_eq] at h; simp at h
  | n + 1, v, f, h => by
    rw [okV_eq] at h
    simp only [Bool.and_eq_true] at h
    have hp := plain_len h.1.1.1.2
    have hn := plain_names h.1.1.1.2
    have hd : ((n + 1 : Nat) : Int) - 1 = (n : Int) := by omega
    have hs := h.2
    rw [hd, List.all_eq_true] at hs
    have hb := wtVs_le v.list (fun x hx => ok_wt n x f (hs x hx))
    rw [wtV_eq]
    have h1 : v.list.length * (20 * 13 ^ n) ≤ 12 * (20 * 13 ^ n) := Nat.mul_le_mul_right _ hp
    have h2 : 20 * 13 ^ (n + 1) = 13 * (20 * 13 ^ n) := by rw [Nat.pow_succ]; omega
    have h3 : 1 ≤ 13 ^ n := Nat.pow_pos (by omega)
    omega
theorem ok_wt6 {v : Val} {f : Bool} (h : okV v 6 f = true) : wtV v ≤ 100000000 := by
  have := ok_wt 6 v f h
  exact Nat.le_trans this (by decide)
theorem json_both (s : Bs) : ∃ r : Val × Bool, Ev (fun k => m_spec_JsonGet k s) r ∧ Ev (fun k => m_impl_JsonGet k s) r ∧ Bd 1048576 r.1 ∧ wtV r.1 ≤ 100000000 := by
  simp only [m_spec_JsonGet, m_impl_JsonGet]
  by_cases hl : 2000 < (s.length : Int)
  · exact ⟨(zW, false), by rw [evT hl]; exact ev_some _, by rw [evT hl]; exact ev_some _, zW_bd, by decide⟩
  have hfail : Bd 1048576 zW ∧ wtV zW ≤ 100000000 := ⟨zW_bd, by decide⟩
  obtain ⟨oi, os, x, y, h1, h2, h3, h4, h5, h6⟩ := val_ok (s.length + 1) s [] 6 (by omega) (by simp; omega) (by omega) (by omega)
  have h1 : Ev (fun k => m_impl_jsonReader_value k ⟨s, 0⟩ 6) x := h1
  have h2 : IRes s x oi := h2
  cases oi with
  | none =>
    obtain ⟨z, p, r, hp, rfl⟩ := h2
    obtain ⟨z', rfl⟩ := sRes_none h4 (rel_none h5)
    have hpl : p.length + r.length = s.length := by rw [← List.length_append, hp]
    refine ⟨(zW, false), ?_, ?_, hfail⟩
    · rw [evF hl, evC h3, evbF (by simp), evbS]
      simp only [thenG]
      rw [evT trivial]
      exact ev_some _
    · rw [evF hl, evC h1, evC (ev_blanks p r (by omega)), evbF (by simp), evbS]
      simp only [thenG]
      rw [evT trivial]
      exact ev_some _
  | some o =>
    obtain ⟨v, r⟩ := o
    obtain ⟨p, hp, rfl⟩ := h2
    have hpl : p.length + r.length = s.length := by rw [← List.length_append, hp]
    obtain ⟨hbv, _⟩ := h6 v r rfl
    have hbl := ev_blanks p r (by omega)
    have hiv := ev_iValueOk v hbv
    have hsv := ev_sValueOk v hbv
    have hat : (At (p ++ r.takeWhile blk) (r.dropWhile blk)).at_ < (s.length : Int) ↔ r.dropWhile blk ≠ [] := by
      have := drop_len r
      show (((p ++ r.takeWhile blk).length : Nat) : Int) < _ ↔ _
      rw [List.length_append]
      constructor
      · intro h e
        rw [e, List.length_nil] at this
        omega
      · intro h
        have := List.length_pos_iff.2 h
        omega
    by_cases hgood : r.dropWhile blk = [] ∧ okV v 6 false = true
    · obtain ⟨g1, g2⟩ := hgood
      have e : os = some (v, r) := by
        rcases h5 with h | ⟨_, v', r', h, hb⟩
        · exact h
        · cases h
          rcases hb with hb | hb
          · rw [bad_ok hb] at g2; cases g2
          · obtain ⟨c, r', h, _⟩ := headW_drop hb
            rw [g1] at h; cases h
      subst e
      have h4 : y = (v, r, true) := h4
      subst h4
      refine ⟨(v, true), ?_, ?_, hbv, ok_wt6 g2⟩
      · rw [evF hl, evC h3, evbT rfl]
        simp only [Option.bind_assoc]
        rw [evC (ev_sBlank r (by omega)), g1, evbT rfl]
        simp only [Option.bind_assoc]
        rw [evC hsv, g2, evbS]
        simp only [thenG]
        rw [evF (by simp)]
        exact ev_some _
      · rw [evF hl, evC h1, evC hbl, evbT rfl, evbF (fun h => hat.1 h g1)]
        simp only [Option.bind_assoc]
        rw [evC hiv, g2, evbS]
        simp only [thenG]
        rw [evF (by simp)]
        exact ev_some _
    · refine ⟨(zW, false), ?_, ?_, hfail⟩
      · cases hos : os with
        | none =>
          obtain ⟨z', rfl⟩ := sRes_none h4 hos
          rw [evF hl, evC h3, evbF (by simp), evbS]
          simp only [thenG]
          rw [evT trivial]
          exact ev_some _
        | some o =>
          have e : os = some (v, r) := by rcases h5 with h | ⟨h, _⟩; exact h; rw [h] at hos; cases hos
          subst e
          have h4 : y = (v, r, true) := h4
          subst h4
          rw [evF hl, evC h3, evbT rfl]
          simp only [Option.bind_assoc]
          rw [evC (ev_sBlank r (by omega))]
          by_cases g1 : r.dropWhile blk = []
          · have g2 : okV v 6 false = false := by cases h : okV v 6 false with | false => rfl | true => exact absurd ⟨g1, h⟩ hgood
            rw [evbT g1]
            simp only [Option.bind_assoc]
            rw [evC hsv, g2, evbS]
            simp only [thenG]
            rw [evT (by simp)]
            exact ev_some _
          · rw [evbF g1, evbS]
            simp only [thenG]
            rw [evT trivial]
            exact ev_some _
      · rw [evF hl, evC h1, evC hbl, evbT rfl]
        by_cases g1 : r.dropWhile blk = []
        · have g2 : okV v 6 false = false := by cases h : okV v 6 false with | false => rfl | true => exact absurd ⟨g1, h⟩ hgood
          rw [evbF (fun h => hat.1 h g1)]
          simp only [Option.bind_assoc]
          rw [evC hiv, g2, evbS]
          simp only [thenG]
          rw [evT (by simp)]
          exact ev_some _
        · rw [evbT (hat.2 g1), evbS]
          simp only [thenG]
          rw [evT trivial]
          exact ev_some _
theorem law_JsonGet (s : Bs) (h : s.length ≤ maxLen) : ∃ k, m_laws_FnExactJsonGet k s = some true := by
  refine Ev.get (m := fun k => m_laws_FnExactJsonGet k s) ?_
  simp only [m_laws_FnExactJsonGet]
  refine ev_ite (fun _ => ev_some _) (fun _ => ?_)
  obtain ⟨r, g1, g2, g3, g4⟩ := json_both s
  have hq := ev_eqValue r.1 g3
  obtain ⟨l', ns', m, b1, b2, b3⟩ := ev_markValue r.1 g3 (by omega)
  exact Ev.bind g1 (Ev.bind g2 (Ev.go (s := false) (Ev.bind hq (ev_ifT rfl (ev_eq (ev_some _) (by simp)))) (ev_ifF (by simp) (Ev.bind b1 (Ev.bind b3 (ev_ifF (by omega) (ev_ifT rfl (Ev.bind g2 (Ev.go (s := false) (Ev.bind hq (ev_ifT rfl (ev_eq (ev_some _) (by simp)))) (ev_ifF (by simp) (Ev.bind b3 (ev_ifF (by omega) (ev_ifT rfl (ev_some _))))))))))))))
end Go.Proofs.Ytiaigcdckmpepaa
end
