/- Plain values: their size, their copies, whether they are the same; the conditions stand in each theorem. -/
import Derived.Test.YtiaigcdckmpepaaE1
import Derived.Test.YtiaigcdckmpepaaDat
/-! Plain values. -/
set_option linter.unusedVariables false
set_option linter.unusedSimpArgs false
namespace Go.Proofs.Ytiaigcdckmpepaa
open Go.Bb

mutual
theorem Val.ind {p : Val → Prop} (h : ∀ v, (∀ x ∈ v.list, p x) → p v) : ∀ v, p v
  | .mk a b c l ns => h _ (Val.indS h l)
theorem Val.indS {p : Val → Prop} (h : ∀ v, (∀ x ∈ v.list, p x) → p v) : ∀ (l : List Val), ∀ x ∈ l, p x
  | [] => fun _ hx => nomatch hx
  | v :: l => fun x hx => (List.mem_cons.1 hx).elim (fun e => e ▸ Val.ind h v) (Val.indS h l x)
end

/-- No text, no list of it is longer. -/
inductive Bd (M : Nat) : Val → Prop
  | mk (v : Val) (h1 : v.text.length ≤ M) (h2 : v.list.length ≤ M) (h3 : v.names.length ≤ M) (h4 : ∀ s ∈ v.names, s.length ≤ M) (h5 : ∀ x ∈ v.list, Bd M x) : Bd M v

theorem Bd.text {M : Nat} {v : Val} (h : Bd M v) : v.text.length ≤ M := by cases h; assumption
theorem Bd.list {M : Nat} {v : Val} (h : Bd M v) : v.list.length ≤ M := by cases h; assumption
theorem Bd.names {M : Nat} {v : Val} (h : Bd M v) : v.names.length ≤ M := by cases h; assumption
theorem Bd.name {M : Nat} {v : Val} (h : Bd M v) : ∀ s ∈ v.names, s.length ≤ M := by cases h; assumption
theorem Bd.within {M : Nat} {v : Val} (h : Bd M v) : ∀ x ∈ v.list, Bd M x := by cases h; assumption

def RelRow (N : Nat → Prop) (w : World) (row : List AV) : Prop := ∀ (j : Nat) av, row[j]? = some av → ∃ u, RelV N w av u

theorem rel_str {N : Nat → Prop} {w : World} {s : Bs} {u : Value} (h : RelV N w (.str s) u) : s.length ≤ maxLen := by
  cases h; assumption
theorem rel_sl {N : Nat → Prop} {w : World} {z : Bool} {rows : List (List AV)} {u : Value} (h : RelV N w (.sl z rows) u) : rows.length ≤ maxLen ∧ ∀ r ∈ rows, RelRow N w r := by
  cases h with
  | slNil => exact ⟨by simp, fun r hr => by cases hr⟩
  | sl z rows a cap sz u hs hc hm h1 h2 h3 h4 =>
    refine ⟨by omega, fun r hr j av hj => ?_⟩
    obtain ⟨i, hi⟩ := List.getElem?_of_mem hr
    exact ⟨_, h3 i r j av hi hj⟩
theorem rel_agg {N : Nat → Prop} {w : World} {cs : List AV} {u : Value} (h : RelV N w (.agg cs) u) : RelRow N w cs := by
  cases h with
  | agg _ vs hl h =>
    intro j av hj
    have hlt : j < vs.size := by
      rw [hl]
      rcases Nat.lt_or_ge j cs.length with h' | h'
      · exact h'
      · rw [List.getElem?_eq_none h'] at hj; cases hj
    exact ⟨vs[j], h j av _ hj (by simp [hlt])⟩
theorem rel_strs {N : Nat → Prop} {w : World} {l : List Bs} (h : ∀ r ∈ l.map encS, RelRow N w r) : ∀ s ∈ l, s.length ≤ maxLen := by
  intro s hs
  obtain ⟨u, hu⟩ := h _ (List.mem_map_of_mem hs) 0 (.str s) rfl
  exact rel_str hu
theorem rel_val {N : Nat → Prop} {w : World} : ∀ v : Val, RelRow N w (encLVal v) → Bd maxLen v := by
  apply Val.ind
  intro v ih h
  rw [encLVal_eq] at h
  obtain ⟨u1, h1⟩ := h 2 _ rfl
  obtain ⟨u2, h2⟩ := h 3 _ rfl
  obtain ⟨u3, h3⟩ := h 4 _ rfl
  obtain ⟨h4, h5⟩ := rel_sl h2
  obtain ⟨h6, h7⟩ := rel_sl h3
  exact .mk v (rel_str h1) (by simpa using h4) (by simpa using h6) (rel_strs h7) fun x hx => ih x hx (h5 _ (List.mem_map_of_mem hx))
end Go.Proofs.Ytiaigcdckmpepaa
