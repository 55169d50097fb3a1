/- Functions with fuel: what they answer once the fuel is enough; the conditions stand in each theorem. -/
import Derived.Test.YtiaigcdckmpepaaB13
/-! Enough fuel. -/
set_option linter.unusedVariables false
set_option linter.unusedSimpArgs false
namespace Go.Bb

/-- With enough fuel. -/
def Ev {α : Type} (m : Nat → Option α) (r : α) : Prop := ∃ K, ∀ k, K ≤ k → m k = some r

section
variable {α β γ S : Type}
theorem Ev.get {m : Nat → Option α} {r : α} (h : Ev m r) : ∃ k, m k = some r := let ⟨K, h⟩ := h; ⟨K, h K (Nat.le_refl _)⟩
theorem ev_some (r : α) : Ev (fun _ => some r) r := ⟨0, fun _ _ => rfl⟩
theorem ev_eq {m : Nat → Option α} {r r' : α} (h : Ev m r) (e : r = r') : Ev m r' := e ▸ h
theorem ev_shift {m : Nat → Option α} {r : α} : Ev m r ↔ Ev (fun k => m (k + 1)) r :=
  ⟨fun ⟨K, h⟩ => ⟨K, fun k hk => h (k + 1) (by omega)⟩, fun ⟨K, h⟩ => ⟨K + 1, fun k hk => by obtain ⟨j, rfl⟩ : ∃ j, k = j + 1 := ⟨k - 1, by omega⟩; exact h j (by omega)⟩⟩
theorem Ev.bind {m : Nat → Option α} {g : Nat → α → Option β} {a : α} {r : β} (h : Ev m a) (h2 : Ev (fun k => g k a) r) : Ev (fun k => (m k).bind (g k)) r := by
  obtain ⟨K, h⟩ := h
  obtain ⟨K2, h2⟩ := h2
  refine ⟨max K K2, fun k hk => ?_⟩
  simp only
  rw [h k (by omega)]
  exact h2 k (by omega)
theorem ev_bindS {g : Nat → α → Option β} {a : α} {r : β} (h2 : Ev (fun k => g k a) r) : Ev (fun k => (some a).bind (g k)) r := h2
theorem ev_ifT {c : Prop} [Decidable c] {f g : Nat → Option α} {r : α} (hc : c) (h : Ev f r) : Ev (fun k => if c then f k else g k) r := by
  simpa only [if_pos hc] using h
theorem ev_ifF {c : Prop} [Decidable c] {f g : Nat → Option α} {r : α} (hc : ¬ c) (h : Ev g r) : Ev (fun k => if c then f k else g k) r := by
  simpa only [if_neg hc] using h
theorem ev_ite {c : Prop} [Decidable c] {f g : Nat → Option α} {r : α} (h1 : c → Ev f r) (h2 : ¬ c → Ev g r) : Ev (fun k => if c then f k else g k) r := by
  by_cases hc : c
  · exact ev_ifT hc (h1 hc)
  · exact ev_ifF hc (h2 hc)
theorem Ev.go {m : Nat → Option (Lp S β)} {f : Nat → S → Option β} {s : S} {r : β} (h : Ev m (.go s)) (h2 : Ev (fun k => f k s) r) : Ev (fun k => (m k).bind fun o => o.then (f k)) r :=
  Ev.bind (g := fun k o => o.then (f k)) h h2
theorem Ev.ret {m : Nat → Option (Lp S β)} {f : Nat → S → Option β} {r : β} (h : Ev m (.ret r)) : Ev (fun k => (m k).bind fun o => o.then (f k)) r :=
  Ev.bind (g := fun k o => o.then (f k)) h (ev_some r)

/-- A loop that goes on while all is well. -/
theorem ev_all_go {L : Nat → Int → Option (Lp Unit β)} {n : Nat} {g : Nat → Bool} (hs : ∀ (i : Nat) r, i < n → g i = true → Ev (fun k => L k ((i : Int) + 1)) r → Ev (fun k => L k i) r) (he : Ev (fun k => L k n) (.go ())) :
    ∀ (d j : Nat), j + d = n → (∀ i, j ≤ i → i < n → g i = true) → Ev (fun k => L k j) (.go ())
  | 0, j, hj, _ => by rw [show j = n by omega]; exact he
  | d + 1, j, hj, h => hs j _ (by omega) (h j (by omega) (by omega)) (by
      have := ev_all_go hs he d (j + 1) (by omega) (fun i hi => h i (by omega))
      simpa using this)
theorem ev_all_ret {L : Nat → Int → Option (Lp Unit β)} {n : Nat} {g : Nat → Bool} {rv : β} (hs : ∀ (i : Nat) r, i < n → g i = true → Ev (fun k => L k ((i : Int) + 1)) r → Ev (fun k => L k i) r) (hr : ∀ i : Nat, i < n → g i = false → Ev (fun k => L k i) (.ret rv)) :
    ∀ (d j : Nat), j + d = n → (∃ i, j ≤ i ∧ i < n ∧ g i = false) → Ev (fun k => L k j) (.ret rv)
  | 0, j, hj, ⟨i, h1, h2, _⟩ => by omega
  | d + 1, j, hj, ⟨i, h1, h2, h3⟩ => by
    cases hg : g j with
    | false => exact hr j (by omega) hg
    | true =>
      refine hs j _ (by omega) hg ?_
      have := ev_all_ret hs hr d (j + 1) (by omega) ⟨i, (by rcases Nat.lt_or_ge j i with h | h; exact h; rw [show i = j by omega, hg] at h3; cases h3), h2, h3⟩
      simpa using this
/-- Whether all is well. -/
theorem ev_all {L : Nat → Int → Option (Lp Unit Bool)} {n : Nat} (g : Nat → Bool) (hs : ∀ (i : Nat) r, i < n → g i = true → Ev (fun k => L k ((i : Int) + 1)) r → Ev (fun k => L k i) r) (hr : ∀ i : Nat, i < n → g i = false → Ev (fun k => L k i) (.ret false)) (he : Ev (fun k => L k n) (.go ())) {f : Nat → Unit → Option Bool} {b : Bool} (hf : Ev (fun k => f k ()) b) :
    Ev (fun k => (L k 0).bind fun o => o.then (f k)) ((List.range n).all g && b) := by
  by_cases h : ∀ i, 0 ≤ i → i < n → g i = true
  · have h1 : (List.range n).all g = true := List.all_eq_true.2 fun i hi => h i (by omega) (List.mem_range.1 hi)
    rw [h1, Bool.true_and]
    exact Ev.go (by simpa using ev_all_go hs he n 0 (by omega) h) hf
  · have h' : ∃ i, 0 ≤ i ∧ i < n ∧ g i = false := by
      false_or_by_contra
      rename_i hn
      exact h fun i h1 h2 => by
        cases hg : g i with
        | true => rfl
        | false => exact absurd ⟨i, h1, h2, hg⟩ hn
    obtain ⟨i, _, h2, h3⟩ := h'
    have h1 : (List.range n).all g = false := by
      rw [List.all_eq_false]
      exact ⟨i, List.mem_range.2 h2, by simp [h3]⟩
    rw [h1, Bool.false_and]
    exact Ev.ret (by simpa using ev_all_ret (rv := false) hs hr n 0 (by omega) ⟨i, by omega, h2, h3⟩)
/-- A loop that gathers. -/
theorem ev_fold {L : Nat → S → Int → Option (Lp S β)} {n : Nat} (st : Nat → S) (hs : ∀ (i : Nat) r, i < n → Ev (fun k => L k (st (i + 1)) ((i : Int) + 1)) r → Ev (fun k => L k (st i) i) r) (he : Ev (fun k => L k (st n) n) (.go (st n))) :
    ∀ (d j : Nat), j + d = n → Ev (fun k => L k (st j) j) (.go (st n))
  | 0, j, hj => by rw [show j = n by omega]; exact he
  | d + 1, j, hj => hs j _ (by omega) (by
      have := ev_fold st hs he d (j + 1) (by omega)
      simpa using this)
end

theorem wrap_id {n : Int} (h : -9223372036854775808 ≤ n ∧ n ≤ 9223372036854775807) : IntKind.wrap .i64 n = n := IntWalk.i64_in n h
theorem ix_nat {α : Type} [Inhabited α] {l : List α} {i : Nat} (h : i < l.length) : ix l (i : Int) = l[i] := by
  unfold ix
  simp [List.getD, h]
theorem range_all {α : Type} [Inhabited α] (l : List α) (p : α → Bool) : ((List.range l.length).all fun i => p (ix l (i : Int))) = l.all p := by
  rw [Bool.eq_iff_iff, List.all_eq_true, List.all_eq_true]
  constructor
  · intro h x hx
    obtain ⟨i, hi, rfl⟩ := List.mem_iff_getElem.1 hx
    have := h i (List.mem_range.2 hi)
    rwa [ix_nat hi] at this
  · intro h i hi
    have hi := List.mem_range.1 hi
    rw [ix_nat hi]
    exact h _ (List.getElem_mem hi)
end Go.Bb
