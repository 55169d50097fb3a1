/- Paths read from texts: the steps, the parts, and that reading undoes writing; the conditions stand in each theorem. -/
import Derived.Test.YtopbbjoflopjbaaDoorP1
import Derived.Lib.Bytealg
/-! Paths read from texts. -/
set_option linter.unusedVariables false
set_option linter.unusedSimpArgs false
namespace Go.Proofs.YtopbbjoflopjbaaDoor
open Go.Bb

/-- A step is read. -/
def unesc : Bs → Option Bs
  | [] => some []
  | [b] => if b = 126 then none else some [b]
  | b :: c :: r => if b = 126 then (if c = 48 then (unesc r).map (126 :: ·) else if c = 49 then (unesc r).map (47 :: ·) else none) else (unesc (c :: r)).map (b :: ·)
theorem unesc_one (b : UInt8) : unesc [b] = if b = 126 then none else some [b] := by rw [unesc]
theorem unesc_nil : unesc [] = some [] := by rw [unesc]
theorem unesc_ne {b : UInt8} (h : b ≠ 126) (r : Bs) : unesc (b :: r) = (unesc r).map (b :: ·) := by
  cases r with
  | nil => rw [unesc_one, if_neg h, unesc_nil]; rfl
  | cons c r => rw [unesc, if_neg h]
theorem unesc_0 (r : Bs) : unesc (126 :: 48 :: r) = (unesc r).map (126 :: ·) := by rw [unesc, if_pos rfl, if_pos rfl]
theorem unesc_1 (r : Bs) : unesc (126 :: 49 :: r) = (unesc r).map (47 :: ·) := by rw [unesc, if_pos rfl, if_neg (by decide), if_pos rfl]
theorem unesc_x {c : UInt8} (h0 : c ≠ 48) (h1 : c ≠ 49) (r : Bs) : unesc (126 :: c :: r) = none := by rw [unesc, if_pos rfl, if_neg h0, if_neg h1]
theorem ptS_cons (b : UInt8) (s : Bs) : ptS (b :: s) = ptB b ++ ptS s := by simp [ptS]
theorem unesc_ptS : ∀ w : Bs, unesc (ptS w) = some w
  | [] => by rw [show ptS [] = [] from rfl, unesc]
  | b :: w => by
    rw [ptS_cons]
    unfold ptB
    by_cases h1 : b = 126
    · subst h1; rw [if_pos rfl]
      show unesc (126 :: 48 :: ptS w) = _
      rw [unesc_0, unesc_ptS w]; rfl
    · rw [if_neg h1]
      by_cases h2 : b = 47
      · subst h2; rw [if_pos rfl]
        show unesc (126 :: 49 :: ptS w) = _
        rw [unesc_1, unesc_ptS w]; rfl
      · rw [if_neg h2]
        show unesc (b :: ptS w) = _
        rw [unesc_ne h1, unesc_ptS w]; rfl
theorem ptS_no : ∀ (w : Bs), ∀ x ∈ ptS w, x ≠ 47
  | [], x, h => by cases h
  | b :: w, x, h => by
    rw [ptS_cons] at h
    rcases List.mem_append.1 h with h | h
    · unfold ptB at h
      by_cases h1 : b = 126
      · rw [if_pos h1] at h
        simp at h
        rcases h with rfl | rfl <;> decide
      · rw [if_neg h1] at h
        by_cases h2 : b = 47
        · rw [if_pos h2] at h
          simp at h
          rcases h with rfl | rfl <;> decide
        · rw [if_neg h2] at h
          simp at h
          subst h; exact h2
    · exact ptS_no w x h
theorem unesc_inv : ∀ (n : Nat) (p w : Bs), p.length ≤ n → unesc p = some w → (∀ x ∈ p, x ≠ 47) → ptS w = p
  | n, [], w, hn, h, hp => by rw [unesc] at h; cases h; rfl
  | 0, b :: r, w, hn, h, hp => by simp at hn
  | n + 1, b :: r, w, hn, h, hp => by
    simp only [List.length_cons] at hn
    by_cases hb : b = 126
    · subst hb
      cases r with
      | nil => rw [unesc, if_pos rfl] at h; cases h
      | cons c r =>
        simp only [List.length_cons] at hn
        by_cases h0 : c = 48
        · subst h0
          rw [unesc_0] at h
          obtain ⟨u, h1, rfl⟩ := Option.map_eq_some_iff.1 h
          rw [ptS_cons, unesc_inv n r u (by omega) h1 (fun x hx => hp x (by simp [hx]))]
          rfl
        · by_cases h1 : c = 49
          · subst h1
            rw [unesc_1] at h
            obtain ⟨u, h1, rfl⟩ := Option.map_eq_some_iff.1 h
            rw [ptS_cons, unesc_inv n r u (by omega) h1 (fun x hx => hp x (by simp [hx]))]
            rfl
          · rw [unesc_x h0 h1] at h; cases h
    · rw [unesc_ne hb] at h
      obtain ⟨u, h1, rfl⟩ := Option.map_eq_some_iff.1 h
      rw [ptS_cons, unesc_inv n r u (by omega) h1 (fun x hx => hp x (by simp [hx]))]
      unfold ptB
      rw [if_neg hb, if_neg (hp b (by simp))]
      rfl

/-- The parts between slashes. -/
def spl : Bs → List Bs
  | [] => [[]]
  | b :: r => if b = 47 then [] :: spl r else match spl r with | [] => [[b]] | h :: t => (b :: h) :: t
theorem spl_ne (s : Bs) : spl s ≠ [] := by
  cases s with
  | nil => simp [spl]
  | cons b r =>
    rw [spl]
    split
    · simp
    · split <;> simp
theorem spl_slash (r : Bs) : spl (47 :: r) = [] :: spl r := by rw [spl, if_pos rfl]
theorem spl_other {b : UInt8} (h : b ≠ 47) {r p : Bs} {l : List Bs} (hr : spl r = p :: l) : spl (b :: r) = (b :: p) :: l := by rw [spl, if_neg h, hr]
theorem spl_pre : ∀ (p r : Bs), (∀ x ∈ p, x ≠ 47) → spl (p ++ 47 :: r) = p :: spl r
  | [], r, h => spl_slash r
  | b :: p, r, h => spl_other (h b (by simp)) (spl_pre p r fun x hx => h x (by simp [hx]))
theorem spl_one : ∀ (p : Bs), (∀ x ∈ p, x ≠ 47) → spl p = [p]
  | [], h => by rw [spl]
  | b :: p, h => spl_other (h b (by simp)) (spl_one p fun x hx => h x (by simp [hx]))
theorem spl_join : ∀ r : Bs, (spl r).flatMap (fun p => 47 :: p) = 47 :: r
  | [] => by simp [spl]
  | b :: r => by
    have ih := spl_join r
    by_cases hb : b = 47
    · subst hb; rw [spl_slash, List.flatMap_cons, ih]; rfl
    · obtain ⟨p, l, h⟩ : ∃ p l, spl r = p :: l := by
        cases h : spl r with
        | nil => exact absurd h (spl_ne r)
        | cons p l => exact ⟨p, l, rfl⟩
      rw [spl_other hb h]
      rw [h] at ih
      simp only [List.flatMap_cons, List.cons_append, List.cons.injEq, true_and] at ih ⊢
      exact ih
theorem spl_no : ∀ r : Bs, ∀ p ∈ spl r, ∀ x ∈ p, x ≠ 47
  | [], p, hp, x, hx => by simp [spl] at hp; subst hp; cases hx
  | b :: r, p, hp, x, hx => by
    by_cases hb : b = 47
    · subst hb; rw [spl_slash] at hp
      rcases List.mem_cons.1 hp with rfl | hp
      · cases hx
      · exact spl_no r p hp x hx
    · obtain ⟨q, l, h⟩ : ∃ p l, spl r = p :: l := by
        cases h : spl r with
        | nil => exact absurd h (spl_ne r)
        | cons p l => exact ⟨p, l, rfl⟩
      rw [spl_other hb h] at hp
      have ih := spl_no r
      rw [h] at ih
      rcases List.mem_cons.1 hp with rfl | hp
      · rcases List.mem_cons.1 hx with rfl | hx
        · exact hb
        · exact ih q (by simp) x hx
      · exact ih p (by simp [hp]) x hx
theorem spl_len : ∀ r : Bs, ∀ p ∈ spl r, p.length ≤ r.length
  | [], p, hp => by simp [spl] at hp; subst hp; simp
  | b :: r, p, hp => by
    have ih := spl_len r
    by_cases hb : b = 47
    · subst hb; rw [spl_slash] at hp
      rcases List.mem_cons.1 hp with rfl | hp
      · simp
      · have := ih p hp; simp; omega
    · obtain ⟨q, l, h⟩ : ∃ p l, spl r = p :: l := by
        cases h : spl r with
        | nil => exact absurd h (spl_ne r)
        | cons p l => exact ⟨p, l, rfl⟩
      rw [spl_other hb h] at hp
      rw [h] at ih
      rcases List.mem_cons.1 hp with rfl | hp
      · have := ih q (by simp); simp; omega
      · have := ih p (by simp [hp]); simp; omega

/-- The steps. -/
def mapU : List Bs → Option (List Bs)
  | [] => some []
  | p :: l => (unesc p).bind fun w => (mapU l).map (w :: ·)
def getP : Bs → Option (List Bs)
  | [] => some []
  | b :: r => if b = 47 then mapU (spl r) else none
theorem ptL_cons (w : Bs) (l : List Bs) : ptL (w :: l) = 47 :: (ptS w ++ ptL l) := by simp [ptL]
theorem mapU_spl : ∀ (w : Bs) (l : List Bs), mapU (spl (ptS w ++ ptL l)) = some (w :: l)
  | w, [] => by
    rw [show ptL [] = [] from rfl, List.append_nil, spl_one _ (ptS_no w), mapU, unesc_ptS]; rfl
  | w, v :: l => by
    rw [ptL_cons, spl_pre _ _ (ptS_no w), mapU, unesc_ptS, mapU_spl v l]; rfl
theorem getP_ptL (l : List Bs) : getP (ptL l) = some l := by
  cases l with
  | nil => rfl
  | cons w l => rw [ptL_cons, getP, if_pos rfl, mapU_spl]
theorem mapU_inv : ∀ (ps l : List Bs), (∀ p ∈ ps, ∀ x ∈ p, x ≠ 47) → mapU ps = some l → ptL l = ps.flatMap (fun p => 47 :: p)
  | [], l, h, e => by rw [mapU] at e; cases e; rfl
  | p :: ps, l, h, e => by
    rw [mapU] at e
    cases hu : unesc p with
    | none => rw [hu] at e; cases e
    | some w =>
      rw [hu] at e
      obtain ⟨u, h1, rfl⟩ := Option.map_eq_some_iff.1 (show (mapU ps).map (w :: ·) = some l from e)
      rw [ptL_cons, unesc_inv _ p w (Nat.le_refl _) hu (h p (by simp)), mapU_inv ps u (fun q hq => h q (by simp [hq])) h1, List.flatMap_cons]
      rfl
theorem getP_inv {s : Bs} {l : List Bs} (h : getP s = some l) : s = ptL l := by
  cases s with
  | nil => rw [getP] at h; cases h; rfl
  | cons b r =>
    rw [getP] at h
    by_cases hb : b = 47
    · subst hb
      rw [if_pos rfl] at h
      rw [mapU_inv _ l (spl_no r) h, spl_join]
    · rw [if_neg hb] at h; cases h

/-- What the reference gathers. -/
def rdS : List Bs → Bs → Bs → List Bs
  | i, l, [] => i ++ [l]
  | i, l, [b] => if b = 47 then i ++ [l] ++ [[]] else i ++ [l ++ [b]]
  | i, l, b :: c :: r => if b = 47 then rdS (i ++ [l]) [] (c :: r) else if b = 126 ∧ c = 48 then rdS i (l ++ [126]) r else if b = 126 ∧ c = 49 then rdS i (l ++ [47]) r else rdS i (l ++ [b]) (c :: r)
theorem rdS_nil (i : List Bs) (l : Bs) : rdS i l [] = i ++ [l] := by rw [rdS]
theorem rdS_one (i : List Bs) (l : Bs) (b : UInt8) : rdS i l [b] = if b = 47 then i ++ [l] ++ [[]] else i ++ [l ++ [b]] := by rw [rdS]
theorem rdS_slash (i : List Bs) (l r : Bs) : rdS i l (47 :: r) = rdS (i ++ [l]) [] r := by
  cases r with
  | nil => rw [rdS_one, if_pos rfl, rdS_nil]
  | cons c r => rw [rdS, if_pos rfl]
theorem rdS_0 (i : List Bs) (l r : Bs) : rdS i l (126 :: 48 :: r) = rdS i (l ++ [126]) r := by rw [rdS, if_neg (by decide), if_pos ⟨rfl, rfl⟩]
theorem rdS_1 (i : List Bs) (l r : Bs) : rdS i l (126 :: 49 :: r) = rdS i (l ++ [47]) r := by rw [rdS, if_neg (by decide), if_neg (by decide), if_pos ⟨rfl, rfl⟩]
theorem rdS_ne {b : UInt8} (h1 : b ≠ 47) (h2 : b ≠ 126) (i : List Bs) (l r : Bs) : rdS i l (b :: r) = rdS i (l ++ [b]) r := by
  cases r with
  | nil => rw [rdS_one, if_neg h1, rdS_nil]
  | cons c r => rw [rdS, if_neg h1, if_neg (fun h => h2 h.1), if_neg (fun h => h2 h.1)]
theorem rdS_end (i : List Bs) (l : Bs) : rdS i l [126] = rdS i (l ++ [126]) [] := by rw [rdS_one, if_neg (by decide), rdS_nil]
theorem rdS_x {c : UInt8} (h0 : c ≠ 48) (h1 : c ≠ 49) (i : List Bs) (l r : Bs) : rdS i l (126 :: c :: r) = rdS i (l ++ [126]) (c :: r) := by
  rw [rdS, if_neg (by decide), if_neg (fun h => h0 h.2), if_neg (fun h => h1 h.2)]
theorem rdS_word : ∀ (w : Bs) (rest : Bs) (i : List Bs) (l : Bs), rdS i l (ptS w ++ rest) = rdS i (l ++ w) rest
  | [], rest, i, l => by rw [show ptS [] = [] from rfl]; simp
  | b :: w, rest, i, l => by
    rw [ptS_cons]
    unfold ptB
    by_cases h1 : b = 126
    · subst h1; rw [if_pos rfl]
      show rdS i l (126 :: 48 :: (ptS w ++ rest)) = _
      rw [rdS_0, rdS_word w]; simp
    · rw [if_neg h1]
      by_cases h2 : b = 47
      · subst h2; rw [if_pos rfl]
        show rdS i l (126 :: 49 :: (ptS w ++ rest)) = _
        rw [rdS_1, rdS_word w]; simp
      · rw [if_neg h2]
        show rdS i l (b :: (ptS w ++ rest)) = _
        rw [rdS_ne h2 h1, rdS_word w]; simp
theorem rdS_path : ∀ (ws : List Bs) (w : Bs) (i : List Bs) (l : Bs), rdS i l (ptS w ++ ptL ws) = i ++ (l ++ w) :: ws
  | [], w, i, l => by rw [rdS_word, show ptL [] = [] from rfl, rdS_nil]
  | v :: ws, w, i, l => by rw [rdS_word, ptL_cons, rdS_slash, rdS_path ws v]; simp
end Go.Proofs.YtopbbjoflopjbaaDoor
