/- Spans: the address of a list's first element, and its length; two of them are the same only if the lists are; the conditions stand in each theorem. -/
import Derived.Test.YtiaigcdckmpepaaE2
import Derived.Test.YtiaigcdckmpepaaB14
import Derived.LaidEql
import Derived.Laws.StructEq
/-! Spans. -/
set_option linter.unusedVariables false
set_option linter.unusedSimpArgs false
set_option maxRecDepth 100000
namespace Go.Proofs.Ytiaigcdckmpepaa
open Go.Bb

theorem det_int {N : Nat → Prop} {w : World} {k : IntKind} {a b : Int} {y : Value} (h : RelV N w (.int k a) y) (h' : RelV N w (.int k b) y) : a = b := by
  cases h; cases h'; rfl
theorem det_str {N : Nat → Prop} {w : World} {a b : Bs} {y : Value} (h : RelV N w (.str a) y) (h' : RelV N w (.str b) y) : a = b := by
  cases h
  generalize hz : (Value.string ⟨a.toArray⟩) = yy at h'
  cases h'
  injection hz with hz1
  injection hz1 with hz2
  simpa using hz2
/-- Whatever lies there lies there once: the same machine's value stands for one value alone. -/
theorem det_strs {N : Nat → Prop} {w : World} {z z' : Bool} {l l' : List Bs} {u : Value} (h : RelV N w (.sl z (l.map encS)) u) (h' : RelV N w (.sl z' (l'.map encS)) u) : l = l' := by
  generalize hr : l.map encS = rs at h
  generalize hr' : l'.map encS = rs' at h'
  have e1 : rs.length = l.length := by rw [← hr]; simp
  have e2 : rs'.length = l'.length := by rw [← hr']; simp
  cases h with
  | slNil =>
    cases h' with
    | slNil =>
      have h1 : l.length = 0 := by simpa using e1.symm
      have h2 : l'.length = 0 := by simpa using e2.symm
      rw [List.eq_nil_of_length_eq_zero h1, List.eq_nil_of_length_eq_zero h2]
  | sl _ _ a cap sz f hs hc hm g1 g2 g3 g4 =>
    generalize hq : (Value.slice (some a) rs.length cap) = q at h'
    cases h' with
    | slNil => cases hq
    | sl _ _ a' cap' sz' f' hs' hc' hm' k1 k2 k3 k4 =>
      injection hq with q1 q2 q3
      obtain rfl := Option.some.inj q1
      have hll : l.length = l'.length := by omega
      apply List.ext_getElem hll
      intro i hi hi'
      have r1 : rs[i]? = some (encS l[i]) := by rw [← hr]; simp [hi]
      have r2 : rs'[i]? = some (encS l'[i]) := by rw [← hr']; simp [hi']
      have s1 := g1 i _ r1
      have s2 := k1 i _ r2
      have hsz : sz = sz' := by rw [← s1, ← s2]; rfl
      subst hsz
      have c1 := (g2 i _ 0 (.str l[i]) r1 rfl).2
      have c2 := (k2 i _ 0 (.str l'[i]) r2 rfl).2
      have d1 := g3 i _ 0 (.str l[i]) r1 rfl
      have d2 := k3 i _ 0 (.str l'[i]) r2 rfl
      rw [c1] at c2
      have e := Option.some.inj c2
      rw [← e] at d2
      exact det_str d1 d2

def DetV (v : Val) : Prop := ∀ (N : Nat → Prop) (w : World) (v' : Val) (us : Nat → Value), (∀ (j : Nat) av, (encVal v)[j]? = some av → RelV N w av (us j)) → (∀ (j : Nat) av, (encVal v')[j]? = some av → RelV N w av (us j)) → v = v'
theorem det_list {l : List Val} (ih : ∀ x ∈ l, DetV x) {N : Nat → Prop} {w : World} {z z' : Bool} {l' : List Val} {u : Value} (h : RelV N w (.sl z (l.map encVal)) u) (h' : RelV N w (.sl z' (l'.map encVal)) u) : l = l' := by
  generalize hr : l.map encVal = rs at h
  generalize hr' : l'.map encVal = rs' at h'
  have e1 : rs.length = l.length := by rw [← hr]; simp
  have e2 : rs'.length = l'.length := by rw [← hr']; simp
  cases h with
  | slNil =>
    cases h' with
    | slNil =>
      have h1 : l.length = 0 := by simpa using e1.symm
      have h2 : l'.length = 0 := by simpa using e2.symm
      rw [List.eq_nil_of_length_eq_zero h1, List.eq_nil_of_length_eq_zero h2]
  | sl _ _ a cap sz f hs hc hm g1 g2 g3 g4 =>
    generalize hq : (Value.slice (some a) rs.length cap) = q at h'
    cases h' with
    | slNil => cases hq
    | sl _ _ a' cap' sz' f' hs' hc' hm' k1 k2 k3 k4 =>
      injection hq with q1 q2 q3
      obtain rfl := Option.some.inj q1
      have hll : l.length = l'.length := by omega
      apply List.ext_getElem hll
      intro i hi hi'
      have r1 : rs[i]? = some (encVal l[i]) := by rw [← hr]; simp [hi]
      have r2 : rs'[i]? = some (encVal l'[i]) := by rw [← hr']; simp [hi']
      have s1 := g1 i _ r1
      have s2 := k1 i _ r2
      have hsz : sz = sz' := by rw [← s1, ← s2, encVal_len, encVal_len]
      subst hsz
      refine ih _ (List.getElem_mem hi) N w l'[i] (fun j => f i j) (fun j av hj => g3 i _ j av r1 hj) (fun j av hj => ?_)
      have hjl : j < (encVal l[i]).length := by
        rw [encVal_len, ← encVal_len l'[i]]
        rcases Nat.lt_or_ge j (encVal l'[i]).length with h | h
        · exact h
        · rw [List.getElem?_eq_none h] at hj; cases hj
      have c1 := (g2 i _ j _ r1 (List.getElem?_eq_getElem hjl)).2
      have c2 := (k2 i _ j av r2 hj).2
      rw [c1] at c2
      have e := Option.some.inj c2
      show RelV N w av (f i j)
      rw [e]; exact k3 i _ j av r2 hj
theorem det_val : ∀ v : Val, DetV v := by
  apply Val.ind
  intro v ih N w v' us h h'
  rw [encVal_eq] at h h'
  have a0 := h 0 _ rfl
  have b0 := h' 0 _ rfl
  have a1 := h 1 _ rfl
  have b1 := h' 1 _ rfl
  have a2 := h 2 _ rfl
  have b2 := h' 2 _ rfl
  have a3 := h 3 _ rfl
  have b3 := h' 3 _ rfl
  have a4 := h 4 _ rfl
  have b4 := h' 4 _ rfl
  have e3 := det_list ih a3 b3
  have e4 := det_strs a4 b4
  have e0 := det_int a0 b0
  have e1 := det_int a1 b1
  have e2 := det_str a2 b2
  obtain ⟨k, n, t, l, ns⟩ := v
  obtain ⟨k', n', t', l', ns'⟩ := v'
  simp only [Val.kind_mk, Val.num_mk, Val.text_mk, Val.list_mk, Val.names_mk] at e0 e1 e2 e3 e4
  subst e0 e1 e2 e3 e4
  rfl

theorem spt_cap {N : Nat → Prop} {w : World} {rows : List (List AV)} {a : Addr} {n cap cap' : Nat} (h : RelV N w (.sl true rows) (.slice (some a) n cap)) (hc : n ≤ cap') (hm : cap' ≤ maxLen) : RelV N w (.sl true rows) (.slice (some a) n cap') := by
  cases h with
  | sl _ _ _ _ sz f hs hc1 hm1 g1 g2 g3 g4 => exact .sl true rows a cap' sz f hs hc hm g1 g2 g3 g4
theorem spt_fz {N : Nat → Prop} {w : World} {rows : List (List AV)} {a : Addr} {n cap : Nat} (h : RelV N w (.sl true rows) (.slice (some a) n cap)) (hne : ∃ row ∈ rows, row ≠ []) : Fz w a.block := by
  cases h with
  | sl _ _ _ _ sz f hs hc1 hm1 g1 g2 g3 g4 =>
    obtain ⟨row, hr, hn⟩ := hne
    obtain ⟨i, hi⟩ := List.getElem?_of_mem hr
    cases row with
    | nil => exact absurd rfl hn
    | cons av row => exact g4 rfl i _ 0 av hi rfl
theorem spt_caps {N : Nat → Prop} {w : World} {rows : List (List AV)} {a : Addr} {n cap : Nat} (h : RelV N w (.sl true rows) (.slice (some a) n cap)) : n ≤ cap ∧ cap ≤ maxLen ∧ n = rows.length := by
  cases h with
  | sl _ _ _ _ sz f hs hc1 hm1 g1 g2 g3 g4 => exact ⟨hc1, hm1, rfl⟩

/-- The machine's equality of two spans of lists that differ. -/
theorem span_ne {N : Nat → Prop} {w w' : World} {l l' : List Val} {p p' : Value} (h : RelV N w (.spt (l.map encVal)) p) (h' : RelV N w (.spt (l'.map encVal)) p') (hne : l ≠ l') (hw : ∀ k, k < w.heap.size → w'.heap[k]? = w.heap[k]?) :
    (Op.equalIn 10000 62 (.agg #[p, .int .i64 l.length]) (.agg #[p', .int .i64 l'.length])).run Try.prog w' = .ok false w' := by
  have key : ∀ b : Bool, (Op.equalIn 9999 60 p p').run Try.prog w' = .ok b w' → (b = true → l.length ≠ l'.length) → (Op.equalIn 10000 62 (.agg #[p, .int .i64 l.length]) (.agg #[p', .int .i64 l'.length])).run Try.prog w' = .ok false w' := by
    intro b hb hbl
    rw [run_equalIn_struct (P := Try.prog) w' 9999 62 _ _ (by kernel_rfl) (by kernel_rfl)]
    have hf : (Try.prog.fieldsOf 62).toList = [(Try.prog.fieldsOf 62)[0]!, (Try.prog.fieldsOf 62)[1]!] := by kernel_rfl
    have n0 : (((Try.prog.fieldsOf 62)[0]!).name == "_") = false := by kernel_rfl
    have t0 : ((Try.prog.fieldsOf 62)[0]!).type = 60 := by kernel_rfl
    have o0 : ((Try.prog.fieldsOf 62)[0]!).offset = 0 := by kernel_rfl
    have n1 : (((Try.prog.fieldsOf 62)[1]!).name == "_") = false := by kernel_rfl
    have t1 : ((Try.prog.fieldsOf 62)[1]!).type = 3 := by kernel_rfl
    have o1 : ((Try.prog.fieldsOf 62)[1]!).offset = 1 := by kernel_rfl
    rw [hf]
    generalize (Try.prog.fieldsOf 62)[0]! = f0 at n0 t0 o0
    generalize (Try.prog.fieldsOf 62)[1]! = f1 at n1 t1 o1
    have n0' : f0.name ≠ "_" := by simpa using n0
    have n1' : f1.name ≠ "_" := by simpa using n1
    have p0 : ∀ (q r : Value), (part 60 #[q, r] 0).run Try.prog w' = .ok q w' := fun q r => by
      simp [part, run_agg tabOk (T := tab) (t := 60) (b := false) rfl]
    have p1 : ∀ (q r : Value), (part 3 #[q, r] 1).run Try.prog w' = .ok r w' := fun q r => by
      simp [part, run_agg tabOk (T := tab) (t := 3) (b := false) rfl]
    simp only [Op.eqFields, t0, t1, o0, o1]
    rw [if_pos n0', if_pos n1']
    simp only [Sem.run_bind, p0, p1, Result.andThen_ok, hb]
    cases b with
    | false => simp
    | true =>
      have hi : (Op.equalIn 9999 3 (.int .i64 (l.length : Int)) (.int .i64 (l'.length : Int))).run Try.prog w' = .ok ((l.length : Int) == (l'.length : Int)) w' := run_equalIn_int w' 9998 3 .i64 .i64 _ _ Try.underlying3
      have : ((l.length : Int) == (l'.length : Int)) = false := by
        have := hbl rfl
        simp; omega
      rw [this] at hi
      simp [hi, p1]
  generalize hr : l.map encVal = rs at h
  generalize hr' : l'.map encVal = rs' at h'
  have e1 : rs.length = l.length := by rw [← hr]; simp
  have e2 : rs'.length = l'.length := by rw [← hr']; simp
  have pt := Try.underlying60
  cases h with
  | spt0 =>
    cases h' with
    | spt0 =>
      have h1 : l.length = 0 := by simpa using e1.symm
      have h2 : l'.length = 0 := by simpa using e2.symm
      exact absurd ((List.eq_nil_of_length_eq_zero h1).trans (List.eq_nil_of_length_eq_zero h2).symm) hne
    | spt rows a cap hn hh =>
      refine key false ?_ (fun h => by cases h)
      show (Op.equalIn (9998 + 1) _ _ _).run Try.prog w' = _
      unfold Op.equalIn
      rw [Sem.run_bind, run_underlying pt]
      rfl
  | spt rows a cap hn hh =>
    cases h' with
    | spt0 =>
      refine key false ?_ (fun h => by cases h)
      show (Op.equalIn (9998 + 1) _ _ _).run Try.prog w' = _
      unfold Op.equalIn
      rw [Sem.run_bind, run_underlying pt]
      rfl
    | spt rows' a' cap' hn' hh' =>
      have hsz := fun w => run_size tabOk (T := tab) (t := 30) (n := 5) rfl w
      by_cases ha : a = a'
      · subst ha
        refine key true ?_ (fun _ hll => hne ?_)
        · show (Op.equalIn (9998 + 1) _ _ _).run Try.prog w' = _
          unfold Op.equalIn
          rw [Sem.run_bind, run_underlying pt]
          simp [hsz, run_sameAddr_same]
        · obtain ⟨c1, c2, c3⟩ := spt_caps hh'
          have hlen : rs.length = rs'.length := by omega
          have hh2 : RelV N w (.sl true rs) (.slice (some a) rs.length cap') := spt_cap hh (by omega) c2
          rw [hlen] at hh2
          rw [← hr] at hh2
          rw [← hr'] at hh'
          rw [← hr'] at hh2
          exact det_list (fun x _ => det_val x) hh2 hh'
      · refine key false ?_ (fun h => by cases h)
        have fz : ∀ (rows : List (List AV)) (m : List Val), m.map encVal = rows → rows ≠ [] → ∃ row ∈ rows, row ≠ [] := by
          intro rows m hm hne'
          subst hm
          cases m with
          | nil => exact absurd rfl hne'
          | cons v m => exact ⟨encVal v, by simp, fun e => by have := encVal_len v; rw [e] at this; cases this⟩
        obtain ⟨arr, t, f1⟩ := spt_fz hh (fz _ _ hr hn)
        obtain ⟨arr', t', f2⟩ := spt_fz hh' (fz _ _ hr' hn')
        show (Op.equalIn (9998 + 1) _ _ _).run Try.prog w' = _
        unfold Op.equalIn
        rw [Sem.run_bind, run_underlying pt]
        simp [hsz, run_sameAddr_other w' ha (by rw [hw _ (Array.getElem?_eq_some_iff.1 f1).1]; exact f1) (by rw [hw _ (Array.getElem?_eq_some_iff.1 f2).1]; exact f2)]
end Go.Proofs.Ytiaigcdckmpepaa
