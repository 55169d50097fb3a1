/- Values as data, and their cells; the conditions stand in each theorem. -/
import Derived.Test.YthokajebopeomaaAb11
import Derived.IntWalk
/-! Pure data of this program, and its cells. -/
set_option linter.unusedVariables false
set_option linter.unusedSimpArgs false
namespace Go.Ab

inductive Val where
  | mk (kind num : Int) (text : List UInt8) (list : List Val) (names : List (List UInt8))
  deriving Inhabited

def Val.kind : Val → Int | .mk k _ _ _ _ => k
def Val.num : Val → Int | .mk _ n _ _ _ => n
def Val.text : Val → List UInt8 | .mk _ _ t _ _ => t
def Val.list : Val → List Val | .mk _ _ _ l _ => l
def Val.names : Val → List (List UInt8) | .mk _ _ _ _ ns => ns

def encS (s : List UInt8) : List AV := [.str s]
mutual
def encV : Val → List AV
  | .mk k n t l ns => [.int .i64 k, .int .i64 n, .str t, .sl (encVs l), .sl (ns.map encS)]
def encVs : List Val → List (List AV)
  | [] => []
  | v :: l => encV v :: encVs l
end
theorem encVs_eq (l : List Val) : encVs l = l.map encV := by induction l <;> simp_all [encVs]
theorem encV_eq (v : Val) : encV v = [.int .i64 v.kind, .int .i64 v.num, .str v.text, .sl (v.list.map encV), .sl (v.names.map encS)] := by
  cases v; simp [encV, encVs_eq, Val.kind, Val.num, Val.text, Val.list, Val.names]

section
variable (v : Val)
@[simp] theorem encV_length : (encV v).length = 5 := by rw [encV_eq]; rfl
@[simp] theorem encV_cell : cellsOk (encV v) = true := by rw [encV_eq]; rfl
@[simp] theorem encV_win0 : win (encV v) 0 1 = some [.int .i64 v.kind] := by rw [encV_eq]; rfl
@[simp] theorem encV_win1 : win (encV v) 1 1 = some [.int .i64 v.num] := by rw [encV_eq]; rfl
@[simp] theorem encV_win2 : win (encV v) 2 1 = some [.str v.text] := by rw [encV_eq]; rfl
@[simp] theorem encV_win3 : win (encV v) 3 1 = some [.sl (v.list.map encV)] := by rw [encV_eq]; rfl
@[simp] theorem encV_win4 : win (encV v) 4 1 = some [.sl (v.names.map encS)] := by rw [encV_eq]; rfl
@[simp] theorem encV_win : win (encV v) 0 5 = some (encV v) := by rw [encV_eq]; rfl
end
@[simp] theorem encS_length (s : List UInt8) : (encS s).length = 1 := rfl
@[simp] theorem encS_win (s : List UInt8) : win (encS s) 0 1 = some [.str s] := rfl

theorem wrap_i64 {n : Int} (h0 : -9223372036854775808 ≤ n) (h1 : n < 9223372036854775808) : IntKind.wrap .i64 n = n := IntWalk.i64_in n ⟨h0, by omega⟩

/-! Rows -/
section
variable {α : Type}
@[simp] theorem rowsC_nil : rowsC ([] : List (List α)) = [] := rfl
@[simp] theorem cellsOk_rowsC {rows : List (List AV)} : cellsOk (rowsC rows) = rows.all cellsOk := by
  induction rows with
  | nil => rfl
  | cons r rows ih => rw [show rowsC (r :: rows) = r ++ rowsC rows from rfl, cellsOk_append, ih]; rfl
theorem rowsC_length {sz : Nat} {rows : List (List α)} (h : ∀ r ∈ rows, r.length = sz) : (rowsC rows).length = rows.length * sz := (flatten_get rows h).1
theorem rowsC_snoc (rows : List (List α)) (r : List α) : rowsC (rows ++ [r]) = rowsC rows ++ r := by simp [rowsC]
theorem rowsC_append (rows rows' : List (List α)) : rowsC (rows ++ rows') = rowsC rows ++ rowsC rows' := by simp [rowsC]
theorem rowsC_cons (r : List α) (rows : List (List α)) : rowsC (r :: rows) = r ++ rowsC rows := rfl
theorem rowsC_map {β : Type} (f : α → β) (rows : List (List α)) : (rowsC rows).map f = rowsC (rows.map (List.map f)) := by simp [rowsC, List.map_flatten]

theorem rowsC_split {sz : Nat} : ∀ {rows : List (List α)} (_ : ∀ r ∈ rows, r.length = sz) (i : Nat), i ≤ rows.length → (rowsC rows).take (i * sz) = rowsC (rows.take i) ∧ (rowsC rows).drop (i * sz) = rowsC (rows.drop i)
  | rows, h, 0, _ => by simp [rowsC]
  | [], h, i + 1, hi => by simp at hi
  | r :: rows, h, i + 1, hi => by
    obtain ⟨h1, h2⟩ := rowsC_split (rows := rows) (fun r hr => h r (List.mem_cons_of_mem _ hr)) i (by simpa using hi)
    have hr := h r List.mem_cons_self
    have e : (i + 1) * sz = r.length + i * sz := by rw [hr, Nat.add_mul, Nat.one_mul, Nat.add_comm]
    rw [e, rowsC_cons, List.take_length_add_append, List.drop_length_add_append, h1, h2]
    exact ⟨rfl, rfl⟩

theorem rowsC_splice {sz : Nat} {rows : List (List α)} (h : ∀ r ∈ rows, r.length = sz) {i : Nat} (hi : i < rows.length) {r : List α} (hr : r.length = sz) : splice (rowsC rows) (i * sz) r = rowsC (rows.set i r) := by
  obtain ⟨h1, _⟩ := rowsC_split h i (by omega)
  obtain ⟨_, h2⟩ := rowsC_split h (i + 1) (by omega)
  have e : (i + 1) * sz = i * sz + r.length := by rw [hr, Nat.add_mul, Nat.one_mul]
  unfold splice
  rw [h1, ← e, h2, List.set_eq_take_append_cons_drop, if_pos hi, rowsC_append, rowsC_cons, List.append_assoc]

theorem rowsC_win {sz : Nat} {rows : List (List α)} (h : ∀ r ∈ rows, r.length = sz) {i : Nat} (hi : i < rows.length) : win (rowsC rows) (i * sz) sz = some rows[i] := by
  obtain ⟨_, h2⟩ := rowsC_split h i (by omega)
  have hl := rowsC_length h
  have : (i + 1) * sz ≤ rows.length * sz := Nat.mul_le_mul_right _ hi
  rw [Nat.add_mul, Nat.one_mul] at this
  unfold win
  rw [if_pos (by omega), h2, List.drop_eq_getElem_cons hi, rowsC_cons]
  have hr := h rows[i] (List.getElem_mem _)
  rw [List.take_append_of_le_length (by omega), List.take_of_length_le (by omega)]

theorem chunk_rowsC {sz : Nat} : ∀ {rows : List (List α)} (_ : ∀ r ∈ rows, r.length = sz), chunk sz rows.length (rowsC rows) = rows
  | [], _ => rfl
  | r :: rows, h => by
    have hr := h r List.mem_cons_self
    simp only [List.length_cons, chunk, rowsC_cons]
    rw [← hr, List.take_left, List.drop_left]
    congr 1
    rw [hr]; exact chunk_rowsC (fun r hr => h r (List.mem_cons_of_mem _ hr))

end
section
variable (T : Tab) (ks : List Nat) (h : List (Nat × HO)) (n : Nat)
@[simp] theorem viewD_int (k : IntKind) (i : Int) : viewD T ks h n (.int k i) = .int k i := by cases n <;> rfl
@[simp] theorem viewD_bool (b : Bool) : viewD T ks h n (.bool b) = .bool b := by cases n <;> rfl
@[simp] theorem viewD_str (l : List UInt8) : viewD T ks h n (.str l) = .str l := by cases n <;> rfl
@[simp] theorem viewD_raw (v : Value) : viewD T ks h n (.raw v) = .raw v := by cases n <;> rfl
@[simp] theorem viewD_sl (rows : List (List AV)) : viewD T ks h n (.sl rows) = .sl rows := by cases n <;> rfl
@[simp] theorem viewD_ptr (b o : Nat) : viewD T ks h n (.ptr b o) = .ptr b o := by cases n <;> rfl
@[simp] theorem viewD_und : viewD T ks h n .und = .und := by cases n <;> rfl
@[simp] theorem viewD_eptr (cs : List AV) : viewD T ks h n (.eptr cs) = .eptr cs := by cases n <;> rfl
@[simp] theorem viewD_clo (f : Fn) (cs : List AV) : viewD T ks h n (.clo f cs) = .clo f cs := by cases n <;> rfl
@[simp] theorem viewD_ifc (t : TypeId) (v : AV) : viewD T ks h n (.ifc t v) = .ifc t v := by cases n <;> rfl
@[simp] theorem viewD_agg4 (cs : List AV) : viewD T ks h 4 (.agg cs) = .agg (cs.map (viewD T ks h 3)) := rfl
@[simp] theorem viewD_agg3 (cs : List AV) : viewD T ks h 3 (.agg cs) = .agg (cs.map (viewD T ks h 2)) := rfl
@[simp] theorem viewD_nil4 : viewD T ks h 4 .nil = .sl [] := rfl
@[simp] theorem viewD_nil3 : viewD T ks h 3 .nil = .sl [] := rfl
@[simp] theorem viewD_nil2 : viewD T ks h 2 .nil = .sl [] := rfl
theorem viewD_rows {β : Type} {f : β → List AV} {l : List β} {b m cap size sz : Nat} {t : TypeId} (hb : b ∉ ks) (hg : getk b h = some (.row t size (rowsC (l.map f)))) (hsz : T.size t = some sz) (hm : m = l.length)
    (hf : ∀ x, (f x).length = sz) (hv : ∀ x, (f x).map (viewD T ks h n) = f x) : viewD T ks h (n + 1) (.ref b m cap) = .sl (l.map f) := by
  have hall : ∀ r ∈ l.map f, r.length = sz := by intro r hr; obtain ⟨x, _, rfl⟩ := List.mem_map.1 hr; exact hf x
  have hl := rowsC_length hall
  rw [List.length_map] at hl
  have hmap : (rowsC (l.map f)).map (viewD T ks h n) = rowsC (l.map f) := by
    rw [rowsC_map, List.map_map]
    congr 1
    exact List.map_congr_left (fun x _ => hv x)
  simp only [viewD, if_neg hb, hg, hsz]
  rw [if_pos (by rw [hl, hm]), hmap]
  have := chunk_rowsC hall
  rw [List.length_map] at this
  rw [hm, this]
end
section
variable {α : Type}
@[simp] theorem take_len_map {β : Type} (f : β → α) (l : List β) : List.take l.length (List.map f l) = List.map f l := List.take_of_length_le (by simp)
/-- What stands at a loop's head: so many rows done, the others still empty. -/
theorem set_done {β : Type} (f : β → List α) (z : List α) (l : List β) {i : Nat} (hi : i < l.length) :
    ((l.take i).map f ++ List.replicate (l.length - i) z).set i (f l[i]) = (l.take (i + 1)).map f ++ List.replicate (l.length - (i + 1)) z := by
  have h1 : ((l.take i).map f).length = i := by simp; omega
  rw [List.set_append, if_neg (by omega), h1, Nat.sub_self]
  obtain ⟨k, hk⟩ : ∃ k, l.length - i = k + 1 := ⟨l.length - i - 1, by omega⟩
  rw [hk, List.replicate_succ, List.set_cons_zero, List.take_succ_eq_append_getElem hi, show l.length - (i + 1) = k by omega, List.map_append, List.append_assoc]
  rfl
end

theorem Val.list_lt {v x : Val} (h : x ∈ v.list) : SizeOf.sizeOf x < SizeOf.sizeOf v := by
  cases v with
  | mk k n t l ns =>
    simp only [Val.list] at h
    have := List.sizeOf_lt_of_mem h
    simp only [Val.mk.sizeOf_spec]
    omega

end Go.Ab
