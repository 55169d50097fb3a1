/- The library's contract of strings.Join, laid at this program and told over abstract states; the conditions stand in each theorem. -/
import Derived.Shelf.Strings.OnBuilder
import Derived.Shelf.Lay
import Derived.Ground.NamesProg
import Derived.Test.YtopbbjoflopjbaaDoorChecked
import Derived.Test.YtopbbjoflopjbaaDoorB14
import Derived.Test.YtopbbjoflopjbaaDoorTabb
import Derived.Test.YtopbbjoflopjbaaDoorDat
/-! strings.Join. -/
set_option linter.unusedVariables false
set_option linter.unusedSimpArgs false
set_option maxRecDepth 100000
namespace Go.Proofs
open Go.Shelf
shelf_lay Lays.n156 Nm 156 at Tryd as Tryd.laysJoin
theorem Tryd.extraJoin : Builder.Extra Tryd.prog Tryd.laysJoin_ren where
  sizeBuilder := by kernel_rfl
  liesBuilder := by kernel_rfl
  t5 := Tryd.underlying5
  a5 := Tryd.isAgg5
  z5 := Tryd.sizeOf5
  v5 := Tryd.zeroValue5
  infoByte := by kernel_rfl
  cellsByte := by kernel_rfl
  sizeByte := by kernel_rfl
  neB5 := by decide
end Go.Proofs
namespace Go.Proofs.YtopbbjoflopjbaaDoor
open Go.Bb

def m_strings_Join (a0 : List Bs) (a1 : Bs) : Option Bs := if a0.length ≤ 140737488355328 ∧ (Lib.join a0 a1).length ≤ 140737488355328 then some (Lib.join a0 a1) else none
theorem m_strings_Join_ok : ∀ (a0 : List Bs) (a1 : Bs) (r : Bs), m_strings_Join a0 a1 = some r → Does Tryd.prog 61 [.sl false (a0.map encS), .str a1] [] (ret (.str r)) := by
  intro a0 a1 r h
  unfold m_strings_Join at h
  split at h
  · rename_i hb
    obtain rfl := Option.some.inj h
    have hm : maxLen = 9223372036854775807 := rfl
    refine ⟨⟨_, Tryd.func61, by kernel_rfl, by kernel_rfl⟩, fun F N w vs hvs hh => ?_⟩
    obtain ⟨h1, h2⟩ := hvs
    have hl : vs.size = 2 := h1
    have hv0 := h2 0 _ vs[0] rfl (by simp [hl])
    have hv1 := h2 1 _ vs[1] rfl (by simp [hl])
    have hvs : vs = #[vs[0], vs[1]] := by
      apply Array.ext
      · simpa using hl
      · intro i hi hi'
        have : i = 0 ∨ i = 1 := by simp at hi'; omega
        rcases this with rfl | rfl <;> rfl
    generalize vs[0] = u0 at hv0 hvs
    generalize vs[1] = u1 at hv1 hvs
    subst hvs
    have fin : ∀ w', RowKit.Below w.heap.size w w' → ∃ v r h' F' N', Ending.returned (Value.string ⟨(Lib.join a0 a1).toArray⟩) = .returned v ∧ ret (.str (Lib.join a0 a1)) r h' ∧ RelV N' w' r v ∧ HOk N' F' w' h' ∧
      (∀ x, x ∈ keys h' → ∀ b, F' x b → (∃ y, y ∈ keys ([] : HP) ∧ F y b) ∨ w.heap.size ≤ b) ∧
      (∀ k, k < w.heap.size → N' k → N k) ∧ (∀ k, k < w.heap.size → N k → N' k ∨ ∃ y, y ∈ keys ([] : HP) ∧ F y k) ∧ Unch (fun k => ∃ y, y ∈ keys ([] : HP) ∧ F y k) w w' := by
      intro w' hb'
      exact ⟨_, _, [], F, N, rfl, ⟨rfl, rfl⟩, .str _ (by omega), ⟨(fun x v o h => by cases h), (fun x h => by cases h), (fun x y h => by cases h), (fun x v o h => by cases h)⟩, (fun x h => by cases h), fun _ _ h => h, fun _ _ h => .inl h, hb'.os, hb'.tape, hb'.output, hb'.size, fun k hk _ => hb'.block k hk⟩
    cases hv1 with
    | str l hl1 =>
      generalize hrs : List.map encS a0 = rs at hv0
      cases hv0 with
      | slNil =>
        have : a0 = [] := by cases a0 with | nil => rfl | cons a l => cases hrs
        subst this
        refine (Any.strings_Join_none Tryd.laysJoin Tryd.extraJoin none 0 ⟨a1.toArray⟩ w).mono ?_
        rintro e w' ⟨rfl, rfl⟩
        exact fin w' (RowKit.Below.refl _ _)
      | sl _ _ a cap sz u hs hc hmx g1 g2 g3 g4 =>
        subst hrs
        have hlen : (a0.map encS).length = a0.length := by simp
        by_cases h0 : a0 = []
        · subst h0
          refine (Any.strings_Join_none Tryd.laysJoin Tryd.extraJoin (some a) cap ⟨a1.toArray⟩ w).mono ?_
          rintro e w' ⟨rfl, rfl⟩
          exact fin w' (RowKit.Below.refl _ _)
        · have hpos : 0 < a0.length := List.length_pos_iff.2 h0
          have hsz : sz = 1 := by
            have := g1 0 (encS a0[0]) (by simp [hpos])
            simpa [encS] using this.symm
          subst hsz
          obtain ⟨blk, off, spot⟩ := a
          have hsp : spot = none := hs (by omega)
          subst hsp
          have hcell : ∀ (j : Nat) x, (a0.map fun s : Bs => (⟨s.toArray⟩ : ByteArray))[j]? = some x → w.cell? ⟨blk, off + j, none⟩ = some (.string x) := by
            intro j x hx
            rw [List.getElem?_map] at hx
            obtain ⟨s, hs1, rfl⟩ := Option.map_eq_some_iff.1 hx
            have hr : (a0.map encS)[j]? = some (encS s) := by rw [List.getElem?_map, hs1]; rfl
            have c1 := (g2 j (encS s) 0 (.str s) hr rfl).2
            have c2 := g3 j (encS s) 0 (.str s) hr rfl
            simp only [Nat.mul_one, Nat.add_zero] at c1
            rw [c1]
            generalize u j 0 = q at c2
            cases c2
            rfl
          have hbk : blk < w.heap.size := by
            have hx := hcell 0 ⟨(a0[0]).toArray⟩ (by simp [hpos])
            unfold World.cell? at hx
            rcases Nat.lt_or_ge blk w.heap.size with h | h
            · exact h
            · simp only [Array.getElem?_eq_none h] at hx
              cases hx
          have hmm : (a0.map fun s : Bs => (⟨s.toArray⟩ : ByteArray)).map (fun x : ByteArray => x.data.toList) = a0 := by
            rw [List.map_map]
            conv => rhs; rw [← List.map_id a0]
            apply List.map_congr_left
            intro x _; simp
          have := Any.strings_Join Tryd.laysJoin Tryd.extraJoin blk off cap (a0.map fun s : Bs => (⟨s.toArray⟩ : ByteArray)) ⟨a1.toArray⟩ w hcell hbk (by simpa using hb.1) (by simpa using hc) (by rw [hmm]; exact hb.2)
          rw [hmm] at this
          simp only [List.length_map] at this ⊢
          refine this.mono ?_
          rintro e w' ⟨rfl, hbl⟩
          exact fin w' ⟨hbl.os, hbl.tape, hbl.output, hbl.size, hbl.block⟩
  · cases h
end Go.Proofs.YtopbbjoflopjbaaDoor
