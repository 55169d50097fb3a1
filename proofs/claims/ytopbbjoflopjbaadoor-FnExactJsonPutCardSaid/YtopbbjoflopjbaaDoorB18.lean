/- The text that the library's Builder holds; the conditions stand in each theorem. -/
import Derived.Test.YtopbbjoflopjbaaDoorB17
/-! strings.Builder: String. -/
set_option linter.unusedVariables false
set_option linter.unusedSimpArgs false
set_option maxRecDepth 100000
namespace Go.Proofs.YtopbbjoflopjbaaDoor
open Go.Bb

theorem cellsByte : Tryd.prog.cellsOf 5 = 1 := by kernel_rfl

set_option maxHeartbeats 2000000 in
theorem string_some (b g cap : Nat) (p : Value) (s : List UInt8) (h0 : s ≠ []) (cur : Array Value) (w : World) (hbk : w.heap[b]? = some (.cells #[p, .slice (some ⟨g, 0, none⟩) s.length cap] 55 (0, 0))) (hg : w.heap[g]? = some (.cells cur 5 (0, 0)))
    (hnc : s.length ≤ cap) (hcm : cap ≤ maxLen) (hcs : cur.size = cap) (hcell : ∀ (j : Nat) x, s[j]? = some x → cur[j]? = some (.int .u8 x.toNat)) :
    Calls Tryd.prog 36 #[.pointer (some ⟨b, 0, none⟩)] w fun e w' => e = .returned (.string ⟨s.toArray⟩) ∧ Unch (fun k => k = g) w w' := by
  have hl0 : s.length ≠ 0 := by simpa using h0
  have c1 : w.drew.cell? ⟨b, 1, none⟩ = some (.slice (some ⟨g, 0, none⟩) s.length cap) := by
    have : w.drew.heap[b]? = some (.cells #[p, .slice (some ⟨g, 0, none⟩) s.length cap] 55 (0, 0)) := hbk
    simp [World.cell?, this]
  have hSD : (Builtin.unsafeSliceData_ #[30] 74 #[.slice (some ⟨g, 0, none⟩) s.length cap]).run Tryd.prog w.drew = .ok (.pointer (some ⟨g, 0, none⟩)) w.drew :=
    Lib.run_unsafeSliceData_row _ _ _ _ _ _ (by omega)
  have hUS : (Builtin.unsafeString_ #[74, 3] 9 #[.pointer (some ⟨g, 0, none⟩), .int .i64 s.length]).run Tryd.prog w.drew = .ok (.string ⟨s.toArray⟩) (w.drew.freeze ⟨g, 0, none⟩ s.length) := by
    refine Lib.run_unsafeString_row w.drew 74 3 9 5 Tryd.underlying74 cellsByte g cur.size (by have hg' : w.drew.heap[g]? = some (.cells cur 5 (0, 0)) := hg; simp [World.shape?, hg']) s h0 (by omega) (by unfold maxLen at hcm; omega) ?_
    intro j x hx
    have hg' : w.drew.heap[g]? = some (.cells cur 5 (0, 0)) := hg
    rw [add_none _ _ rfl]
    simp only [World.cell?, hg']
    simpa using hcell j x hx
  clear hcell hcs hnc hcm hl0 h0
  go_enter Tryd.func36, Tryd.ntmps36
  go_wp2
  go_region
  all_goals (go_wp2; go_ret; exact ⟨rfl, (unch_drew _ w).trans (unch_freeze _ g _) (fun _ _ h => h)⟩)

set_option maxHeartbeats 2000000 in
theorem string_nil (b : Nat) (p : Value) (w : World) (hbk : w.heap[b]? = some (.cells #[p, .slice none 0 0] 55 (0, 0))) :
    Calls Tryd.prog 36 #[.pointer (some ⟨b, 0, none⟩)] w fun e w' => e = .returned (.string ⟨#[]⟩) ∧ Unch (fun _ => False) w w' := by
  have hUS : ∀ (W : World) (q : Option Addr), (Builtin.unsafeString_ #[74, 3] 9 #[.pointer q, .int .i64 0]).run Tryd.prog W = .ok (.string .empty) W := fun W q => Lib.run_unsafeString_none W _ _ _ q
  have c1 : w.drew.cell? ⟨b, 1, none⟩ = some (.slice none 0 0) := by
    have : w.drew.heap[b]? = some (.cells #[p, .slice none 0 0] 55 (0, 0)) := hbk
    simp [World.cell?, this]
  have hSD : (Builtin.unsafeSliceData_ #[30] 74 #[.slice none 0 0]).run Tryd.prog w.drew = .ok (.pointer none) w.drew := rfl
  go_enter Tryd.func36, Tryd.ntmps36
  go_wp2
  go_region
  all_goals (go_wp2; go_ret; exact ⟨rfl, unch_drew _ w⟩)

set_option maxHeartbeats 2000000 in
theorem string_room (b g cap : Nat) (p : Value) (w : World) (hc0 : cap ≠ 0) (hbk : w.heap[b]? = some (.cells #[p, .slice (some ⟨g, 0, none⟩) 0 cap] 55 (0, 0))) :
    Calls Tryd.prog 36 #[.pointer (some ⟨b, 0, none⟩)] w fun e w' => e = .returned (.string ⟨#[]⟩) ∧ Unch (fun _ => False) w w' := by
  have hUS : ∀ (W : World) (q : Option Addr), (Builtin.unsafeString_ #[74, 3] 9 #[.pointer q, .int .i64 0]).run Tryd.prog W = .ok (.string .empty) W := fun W q => Lib.run_unsafeString_none W _ _ _ q
  have c1 : w.drew.cell? ⟨b, 1, none⟩ = some (.slice (some ⟨g, 0, none⟩) 0 cap) := by
    have : w.drew.heap[b]? = some (.cells #[p, .slice (some ⟨g, 0, none⟩) 0 cap] 55 (0, 0)) := hbk
    simp [World.cell?, this]
  have hSD : (Builtin.unsafeSliceData_ #[30] 74 #[.slice (some ⟨g, 0, none⟩) 0 cap]).run Tryd.prog w.drew = .ok (.pointer (some ⟨g, 0, none⟩)) w.drew :=
    Lib.run_unsafeSliceData_row _ _ _ _ _ _ hc0
  clear hc0
  go_enter Tryd.func36, Tryd.ntmps36
  go_wp2
  go_region
  all_goals (go_wp2; go_ret; exact ⟨rfl, unch_drew _ w⟩)

set_option maxHeartbeats 2000000 in
theorem string_noroom (b g : Nat) (p : Value) (cur : Array Value) (w : World) (hbk : w.heap[b]? = some (.cells #[p, .slice (some ⟨g, 0, none⟩) 0 0] 55 (0, 0))) (hg : w.heap[g]? = some (.cells cur 5 (0, 0))) :
    Calls Tryd.prog 36 #[.pointer (some ⟨b, 0, none⟩)] w fun e w' => e = .returned (.string ⟨#[]⟩) ∧ Unch (fun _ => False) w w' := by
  have hUS : ∀ (W : World) (q : Option Addr), (Builtin.unsafeString_ #[74, 3] 9 #[.pointer q, .int .i64 0]).run Tryd.prog W = .ok (.string .empty) W := fun W q => Lib.run_unsafeString_none W _ _ _ q
  have hlt : b < w.heap.size := (Array.getElem?_eq_some_iff.1 hbk).1
  have c1 : w.drew.cell? ⟨b, 1, none⟩ = some (.slice (some ⟨g, 0, none⟩) 0 0) := by
    have : w.drew.heap[b]? = some (.cells #[p, .slice (some ⟨g, 0, none⟩) 0 0] 55 (0, 0)) := hbk
    simp [World.cell?, this]
  have hSD : (Builtin.unsafeSliceData_ #[30] 74 #[.slice (some ⟨g, 0, none⟩) 0 0]).run Tryd.prog w.drew = .ok (.pointer (some ⟨w.drew.heap.size, 0, none⟩)) (w.drew.alloc (.view ⟨g, 0, none⟩ 5)) :=
    Lib.run_unsafeSliceData_zero w.drew _ _ 5 Tryd.underlying74 ⟨g, 0, none⟩ 0 (5, cur.size) (by have hg' : w.drew.heap[g]? = some (.cells cur 5 (0, 0)) := hg; simp [World.shape?, hg'])
  have c2 : (w.drew.alloc (.view ⟨g, 0, none⟩ 5)).cell? ⟨b, 1, none⟩ = some (.slice (some ⟨g, 0, none⟩) 0 0) := by
    have : (w.drew.alloc (.view ⟨g, 0, none⟩ 5)).heap[b]? = _ := (Lib.alloc_old w.drew _ b hlt).trans hbk
    simp [World.cell?, this]
  have c3 : (w.alloc (.view ⟨g, 0, none⟩ 5)).drew.cell? ⟨b, 1, none⟩ = some (.slice (some ⟨g, 0, none⟩) 0 0) := c2
  have c0 : w.cell? ⟨b, 1, none⟩ = some (.slice (some ⟨g, 0, none⟩) 0 0) := c1
  go_enter Tryd.func36, Tryd.ntmps36
  go_wp2
  go_region
  all_goals (go_wp2; go_ret; exact ⟨rfl, (unch_drew _ w).trans (unch_alloc (fun _ => False) _ _) (fun _ _ h => h)⟩)

def inB (l : List Int) : Bool := l.all fun n => decide (0 ≤ n ∧ n < 256)
theorem ofI_get {l : List Int} (hl : inB l = true) {j : Nat} {x : UInt8} (h : (ofI l)[j]? = some x) : l[j]? = some (x.toNat : Int) := by
  unfold ofI at h
  rw [List.getElem?_map] at h
  obtain ⟨n, h1, h2⟩ := Option.map_eq_some_iff.1 h
  have := List.all_eq_true.1 hl n (List.mem_of_getElem? h1)
  simp only [decide_eq_true_eq] at this
  rw [h1, ← h2]
  congr 1
  have e : (UInt8.ofNat n.toNat).toNat = n.toNat := by
    rw [UInt8.toNat_ofNat']; omega
  rw [e]; omega

theorem string_does (b y : Nat) (v : Value) (l : List Int) (hl : inB l = true) :
    Does Tryd.prog 36 [.ptr 0 b 0] [(0, bBox b y v), (1, bSl v l)] (ret (.str (ofI l))) := by
  refine ⟨⟨_, Tryd.func36, rfl, by decide +kernel⟩, fun F N w vs hvs hh => ?_⟩
  obtain rfl := args_ptr hvs
  obtain ⟨p, hb, hhb, hp⟩ := bBox_own (hh.own 0 (bBox b y v).1 (bBox b y v).2 rfl)
  have hown := hh.own 1 (bSl v l).1 (bSl v l).2 rfl
  have fin : ∀ (M : Nat → Prop) (w' : World), Unch M w w' → (∀ k, M k → F 1 k) → (ofI l).length ≤ maxLen → ∃ v1 r h' F' N', Ending.returned (Value.string ⟨(ofI l).toArray⟩) = .returned v1 ∧ ret (.str (ofI l)) r h' ∧ RelV N' w' r v1 ∧ HOk N' F' w' h' ∧
      (∀ x, x ∈ keys h' → ∀ b, F' x b → (∃ y_1, y_1 ∈ keys [(0, bBox b y v), (1, bSl v l)] ∧ F y_1 b) ∨ w.heap.size ≤ b) ∧
      (∀ k, k < w.heap.size → N' k → N k) ∧ (∀ k, k < w.heap.size → N k → N' k ∨ ∃ y_1, y_1 ∈ keys [(0, bBox b y v), (1, bSl v l)] ∧ F y_1 k) ∧ Unch (fun k => ∃ y_1, y_1 ∈ keys [(0, bBox b y v), (1, bSl v l)] ∧ F y_1 k) w w' := by
    intro M w' hu hM hm
    refine ⟨_, _, [], fun _ _ => False, N, rfl, ⟨rfl, rfl⟩, .str _ hm, ⟨(fun x v o h => by cases h), (fun x h => by cases h), (fun x y h => by cases h), (fun x v o h => by cases h)⟩, (fun x h => by cases h), fun _ _ h => h, fun _ _ h => .inl h, hu.os, hu.tape, hu.output, hu.size, fun k hk hN => hu.block k hk fun h => hN ⟨1, by simp [keys], hM k h⟩⟩
  have hempty : l = [] → (⟨#[]⟩ : ByteArray) = ⟨(ofI l).toArray⟩ := fun e => by subst e; rfl
  have hgo : ∀ rows, rows = l.map (encI .u8) → OwnV N w (F 1) (.osl 5 1 rows) v → _ := fun rows hrows ho => ho
  generalize hrows : l.map (encI .u8) = rows at hown
  simp only [bSl, hrows] at hown
  cases hown with
  | frz _ _ _ h => cases h
  | osl0 =>
    have hl0 : l = [] := by simpa using hrows
    refine (string_nil b p w hhb).mono ?_
    rintro e w' ⟨rfl, hu⟩
    rw [hempty hl0]
    exact fin _ w' hu (fun _ h => h.elim) (by subst hl0; simp [ofI])
  | osl _ _ _ _ g cap arr G u hgb hhg hsz hlc hm hr hG hd hc ho =>
    have hlen : rows.length = l.length := by rw [← hrows]; simp
    by_cases hl0 : l = []
    · rw [hlen, hl0] at hhb
      by_cases hc0 : cap = 0
      · subst hc0
        refine (string_noroom b g p arr w hhb hhg).mono ?_
        rintro e w' ⟨rfl, hu⟩
        rw [hempty hl0]
        exact fin _ w' hu (fun _ h => h.elim) (by subst hl0; simp [ofI])
      · refine (string_room b g cap p w hc0 hhb).mono ?_
        rintro e w' ⟨rfl, hu⟩
        rw [hempty hl0]
        exact fin _ w' hu (fun _ h => h.elim) (by subst hl0; simp [ofI])
    · have hlo : (ofI l).length = l.length := by simp [ofI]
      rw [hlen, ← hlo] at hhb
      refine (string_some b g cap p (ofI l) (by intro e; rw [e] at hlo; exact hl0 (List.eq_nil_of_length_eq_zero hlo.symm)) arr w hhb hhg (by omega) hm (by omega) ?_).mono ?_
      · intro j x hx
        have h1 := ofI_get hl hx
        have h2 : rows[j]? = some (encI .u8 x.toNat) := by rw [← hrows, List.getElem?_map, h1]; rfl
        have h3 := hc j _ 0 _ h2 rfl
        have h4 := ho j _ 0 _ h2 rfl
        generalize u j 0 = z at h3 h4
        cases h4 with
        | frz _ _ _ h => cases h; simpa using h3
      · rintro e w' ⟨rfl, hu⟩
        exact fin _ w' hu (fun k hk => hk ▸ hgb) (by omega)
end Go.Proofs.YtopbbjoflopjbaaDoor
