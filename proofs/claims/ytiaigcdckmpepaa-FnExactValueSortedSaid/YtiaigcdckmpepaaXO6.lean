/- Parts of a proof, put together; the conditions stand in each theorem. -/
import Derived.Shelf.Small.Bits
import Derived.Shelf.Lay
import Derived.Ground.NamesProg
import Derived.Test.YtiaigcdckmpepaaChecked
import Derived.Shelf.Sort.Plain
import Derived.Shelf.Slices.In.SortNone
import Derived.Sort.Walk0
import Derived.Test.YtiaigcdckmpepaaXO5
section
/-! bits.Len. -/
set_option linter.unusedVariables false
set_option linter.unusedSimpArgs false
set_option maxRecDepth 100000
namespace Go.Proofs
open Go.Shelf
shelf_lay Lays.n125 Nm 125 at Try as Try.laysLen
end Go.Proofs
namespace Go.Proofs.Ytiaigcdckmpepaa
open Go.Bb

def m_math_bits_Len (a0 : Int) : Option Int := if 0 ≤ a0 ∧ a0 ≤ 18446744073709551615 then some (Lib.bitLen a0.toNat : Int) else none
theorem m_math_bits_Len_ok : ∀ (a0 : Int) (r : Int), m_math_bits_Len a0 = some r → Does Try.prog 123 [.int .u64 a0] [] (ret (.int .i64 r)) := by
  intro a0 r h
  unfold m_math_bits_Len at h
  split at h
  · rename_i hb
    obtain rfl := Option.some.inj h
    refine ⟨⟨_, Try.func123, by kernel_rfl, by kernel_rfl⟩, fun F N w vs hvs hh => ?_⟩
    obtain ⟨h1, h2⟩ := hvs
    have hl : vs.size = 1 := h1
    have hv0 := h2 0 _ vs[0] rfl (by simp [hl])
    have hvs : vs = #[vs[0]] := by
      apply Array.ext
      · simpa using hl
      · intro i hi hi'
        have : i = 0 := by simp at hi'; omega
        subst this; rfl
    generalize vs[0] = u0 at hv0 hvs
    subst hvs
    cases hv0
    refine (Any.bits_Len Try.laysLen a0 w hb.1 hb.2).mono ?_
    rintro e w' ⟨rfl, rfl⟩
    exact ⟨_, _, [], F, N, rfl, ⟨rfl, rfl⟩, .int _ _, ⟨(fun x v o h => by cases h), (fun x h => by cases h), (fun x y h => by cases h), (fun x v o h => by cases h)⟩, (fun x h => by cases h), fun _ _ h => h, fun _ _ h => .inl h, Unch.refl _ _⟩
  · cases h
end Go.Proofs.Ytiaigcdckmpepaa
end
section
/-! slices.Sort. -/
set_option linter.unusedVariables false
set_option linter.unusedSimpArgs false
set_option maxRecDepth 100000
set_option maxHeartbeats 400000
namespace Go.Proofs
open Go.Shelf
shelf_lay Lays.n190 Nm 190 at Try as Try.laysSort
end Go.Proofs
namespace Go.Proofs.Ytiaigcdckmpepaa
open Go.Bb
export Go.Bb (encS)

/-- In order. -/
def srtB (l : List Bs) : List Bs := l.mergeSort fun x y => decide (x ≤ y)
def m_slices_Sort_string_string (a0 : List Bs) : Option (List Bs) := if a0.length ≤ 1000000 then some (srtB a0) else none
theorem own_txt {N : Nat → Prop} {w : World} {S : Nat → Prop} {s : Bs} {v : Value} (h : OwnV N w S (.str s) v) : v = .string ⟨s.toArray⟩ ∧ s.length ≤ maxLen := by
  cases h with
  | frz _ _ _ h => cases h with | str _ h => exact ⟨rfl, h⟩
theorem m_slices_Sort_string_string_ok : ∀ (a0 : List Bs) (v0_0 : Value) (r : List Bs), m_slices_Sort_string_string a0 = some r → Does Try.prog 100 [.hd 0 v0_0] [(0, (v0_0, .osl 9 1 (a0.map encS)))] (fun q h' => q = .tup [] ∧ h' = [(0, (v0_0, .osl 9 1 (r.map encS)))]) := by
  intro a0 v0 r h
  unfold m_slices_Sort_string_string at h
  split at h
  · rename_i hb
    obtain rfl := Option.some.inj h
    by_cases h0 : a0 = []
    · subst h0
      refine ⟨⟨_, Try.func100, by kernel_rfl, by kernel_rfl⟩, fun F N w vs hvs hh => ?_⟩
      obtain ⟨h1, h2⟩ := hvs
      have hl : vs.size = 1 := h1
      have hv0 := h2 0 _ vs[0] rfl (by simp [hl])
      have hvs : vs = #[vs[0]] := by
        apply Array.ext
        · simpa using hl
        · intro i hi hi'
          have : i = 0 := by simp at hi'; omega
          subst this; rfl
      generalize vs[0] = u0 at hv0 hvs
      subst hvs
      cases hv0
      have hu : ∃ p cap, v0 = .slice p 0 cap := by
        have ho := hh.own 0 _ _ rfl
        generalize hrs : ([] : List Bs).map encS = rs at ho
        cases ho with
        | frz _ _ _ h => cases h
        | osl0 => exact ⟨_, _, rfl⟩
        | osl _ _ _ _ b cap arr G u hb' hhb hsz hlc hm hr hG hd hc hoo => subst hrs; exact ⟨_, _, rfl⟩
      obtain ⟨p, cap, rfl⟩ := hu
      refine (Any.slices_Sort_string_none Try.laysSort p cap w).mono ?_
      rintro e w' ⟨rfl, rfl⟩
      have e0 : srtB [] = [] := by simp [srtB]
      exact ⟨_, .tup [], [(0, (.slice p 0 cap, .osl 9 1 (([] : List Bs).map encS)))], F, N, rfl, ⟨rfl, by rw [e0]⟩, .tup _ _ rfl (fun i av v h => by simp at h), hh, (fun x hx bb hbb => by
          simp only [keys, List.map_cons, List.map_nil, List.mem_cons, List.not_mem_nil, or_false] at hx
          subst hx
          exact .inl ⟨0, by simp [keys], hbb⟩), fun _ _ h => h, fun _ _ h => .inl h, Unch.refl _ _⟩
    · refine ⟨⟨_, Try.func100, by kernel_rfl, by kernel_rfl⟩, fun F N w vs hvs hh => ?_⟩
      obtain ⟨h1, h2⟩ := hvs
      have hl : vs.size = 1 := h1
      have hv0 := h2 0 _ vs[0] rfl (by simp [hl])
      have hvs : vs = #[vs[0]] := by
        apply Array.ext
        · simpa using hl
        · intro i hi hi'
          have : i = 0 := by simp at hi'; omega
          subst this; rfl
      generalize vs[0] = u0 at hv0 hvs
      subst hvs
      cases hv0
      have ho := hh.own 0 _ _ rfl
      have hpos : 0 < a0.length := List.length_pos_iff.2 h0
      generalize hrs : a0.map encS = rs at ho
      cases ho with
      | frz _ _ _ h => cases h
      | osl0 =>
        cases a0 with
        | nil => exact absurd rfl h0
        | cons s l => cases hrs
      | osl _ _ _ _ b cap arr G u hb' hhb hsz hlc hm hr hG hd hc hoo =>
        subst hrs
        have hrow : ∀ (i : Nat) (h : i < a0.length), (a0.map encS)[i]? = some (encS a0[i]) := fun i h => by simp [h]
        have hcell : ∀ (i : Nat) (h : i < a0.length), arr[i]? = some (.string ⟨a0[i].toArray⟩) ∧ a0[i].length ≤ maxLen := fun i h => by
          have c1 := hc i _ 0 (.str a0[i]) (hrow i h) rfl
          have c2 := hoo i _ 0 (.str a0[i]) (hrow i h) rfl
          obtain ⟨e1, e2⟩ := own_txt c2
          rw [e1] at c1
          exact ⟨by simpa using c1, e2⟩
        have hlen : (a0.map encS).length = a0.length := by simp
        have hbw : b < w.heap.size := (Array.getElem?_eq_some_iff.1 hhb).1
        have hH : Go.Sort.Holds encStr w b 0 a0.toArray := by
          intro j hj
          have hj' : j < a0.length := by simpa using hj
          have e : a0.toArray[j]! = a0[j] := by simp [hj']
          rw [e]
          refine ⟨?_, ?_⟩
          · simp only [World.cell?, hhb, Nat.zero_add]
            exact (hcell j hj').1
          · simp [World.frozen?, hhb]
        rw [hlen]
        refine (Any.slices_Sort_string Try.laysSort b 0 cap a0 w hH hbw (by omega)).mono ?_
        rintro e w' ⟨rfl, n, os, rfl⟩
        have hsl : (srtB a0).length = a0.length := by unfold srtB; simp
        have hmem : ∀ s ∈ srtB a0, s ∈ a0 := fun s hs => by unfold srtB at hs; simpa using hs
        have hput : ∀ k, k < w.heap.size → k ≠ b → (Go.Sort.grow (Go.Sort.putRow encStr (Go.Sort.ahead w n) b 0 (srtB a0).toArray) os).heap[k]? = w.heap[k]? := by
          intro k hk hkb
          simp only [Go.Sort.grow]
          rw [Array.getElem?_append_left (by simpa [Go.Sort.putRow, Go.Sort.mapBlock] using hk)]
          simp [Go.Sort.putRow, Go.Sort.mapBlock, Go.Sort.ahead, Array.getElem?_modify, Ne.symm hkb]
        have hthere : (Go.Sort.grow (Go.Sort.putRow encStr (Go.Sort.ahead w n) b 0 (srtB a0).toArray) os).heap[b]? = some (.cells (Go.Sort.putCells encStr 0 (srtB a0).toArray arr) 9 (0, 0)) := by
          simp only [Go.Sort.grow]
          rw [Array.getElem?_append_left (by simpa [Go.Sort.putRow, Go.Sort.mapBlock] using hbw)]
          simp [Go.Sort.putRow, Go.Sort.mapBlock, Go.Sort.ahead, Array.getElem?_modify, hhb, Go.Sort.onCells]
        refine ⟨_, .tup [], [(0, (.slice (some ⟨b, 0, none⟩) (srtB a0).length cap, .osl 9 1 ((srtB a0).map encS)))], F, N, rfl, ⟨rfl, by rw [hsl]⟩, .tup _ _ rfl (fun i av v h => by simp at h), ?_, ?_, fun _ _ h => h, fun _ _ h => .inl h, ?_⟩
        · refine ⟨fun x v o hx => ?_, fun x hx bb hbb => ?_, fun x y hx hy hne => ?_, fun x v o hx => ?_⟩
          · simp only [getk] at hx
            split at hx
            · rename_i e
              subst e
              cases hx
              have hl2 : ((srtB a0).map encS).length = (srtB a0).length := by simp
              rw [← hl2]
              refine .osl _ _ _ _ b cap (Go.Sort.putCells encStr 0 (srtB a0).toArray arr) (fun _ _ _ => False) (fun i _ => .string ⟨((srtB a0).getD i []).toArray⟩) hb' hthere (by simp [Go.Sort.putCells, hsz]) (by rw [hl2, hsl]; rw [hlen] at hlc; exact hlc) hm (fun i row hi => ?_) (fun i j k h => h.elim) (fun i j i' j' k h => h.elim) (fun i row j av hi hj => ?_) (fun i row j av hi hj => ?_)
              · rw [List.getElem?_map] at hi
                obtain ⟨s, _, rfl⟩ := Option.map_eq_some_iff.1 hi
                rfl
              · rw [List.getElem?_map] at hi
                obtain ⟨s, hs, rfl⟩ := Option.map_eq_some_iff.1 hi
                have hil : i < (srtB a0).length := (List.getElem?_eq_some_iff.1 hs).1
                have hj0 : j = 0 := by
                  rcases j with _ | j
                  · rfl
                  · simp [encS] at hj
                subst hj0
                have hia : i < arr.size := by rw [hlen] at hlc; omega
                simp [Go.Sort.putCells, hia, hil, hs]
              · rw [List.getElem?_map] at hi
                obtain ⟨s, hs, rfl⟩ := Option.map_eq_some_iff.1 hi
                have hj0 : j = 0 := by
                  rcases j with _ | j
                  · rfl
                  · simp [encS] at hj
                subst hj0
                simp [encS] at hj
                subst hj
                have hsm := hmem s (List.mem_of_getElem? hs)
                obtain ⟨q, hq⟩ := List.getElem?_of_mem hsm
                have hql : q < a0.length := (List.getElem?_eq_some_iff.1 hq).1
                have hqe : a0[q] = s := (List.getElem?_eq_some_iff.1 hq).2
                have hsm2 := (hcell q hql).2
                rw [hqe] at hsm2
                have : (srtB a0).getD i [] = s := by simp [List.getD, hs]
                rw [this]
                exact .frz _ _ _ (.str s hsm2)
            · cases hx
          · simp only [keys, List.map_cons, List.map_nil, List.mem_cons, List.not_mem_nil, or_false] at hx
            subst hx
            obtain ⟨k1, k2⟩ := hh.foot 0 (by simp [keys]) bb hbb
            exact ⟨k1, by simp [Go.Sort.grow]; omega⟩
          · simp only [keys, List.map_cons, List.map_nil, List.mem_cons, List.not_mem_nil, or_false] at hx hy
            exact absurd (hx.trans hy.symm) hne
          · simp only [getk] at hx
            split at hx
            · cases hx; rfl
            · cases hx
        · intro x hx bb hbb
          simp only [keys, List.map_cons, List.map_nil, List.mem_cons, List.not_mem_nil, or_false] at hx
          subst hx
          exact .inl ⟨0, by simp [keys], hbb⟩
        · refine ⟨rfl, rfl, rfl, by simp [Go.Sort.grow], fun k hk hn => hput k hk (fun e => hn ⟨0, by simp [keys], e ▸ hb'⟩)⟩
  · cases h
end Go.Proofs.Ytiaigcdckmpepaa
end
section
/-! Functions of the program. -/
set_option linter.unusedVariables false
set_option linter.unnecessarySimpa false
set_option maxRecDepth 100000
set_option maxHeartbeats 20000000
noncomputable section
namespace Go.Proofs.Ytiaigcdckmpepaa
open Go.Bb
mutual
def m_spec_l8Sorted_l2 : Nat → Val → (List Bs) → Int → Int → Option (Lp Int (Lp ((List Val) × (List Bs)) Val))
 | 0, _, _, _, _ => none
 | k + 1, a0, x2, x3, x4 =>
  (if a0.kind = 5 then
    if 0 < x4 then
     if (0 : Int) ≤ (IntKind.wrap .i64 (x4 - 1)) ∧ (IntKind.wrap .i64 (x4 - 1)) < (x2.length : Int) then
      if (0 : Int) ≤ x3 ∧ x3 < (a0.names.length : Int) then
       some (Lp.go (!(Op.bytesLess (ix x2 (IntKind.wrap .i64 (x4 - 1))) (ix a0.names x3) || decide ((ix x2 (IntKind.wrap .i64 (x4 - 1))) = (ix a0.names x3)))))
      else none
     else none
    else
     some (Lp.go false)
   else
    some (Lp.go false)).bind fun o3 =>
  o3.then fun s3 =>
  if s3 = true then
   m_spec_l8Sorted_l2 k a0 x2 x3 (IntKind.wrap .i64 (x4 - 1))
  else
   some (Lp.go x4)
def m_spec_l8Sorted_l1 : Nat → Val → (List Val) → (List Bs) → Int → Option (Lp ((List Val) × (List Bs)) Val)
 | 0, _, _, _, _ => none
 | k + 1, a0, x1, x2, x3 =>
  if x3 < (a0.list.length : Int) then
   (m_spec_l8Sorted_l2 k a0 x2 x3 (x1.length : Int)).bind fun o2 =>
   o2.then fun s2 =>
  if (0 : Int) ≤ 0 ∧ (0 : Int) ≤ s2 ∧ s2 ≤ (x1.length : Int) then
   if (([] : List Val) ++ (sub x1 0 s2)).length * 80 ≤ 140737488355328 then
    if (0 : Int) ≤ x3 ∧ x3 < (a0.list.length : Int) then
     (m_spec_l8Sorted k (ix a0.list x3)).bind fun y1 =>
     if ((([] : List Val) ++ (sub x1 0 s2)) ++ [y1]).length * 80 ≤ 140737488355328 then
      if (0 : Int) ≤ s2 ∧ s2 ≤ (x1.length : Int) ∧ (x1.length : Int) ≤ (x1.length : Int) then
       if (((([] : List Val) ++ (sub x1 0 s2)) ++ [y1]) ++ (sub x1 s2 (x1.length : Int))).length * 80 ≤ 140737488355328 then
        if a0.kind = 5 then
         if (0 : Int) ≤ 0 ∧ (0 : Int) ≤ s2 ∧ s2 ≤ (x2.length : Int) then
          if (([] : List Bs) ++ (sub x2 0 s2)).length * 16 ≤ 140737488355328 then
           if (0 : Int) ≤ x3 ∧ x3 < (a0.names.length : Int) then
            if ((([] : List Bs) ++ (sub x2 0 s2)) ++ [(ix a0.names x3)]).length * 16 ≤ 140737488355328 then
             if (0 : Int) ≤ s2 ∧ s2 ≤ (x2.length : Int) ∧ (x2.length : Int) ≤ (x2.length : Int) then
              if (((([] : List Bs) ++ (sub x2 0 s2)) ++ [(ix a0.names x3)]) ++ (sub x2 s2 (x2.length : Int))).length * 16 ≤ 140737488355328 then
               m_spec_l8Sorted_l1 k a0 (((([] : List Val) ++ (sub x1 0 s2)) ++ [y1]) ++ (sub x1 s2 (x1.length : Int))) (((([] : List Bs) ++ (sub x2 0 s2)) ++ [(ix a0.names x3)]) ++ (sub x2 s2 (x2.length : Int))) (IntKind.wrap .i64 (x3 + 1))
              else none
             else none
            else none
           else none
          else none
         else none
        else
         m_spec_l8Sorted_l1 k a0 (((([] : List Val) ++ (sub x1 0 s2)) ++ [y1]) ++ (sub x1 s2 (x1.length : Int))) x2 (IntKind.wrap .i64 (x3 + 1))
       else none
      else none
     else none
    else none
   else none
  else none
  else
   some (Lp.go (x1, x2))
def m_spec_l8Sorted : Nat → Val → Option Val
 | 0, _ => none
 | k + 1, a0 =>
  (m_spec_l8Sorted_l1 k a0 [] [] 0).bind fun o1 =>
  o1.then fun s1 =>
  some (Val.mk a0.kind a0.num a0.text s1.1 s1.2)
end
def P_m_spec_l8Sorted (k : Nat) : Prop := ∀ (a0 : Val) (r : Val), m_spec_l8Sorted k a0 = some r → Does Try.prog 65 [.agg [.int .i64 a0.kind, .int .i64 a0.num, .str a0.text, .sl true (a0.list.map encVal), .sl false (a0.names.map encS)]] [] (ret (.agg [.int .i64 r.kind, .int .i64 r.num, .str r.text, .sl true (r.list.map encVal), .sl false (r.names.map encS)]))
theorem m_spec_l8Sorted_step (k : Nat) (ih : ∀ m, m < k → P_m_spec_l8Sorted m) : P_m_spec_l8Sorted k := by
 intro a0 r h
 obtain ⟨k, rfl⟩ : ∃ k', k = k' + 1 := by cases k with | zero => (rw [m_spec_l8Sorted] at h; cases h) | succ k' => exact ⟨k', rfl⟩
 rw [m_spec_l8Sorted] at h
 refine does_of_good tabOk Try.func65 rfl (by decide +kernel) (Nat.le_of_ble_eq_true rfl) fun c => ?_
 refine Good.le (σ' := ⟨89, [(0, .agg [.int .i64 a0.kind, .int .i64 a0.num, .str a0.text, .sl true (a0.list.map encVal), .sl false (a0.names.map encS)])], []⟩) (Le.refl _) ?_
 refine good_seq fun K1 hK1 => ?_
 refine good_region ?_
 refine g_op rfl (o_box (k := 11) tabOk rfl rfl rfl rfl rfl ?_)
 intro b1
 refine g_op rfl (o_alloc (k := 12) tabOk tzero30 rfl rfl ?_)
 intro b2
 refine gk hK1 89 [1, 2] [11, 12] ?_
 refine good_seq fun K2 hK2 => ?_
 refine rg 6 ?_
 refine g_op rfl (ValOk.op (v_build tabOk (cs := [.int .i64 a0.kind, .int .i64 a0.num, .str a0.text, .nil, .nil]) tzero30 tsok30 rfl rfl rfl ?_))
 refine g_op rfl (o_alloc (k := 13) tabOk tzero30 rfl rfl ?_)
 intro b3
 refine g_op rfl (o_storeP tabOk (cs' := [.int .i64 a0.kind, .int .i64 a0.num, .str a0.text, .nil, .nil]) rfl rfl tsize30 rfl rfl rfl (Nat.le_of_ble_eq_true rfl) rfl rfl rfl ?_)
 refine gk hK2 89 [1, 2, 3] [11, 12, 13] ?_
 refine good_seq fun K3 hK3 => ?_
 refine good_seq fun K4 hK4 => ?_
 refine rg 1 ?_
 refine g_nil (hK4 _ ?_)
 obtain ⟨o1, ho1, hJ1⟩ := bnd h
 have hw1 : ∀ (s1 : ((List Val) × (List Bs))) (w3 : Value) (w4 : Value), o1 = Lp.go s1 → ∀ σ', Le σ' ⟨89, [(2, .ptr 12 b2 0), (3, .ptr 13 b3 0)], [(12, ((.pointer (some ⟨b2, 0, none⟩)), .optr 30 [.int .i64 0, .int .i64 0, .str ([] : Bs), .nil, .nil])), (13, ((.pointer (some ⟨b3, 0, none⟩)), .optr 30 [.int .i64 a0.kind, .int .i64 a0.num, .str a0.text, .hd 5204 w3, .hd 5306 w4])), (5204, (w3, .osl 30 5 (s1.1.map encVal))), (5306, (w4, .osl 9 1 (s1.2.map encS)))]⟩ → K3 σ' := by
  intro s1 w3 w4 e1 σ' hle1
  subst e1
  refine hK3 _ (Good.le hle1 ?_)
  replace h := hJ1
  refine good_seq fun K5 hK5 => ?_
  refine rg 1 ?_
  refine g_op rfl (o_storeP tabOk (cs' := [.int .i64 a0.kind, .int .i64 a0.num, .str a0.text, .hd 5204 w3, .hd 5306 w4]) rfl rfl tsize30 rfl rfl rfl (Nat.le_of_ble_eq_true rfl) rfl rfl rfl ?_)
  refine gk hK5 89 [2] [12, 5204, 5306] ?_
  refine Good.le (σ' := ⟨89, [(2, .ptr 12 b2 0)], [(12, ((.pointer (some ⟨b2, 0, none⟩)), .optr 30 [.int .i64 a0.kind, .int .i64 a0.num, .str a0.text, .sl true (s1.1.map encVal), .sl false (s1.2.map encS)]))]⟩) (le_of [5204, 5306] [(_, _), (_, _)] [some 12] rfl ⟨⟨_, rfl, .osl (FrzLL.map fun _ _ => encVal_frz _)⟩, ⟨⟨_, rfl, .osl (FrzLL.map fun _ _ => encS_frz _)⟩, trivial⟩⟩ ⟨⟨_, rfl, .refl _⟩, trivial⟩ ⟨⟨_, rfl, .optr (.cons (.refl _) (.cons (.refl _) (.cons (.refl _) (.cons (.frz _ _ _ (.head _)) (.cons (.frz _ _ _ (.tail _ (.head _))) (.nil))))))⟩, trivial⟩ (by decide) (by decide)) ?_
  refine good_ret ?_
  obtain rfl := Option.some.inj h
  exact endQ_ret (h' := []) [] (.cell rfl rfl tsize30 tagg30 rfl rfl rfl (.nil)) trivial (by decide) ⟨rfl, rfl⟩
 replace h := ho1
 refine good_block ?_
 refine good_loopf (fun p : ((List Val) × (List Bs) × Int × Value × Value) => ⟨89, [(1, .ptr 11 b1 0), (2, .ptr 12 b2 0), (3, .ptr 13 b3 0), (4, .int .i64 p.2.2.1)], [(11, ((.pointer (some ⟨b1, 0, none⟩)), .optr 30 [.int .i64 a0.kind, .int .i64 a0.num, .str a0.text, .sl true (a0.list.map encVal), .sl false (a0.names.map encS)])), (12, ((.pointer (some ⟨b2, 0, none⟩)), .optr 30 [.int .i64 0, .int .i64 0, .str ([] : Bs), .nil, .nil])), (13, ((.pointer (some ⟨b3, 0, none⟩)), .optr 30 [.int .i64 a0.kind, .int .i64 a0.num, .str a0.text, .hd 5306 p.2.2.2.1, .hd 5308 p.2.2.2.2])), (5306, (p.2.2.2.1, .osl 30 5 (p.1.map encVal))), (5308, (p.2.2.2.2, .osl 9 1 (p.2.1.map encS)))]⟩) (fun m p => m < k + 1 ∧ m_spec_l8Sorted_l1 m a0 p.1 p.2.1 p.2.2.1 = some o1) k ([], [], 0, nilV, nilV) (lw [some 11, some 12, some 13, none, none]) ⟨by omega, h⟩ ?_
 rintro m1 ⟨x1, x2, x3, w1, w2⟩ ⟨hm, h⟩
 replace h : m_spec_l8Sorted_l1 m1 a0 x1 x2 x3 = some o1 := h
 refine Good.le (σ' := ⟨89, [(1, .ptr 11 b1 0), (2, .ptr 12 b2 0), (3, .ptr 13 b3 0), (4, .int .i64 x3)], [(11, ((.pointer (some ⟨b1, 0, none⟩)), .optr 30 [.int .i64 a0.kind, .int .i64 a0.num, .str a0.text, .sl true (a0.list.map encVal), .sl false (a0.names.map encS)])), (12, ((.pointer (some ⟨b2, 0, none⟩)), .optr 30 [.int .i64 0, .int .i64 0, .str ([] : Bs), .nil, .nil])), (13, ((.pointer (some ⟨b3, 0, none⟩)), .optr 30 [.int .i64 a0.kind, .int .i64 a0.num, .str a0.text, .hd 5306 w1, .hd 5308 w2])), (5306, (w1, .osl 30 5 (x1.map encVal))), (5308, (w2, .osl 9 1 (x2.map encS)))]⟩) (Le.refl _) ?_
 obtain ⟨m1, rfl⟩ : ∃ m', m1 = m' + 1 := by cases m1 with | zero => (rw [m_spec_l8Sorted_l1] at h; cases h) | succ m' => exact ⟨m', rfl⟩
 rw [m_spec_l8Sorted_l1] at h
 refine good_seq fun K6 hK6 => ?_
 refine good_seq fun K7 hK7 => ?_
 refine rg 3 ?_
 refine g_op rfl (ValOk.op (v_lenM (l := a0.list) (f := encVal) tabOk rfl rfl telem28 rfl ?_))
 refine gs 1 ?_
 refine gk hK7 89 [1, 2, 3, 4, 17] [11, 12, 13, 5306, 5308] ?_
 refine good_cond rfl (fun hc1 => ?_) (fun hc1 => ?_)
 ·replace h := ifT h (dT hc1)
  refine good_skip ?_
  refine hK6 _ (kp 89 [1, 2, 3, 4] [11, 12, 13, 5306, 5308] ?_)
  refine good_seq fun K8 hK8 => ?_
  refine good_block ?_
  refine good_seq fun K9 hK9 => ?_
  refine rg 2 ?_
  refine g_op rfl (ValOk.op (v_lenHM (q := 5306) tabOk ⟨_, rfl⟩ rfl rfl telem28 rfl ?_))
  refine gs 1 ?_
  refine gk hK9 89 [1, 2, 3, 4, 5] [11, 12, 13, 5306, 5308] ?_
  refine good_seq fun K10 hK10 => ?_
  obtain ⟨o2, ho2, hJ2⟩ := bnd h
  have hw2 : ∀ (s2 : Int), o2 = Lp.go s2 → ∀ σ', Le σ' ⟨89, [(1, .ptr 11 b1 0), (2, .ptr 12 b2 0), (3, .ptr 13 b3 0), (4, .int .i64 x3), (5, .int .i64 s2)], [(11, ((.pointer (some ⟨b1, 0, none⟩)), .optr 30 [.int .i64 a0.kind, .int .i64 a0.num, .str a0.text, .sl true (a0.list.map encVal), .sl false (a0.names.map encS)])), (12, ((.pointer (some ⟨b2, 0, none⟩)), .optr 30 [.int .i64 0, .int .i64 0, .str ([] : Bs), .nil, .nil])), (13, ((.pointer (some ⟨b3, 0, none⟩)), .optr 30 [.int .i64 a0.kind, .int .i64 a0.num, .str a0.text, .hd 5306 w1, .hd 5308 w2])), (5306, (w1, .osl 30 5 (x1.map encVal))), (5308, (w2, .osl 9 1 (x2.map encS)))]⟩ → K10 σ' := by
   intro s2 e2 σ' hle2
   subst e2
   refine hK10 _ (Good.le hle2 ?_)
   replace h := hJ2
   refine good_seq fun K11 hK11 => ?_
   refine Good.le (σ' := ⟨89, [(1, .ptr 11 b1 0), (2, .ptr 12 b2 0), (3, .ptr 13 b3 0), (4, .int .i64 x3), (5, .int .i64 s2)], [(11, ((.pointer (some ⟨b1, 0, none⟩)), .optr 30 [.int .i64 a0.kind, .int .i64 a0.num, .str a0.text, .sl true (a0.list.map encVal), .sl false (a0.names.map encS)])), (12, ((.pointer (some ⟨b2, 0, none⟩)), .optr 30 [.int .i64 0, .int .i64 0, .str ([] : Bs), .nil, .nil])), (13, ((.pointer (some ⟨b3, 0, none⟩)), .optr 30 [.int .i64 a0.kind, .int .i64 a0.num, .str a0.text, .sl true (x1.map encVal), .hd 5308 w2])), (5308, (w2, .osl 9 1 (x2.map encS)))]⟩) (le_of [5306] [(_, _)] [some 11, some 12, some 13, some 5308] rfl ⟨⟨_, rfl, .osl (FrzLL.map fun _ _ => encVal_frz _)⟩, trivial⟩ ⟨⟨_, rfl, .refl _⟩, ⟨⟨_, rfl, .refl _⟩, ⟨⟨_, rfl, .refl _⟩, ⟨⟨_, rfl, .refl _⟩, ⟨⟨_, rfl, .refl _⟩, trivial⟩⟩⟩⟩⟩ ⟨⟨_, rfl, .refl _⟩, ⟨⟨_, rfl, .refl _⟩, ⟨⟨_, rfl, .optr (.cons (.refl _) (.cons (.refl _) (.cons (.refl _) (.cons (.frz _ _ _ (.head _)) (.cons (.refl _) (.nil))))))⟩, ⟨⟨_, rfl, .refl _⟩, trivial⟩⟩⟩⟩ (by decide) (by decide)) ?_
   obtain ⟨hb1, h⟩ := ifS h
   obtain ⟨hb2, h⟩ := ifS h
   obtain ⟨hb3, h⟩ := ifS h
   obtain ⟨y1, hy1, h⟩ := bnd h
   obtain ⟨hb4, h⟩ := ifS h
   obtain ⟨hb5, h⟩ := ifS h
   obtain ⟨hb6, h⟩ := ifS h
   refine good_anyM (by kernel_rfl) [⟨[], [], [], [], [56], [56]⟩, ⟨[], [3], [], [], [], []⟩, ⟨[1], [47], [13], [], [], []⟩, ⟨[], [5], [], [], [], []⟩, ⟨[1, 2, 3], [48, 49], [], [], [], []⟩, ⟨[0, 1, 2, 3, 4], [46, 50], [56], [56], [61], [61]⟩, ⟨[], [1], [], [], [], []⟩, ⟨[6], [52], [11], [], [], []⟩, ⟨[], [4], [], [], [], []⟩, ⟨[6, 7, 8], [53, 54], [], [], [], []⟩, ⟨[6, 7, 8, 9], [55], [], [], [], []⟩, ⟨[0, 1, 2, 3, 4, 5, 6, 7, 8, 9, 10], [56], [], [], [], []⟩, ⟨[0, 1, 2, 3, 4, 5, 6, 7, 8, 9, 10, 11], [57], [], [], [], []⟩, ⟨[0, 1, 2, 3, 4, 5, 6, 7, 8, 9, 10, 11, 12], [51, 58], [61], [61], [69], [69]⟩, ⟨[], [3], [], [], [], []⟩, ⟨[14], [60], [13], [], [], []⟩, ⟨[], [5], [], [], [], []⟩, ⟨[14, 15, 16], [61, 62], [], [], [], []⟩, ⟨[0, 1, 2, 3, 4, 5, 6, 7, 8, 9, 10, 11, 12, 13, 14, 15, 16, 17], [59, 63], [69], [69], [74], [74]⟩, ⟨[0, 1, 2, 3, 4, 5, 6, 7, 8, 9, 10, 11, 12, 13, 14, 15, 16, 17, 18], [3], [], [], [], []⟩, ⟨[0, 1, 2, 3, 4, 5, 6, 7, 8, 9, 10, 11, 12, 13, 14, 15, 16, 17, 18, 19], [65, 64], [13], [13], [9005], []⟩] [some 46, some 47, some 48, some 49, some 50, some 51, some 52, some 53, some 54, some 55, some 56, some 57, some 58, some 59, some 60, some 61, some 62, some 63, some 64, some 65, none] 89 [(1, .ptr 11 b1 0), (2, .ptr 12 b2 0), (3, .ptr 13 b3 0), (4, .int .i64 x3), (5, .int .i64 s2)] [(11, ((.pointer (some ⟨b1, 0, none⟩)), .optr 30 [.int .i64 a0.kind, .int .i64 a0.num, .str a0.text, .sl true (a0.list.map encVal), .sl false (a0.names.map encS)])), (12, ((.pointer (some ⟨b2, 0, none⟩)), .optr 30 [.int .i64 0, .int .i64 0, .str ([] : Bs), .nil, .nil])), (13, ((.pointer (some ⟨b3, 0, none⟩)), .optr 30 [.int .i64 a0.kind, .int .i64 a0.num, .str a0.text, .sl true (x1.map encVal), .hd 5308 w2])), (5308, (w2, .osl 9 1 (x2.map encS)))] (fun ν1 => [.hd 56 (ν1 56), .ptr 13 b3 3, .sl true (x1.map encVal), .int .i64 s2, .sl true ((sub x1 0 s2).map encVal), .hd 61 (ν1 61), .ptr 11 b1 3, .sl true (a0.list.map encVal), .int .i64 x3, .eptr [.int .i64 ((ix a0.list x3).kind), .int .i64 ((ix a0.list x3).num), .str ((ix a0.list x3).text), .sl true (((ix a0.list x3).list).map encVal), .sl false (((ix a0.list x3).names).map encS)], .agg [.int .i64 ((ix a0.list x3).kind), .int .i64 ((ix a0.list x3).num), .str ((ix a0.list x3).text), .sl true (((ix a0.list x3).list).map encVal), .sl false (((ix a0.list x3).names).map encS)], .agg [.int .i64 y1.kind, .int .i64 y1.num, .str y1.text, .sl true (y1.list.map encVal), .sl false (y1.names.map encS)], .sl true ([y1].map encVal), .hd 69 (ν1 69), .ptr 13 b3 3, .sl true (x1.map encVal), .int .i64 s2, .sl true ((sub x1 s2 (x1.length : Int)).map encVal), .hd 74 (ν1 74), .ptr 13 b3 3, .und]) (fun ν1 => [(56, ((ν1 56), .osl 30 5 (([] : List Val).map encVal))), (61, ((ν1 61), .osl 30 5 ((([] : List Val) ++ (sub x1 0 s2)).map encVal))), (69, ((ν1 69), .osl 30 5 (((([] : List Val) ++ (sub x1 0 s2)) ++ [y1]).map encVal))), (74, ((ν1 74), .osl 30 5 ((((([] : List Val) ++ (sub x1 0 s2)) ++ [y1]) ++ (sub x1 s2 (x1.length : Int))).map encVal))), (9005, ((.pointer (some ⟨b3, 0, none⟩)), .optr 30 [.int .i64 a0.kind, .int .i64 a0.num, .str a0.text, .hd 74 (ν1 74), .hd 5308 w2]))]) [(56, [56]), (61, [61]), (69, [69]), (74, [74]), (9005, [74]), (11, []), (12, []), (13, []), (5308, [])] [56, 61, 69, 74, 9005] [some 11, some 12, some 9005, some 74, some 5308] (fun ν1 => [(1, .ptr 11 b1 0), (2, .ptr 12 b2 0), (3, .ptr 13 b3 0), (4, .int .i64 x3), (5, .int .i64 s2)]) (fun ν1 => [(11, ((.pointer (some ⟨b1, 0, none⟩)), .optr 30 [.int .i64 a0.kind, .int .i64 a0.num, .str a0.text, .sl true (a0.list.map encVal), .sl false (a0.names.map encS)])), (12, ((.pointer (some ⟨b2, 0, none⟩)), .optr 30 [.int .i64 0, .int .i64 0, .str ([] : Bs), .nil, .nil])), (13, ((.pointer (some ⟨b3, 0, none⟩)), .optr 30 [.int .i64 a0.kind, .int .i64 a0.num, .str a0.text, .hd 74 (ν1 74), .hd 5308 w2])), (74, ((ν1 74), .osl 30 5 ((((([] : List Val) ++ (sub x1 0 s2)) ++ [y1]) ++ (sub x1 s2 (x1.length : Int))).map encVal))), (5308, (w2, .osl 9 1 (x2.map encS)))]) (lw [some 11, some 12, some 13, some 5308]) (by kernel_rfl) ⟨?_, ⟨?_, ⟨?_, ⟨?_, ⟨?_, ⟨?_, ⟨?_, ⟨?_, ⟨?_, ⟨?_, ⟨?_, ⟨?_, ⟨?_, ⟨?_, ⟨?_, ⟨?_, ⟨?_, ⟨?_, ⟨?_, ⟨?_, ⟨?_, trivial⟩⟩⟩⟩⟩⟩⟩⟩⟩⟩⟩⟩⟩⟩⟩⟩⟩⟩⟩⟩⟩ ⟨fun _ _ h => (congrArg (fun zz0 => (some (.hd 56 zz0) : Option AV)) (h 56 (by decide))), ⟨fun _ _ _ => rfl, ⟨fun _ _ _ => rfl, ⟨fun _ _ _ => rfl, ⟨fun _ _ _ => rfl, ⟨fun _ _ h => (congrArg (fun zz0 => (some (.hd 61 zz0) : Option AV)) (h 61 (by decide))), ⟨fun _ _ _ => rfl, ⟨fun _ _ _ => rfl, ⟨fun _ _ _ => rfl, ⟨fun _ _ _ => rfl, ⟨fun _ _ _ => rfl, ⟨fun _ _ _ => rfl, ⟨fun _ _ _ => rfl, ⟨fun _ _ h => (congrArg (fun zz0 => (some (.hd 69 zz0) : Option AV)) (h 69 (by decide))), ⟨fun _ _ _ => rfl, ⟨fun _ _ _ => rfl, ⟨fun _ _ _ => rfl, ⟨fun _ _ _ => rfl, ⟨fun _ _ h => (congrArg (fun zz0 => (some (.hd 74 zz0) : Option AV)) (h 74 (by decide))), ⟨fun _ _ _ => rfl, ⟨fun _ _ _ => rfl, trivial⟩⟩⟩⟩⟩⟩⟩⟩⟩⟩⟩⟩⟩⟩⟩⟩⟩⟩⟩⟩⟩ ⟨fun _ _ h => (congrArg (fun zz0 => (some (zz0, .osl 30 5 (([] : List Val).map encVal)) : Option (Value × AV))) (h 56 (by decide))), ⟨fun _ _ h => (congrArg (fun zz0 => (some (zz0, .osl 30 5 ((([] : List Val) ++ (sub x1 0 s2)).map encVal)) : Option (Value × AV))) (h 61 (by decide))), ⟨fun _ _ h => (congrArg (fun zz0 => (some (zz0, .osl 30 5 (((([] : List Val) ++ (sub x1 0 s2)) ++ [y1]).map encVal)) : Option (Value × AV))) (h 69 (by decide))), ⟨fun _ _ h => (congrArg (fun zz0 => (some (zz0, .osl 30 5 ((((([] : List Val) ++ (sub x1 0 s2)) ++ [y1]) ++ (sub x1 s2 (x1.length : Int))).map encVal)) : Option (Value × AV))) (h 74 (by decide))), ⟨fun _ _ h => (congrArg (fun zz0 => (some ((.pointer (some ⟨b3, 0, none⟩)), .optr 30 [.int .i64 a0.kind, .int .i64 a0.num, .str a0.text, .hd 74 zz0, .hd 5308 w2]) : Option (Value × AV))) (h 74 (by decide))), ⟨fun _ _ _ => rfl, ⟨fun _ _ _ => rfl, ⟨fun _ _ _ => rfl, ⟨fun _ _ _ => rfl, trivial⟩⟩⟩⟩⟩⟩⟩⟩⟩ (fun _ => rfl) (fun _ => rfl) (by kernel_rfl) (fun _ => ⟨⟨_, rfl, .refl _⟩, ⟨⟨_, rfl, .refl _⟩, ⟨⟨_, rfl, .refl _⟩, ⟨⟨_, rfl, .refl _⟩, ⟨⟨_, rfl, .refl _⟩, trivial⟩⟩⟩⟩⟩) (fun _ => ⟨⟨_, rfl, .refl _⟩, ⟨⟨_, rfl, .refl _⟩, ⟨⟨_, rfl, .refl _⟩, ⟨⟨_, rfl, .refl _⟩, ⟨⟨_, rfl, .refl _⟩, trivial⟩⟩⟩⟩⟩) (by kernel_rfl) (by decide) ?_
   ·refine local_mk (fun ν1 => []) (fun ν1 => []) (fun _ => rfl) (fun _ => trivial) (fun _ => rfl) (fun _ => trivial) ?_
    intro ν1 S H hS hfr
    refine st_op rfl (o_buildSlice (k := 56) (rows := ([] : List Val).map encVal) tabOk telem28 tsize30 rfl rfl rfl rfl (by decide) (by decide) (by rw [tzero30]; rfl) (by simp only [List.map_cons, List.map_nil, encVal_eq]; rfl) (by simp [encVal_len]) rfl (hfr _ (by decide)) rfl ?_)
    intro w
    exact lp_n (k := 56) hS rfl rfl (fun _ => rfl) rfl
   ·refine local_mk (fun ν1 => [(3, .ptr 13 b3 0)]) (fun ν1 => []) (fun _ => rfl) (fun _ => ⟨⟨_, rfl, .refl _, .refl _⟩, trivial⟩) (fun _ => rfl) (fun _ => trivial) ?_
    intro ν1 S H hS hfr
    refine st_op rfl (ValOk.op (v_fieldP tabOk rfl tfoff30_3 rfl ?_))
    exact lp_v hS rfl rfl (fun _ => rfl)
   ·refine local_mk (fun ν1 => [(47, .ptr 13 b3 3)]) (fun ν1 => [(13, ((.pointer (some ⟨b3, 0, none⟩)), .optr 30 [.int .i64 a0.kind, .int .i64 a0.num, .str a0.text, .sl true (x1.map encVal), .hd 5308 w2]))]) (fun _ => rfl) (fun _ => ⟨⟨_, rfl, .refl _, .refl _⟩, trivial⟩) (fun _ => rfl) (fun _ => ⟨rfl, trivial⟩) ?_
    intro ν1 S H hS hfr
    refine st_op rfl (ValOk.op (v_loadP tabOk rfl rfl tsize28 tagg28 rfl rfl rfl rfl ?_))
    exact lp_v hS rfl rfl (fun _ => rfl)
   ·refine local_mk (fun ν1 => [(5, .int .i64 s2)]) (fun ν1 => []) (fun _ => rfl) (fun _ => ⟨⟨_, rfl, .refl _, .refl _⟩, trivial⟩) (fun _ => rfl) (fun _ => trivial) ?_
    intro ν1 S H hS hfr
    refine st_op rfl (ValOk.op (v_move rfl rfl ?_))
    exact lp_v hS rfl rfl (fun _ => rfl)
   ·refine local_mk (fun ν1 => [(48, .sl true (x1.map encVal)), (49, .int .i64 s2)]) (fun ν1 => []) (fun _ => rfl) (fun _ => ⟨⟨_, rfl, .refl _, .refl _⟩, ⟨⟨_, rfl, .refl _, .refl _⟩, trivial⟩⟩) (fun _ => rfl) (fun _ => trivial) ?_
    intro ν1 S H hS hfr
    refine st_op rfl (ValOk.op (v_sliceM (l := x1) (f := encVal) tabOk rfl rfl rfl rfl telem28 tsize30 encVal_len hb1 rfl ?_))
    exact lp_v hS rfl rfl (fun _ => rfl)
   ·refine local_mk (fun ν1 => [(46, .hd 56 (ν1 56)), (50, .sl true ((sub x1 0 s2).map encVal))]) (fun ν1 => [(56, ((ν1 56), .osl 30 5 (([] : List Val).map encVal)))]) (fun _ => rfl) (fun _ => ⟨⟨_, rfl, .refl _, .refl _⟩, ⟨⟨_, rfl, .refl _, .refl _⟩, trivial⟩⟩) (fun _ => rfl) (fun _ => ⟨rfl, trivial⟩) ?_
    intro ν1 S H hS hfr
    refine st_op rfl (o_appendSM (q := 56) (k := 61) (f := encVal) (l2 := sub x1 0 s2) tabOk ⟨_, rfl⟩ rfl rfl telem28 tsize30 tbytes30 tzero30 rfl (by decide) (by decide) encVal_len encVal_ok rfl (has_minus (hfr _ (by decide))) rfl hb2 ?_)
    intro w
    exact lp_m (k := 61) hS rfl rfl (.inl rfl) (fun _ => rfl) rfl
   ·refine local_mk (fun ν1 => [(1, .ptr 11 b1 0)]) (fun ν1 => []) (fun _ => rfl) (fun _ => ⟨⟨_, rfl, .refl _, .refl _⟩, trivial⟩) (fun _ => rfl) (fun _ => trivial) ?_
    intro ν1 S H hS hfr
    refine st_op rfl (ValOk.op (v_fieldP tabOk rfl tfoff30_3 rfl ?_))
    exact lp_v hS rfl rfl (fun _ => rfl)
   ·refine local_mk (fun ν1 => [(52, .ptr 11 b1 3)]) (fun ν1 => [(11, ((.pointer (some ⟨b1, 0, none⟩)), .optr 30 [.int .i64 a0.kind, .int .i64 a0.num, .str a0.text, .sl true (a0.list.map encVal), .sl false (a0.names.map encS)]))]) (fun _ => rfl) (fun _ => ⟨⟨_, rfl, .refl _, .refl _⟩, trivial⟩) (fun _ => rfl) (fun _ => ⟨rfl, trivial⟩) ?_
    intro ν1 S H hS hfr
    refine st_op rfl (ValOk.op (v_loadP tabOk rfl rfl tsize28 tagg28 rfl rfl rfl rfl ?_))
    exact lp_v hS rfl rfl (fun _ => rfl)
   ·refine local_mk (fun ν1 => [(4, .int .i64 x3)]) (fun ν1 => []) (fun _ => rfl) (fun _ => ⟨⟨_, rfl, .refl _, .refl _⟩, trivial⟩) (fun _ => rfl) (fun _ => trivial) ?_
    intro ν1 S H hS hfr
    refine st_op rfl (ValOk.op (v_move rfl rfl ?_))
    exact lp_v hS rfl rfl (fun _ => rfl)
   ·refine local_mk (fun ν1 => [(53, .sl true (a0.list.map encVal)), (54, .int .i64 x3)]) (fun ν1 => []) (fun _ => rfl) (fun _ => ⟨⟨_, rfl, .refl _, .refl _⟩, ⟨⟨_, rfl, .refl _, .refl _⟩, trivial⟩⟩) (fun _ => rfl) (fun _ => trivial) ?_
    intro ν1 S H hS hfr
    refine st_op rfl (ValOk.op (v_idxM tabOk rfl rfl telem28 tsize30 hb3 (encVal_eq _) rfl rfl ?_))
    exact lp_v hS rfl rfl (fun _ => rfl)
   ·refine local_mk (fun ν1 => [(55, .eptr [.int .i64 ((ix a0.list x3).kind), .int .i64 ((ix a0.list x3).num), .str ((ix a0.list x3).text), .sl true (((ix a0.list x3).list).map encVal), .sl false (((ix a0.list x3).names).map encS)])]) (fun ν1 => []) (fun _ => rfl) (fun _ => ⟨⟨_, rfl, .refl _, .refl _⟩, trivial⟩) (fun _ => rfl) (fun _ => trivial) ?_
    intro ν1 S H hS hfr
    refine st_op rfl (ValOk.op (v_loadE tabOk rfl tsize30 tagg30 rfl rfl rfl ?_))
    exact lp_v hS rfl rfl (fun _ => rfl)
   ·refine local_mk (fun ν1 => [(56, .agg [.int .i64 ((ix a0.list x3).kind), .int .i64 ((ix a0.list x3).num), .str ((ix a0.list x3).text), .sl true (((ix a0.list x3).list).map encVal), .sl false (((ix a0.list x3).names).map encS)])]) (fun ν1 => []) (fun _ => rfl) (fun _ => ⟨⟨_, rfl, .refl _, .refl _⟩, trivial⟩) (fun _ => rfl) (fun _ => trivial) ?_
    intro ν1 S H hS hfr
    refine st_op rfl (o_callR [] [] (core_value rfl rfl) ((ih m1 (by omega)) (ix a0.list x3) _ hy1) trivial (.cons (.refl _) (.nil)) (.inl rfl) rfl ?_)
    exact lp_v hS rfl rfl (fun _ => rfl)
   ·refine local_mk (fun ν1 => [(57, .agg [.int .i64 y1.kind, .int .i64 y1.num, .str y1.text, .sl true (y1.list.map encVal), .sl false (y1.names.map encS)])]) (fun ν1 => []) (fun _ => rfl) (fun _ => ⟨⟨_, rfl, .refl _, .refl _⟩, trivial⟩) (fun _ => rfl) (fun _ => trivial) ?_
    intro ν1 S H hS hfr
    obtain ⟨kf, hkf⟩ := exists_fresh ([] ++ H)
    refine st_op rfl (o_buildSlice (k := kf) (rows := [y1].map encVal) tabOk telem28 tsize30 rfl rfl rfl rfl (by decide) (by decide) (by rw [tzero30]; rfl) (by simp only [List.map_cons, List.map_nil, encVal_eq]; rfl) (by simp [encVal_len]) rfl hkf rfl ?_)
    intro w
    exact lp_fn hS rfl rfl hkf (FrzLL.map fun _ _ => encVal_frz _) (fun _ => rfl)
   ·refine local_mk (fun ν1 => [(51, .hd 61 (ν1 61)), (58, .sl true ([y1].map encVal))]) (fun ν1 => [(61, ((ν1 61), .osl 30 5 ((([] : List Val) ++ (sub x1 0 s2)).map encVal)))]) (fun _ => rfl) (fun _ => ⟨⟨_, rfl, .refl _, .refl _⟩, ⟨⟨_, rfl, .refl _, .refl _⟩, trivial⟩⟩) (fun _ => rfl) (fun _ => ⟨rfl, trivial⟩) ?_
    intro ν1 S H hS hfr
    refine st_op rfl (o_appendSM (q := 61) (k := 69) (f := encVal) (l2 := [y1]) tabOk ⟨_, rfl⟩ rfl rfl telem28 tsize30 tbytes30 tzero30 rfl (by decide) (by decide) encVal_len encVal_ok rfl (has_minus (hfr _ (by decide))) rfl hb4 ?_)
    intro w
    exact lp_m (k := 69) hS rfl rfl (.inl rfl) (fun _ => rfl) rfl
   ·refine local_mk (fun ν1 => [(3, .ptr 13 b3 0)]) (fun ν1 => []) (fun _ => rfl) (fun _ => ⟨⟨_, rfl, .refl _, .refl _⟩, trivial⟩) (fun _ => rfl) (fun _ => trivial) ?_
    intro ν1 S H hS hfr
    refine st_op rfl (ValOk.op (v_fieldP tabOk rfl tfoff30_3 rfl ?_))
    exact lp_v hS rfl rfl (fun _ => rfl)
   ·refine local_mk (fun ν1 => [(60, .ptr 13 b3 3)]) (fun ν1 => [(13, ((.pointer (some ⟨b3, 0, none⟩)), .optr 30 [.int .i64 a0.kind, .int .i64 a0.num, .str a0.text, .sl true (x1.map encVal), .hd 5308 w2]))]) (fun _ => rfl) (fun _ => ⟨⟨_, rfl, .refl _, .refl _⟩, trivial⟩) (fun _ => rfl) (fun _ => ⟨rfl, trivial⟩) ?_
    intro ν1 S H hS hfr
    refine st_op rfl (ValOk.op (v_loadP tabOk rfl rfl tsize28 tagg28 rfl rfl rfl rfl ?_))
    exact lp_v hS rfl rfl (fun _ => rfl)
   ·refine local_mk (fun ν1 => [(5, .int .i64 s2)]) (fun ν1 => []) (fun _ => rfl) (fun _ => ⟨⟨_, rfl, .refl _, .refl _⟩, trivial⟩) (fun _ => rfl) (fun _ => trivial) ?_
    intro ν1 S H hS hfr
    refine st_op rfl (ValOk.op (v_move rfl rfl ?_))
    exact lp_v hS rfl rfl (fun _ => rfl)
   ·refine local_mk (fun ν1 => [(61, .sl true (x1.map encVal)), (62, .int .i64 s2)]) (fun ν1 => []) (fun _ => rfl) (fun _ => ⟨⟨_, rfl, .refl _, .refl _⟩, ⟨⟨_, rfl, .refl _, .refl _⟩, trivial⟩⟩) (fun _ => rfl) (fun _ => trivial) ?_
    intro ν1 S H hS hfr
    refine st_op rfl (ValOk.op (v_sliceM (l := x1) (f := encVal) tabOk rfl rfl rfl rfl telem28 tsize30 encVal_len hb5 rfl ?_))
    exact lp_v hS rfl rfl (fun _ => rfl)
   ·refine local_mk (fun ν1 => [(59, .hd 69 (ν1 69)), (63, .sl true ((sub x1 s2 (x1.length : Int)).map encVal))]) (fun ν1 => [(69, ((ν1 69), .osl 30 5 (((([] : List Val) ++ (sub x1 0 s2)) ++ [y1]).map encVal)))]) (fun _ => rfl) (fun _ => ⟨⟨_, rfl, .refl _, .refl _⟩, ⟨⟨_, rfl, .refl _, .refl _⟩, trivial⟩⟩) (fun _ => rfl) (fun _ => ⟨rfl, trivial⟩) ?_
    intro ν1 S H hS hfr
    refine st_op rfl (o_appendSM (q := 69) (k := 74) (f := encVal) (l2 := sub x1 s2 (x1.length : Int)) tabOk ⟨_, rfl⟩ rfl rfl telem28 tsize30 tbytes30 tzero30 rfl (by decide) (by decide) encVal_len encVal_ok rfl (has_minus (hfr _ (by decide))) rfl hb6 ?_)
    intro w
    exact lp_m (k := 74) hS rfl rfl (.inl rfl) (fun _ => rfl) rfl
   ·refine local_mk (fun ν1 => [(3, .ptr 13 b3 0)]) (fun ν1 => []) (fun _ => rfl) (fun _ => ⟨⟨_, rfl, .refl _, .refl _⟩, trivial⟩) (fun _ => rfl) (fun _ => trivial) ?_
    intro ν1 S H hS hfr
    refine st_op rfl (ValOk.op (v_fieldP tabOk rfl tfoff30_3 rfl ?_))
    exact lp_v hS rfl rfl (fun _ => rfl)
   ·refine local_mk (fun ν1 => [(65, .ptr 13 b3 3), (64, .hd 74 (ν1 74))]) (fun ν1 => [(13, ((.pointer (some ⟨b3, 0, none⟩)), .optr 30 [.int .i64 a0.kind, .int .i64 a0.num, .str a0.text, .sl true (x1.map encVal), .hd 5308 w2]))]) (fun _ => rfl) (fun _ => ⟨⟨_, rfl, .refl _, .refl _⟩, ⟨⟨_, rfl, .refl _, .refl _⟩, trivial⟩⟩) (fun _ => rfl) (fun _ => ⟨rfl, trivial⟩) ?_
    intro ν1 S H hS hfr
    refine st_op rfl (o_storeP tabOk (cs' := [.int .i64 a0.kind, .int .i64 a0.num, .str a0.text, .hd 74 (ν1 74), .hd 5308 w2]) rfl rfl tsize28 rfl rfl rfl (Nat.le_of_ble_eq_true rfl) rfl rfl rfl ?_)
    exact lp_m (k := 9005) hS rfl rfl (.inr (by decide)) (fun _ => rfl) rfl
   intro ν1
   refine hK11 _ ?_
   refine good_seq fun K12 hK12 => ?_
   refine rg 3 ?_
   refine gk hK12 89 [1, 2, 3, 4, 5, 68] [11, 12, 13, 74, 5308] ?_
   refine good_cond rfl (fun hc2 => ?_) (fun hc2 => ?_)
   ·replace h := ifT h (dT hc2)
    refine Good.le (σ' := ⟨89, [(1, .ptr 11 b1 0), (2, .ptr 12 b2 0), (3, .ptr 13 b3 0), (4, .int .i64 x3), (5, .int .i64 s2)], [(11, ((.pointer (some ⟨b1, 0, none⟩)), .optr 30 [.int .i64 a0.kind, .int .i64 a0.num, .str a0.text, .sl true (a0.list.map encVal), .sl false (a0.names.map encS)])), (12, ((.pointer (some ⟨b2, 0, none⟩)), .optr 30 [.int .i64 0, .int .i64 0, .str ([] : Bs), .nil, .nil])), (13, ((.pointer (some ⟨b3, 0, none⟩)), .optr 30 [.int .i64 a0.kind, .int .i64 a0.num, .str a0.text, .hd 74 (ν1 74), .sl false (x2.map encS)])), (74, ((ν1 74), .osl 30 5 ((((([] : List Val) ++ (sub x1 0 s2)) ++ [y1]) ++ (sub x1 s2 (x1.length : Int))).map encVal)))]⟩) (le_of [5308] [(_, _)] [some 11, some 12, some 13, some 74] rfl ⟨⟨_, rfl, .osl (FrzLL.map fun _ _ => encS_frz _)⟩, trivial⟩ ⟨⟨_, rfl, .refl _⟩, ⟨⟨_, rfl, .refl _⟩, ⟨⟨_, rfl, .refl _⟩, ⟨⟨_, rfl, .refl _⟩, ⟨⟨_, rfl, .refl _⟩, trivial⟩⟩⟩⟩⟩ ⟨⟨_, rfl, .refl _⟩, ⟨⟨_, rfl, .refl _⟩, ⟨⟨_, rfl, .optr (.cons (.refl _) (.cons (.refl _) (.cons (.refl _) (.cons (.refl _) (.cons (.frz _ _ _ (.head _)) (.nil))))))⟩, ⟨⟨_, rfl, .refl _⟩, trivial⟩⟩⟩⟩ (by decide) (by decide)) ?_
    obtain ⟨hb7, h⟩ := ifS h
    obtain ⟨hb8, h⟩ := ifS h
    obtain ⟨hb9, h⟩ := ifS h
    obtain ⟨hb10, h⟩ := ifS h
    obtain ⟨hb11, h⟩ := ifS h
    obtain ⟨hb12, h⟩ := ifS h
    refine good_anyM (by kernel_rfl) [⟨[], [], [], [], [79], [79]⟩, ⟨[], [3], [], [], [], []⟩, ⟨[1], [70], [13], [], [], []⟩, ⟨[], [5], [], [], [], []⟩, ⟨[1, 2, 3], [71, 72], [], [], [], []⟩, ⟨[0, 1, 2, 3, 4], [69, 73], [79], [79], [84], [84]⟩, ⟨[], [1], [], [], [], []⟩, ⟨[6], [75], [11], [], [], []⟩, ⟨[], [4], [], [], [], []⟩, ⟨[6, 7, 8], [76, 77], [], [], [], []⟩, ⟨[6, 7, 8, 9], [78], [], [], [], []⟩, ⟨[6, 7, 8, 9, 10], [79], [], [], [], []⟩, ⟨[0, 1, 2, 3, 4, 5, 6, 7, 8, 9, 10, 11], [74, 80], [84], [84], [91], [91]⟩, ⟨[], [3], [], [], [], []⟩, ⟨[13], [82], [13], [], [], []⟩, ⟨[], [5], [], [], [], []⟩, ⟨[13, 14, 15], [83, 84], [], [], [], []⟩, ⟨[0, 1, 2, 3, 4, 5, 6, 7, 8, 9, 10, 11, 12, 13, 14, 15, 16], [81, 85], [91], [91], [96], [96]⟩, ⟨[0, 1, 2, 3, 4, 5, 6, 7, 8, 9, 10, 11, 12, 13, 14, 15, 16, 17], [3], [], [], [], []⟩, ⟨[0, 1, 2, 3, 4, 5, 6, 7, 8, 9, 10, 11, 12, 13, 14, 15, 16, 17, 18], [87, 86], [13], [13], [9006], []⟩] [some 69, some 70, some 71, some 72, some 73, some 74, some 75, some 76, some 77, some 78, some 79, some 80, some 81, some 82, some 83, some 84, some 85, some 86, some 87, none] 89 [(1, .ptr 11 b1 0), (2, .ptr 12 b2 0), (3, .ptr 13 b3 0), (4, .int .i64 x3), (5, .int .i64 s2)] [(11, ((.pointer (some ⟨b1, 0, none⟩)), .optr 30 [.int .i64 a0.kind, .int .i64 a0.num, .str a0.text, .sl true (a0.list.map encVal), .sl false (a0.names.map encS)])), (12, ((.pointer (some ⟨b2, 0, none⟩)), .optr 30 [.int .i64 0, .int .i64 0, .str ([] : Bs), .nil, .nil])), (13, ((.pointer (some ⟨b3, 0, none⟩)), .optr 30 [.int .i64 a0.kind, .int .i64 a0.num, .str a0.text, .hd 74 (ν1 74), .sl false (x2.map encS)])), (74, ((ν1 74), .osl 30 5 ((((([] : List Val) ++ (sub x1 0 s2)) ++ [y1]) ++ (sub x1 s2 (x1.length : Int))).map encVal)))] (fun ν2 => [.hd 79 (ν2 79), .ptr 13 b3 4, .sl false (x2.map encS), .int .i64 s2, .sl false ((sub x2 0 s2).map encS), .hd 84 (ν2 84), .ptr 11 b1 4, .sl false (a0.names.map encS), .int .i64 x3, .eptr [.str (ix a0.names x3)], .str (ix a0.names x3), .sl false ([(ix a0.names x3)].map encS), .hd 91 (ν2 91), .ptr 13 b3 4, .sl false (x2.map encS), .int .i64 s2, .sl false ((sub x2 s2 (x2.length : Int)).map encS), .hd 96 (ν2 96), .ptr 13 b3 4, .und]) (fun ν2 => [(79, ((ν2 79), .osl 9 1 (([] : List Bs).map encS))), (84, ((ν2 84), .osl 9 1 ((([] : List Bs) ++ (sub x2 0 s2)).map encS))), (91, ((ν2 91), .osl 9 1 (((([] : List Bs) ++ (sub x2 0 s2)) ++ [(ix a0.names x3)]).map encS))), (96, ((ν2 96), .osl 9 1 ((((([] : List Bs) ++ (sub x2 0 s2)) ++ [(ix a0.names x3)]) ++ (sub x2 s2 (x2.length : Int))).map encS))), (9006, ((.pointer (some ⟨b3, 0, none⟩)), .optr 30 [.int .i64 a0.kind, .int .i64 a0.num, .str a0.text, .hd 74 (ν1 74), .hd 96 (ν2 96)]))]) [(79, [79]), (84, [84]), (91, [91]), (96, [96]), (9006, [96]), (11, []), (12, []), (13, []), (74, [])] [79, 84, 91, 96, 9006] [some 11, some 12, some 9006, some 74, some 96] (fun ν2 => [(1, .ptr 11 b1 0), (2, .ptr 12 b2 0), (3, .ptr 13 b3 0), (4, .int .i64 x3)]) (fun ν2 => [(11, ((.pointer (some ⟨b1, 0, none⟩)), .optr 30 [.int .i64 a0.kind, .int .i64 a0.num, .str a0.text, .sl true (a0.list.map encVal), .sl false (a0.names.map encS)])), (12, ((.pointer (some ⟨b2, 0, none⟩)), .optr 30 [.int .i64 0, .int .i64 0, .str ([] : Bs), .nil, .nil])), (13, ((.pointer (some ⟨b3, 0, none⟩)), .optr 30 [.int .i64 a0.kind, .int .i64 a0.num, .str a0.text, .hd 74 (ν1 74), .hd 96 (ν2 96)])), (74, ((ν1 74), .osl 30 5 ((((([] : List Val) ++ (sub x1 0 s2)) ++ [y1]) ++ (sub x1 s2 (x1.length : Int))).map encVal))), (96, ((ν2 96), .osl 9 1 ((((([] : List Bs) ++ (sub x2 0 s2)) ++ [(ix a0.names x3)]) ++ (sub x2 s2 (x2.length : Int))).map encS)))]) (lw [some 11, some 12, some 13, some 74]) (by kernel_rfl) ⟨?_, ⟨?_, ⟨?_, ⟨?_, ⟨?_, ⟨?_, ⟨?_, ⟨?_, ⟨?_, ⟨?_, ⟨?_, ⟨?_, ⟨?_, ⟨?_, ⟨?_, ⟨?_, ⟨?_, ⟨?_, ⟨?_, ⟨?_, trivial⟩⟩⟩⟩⟩⟩⟩⟩⟩⟩⟩⟩⟩⟩⟩⟩⟩⟩⟩⟩ ⟨fun _ _ h => (congrArg (fun zz0 => (some (.hd 79 zz0) : Option AV)) (h 79 (by decide))), ⟨fun _ _ _ => rfl, ⟨fun _ _ _ => rfl, ⟨fun _ _ _ => rfl, ⟨fun _ _ _ => rfl, ⟨fun _ _ h => (congrArg (fun zz0 => (some (.hd 84 zz0) : Option AV)) (h 84 (by decide))), ⟨fun _ _ _ => rfl, ⟨fun _ _ _ => rfl, ⟨fun _ _ _ => rfl, ⟨fun _ _ _ => rfl, ⟨fun _ _ _ => rfl, ⟨fun _ _ _ => rfl, ⟨fun _ _ h => (congrArg (fun zz0 => (some (.hd 91 zz0) : Option AV)) (h 91 (by decide))), ⟨fun _ _ _ => rfl, ⟨fun _ _ _ => rfl, ⟨fun _ _ _ => rfl, ⟨fun _ _ _ => rfl, ⟨fun _ _ h => (congrArg (fun zz0 => (some (.hd 96 zz0) : Option AV)) (h 96 (by decide))), ⟨fun _ _ _ => rfl, ⟨fun _ _ _ => rfl, trivial⟩⟩⟩⟩⟩⟩⟩⟩⟩⟩⟩⟩⟩⟩⟩⟩⟩⟩⟩⟩ ⟨fun _ _ h => (congrArg (fun zz0 => (some (zz0, .osl 9 1 (([] : List Bs).map encS)) : Option (Value × AV))) (h 79 (by decide))), ⟨fun _ _ h => (congrArg (fun zz0 => (some (zz0, .osl 9 1 ((([] : List Bs) ++ (sub x2 0 s2)).map encS)) : Option (Value × AV))) (h 84 (by decide))), ⟨fun _ _ h => (congrArg (fun zz0 => (some (zz0, .osl 9 1 (((([] : List Bs) ++ (sub x2 0 s2)) ++ [(ix a0.names x3)]).map encS)) : Option (Value × AV))) (h 91 (by decide))), ⟨fun _ _ h => (congrArg (fun zz0 => (some (zz0, .osl 9 1 ((((([] : List Bs) ++ (sub x2 0 s2)) ++ [(ix a0.names x3)]) ++ (sub x2 s2 (x2.length : Int))).map encS)) : Option (Value × AV))) (h 96 (by decide))), ⟨fun _ _ h => (congrArg (fun zz0 => (some ((.pointer (some ⟨b3, 0, none⟩)), .optr 30 [.int .i64 a0.kind, .int .i64 a0.num, .str a0.text, .hd 74 (ν1 74), .hd 96 zz0]) : Option (Value × AV))) (h 96 (by decide))), ⟨fun _ _ _ => rfl, ⟨fun _ _ _ => rfl, ⟨fun _ _ _ => rfl, ⟨fun _ _ _ => rfl, trivial⟩⟩⟩⟩⟩⟩⟩⟩⟩ (fun _ => rfl) (fun _ => rfl) (by kernel_rfl) (fun _ => ⟨⟨_, rfl, .refl _⟩, ⟨⟨_, rfl, .refl _⟩, ⟨⟨_, rfl, .refl _⟩, ⟨⟨_, rfl, .refl _⟩, trivial⟩⟩⟩⟩) (fun _ => ⟨⟨_, rfl, .refl _⟩, ⟨⟨_, rfl, .refl _⟩, ⟨⟨_, rfl, .refl _⟩, ⟨⟨_, rfl, .refl _⟩, ⟨⟨_, rfl, .refl _⟩, trivial⟩⟩⟩⟩⟩) (by kernel_rfl) (by decide) ?_
    ·refine local_mk (fun ν2 => []) (fun ν2 => []) (fun _ => rfl) (fun _ => trivial) (fun _ => rfl) (fun _ => trivial) ?_
     intro ν2 S H hS hfr
     refine st_op rfl (o_buildSlice (k := 79) (rows := ([] : List Bs).map encS) tabOk telem23 tsize9 rfl rfl rfl rfl (by decide) (by decide) (by rw [tzero9]; rfl) rfl rfl rfl (hfr _ (by decide)) rfl ?_)
     intro w
     exact lp_n (k := 79) hS rfl rfl (fun _ => rfl) rfl
    ·refine local_mk (fun ν2 => [(3, .ptr 13 b3 0)]) (fun ν2 => []) (fun _ => rfl) (fun _ => ⟨⟨_, rfl, .refl _, .refl _⟩, trivial⟩) (fun _ => rfl) (fun _ => trivial) ?_
     intro ν2 S H hS hfr
     refine st_op rfl (ValOk.op (v_fieldP tabOk rfl tfoff30_4 rfl ?_))
     exact lp_v hS rfl rfl (fun _ => rfl)
    ·refine local_mk (fun ν2 => [(70, .ptr 13 b3 4)]) (fun ν2 => [(13, ((.pointer (some ⟨b3, 0, none⟩)), .optr 30 [.int .i64 a0.kind, .int .i64 a0.num, .str a0.text, .hd 74 (ν1 74), .sl false (x2.map encS)]))]) (fun _ => rfl) (fun _ => ⟨⟨_, rfl, .refl _, .refl _⟩, trivial⟩) (fun _ => rfl) (fun _ => ⟨rfl, trivial⟩) ?_
     intro ν2 S H hS hfr
     refine st_op rfl (ValOk.op (v_loadP tabOk rfl rfl tsize23 tagg23 rfl rfl rfl rfl ?_))
     exact lp_v hS rfl rfl (fun _ => rfl)
    ·refine local_mk (fun ν2 => [(5, .int .i64 s2)]) (fun ν2 => []) (fun _ => rfl) (fun _ => ⟨⟨_, rfl, .refl _, .refl _⟩, trivial⟩) (fun _ => rfl) (fun _ => trivial) ?_
     intro ν2 S H hS hfr
     refine st_op rfl (ValOk.op (v_move rfl rfl ?_))
     exact lp_v hS rfl rfl (fun _ => rfl)
    ·refine local_mk (fun ν2 => [(71, .sl false (x2.map encS)), (72, .int .i64 s2)]) (fun ν2 => []) (fun _ => rfl) (fun _ => ⟨⟨_, rfl, .refl _, .refl _⟩, ⟨⟨_, rfl, .refl _, .refl _⟩, trivial⟩⟩) (fun _ => rfl) (fun _ => trivial) ?_
     intro ν2 S H hS hfr
     refine st_op rfl (ValOk.op (v_sliceM (l := x2) (f := encS) tabOk rfl rfl rfl rfl telem23 tsize9 encS_len hb7 rfl ?_))
     exact lp_v hS rfl rfl (fun _ => rfl)
    ·refine local_mk (fun ν2 => [(69, .hd 79 (ν2 79)), (73, .sl false ((sub x2 0 s2).map encS))]) (fun ν2 => [(79, ((ν2 79), .osl 9 1 (([] : List Bs).map encS)))]) (fun _ => rfl) (fun _ => ⟨⟨_, rfl, .refl _, .refl _⟩, ⟨⟨_, rfl, .refl _, .refl _⟩, trivial⟩⟩) (fun _ => rfl) (fun _ => ⟨rfl, trivial⟩) ?_
     intro ν2 S H hS hfr
     refine st_op rfl (o_appendSM (q := 79) (k := 84) (f := encS) (l2 := sub x2 0 s2) tabOk ⟨_, rfl⟩ rfl rfl telem23 tsize9 tbytes9 tzero9 rfl (by decide) (by decide) encS_len encS_ok rfl (has_minus (hfr _ (by decide))) rfl hb8 ?_)
     intro w
     exact lp_m (k := 84) hS rfl rfl (.inl rfl) (fun _ => rfl) rfl
    ·refine local_mk (fun ν2 => [(1, .ptr 11 b1 0)]) (fun ν2 => []) (fun _ => rfl) (fun _ => ⟨⟨_, rfl, .refl _, .refl _⟩, trivial⟩) (fun _ => rfl) (fun _ => trivial) ?_
     intro ν2 S H hS hfr
     refine st_op rfl (ValOk.op (v_fieldP tabOk rfl tfoff30_4 rfl ?_))
     exact lp_v hS rfl rfl (fun _ => rfl)
    ·refine local_mk (fun ν2 => [(75, .ptr 11 b1 4)]) (fun ν2 => [(11, ((.pointer (some ⟨b1, 0, none⟩)), .optr 30 [.int .i64 a0.kind, .int .i64 a0.num, .str a0.text, .sl true (a0.list.map encVal), .sl false (a0.names.map encS)]))]) (fun _ => rfl) (fun _ => ⟨⟨_, rfl, .refl _, .refl _⟩, trivial⟩) (fun _ => rfl) (fun _ => ⟨rfl, trivial⟩) ?_
     intro ν2 S H hS hfr
     refine st_op rfl (ValOk.op (v_loadP tabOk rfl rfl tsize23 tagg23 rfl rfl rfl rfl ?_))
     exact lp_v hS rfl rfl (fun _ => rfl)
    ·refine local_mk (fun ν2 => [(4, .int .i64 x3)]) (fun ν2 => []) (fun _ => rfl) (fun _ => ⟨⟨_, rfl, .refl _, .refl _⟩, trivial⟩) (fun _ => rfl) (fun _ => trivial) ?_
     intro ν2 S H hS hfr
     refine st_op rfl (ValOk.op (v_move rfl rfl ?_))
     exact lp_v hS rfl rfl (fun _ => rfl)
    ·refine local_mk (fun ν2 => [(76, .sl false (a0.names.map encS)), (77, .int .i64 x3)]) (fun ν2 => []) (fun _ => rfl) (fun _ => ⟨⟨_, rfl, .refl _, .refl _⟩, ⟨⟨_, rfl, .refl _, .refl _⟩, trivial⟩⟩) (fun _ => rfl) (fun _ => trivial) ?_
     intro ν2 S H hS hfr
     refine st_op rfl (ValOk.op (v_idxM tabOk rfl rfl telem23 tsize9 hb9 rfl rfl rfl ?_))
     exact lp_v hS rfl rfl (fun _ => rfl)
    ·refine local_mk (fun ν2 => [(78, .eptr [.str (ix a0.names x3)])]) (fun ν2 => []) (fun _ => rfl) (fun _ => ⟨⟨_, rfl, .refl _, .refl _⟩, trivial⟩) (fun _ => rfl) (fun _ => trivial) ?_
     intro ν2 S H hS hfr
     refine st_op rfl (ValOk.op (v_loadE tabOk rfl tsize9 tagg9 rfl rfl rfl ?_))
     exact lp_v hS rfl rfl (fun _ => rfl)
    ·refine local_mk (fun ν2 => [(79, .str (ix a0.names x3))]) (fun ν2 => []) (fun _ => rfl) (fun _ => ⟨⟨_, rfl, .refl _, .refl _⟩, trivial⟩) (fun _ => rfl) (fun _ => trivial) ?_
     intro ν2 S H hS hfr
     obtain ⟨kf, hkf⟩ := exists_fresh ([] ++ H)
     refine st_op rfl (o_buildSlice (k := kf) (rows := [(ix a0.names x3)].map encS) tabOk telem23 tsize9 rfl rfl rfl rfl (by decide) (by decide) (by rw [tzero9]; rfl) rfl rfl rfl hkf rfl ?_)
     intro w
     exact lp_fn hS rfl rfl hkf (FrzLL.map fun _ _ => encS_frz _) (fun _ => rfl)
    ·refine local_mk (fun ν2 => [(74, .hd 84 (ν2 84)), (80, .sl false ([(ix a0.names x3)].map encS))]) (fun ν2 => [(84, ((ν2 84), .osl 9 1 ((([] : List Bs) ++ (sub x2 0 s2)).map encS)))]) (fun _ => rfl) (fun _ => ⟨⟨_, rfl, .refl _, .refl _⟩, ⟨⟨_, rfl, .refl _, .refl _⟩, trivial⟩⟩) (fun _ => rfl) (fun _ => ⟨rfl, trivial⟩) ?_
     intro ν2 S H hS hfr
     refine st_op rfl (o_appendSM (q := 84) (k := 91) (f := encS) (l2 := [(ix a0.names x3)]) tabOk ⟨_, rfl⟩ rfl rfl telem23 tsize9 tbytes9 tzero9 rfl (by decide) (by decide) encS_len encS_ok rfl (has_minus (hfr _ (by decide))) rfl hb10 ?_)
     intro w
     exact lp_m (k := 91) hS rfl rfl (.inl rfl) (fun _ => rfl) rfl
    ·refine local_mk (fun ν2 => [(3, .ptr 13 b3 0)]) (fun ν2 => []) (fun _ => rfl) (fun _ => ⟨⟨_, rfl, .refl _, .refl _⟩, trivial⟩) (fun _ => rfl) (fun _ => trivial) ?_
     intro ν2 S H hS hfr
     refine st_op rfl (ValOk.op (v_fieldP tabOk rfl tfoff30_4 rfl ?_))
     exact lp_v hS rfl rfl (fun _ => rfl)
    ·refine local_mk (fun ν2 => [(82, .ptr 13 b3 4)]) (fun ν2 => [(13, ((.pointer (some ⟨b3, 0, none⟩)), .optr 30 [.int .i64 a0.kind, .int .i64 a0.num, .str a0.text, .hd 74 (ν1 74), .sl false (x2.map encS)]))]) (fun _ => rfl) (fun _ => ⟨⟨_, rfl, .refl _, .refl _⟩, trivial⟩) (fun _ => rfl) (fun _ => ⟨rfl, trivial⟩) ?_
     intro ν2 S H hS hfr
     refine st_op rfl (ValOk.op (v_loadP tabOk rfl rfl tsize23 tagg23 rfl rfl rfl rfl ?_))
     exact lp_v hS rfl rfl (fun _ => rfl)
    ·refine local_mk (fun ν2 => [(5, .int .i64 s2)]) (fun ν2 => []) (fun _ => rfl) (fun _ => ⟨⟨_, rfl, .refl _, .refl _⟩, trivial⟩) (fun _ => rfl) (fun _ => trivial) ?_
     intro ν2 S H hS hfr
     refine st_op rfl (ValOk.op (v_move rfl rfl ?_))
     exact lp_v hS rfl rfl (fun _ => rfl)
    ·refine local_mk (fun ν2 => [(83, .sl false (x2.map encS)), (84, .int .i64 s2)]) (fun ν2 => []) (fun _ => rfl) (fun _ => ⟨⟨_, rfl, .refl _, .refl _⟩, ⟨⟨_, rfl, .refl _, .refl _⟩, trivial⟩⟩) (fun _ => rfl) (fun _ => trivial) ?_
     intro ν2 S H hS hfr
     refine st_op rfl (ValOk.op (v_sliceM (l := x2) (f := encS) tabOk rfl rfl rfl rfl telem23 tsize9 encS_len hb11 rfl ?_))
     exact lp_v hS rfl rfl (fun _ => rfl)
    ·refine local_mk (fun ν2 => [(81, .hd 91 (ν2 91)), (85, .sl false ((sub x2 s2 (x2.length : Int)).map encS))]) (fun ν2 => [(91, ((ν2 91), .osl 9 1 (((([] : List Bs) ++ (sub x2 0 s2)) ++ [(ix a0.names x3)]).map encS)))]) (fun _ => rfl) (fun _ => ⟨⟨_, rfl, .refl _, .refl _⟩, ⟨⟨_, rfl, .refl _, .refl _⟩, trivial⟩⟩) (fun _ => rfl) (fun _ => ⟨rfl, trivial⟩) ?_
     intro ν2 S H hS hfr
     refine st_op rfl (o_appendSM (q := 91) (k := 96) (f := encS) (l2 := sub x2 s2 (x2.length : Int)) tabOk ⟨_, rfl⟩ rfl rfl telem23 tsize9 tbytes9 tzero9 rfl (by decide) (by decide) encS_len encS_ok rfl (has_minus (hfr _ (by decide))) rfl hb12 ?_)
     intro w
     exact lp_m (k := 96) hS rfl rfl (.inl rfl) (fun _ => rfl) rfl
    ·refine local_mk (fun ν2 => [(3, .ptr 13 b3 0)]) (fun ν2 => []) (fun _ => rfl) (fun _ => ⟨⟨_, rfl, .refl _, .refl _⟩, trivial⟩) (fun _ => rfl) (fun _ => trivial) ?_
     intro ν2 S H hS hfr
     refine st_op rfl (ValOk.op (v_fieldP tabOk rfl tfoff30_4 rfl ?_))
     exact lp_v hS rfl rfl (fun _ => rfl)
    ·refine local_mk (fun ν2 => [(87, .ptr 13 b3 4), (86, .hd 96 (ν2 96))]) (fun ν2 => [(13, ((.pointer (some ⟨b3, 0, none⟩)), .optr 30 [.int .i64 a0.kind, .int .i64 a0.num, .str a0.text, .hd 74 (ν1 74), .sl false (x2.map encS)]))]) (fun _ => rfl) (fun _ => ⟨⟨_, rfl, .refl _, .refl _⟩, ⟨⟨_, rfl, .refl _, .refl _⟩, trivial⟩⟩) (fun _ => rfl) (fun _ => ⟨rfl, trivial⟩) ?_
     intro ν2 S H hS hfr
     refine st_op rfl (o_storeP tabOk (cs' := [.int .i64 a0.kind, .int .i64 a0.num, .str a0.text, .hd 74 (ν1 74), .hd 96 (ν2 96)]) rfl rfl tsize23 rfl rfl rfl (Nat.le_of_ble_eq_true rfl) rfl rfl rfl ?_)
     exact lp_m (k := 9006) hS rfl rfl (.inr (by decide)) (fun _ => rfl) rfl
    intro ν2
    refine hK8 _ ?_
    refine rg 3 ?_
    refine g_nil ?_
    exact round_mk m1 (((([] : List Val) ++ (sub x1 0 s2)) ++ [y1]) ++ (sub x1 s2 (x1.length : Int)), ((([] : List Bs) ++ (sub x2 0 s2)) ++ [(ix a0.names x3)]) ++ (sub x2 s2 (x2.length : Int)), IntKind.wrap .i64 (x3 + 1), (ν1 74), (ν2 96)) (Nat.lt_succ_self _) ⟨by omega, h⟩ (lw [some 11, some 12, some 13, some 74, some 96])
   ·replace h := ifF h (dF hc2)
    refine good_skip ?_
    refine hK8 _ (kp 89 [1, 2, 3, 4] [11, 12, 13, 74, 5308] ?_)
    refine rg 3 ?_
    refine g_nil ?_
    exact round_mk m1 (((([] : List Val) ++ (sub x1 0 s2)) ++ [y1]) ++ (sub x1 s2 (x1.length : Int)), x2, IntKind.wrap .i64 (x3 + 1), (ν1 74), w2) (Nat.lt_succ_self _) ⟨by omega, h⟩ (lw [some 11, some 12, some 13, some 74, some 5308])
  replace h := ho2
  refine good_block ?_
  refine good_loopf (fun p : Int => ⟨89, [(1, .ptr 11 b1 0), (2, .ptr 12 b2 0), (3, .ptr 13 b3 0), (4, .int .i64 x3), (5, .int .i64 p)], [(11, ((.pointer (some ⟨b1, 0, none⟩)), .optr 30 [.int .i64 a0.kind, .int .i64 a0.num, .str a0.text, .sl true (a0.list.map encVal), .sl false (a0.names.map encS)])), (12, ((.pointer (some ⟨b2, 0, none⟩)), .optr 30 [.int .i64 0, .int .i64 0, .str ([] : Bs), .nil, .nil])), (13, ((.pointer (some ⟨b3, 0, none⟩)), .optr 30 [.int .i64 a0.kind, .int .i64 a0.num, .str a0.text, .hd 5306 w1, .hd 5308 w2])), (5306, (w1, .osl 30 5 (x1.map encVal))), (5308, (w2, .osl 9 1 (x2.map encS)))]⟩) (fun m p => m < k + 1 ∧ m_spec_l8Sorted_l2 m a0 x2 x3 p = some o2) m1 ((x1.length : Int)) (lw [some 11, some 12, some 13, some 5306, some 5308]) ⟨by omega, h⟩ ?_
  rintro m2 x4 ⟨hm, h⟩
  replace h : m_spec_l8Sorted_l2 m2 a0 x2 x3 x4 = some o2 := h
  refine Good.le (σ' := ⟨89, [(1, .ptr 11 b1 0), (2, .ptr 12 b2 0), (3, .ptr 13 b3 0), (4, .int .i64 x3), (5, .int .i64 x4)], [(11, ((.pointer (some ⟨b1, 0, none⟩)), .optr 30 [.int .i64 a0.kind, .int .i64 a0.num, .str a0.text, .sl true (a0.list.map encVal), .sl false (a0.names.map encS)])), (12, ((.pointer (some ⟨b2, 0, none⟩)), .optr 30 [.int .i64 0, .int .i64 0, .str ([] : Bs), .nil, .nil])), (13, ((.pointer (some ⟨b3, 0, none⟩)), .optr 30 [.int .i64 a0.kind, .int .i64 a0.num, .str a0.text, .hd 5306 w1, .hd 5308 w2])), (5306, (w1, .osl 30 5 (x1.map encVal))), (5308, (w2, .osl 9 1 (x2.map encS)))]⟩) (Le.refl _) ?_
  obtain ⟨m2, rfl⟩ : ∃ m', m2 = m' + 1 := by cases m2 with | zero => (rw [m_spec_l8Sorted_l2] at h; cases h) | succ m' => exact ⟨m', rfl⟩
  rw [m_spec_l8Sorted_l2] at h
  refine good_seq fun K13 hK13 => ?_
  refine good_seq fun K14 hK14 => ?_
  obtain ⟨o3, ho3, hJ3⟩ := bnd h
  have hw3 : ∀ (s3 : Bool), o3 = Lp.go s3 → ∀ σ', Le σ' ⟨89, [(1, .ptr 11 b1 0), (2, .ptr 12 b2 0), (3, .ptr 13 b3 0), (4, .int .i64 x3), (5, .int .i64 x4), (43, .bool s3)], [(11, ((.pointer (some ⟨b1, 0, none⟩)), .optr 30 [.int .i64 a0.kind, .int .i64 a0.num, .str a0.text, .sl true (a0.list.map encVal), .sl false (a0.names.map encS)])), (12, ((.pointer (some ⟨b2, 0, none⟩)), .optr 30 [.int .i64 0, .int .i64 0, .str ([] : Bs), .nil, .nil])), (13, ((.pointer (some ⟨b3, 0, none⟩)), .optr 30 [.int .i64 a0.kind, .int .i64 a0.num, .str a0.text, .hd 5306 w1, .hd 5308 w2])), (5306, (w1, .osl 30 5 (x1.map encVal))), (5308, (w2, .osl 9 1 (x2.map encS)))]⟩ → K14 σ' := by
   intro s3 e3 σ' hle3
   subst e3
   refine hK14 _ (Good.le hle3 ?_)
   replace h := hJ3
   refine good_cond rfl (fun hc3 => ?_) (fun hc3 => ?_)
   ·replace h := ifT h hc3
    refine good_skip ?_
    refine hK13 _ (kp 89 [1, 2, 3, 4, 5] [11, 12, 13, 5306, 5308] ?_)
    refine good_block ?_
    refine rg 3 ?_
    refine g_nil ?_
    exact round_mk m2 (IntKind.wrap .i64 (x4 - 1)) (Nat.lt_succ_self _) ⟨by omega, h⟩ (lw [some 11, some 12, some 13, some 5306, some 5308])
   ·replace h := bF h hc3
    refine good_exit ?_
    exact hw2 x4 (Option.some.inj h).symm _ (lw [some 11, some 12, some 13, some 5306, some 5308])
  replace h := ho3
  refine good_draw (by kernel_rfl) (by kernel_rfl) ?_
  refine q_op rfl (v_fieldP tabOk rfl tfoff30_0 rfl ?_)
  refine q_op rfl (v_loadP tabOk rfl rfl tsize3 tagg3 rfl rfl rfl rfl ?_)
  refine q_op rfl (v_bin rfl rfl rfl rfl ?_)
  refine q_op rfl (v_move rfl rfl ?_)
  rcases bsplit ((decide (a0.kind = 5))) with hg1 | hg1
  ·replace h := ifT h (dT hg1)
   refine q_yes rfl rfl hg1 (v_move rfl rfl ?_)
   refine q_yes rfl rfl hg1 (v_bin rfl rfl rfl rfl ?_)
   refine q_op rfl (v_pickT rfl hg1 rfl rfl ?_)
   refine q_op rfl (v_move rfl rfl ?_)
   rcases bsplit ((decide (0 < x4))) with hg2 | hg2
   ·replace h := ifT h (dT hg2)
    refine q_yes rfl rfl hg2 (v_fieldP tabOk rfl tfoff30_4 rfl ?_)
    refine q_yes rfl rfl hg2 (v_loadP tabOk rfl rfl tsize23 tagg23 rfl rfl rfl rfl ?_)
    refine q_yes rfl rfl hg2 (v_move rfl rfl ?_)
    refine q_yes rfl rfl hg2 (v_bin rfl rfl rfl rfl ?_)
    obtain ⟨hb13, h⟩ := ifS h
    refine q_yes rfl rfl hg2 (v_idxHM (q := 5308) tabOk ⟨_, rfl⟩ rfl rfl telem23 tsize9 hb13 rfl ?_)
    refine q_yes rfl rfl hg2 (v_loadRM tabOk rfl rfl hb13 rfl tsize9 tagg9 rfl rfl rfl rfl ?_)
    refine q_yes rfl rfl hg2 (v_fieldP tabOk rfl tfoff30_4 rfl ?_)
    refine q_yes rfl rfl hg2 (v_loadP tabOk rfl rfl tsize23 tagg23 rfl rfl rfl rfl ?_)
    refine q_yes rfl rfl hg2 (v_move rfl rfl ?_)
    obtain ⟨hb14, h⟩ := ifS h
    refine q_yes rfl rfl hg2 (v_idxM tabOk rfl rfl telem23 tsize9 hb14 rfl rfl rfl ?_)
    refine q_yes rfl rfl hg2 (v_loadE tabOk rfl tsize9 tagg9 rfl rfl rfl ?_)
    refine q_yes rfl rfl hg2 (v_bin rfl rfl rfl rfl ?_)
    refine q_op rfl (v_pickT rfl hg2 rfl rfl ?_)
    refine q_nil ?_
    exact hw3 (!(Op.bytesLess (ix x2 (IntKind.wrap .i64 (x4 - 1))) (ix a0.names x3) || decide ((ix x2 (IntKind.wrap .i64 (x4 - 1))) = (ix a0.names x3)))) (Option.some.inj h).symm _ (lw [some 11, some 12, some 13, some 5306, some 5308])
   ·replace h := ifF h (dF hg2)
    refine q_no rfl rfl hg2 rfl ?_
    refine q_no rfl rfl hg2 rfl ?_
    refine q_no rfl rfl hg2 rfl ?_
    refine q_no rfl rfl hg2 rfl ?_
    refine q_no rfl rfl hg2 rfl ?_
    refine q_no rfl rfl hg2 rfl ?_
    refine q_no rfl rfl hg2 rfl ?_
    refine q_no rfl rfl hg2 rfl ?_
    refine q_no rfl rfl hg2 rfl ?_
    refine q_no rfl rfl hg2 rfl ?_
    refine q_no rfl rfl hg2 rfl ?_
    refine q_no rfl rfl hg2 rfl ?_
    refine q_op rfl (v_pickF rfl hg2 rfl rfl ?_)
    refine q_nil ?_
    exact hw3 false (Option.some.inj h).symm _ (lw [some 11, some 12, some 13, some 5306, some 5308])
  ·replace h := ifF h (dF hg1)
   refine q_no rfl rfl hg1 rfl ?_
   refine q_no rfl rfl hg1 rfl ?_
   refine q_op rfl (v_pickF rfl hg1 rfl rfl ?_)
   refine q_op rfl (v_move rfl rfl ?_)
   refine q_no rfl rfl rfl rfl ?_
   refine q_no rfl rfl rfl rfl ?_
   refine q_no rfl rfl rfl rfl ?_
   refine q_no rfl rfl rfl rfl ?_
   refine q_no rfl rfl rfl rfl ?_
   refine q_no rfl rfl rfl rfl ?_
   refine q_no rfl rfl rfl rfl ?_
   refine q_no rfl rfl rfl rfl ?_
   refine q_no rfl rfl rfl rfl ?_
   refine q_no rfl rfl rfl rfl ?_
   refine q_no rfl rfl rfl rfl ?_
   refine q_no rfl rfl rfl rfl ?_
   refine q_op rfl (v_pickF rfl rfl rfl rfl ?_)
   refine q_nil ?_
   exact hw3 false (Option.some.inj h).symm _ (lw [some 11, some 12, some 13, some 5306, some 5308])
 ·replace h := ifF h (dF hc1)
  refine good_exit ?_
  exact hw1 (x1, x2) w1 w2 (Option.some.inj h).symm _ (lw [some 12, some 13, some 5306, some 5308])
theorem m_spec_l8Sorted_all (k : Nat) : P_m_spec_l8Sorted k := by
 induction k using Nat.strongRecOn with
 | _ k ih => exact m_spec_l8Sorted_step k ih
theorem m_spec_l8Sorted_ok (k : Nat) : ∀ (a0 : Val) (r : Val), m_spec_l8Sorted k a0 = some r → Does Try.prog 65 [.agg [.int .i64 a0.kind, .int .i64 a0.num, .str a0.text, .sl true (a0.list.map encVal), .sl false (a0.names.map encS)]] [] (ret (.agg [.int .i64 r.kind, .int .i64 r.num, .str r.text, .sl true (r.list.map encVal), .sl false (r.names.map encS)])) := (m_spec_l8Sorted_all k)
def m_spec_ValueSorted (k : Nat) (a0 : Val) : Option Val :=
 (m_spec_ValueOk k a0).bind fun y1 =>
 if y1 = true then
  (m_spec_l8Sorted k a0).bind fun y2 =>
  some y2
 else
  some (Val.mk 0 0 ([] : Bs) [] [])
theorem m_spec_ValueSorted_ok (k : Nat) : ∀ (a0 : Val) (r : Val), m_spec_ValueSorted k a0 = some r → Does Try.prog 28 [.agg [.int .i64 a0.kind, .int .i64 a0.num, .str a0.text, .sl true (a0.list.map encVal), .sl false (a0.names.map encS)]] [] (ret (.agg [.int .i64 r.kind, .int .i64 r.num, .str r.text, .sl true (r.list.map encVal), .sl false (r.names.map encS)])) := by
 intro a0 r h
 rw [m_spec_ValueSorted] at h
 refine does_of_good tabOk Try.func28 rfl (by decide +kernel) (Nat.le_of_ble_eq_true rfl) fun c => ?_
 refine Good.le (σ' := ⟨9, [(0, .agg [.int .i64 a0.kind, .int .i64 a0.num, .str a0.text, .sl true (a0.list.map encVal), .sl false (a0.names.map encS)])], []⟩) (Le.refl _) ?_
 refine good_seq fun K1 hK1 => ?_
 refine good_region ?_
 refine g_op rfl (o_box (k := 11) tabOk rfl rfl rfl rfl rfl ?_)
 intro b1
 refine g_op rfl (o_alloc (k := 12) tabOk tzero30 rfl rfl ?_)
 intro b2
 refine gk hK1 9 [1, 2] [11, 12] ?_
 refine good_seq fun K2 hK2 => ?_
 refine good_seq fun K3 hK3 => ?_
 refine rg 1 ?_
 obtain ⟨y1, hy1, h⟩ := bnd h
 refine g_op rfl (o_callR [] [] (core_value rfl rfl) (m_spec_ValueOk_ok k a0 _ hy1) trivial (.cons (.refl _) (.nil)) (.inl rfl) rfl ?_)
 refine gs 1 ?_
 refine gk hK3 9 [1, 2, 5] [11, 12] ?_
 refine good_cond rfl (fun hc1 => ?_) (fun hc1 => ?_)
 ·replace h := bF h (nT hc1)
  refine good_seq fun K4 hK4 => ?_
  refine good_region ?_
  refine g_op rfl (ValOk.op (v_build tabOk (cs := [.int .i64 0, .int .i64 0, .str ([] : Bs), .nil, .nil]) tzero30 tsok30 rfl rfl rfl ?_))
  refine g_op rfl (o_storeP tabOk (cs' := [.int .i64 0, .int .i64 0, .str ([] : Bs), .nil, .nil]) rfl rfl tsize30 rfl rfl rfl (Nat.le_of_ble_eq_true rfl) rfl rfl rfl ?_)
  refine gk hK4 9 [1, 2] [11, 12] ?_
  refine Good.le (σ' := ⟨9, [(2, .ptr 12 b2 0)], [(12, ((.pointer (some ⟨b2, 0, none⟩)), .optr 30 [.int .i64 0, .int .i64 0, .str ([] : Bs), .sl true ([].map encVal), .sl false ([].map encS)]))]⟩) (lw [some 12]) ?_
  refine good_ret ?_
  obtain rfl := Option.some.inj h
  refine thenQ_ret ?_
  exact endQ_ret (h' := []) [] (.cell rfl rfl tsize30 tagg30 rfl rfl rfl (.nil)) trivial (by decide) ⟨rfl, rfl⟩
 ·replace h := ifT h (nF hc1)
  refine good_skip ?_
  refine hK2 _ (kp 9 [1, 2] [11, 12] ?_)
  refine good_seq fun K5 hK5 => ?_
  refine rg 1 ?_
  obtain ⟨y2, hy2, h⟩ := bnd h
  refine g_op rfl (o_callR [] [] (core_value rfl rfl) (m_spec_l8Sorted_ok k a0 _ hy2) trivial (.cons (.refl _) (.nil)) (.inl rfl) rfl ?_)
  refine g_op rfl (o_storeP tabOk (cs' := [.int .i64 y2.kind, .int .i64 y2.num, .str y2.text, .sl true (y2.list.map encVal), .sl false (y2.names.map encS)]) rfl rfl tsize30 rfl rfl rfl (Nat.le_of_ble_eq_true rfl) rfl rfl rfl ?_)
  refine gk hK5 9 [2] [12] ?_
  refine Good.le (σ' := ⟨9, [(2, .ptr 12 b2 0)], [(12, ((.pointer (some ⟨b2, 0, none⟩)), .optr 30 [.int .i64 y2.kind, .int .i64 y2.num, .str y2.text, .sl true (y2.list.map encVal), .sl false (y2.names.map encS)]))]⟩) (lw [some 12]) ?_
  refine good_ret ?_
  obtain rfl := Option.some.inj h
  exact endQ_ret (h' := []) [] (.cell rfl rfl tsize30 tagg30 rfl rfl rfl (.nil)) trivial (by decide) ⟨rfl, rfl⟩
mutual
def m_impl_sorted_l1 : Nat → Val → (List Bs) → (List Val) → Int → Option (Lp (List Val) Val)
 | 0, _, _, _, _ => none
 | k + 1, a0, y2, x1, x2 =>
  if x2 < (a0.list.length : Int) then
   if (0 : Int) ≤ x2 ∧ x2 < (a0.list.length : Int) then
    (if a0.kind = 5 then
      if (0 : Int) ≤ x2 ∧ x2 < (y2.length : Int) then
       (m_impl_placeOf k a0.names (ix y2 x2)).bind fun y4 =>
       if (0 : Int) ≤ y4 ∧ y4 < (a0.list.length : Int) then
        some (Lp.go ((ix a0.list y4).kind, (ix a0.list y4).num, (ix a0.list y4).text, (ix a0.list y4).list, (ix a0.list y4).names))
       else none
      else none
     else
      some (Lp.go ((ix a0.list x2).kind, (ix a0.list x2).num, (ix a0.list x2).text, (ix a0.list x2).list, (ix a0.list x2).names))).bind fun o2 =>
    o2.then fun s2 =>
  (m_impl_sorted k (Val.mk s2.1 s2.2.1 s2.2.2.1 s2.2.2.2.1 s2.2.2.2.2)).bind fun y3 =>
  if (x1 ++ [y3]).length * 80 ≤ 140737488355328 then
   m_impl_sorted_l1 k a0 y2 (x1 ++ [y3]) (IntKind.wrap .i64 (x2 + 1))
  else none
   else none
  else
   some (Lp.go x1)
def m_impl_sorted : Nat → Val → Option Val
 | 0, _ => none
 | k + 1, a0 =>
  (m_impl_copyTexts a0.names).bind fun y1 =>
  (m_slices_Sort_string_string y1).bind fun y2 =>
  (m_impl_sorted_l1 k a0 y2 [] 0).bind fun o1 =>
  o1.then fun s1 =>
  some (Val.mk a0.kind a0.num a0.text s1 y2)
end
def P_m_impl_sorted (k : Nat) : Prop := ∀ (a0 : Val) (r : Val), m_impl_sorted k a0 = some r → Does Try.prog 66 [.agg [.int .i64 a0.kind, .int .i64 a0.num, .str a0.text, .sl true (a0.list.map encVal), .sl false (a0.names.map encS)]] [] (fun q h' => ∃ u0 : Value, ∃ u1 : Value, q = .agg [.int .i64 r.kind, .int .i64 r.num, .str r.text, .hd 100 u0, .hd 101 u1] ∧ h' = [(100, (u0, .osl 30 5 (r.list.map encOVal))), (101, (u1, .osl 9 1 (r.names.map encS)))])
theorem m_impl_sorted_step (k : Nat) (ih : ∀ m, m < k → P_m_impl_sorted m) : P_m_impl_sorted k := by
 intro a0 r h
 obtain ⟨k, rfl⟩ : ∃ k', k = k' + 1 := by cases k with | zero => (rw [m_impl_sorted] at h; cases h) | succ k' => exact ⟨k', rfl⟩
 rw [m_impl_sorted] at h
 refine does_of_good tabOk Try.func66 rfl (by decide +kernel) (Nat.le_of_ble_eq_true rfl) fun c => ?_
 refine Good.le (σ' := ⟨51, [(0, .agg [.int .i64 a0.kind, .int .i64 a0.num, .str a0.text, .sl true (a0.list.map encVal), .sl false (a0.names.map encS)])], []⟩) (Le.refl _) ?_
 refine good_seq fun K1 hK1 => ?_
 refine good_region ?_
 refine g_op rfl (o_box (k := 11) tabOk rfl rfl rfl rfl rfl ?_)
 intro b1
 refine g_op rfl (o_alloc (k := 12) tabOk tzero30 rfl rfl ?_)
 intro b2
 refine gk hK1 51 [1, 2] [11, 12] ?_
 refine good_seq fun K2 hK2 => ?_
 obtain ⟨y1, hy1, h⟩ := bnd h
 refine good_anyM (by kernel_rfl) [⟨[], [1], [], [], [], []⟩, ⟨[0], [6], [11], [], [], []⟩, ⟨[], [1], [], [], [], []⟩, ⟨[2], [8], [11], [], [], []⟩, ⟨[], [1], [], [], [], []⟩, ⟨[4], [10], [11], [], [], []⟩, ⟨[], [1], [], [], [], []⟩, ⟨[6], [12], [11], [], [], []⟩, ⟨[6, 7], [13], [], [], [3001], [3001]⟩, ⟨[0, 1, 2, 3, 4, 5, 6, 7, 8], [7, 9, 11, 14], [], [], [], [3001]⟩, ⟨[], [], [], [], [13], [13]⟩, ⟨[0, 1, 2, 3, 4, 5, 6, 7, 8, 9, 10], [3, 15], [13], [13], [9002], []⟩] [some 6, some 7, some 8, some 9, some 10, some 11, some 12, some 13, some 14, some 15, some 3, none] 51 [(1, .ptr 11 b1 0), (2, .ptr 12 b2 0)] [(11, ((.pointer (some ⟨b1, 0, none⟩)), .optr 30 [.int .i64 a0.kind, .int .i64 a0.num, .str a0.text, .sl true (a0.list.map encVal), .sl false (a0.names.map encS)])), (12, ((.pointer (some ⟨b2, 0, none⟩)), .optr 30 [.int .i64 0, .int .i64 0, .str ([] : Bs), .nil, .nil]))] (fun ν1 => [.ptr 11 b1 0, .int .i64 a0.kind, .ptr 11 b1 1, .int .i64 a0.num, .ptr 11 b1 2, .str a0.text, .ptr 11 b1 4, .sl false (a0.names.map encS), .hd 3001 (ν1 3001), .agg [.int .i64 a0.kind, .int .i64 a0.num, .str a0.text, .nil, .hd 3001 (ν1 3001)], .ptr 13 (bse (ν1 13)) 0, .und]) (fun ν1 => [(3001, ((ν1 3001), .osl 9 1 (y1.map encS))), (13, ((.pointer (some ⟨(bse (ν1 13)), 0, none⟩)), .optr 30 [.int .i64 0, .int .i64 0, .str ([] : Bs), .nil, .nil])), (9002, ((.pointer (some ⟨(bse (ν1 13)), 0, none⟩)), .optr 30 [.int .i64 a0.kind, .int .i64 a0.num, .str a0.text, .nil, .hd 3001 (ν1 3001)]))]) [(3001, [3001]), (13, [13]), (9002, [13, 3001]), (11, []), (12, [])] [3001, 13, 9002] [some 11, some 12, some 9002, some 3001] (fun ν1 => [(1, .ptr 11 b1 0), (2, .ptr 12 b2 0), (3, .ptr 13 (bse (ν1 13)) 0)]) (fun ν1 => [(11, ((.pointer (some ⟨b1, 0, none⟩)), .optr 30 [.int .i64 a0.kind, .int .i64 a0.num, .str a0.text, .sl true (a0.list.map encVal), .sl false (a0.names.map encS)])), (12, ((.pointer (some ⟨b2, 0, none⟩)), .optr 30 [.int .i64 0, .int .i64 0, .str ([] : Bs), .nil, .nil])), (13, ((.pointer (some ⟨(bse (ν1 13)), 0, none⟩)), .optr 30 [.int .i64 a0.kind, .int .i64 a0.num, .str a0.text, .nil, .hd 3001 (ν1 3001)])), (3001, ((ν1 3001), .osl 9 1 (y1.map encS)))]) (lw [some 11, some 12]) (by kernel_rfl) ⟨?_, ⟨?_, ⟨?_, ⟨?_, ⟨?_, ⟨?_, ⟨?_, ⟨?_, ⟨?_, ⟨?_, ⟨?_, ⟨?_, trivial⟩⟩⟩⟩⟩⟩⟩⟩⟩⟩⟩⟩ ⟨fun _ _ _ => rfl, ⟨fun _ _ _ => rfl, ⟨fun _ _ _ => rfl, ⟨fun _ _ _ => rfl, ⟨fun _ _ _ => rfl, ⟨fun _ _ _ => rfl, ⟨fun _ _ _ => rfl, ⟨fun _ _ _ => rfl, ⟨fun _ _ h => (congrArg (fun zz0 => (some (.hd 3001 zz0) : Option AV)) (h 3001 (by decide))), ⟨fun _ _ h => (congrArg (fun zz0 => (some (.agg [.int .i64 a0.kind, .int .i64 a0.num, .str a0.text, .nil, .hd 3001 zz0]) : Option AV)) (h 3001 (by decide))), ⟨fun _ _ h => (congrArg (fun zz0 => (some (.ptr 13 (bse zz0) 0) : Option AV)) (h 13 (by decide))), ⟨fun _ _ _ => rfl, trivial⟩⟩⟩⟩⟩⟩⟩⟩⟩⟩⟩⟩ ⟨fun _ _ h => (congrArg (fun zz0 => (some (zz0, .osl 9 1 (y1.map encS)) : Option (Value × AV))) (h 3001 (by decide))), ⟨fun _ _ h => (congrArg (fun zz0 => (some ((.pointer (some ⟨(bse zz0), 0, none⟩)), .optr 30 [.int .i64 0, .int .i64 0, .str ([] : Bs), .nil, .nil]) : Option (Value × AV))) (h 13 (by decide))), ⟨fun _ _ h => (cong2 (fun zz0 zz1 => (some ((.pointer (some ⟨(bse zz0), 0, none⟩)), .optr 30 [.int .i64 a0.kind, .int .i64 a0.num, .str a0.text, .nil, .hd 3001 zz1]) : Option (Value × AV))) (h 13 (by decide)) (h 3001 (by decide))), ⟨fun _ _ _ => rfl, ⟨fun _ _ _ => rfl, trivial⟩⟩⟩⟩⟩ (fun _ => rfl) (fun _ => rfl) (by kernel_rfl) (fun _ => ⟨⟨_, rfl, .refl _⟩, ⟨⟨_, rfl, .refl _⟩, ⟨⟨_, rfl, .refl _⟩, trivial⟩⟩⟩) (fun _ => ⟨⟨_, rfl, .refl _⟩, ⟨⟨_, rfl, .refl _⟩, ⟨⟨_, rfl, .refl _⟩, ⟨⟨_, rfl, .refl _⟩, trivial⟩⟩⟩⟩) (by kernel_rfl) (by decide) ?_
 ·refine local_mk (fun ν1 => [(1, .ptr 11 b1 0)]) (fun ν1 => []) (fun _ => rfl) (fun _ => ⟨⟨_, rfl, .refl _, .refl _⟩, trivial⟩) (fun _ => rfl) (fun _ => trivial) ?_
  intro ν1 S H hS hfr
  refine st_op rfl (ValOk.op (v_fieldP tabOk rfl tfoff30_0 rfl ?_))
  exact lp_v hS rfl rfl (fun _ => rfl)
 ·refine local_mk (fun ν1 => [(6, .ptr 11 b1 0)]) (fun ν1 => [(11, ((.pointer (some ⟨b1, 0, none⟩)), .optr 30 [.int .i64 a0.kind, .int .i64 a0.num, .str a0.text, .sl true (a0.list.map encVal), .sl false (a0.names.map encS)]))]) (fun _ => rfl) (fun _ => ⟨⟨_, rfl, .refl _, .refl _⟩, trivial⟩) (fun _ => rfl) (fun _ => ⟨rfl, trivial⟩) ?_
  intro ν1 S H hS hfr
  refine st_op rfl (ValOk.op (v_loadP tabOk rfl rfl tsize3 tagg3 rfl rfl rfl rfl ?_))
  exact lp_v hS rfl rfl (fun _ => rfl)
 ·refine local_mk (fun ν1 => [(1, .ptr 11 b1 0)]) (fun ν1 => []) (fun _ => rfl) (fun _ => ⟨⟨_, rfl, .refl _, .refl _⟩, trivial⟩) (fun _ => rfl) (fun _ => trivial) ?_
  intro ν1 S H hS hfr
  refine st_op rfl (ValOk.op (v_fieldP tabOk rfl tfoff30_1 rfl ?_))
  exact lp_v hS rfl rfl (fun _ => rfl)
 ·refine local_mk (fun ν1 => [(8, .ptr 11 b1 1)]) (fun ν1 => [(11, ((.pointer (some ⟨b1, 0, none⟩)), .optr 30 [.int .i64 a0.kind, .int .i64 a0.num, .str a0.text, .sl true (a0.list.map encVal), .sl false (a0.names.map encS)]))]) (fun _ => rfl) (fun _ => ⟨⟨_, rfl, .refl _, .refl _⟩, trivial⟩) (fun _ => rfl) (fun _ => ⟨rfl, trivial⟩) ?_
  intro ν1 S H hS hfr
  refine st_op rfl (ValOk.op (v_loadP tabOk rfl rfl tsize3 tagg3 rfl rfl rfl rfl ?_))
  exact lp_v hS rfl rfl (fun _ => rfl)
 ·refine local_mk (fun ν1 => [(1, .ptr 11 b1 0)]) (fun ν1 => []) (fun _ => rfl) (fun _ => ⟨⟨_, rfl, .refl _, .refl _⟩, trivial⟩) (fun _ => rfl) (fun _ => trivial) ?_
  intro ν1 S H hS hfr
  refine st_op rfl (ValOk.op (v_fieldP tabOk rfl tfoff30_2 rfl ?_))
  exact lp_v hS rfl rfl (fun _ => rfl)
 ·refine local_mk (fun ν1 => [(10, .ptr 11 b1 2)]) (fun ν1 => [(11, ((.pointer (some ⟨b1, 0, none⟩)), .optr 30 [.int .i64 a0.kind, .int .i64 a0.num, .str a0.text, .sl true (a0.list.map encVal), .sl false (a0.names.map encS)]))]) (fun _ => rfl) (fun _ => ⟨⟨_, rfl, .refl _, .refl _⟩, trivial⟩) (fun _ => rfl) (fun _ => ⟨rfl, trivial⟩) ?_
  intro ν1 S H hS hfr
  refine st_op rfl (ValOk.op (v_loadP tabOk rfl rfl tsize9 tagg9 rfl rfl rfl rfl ?_))
  exact lp_v hS rfl rfl (fun _ => rfl)
 ·refine local_mk (fun ν1 => [(1, .ptr 11 b1 0)]) (fun ν1 => []) (fun _ => rfl) (fun _ => ⟨⟨_, rfl, .refl _, .refl _⟩, trivial⟩) (fun _ => rfl) (fun _ => trivial) ?_
  intro ν1 S H hS hfr
  refine st_op rfl (ValOk.op (v_fieldP tabOk rfl tfoff30_4 rfl ?_))
  exact lp_v hS rfl rfl (fun _ => rfl)
 ·refine local_mk (fun ν1 => [(12, .ptr 11 b1 4)]) (fun ν1 => [(11, ((.pointer (some ⟨b1, 0, none⟩)), .optr 30 [.int .i64 a0.kind, .int .i64 a0.num, .str a0.text, .sl true (a0.list.map encVal), .sl false (a0.names.map encS)]))]) (fun _ => rfl) (fun _ => ⟨⟨_, rfl, .refl _, .refl _⟩, trivial⟩) (fun _ => rfl) (fun _ => ⟨rfl, trivial⟩) ?_
  intro ν1 S H hS hfr
  refine st_op rfl (ValOk.op (v_loadP tabOk rfl rfl tsize23 tagg23 rfl rfl rfl rfl ?_))
  exact lp_v hS rfl rfl (fun _ => rfl)
 ·refine local_mk (fun ν1 => [(13, .sl false (a0.names.map encS))]) (fun ν1 => []) (fun _ => rfl) (fun _ => ⟨⟨_, rfl, .refl _, .refl _⟩, trivial⟩) (fun _ => rfl) (fun _ => trivial) ?_
  intro ν1 S H hS hfr
  refine st_op rfl (o_callDa [] [] [] (core_value rfl rfl) (m_impl_copyTexts_ok a0.names _ hy1) trivial (.cons (.refl _) (.nil)) trivial rfl rfl rfl ?_)
  rintro _ _ ⟨w1, rfl, rfl⟩
  refine ⟨.hd 3001 w1, [(3001, _)], .hd _ _ _, rfl, rfl, rfl, (fun x hx => has_minus (hfr x hx)), .inl rfl, ?_⟩
  exact lp_mm (hN := [(3001, _)]) hS rfl rfl (fun _ => rfl) ⟨rfl, trivial⟩
 ·refine local_mk (fun ν1 => [(7, .int .i64 a0.kind), (9, .int .i64 a0.num), (11, .str a0.text), (14, .hd 3001 (ν1 3001))]) (fun ν1 => []) (fun _ => rfl) (fun _ => ⟨⟨_, rfl, .refl _, .refl _⟩, ⟨⟨_, rfl, .refl _, .refl _⟩, ⟨⟨_, rfl, .refl _, .refl _⟩, ⟨⟨_, rfl, .refl _, .refl _⟩, trivial⟩⟩⟩⟩) (fun _ => rfl) (fun _ => trivial) ?_
  intro ν1 S H hS hfr
  refine st_op rfl (ValOk.op (v_build tabOk (cs := [.int .i64 a0.kind, .int .i64 a0.num, .str a0.text, .nil, .hd 3001 (ν1 3001)]) tzero30 tsok30 rfl rfl rfl ?_))
  exact lp_v hS rfl rfl (fun _ => rfl)
 ·refine local_mk (fun ν1 => []) (fun ν1 => []) (fun _ => rfl) (fun _ => trivial) (fun _ => rfl) (fun _ => trivial) ?_
  intro ν1 S H hS hfr
  refine st_op rfl (o_alloc (k := 13) tabOk tzero30 (hfr _ (by decide)) rfl ?_)
  intro w
  exact lp_n (k := 13) hS rfl rfl (fun _ => rfl) rfl
 ·refine local_mk (fun ν1 => [(3, .ptr 13 (bse (ν1 13)) 0), (15, .agg [.int .i64 a0.kind, .int .i64 a0.num, .str a0.text, .nil, .hd 3001 (ν1 3001)])]) (fun ν1 => [(13, ((.pointer (some ⟨(bse (ν1 13)), 0, none⟩)), .optr 30 [.int .i64 0, .int .i64 0, .str ([] : Bs), .nil, .nil]))]) (fun _ => rfl) (fun _ => ⟨⟨_, rfl, .refl _, .refl _⟩, ⟨⟨_, rfl, .refl _, .refl _⟩, trivial⟩⟩) (fun _ => rfl) (fun _ => ⟨rfl, trivial⟩) ?_
  intro ν1 S H hS hfr
  refine st_op rfl (o_storeP tabOk (cs' := [.int .i64 a0.kind, .int .i64 a0.num, .str a0.text, .nil, .hd 3001 (ν1 3001)]) rfl rfl tsize30 rfl rfl rfl (Nat.le_of_ble_eq_true rfl) rfl rfl rfl ?_)
  exact lp_m (k := 9002) hS rfl rfl (.inr (by decide)) (fun _ => rfl) rfl
 intro ν1
 refine hK2 _ ?_
 refine good_seq fun K3 hK3 => ?_
 refine rg 2 ?_
 obtain ⟨y2, hy2, h⟩ := bnd h
 refine g_op rfl (o_callD [] [] [3001] (core_value rfl rfl) (m_slices_Sort_string_string_ok y1 _ _ hy2) trivial (.cons (.hd _ _ _) (.nil)) ⟨rfl, trivial⟩ rfl rfl rfl ?_)
 rintro _ _ ⟨rfl, rfl⟩
 refine ⟨_, [(3001, _)], .refl _, rfl, rfl, rfl, rfl, .inl rfl, ?_⟩
 refine gk hK3 51 [1, 2, 3] [11, 12, 13, 3001] ?_
 refine good_seq fun K4 hK4 => ?_
 refine good_seq fun K5 hK5 => ?_
 refine rg 2 ?_
 refine g_op rfl (ValOk.op (v_lenM (l := a0.list) (f := encVal) tabOk rfl rfl telem28 rfl ?_))
 refine gs 1 ?_
 refine gk hK5 51 [1, 2, 3, 20, 21, 22] [11, 12, 13, 3001] ?_
 obtain ⟨o1, ho1, hJ1⟩ := bnd h
 have hw1 : ∀ (s1 : (List Val)) (w3 : Value), o1 = Lp.go s1 → ∀ σ', Le σ' ⟨51, [(2, .ptr 12 b2 0), (3, .ptr 13 (bse (ν1 13)) 0)], [(12, ((.pointer (some ⟨b2, 0, none⟩)), .optr 30 [.int .i64 0, .int .i64 0, .str ([] : Bs), .nil, .nil])), (13, ((.pointer (some ⟨(bse (ν1 13)), 0, none⟩)), .optr 30 [.int .i64 a0.kind, .int .i64 a0.num, .str a0.text, .hd 5706 w3, .hd 3001 (ν1 3001)])), (5706, (w3, .osl 30 5 (s1.map encOVal))), (3001, ((ν1 3001), .osl 9 1 (y2.map encS)))]⟩ → K4 σ' := by
  intro s1 w3 e1 σ' hle1
  subst e1
  refine hK4 _ (Good.le hle1 ?_)
  replace h := hJ1
  refine good_seq fun K6 hK6 => ?_
  refine rg 1 ?_
  refine g_op rfl (o_storeP tabOk (cs' := [.int .i64 a0.kind, .int .i64 a0.num, .str a0.text, .hd 5706 w3, .hd 3001 (ν1 3001)]) rfl rfl tsize30 rfl rfl rfl (Nat.le_of_ble_eq_true rfl) rfl rfl rfl ?_)
  refine gk hK6 51 [2] [12, 5706, 3001] ?_
  refine Good.le (σ' := ⟨51, [(2, .ptr 12 b2 0)], [(100, (w3, .osl 30 5 (s1.map encOVal))), (101, ((ν1 3001), .osl 9 1 (y2.map encS))), (12, ((.pointer (some ⟨b2, 0, none⟩)), .optr 30 [.int .i64 a0.kind, .int .i64 a0.num, .str a0.text, .hd 100 w3, .hd 101 (ν1 3001)]))]⟩) (lw [some 5706, some 3001, some 12]) ?_
  refine good_ret ?_
  obtain rfl := Option.some.inj h
  exact endQ_ret (h' := [(100, (_, _)), (101, (_, _))]) [some 100, some 101] (.cell rfl rfl tsize30 tagg30 rfl rfl rfl (.nil)) ⟨⟨_, rfl, .refl _⟩, ⟨⟨_, rfl, .refl _⟩, trivial⟩⟩ (by decide) ⟨w3, (ν1 3001), rfl, rfl⟩
 replace h := ho1
 refine good_block ?_
 refine good_loopf (fun p : ((List Val) × Int × Value) => ⟨51, [(1, .ptr 11 b1 0), (2, .ptr 12 b2 0), (3, .ptr 13 (bse (ν1 13)) 0), (20, .sl true (a0.list.map encVal)), (21, .int .i64 (a0.list.length : Int)), (22, .int .i64 p.2.1)], [(11, ((.pointer (some ⟨b1, 0, none⟩)), .optr 30 [.int .i64 a0.kind, .int .i64 a0.num, .str a0.text, .sl true (a0.list.map encVal), .sl false (a0.names.map encS)])), (12, ((.pointer (some ⟨b2, 0, none⟩)), .optr 30 [.int .i64 0, .int .i64 0, .str ([] : Bs), .nil, .nil])), (13, ((.pointer (some ⟨(bse (ν1 13)), 0, none⟩)), .optr 30 [.int .i64 a0.kind, .int .i64 a0.num, .str a0.text, .hd 5707 p.2.2, .hd 3001 (ν1 3001)])), (5707, (p.2.2, .osl 30 5 (p.1.map encOVal))), (3001, ((ν1 3001), .osl 9 1 (y2.map encS)))]⟩) (fun m p => m < k + 1 ∧ m_impl_sorted_l1 m a0 y2 p.1 p.2.1 = some o1) k ([], 0, nilV) (lw [some 11, some 12, some 13, none, some 3001]) ⟨by omega, h⟩ ?_
 rintro m1 ⟨x1, x2, w2⟩ ⟨hm, h⟩
 replace h : m_impl_sorted_l1 m1 a0 y2 x1 x2 = some o1 := h
 refine Good.le (σ' := ⟨51, [(1, .ptr 11 b1 0), (2, .ptr 12 b2 0), (3, .ptr 13 (bse (ν1 13)) 0), (20, .sl true (a0.list.map encVal)), (21, .int .i64 (a0.list.length : Int)), (22, .int .i64 x2)], [(11, ((.pointer (some ⟨b1, 0, none⟩)), .optr 30 [.int .i64 a0.kind, .int .i64 a0.num, .str a0.text, .sl true (a0.list.map encVal), .sl false (a0.names.map encS)])), (12, ((.pointer (some ⟨b2, 0, none⟩)), .optr 30 [.int .i64 0, .int .i64 0, .str ([] : Bs), .nil, .nil])), (13, ((.pointer (some ⟨(bse (ν1 13)), 0, none⟩)), .optr 30 [.int .i64 a0.kind, .int .i64 a0.num, .str a0.text, .hd 5707 w2, .hd 3001 (ν1 3001)])), (5707, (w2, .osl 30 5 (x1.map encOVal))), (3001, ((ν1 3001), .osl 9 1 (y2.map encS)))]⟩) (Le.refl _) ?_
 obtain ⟨m1, rfl⟩ : ∃ m', m1 = m' + 1 := by cases m1 with | zero => (rw [m_impl_sorted_l1] at h; cases h) | succ m' => exact ⟨m', rfl⟩
 rw [m_impl_sorted_l1] at h
 refine good_seq fun K7 hK7 => ?_
 refine rg 1 ?_
 refine g_nil (hK7 _ ?_)
 refine good_seq fun K8 hK8 => ?_
 refine good_cond rfl (fun hc1 => ?_) (fun hc1 => ?_)
 ·replace h := ifT h (dT hc1)
  refine good_skip ?_
  refine hK8 _ (kp 51 [1, 2, 3, 20, 21, 22] [11, 12, 13, 5707, 3001] ?_)
  refine good_seq fun K9 hK9 => ?_
  refine good_block ?_
  refine good_seq fun K10 hK10 => ?_
  refine rg 1 ?_
  obtain ⟨hb1, h⟩ := ifS h
  refine g_op rfl (ValOk.op (v_idxM tabOk rfl rfl telem28 tsize30 hb1 (encVal_eq _) rfl rfl ?_))
  refine gs 1 ?_
  refine g_op rfl (o_alloc (k := 15) tabOk tzero30 rfl rfl ?_)
  intro b3
  refine gs 1 ?_
  refine g_op rfl (o_storeP tabOk (cs' := [.int .i64 ((ix a0.list x2).kind), .int .i64 ((ix a0.list x2).num), .str ((ix a0.list x2).text), .sl true (((ix a0.list x2).list).map encVal), .sl false (((ix a0.list x2).names).map encS)]) rfl rfl tsize30 rfl rfl rfl (Nat.le_of_ble_eq_true rfl) rfl rfl rfl ?_)
  refine gk hK10 51 [1, 2, 3, 4, 5, 20, 21, 22] [11, 12, 13, 5707, 3001, 15] ?_
  refine good_seq fun K11 hK11 => ?_
  obtain ⟨o2, ho2, hJ2⟩ := bnd h
  have hw2 : ∀ (s2 : (Int × Int × Bs × (List Val) × (List Bs))), o2 = Lp.go s2 → ∀ σ', Le σ' ⟨51, [(1, .ptr 11 b1 0), (2, .ptr 12 b2 0), (3, .ptr 13 (bse (ν1 13)) 0), (5, .ptr 15 b3 0), (20, .sl true (a0.list.map encVal)), (21, .int .i64 (a0.list.length : Int)), (22, .int .i64 x2)], [(11, ((.pointer (some ⟨b1, 0, none⟩)), .optr 30 [.int .i64 a0.kind, .int .i64 a0.num, .str a0.text, .sl true (a0.list.map encVal), .sl false (a0.names.map encS)])), (12, ((.pointer (some ⟨b2, 0, none⟩)), .optr 30 [.int .i64 0, .int .i64 0, .str ([] : Bs), .nil, .nil])), (13, ((.pointer (some ⟨(bse (ν1 13)), 0, none⟩)), .optr 30 [.int .i64 a0.kind, .int .i64 a0.num, .str a0.text, .hd 5707 w2, .hd 3001 (ν1 3001)])), (5707, (w2, .osl 30 5 (x1.map encOVal))), (3001, ((ν1 3001), .osl 9 1 (y2.map encS))), (15, ((.pointer (some ⟨b3, 0, none⟩)), .optr 30 [.int .i64 s2.1, .int .i64 s2.2.1, .str s2.2.2.1, .sl true (s2.2.2.2.1.map encVal), .sl false (s2.2.2.2.2.map encS)]))]⟩ → K11 σ' := by
   intro s2 e2 σ' hle2
   subst e2
   refine hK11 _ (Good.le hle2 ?_)
   replace h := hJ2
   obtain ⟨y3, hy3, h⟩ := bnd h
   obtain ⟨hb2, h⟩ := ifS h
   refine good_anyM (by kernel_rfl) [⟨[], [3], [], [], [], []⟩, ⟨[0], [42], [13], [], [], []⟩, ⟨[], [5], [15], [], [], []⟩, ⟨[2], [44], [], [], [3005, 3006], [3005, 3006]⟩, ⟨[2, 3], [45], [3005, 3006], [3005, 3006], [56], [56]⟩, ⟨[0, 1, 2, 3, 4], [43, 46], [5707, 56], [5707, 56], [57], [57]⟩, ⟨[0, 1, 2, 3, 4, 5], [3], [], [], [], []⟩, ⟨[0, 1, 2, 3, 4, 5, 6], [48, 47], [13], [13], [9007], []⟩] [some 42, some 43, some 44, some 45, some 46, some 47, some 48, none] 51 [(1, .ptr 11 b1 0), (2, .ptr 12 b2 0), (3, .ptr 13 (bse (ν1 13)) 0), (5, .ptr 15 b3 0), (20, .sl true (a0.list.map encVal)), (21, .int .i64 (a0.list.length : Int)), (22, .int .i64 x2)] [(11, ((.pointer (some ⟨b1, 0, none⟩)), .optr 30 [.int .i64 a0.kind, .int .i64 a0.num, .str a0.text, .sl true (a0.list.map encVal), .sl false (a0.names.map encS)])), (12, ((.pointer (some ⟨b2, 0, none⟩)), .optr 30 [.int .i64 0, .int .i64 0, .str ([] : Bs), .nil, .nil])), (13, ((.pointer (some ⟨(bse (ν1 13)), 0, none⟩)), .optr 30 [.int .i64 a0.kind, .int .i64 a0.num, .str a0.text, .hd 5707 w2, .hd 3001 (ν1 3001)])), (5707, (w2, .osl 30 5 (x1.map encOVal))), (3001, ((ν1 3001), .osl 9 1 (y2.map encS))), (15, ((.pointer (some ⟨b3, 0, none⟩)), .optr 30 [.int .i64 s2.1, .int .i64 s2.2.1, .str s2.2.2.1, .sl true (s2.2.2.2.1.map encVal), .sl false (s2.2.2.2.2.map encS)]))] (fun ν2 => [.ptr 13 (bse (ν1 13)) 3, .hd 5707 w2, .agg [.int .i64 s2.1, .int .i64 s2.2.1, .str s2.2.2.1, .sl true (s2.2.2.2.1.map encVal), .sl false (s2.2.2.2.2.map encS)], .agg [.int .i64 y3.kind, .int .i64 y3.num, .str y3.text, .hd 3005 (ν2 3005), .hd 3006 (ν2 3006)], .hd 56 (ν2 56), .hd 57 (ν2 57), .ptr 13 (bse (ν1 13)) 3, .und]) (fun ν2 => [(3005, ((ν2 3005), .osl 30 5 (y3.list.map encOVal))), (3006, ((ν2 3006), .osl 9 1 (y3.names.map encS))), (56, ((ν2 56), .osl 30 5 ([y3].map encOVal))), (57, ((ν2 57), .osl 30 5 ((x1 ++ [y3]).map encOVal))), (9007, ((.pointer (some ⟨(bse (ν1 13)), 0, none⟩)), .optr 30 [.int .i64 a0.kind, .int .i64 a0.num, .str a0.text, .hd 57 (ν2 57), .hd 3001 (ν1 3001)]))]) [(3005, [3005]), (3006, [3006]), (56, [56]), (57, [57]), (9007, [57]), (11, []), (12, []), (13, []), (5707, []), (3001, []), (15, [])] [3005, 3006, 56, 57, 9007] [some 11, some 12, some 9007, some 57, some 3001] (fun ν2 => [(1, .ptr 11 b1 0), (2, .ptr 12 b2 0), (3, .ptr 13 (bse (ν1 13)) 0), (20, .sl true (a0.list.map encVal)), (21, .int .i64 (a0.list.length : Int)), (22, .int .i64 x2)]) (fun ν2 => [(11, ((.pointer (some ⟨b1, 0, none⟩)), .optr 30 [.int .i64 a0.kind, .int .i64 a0.num, .str a0.text, .sl true (a0.list.map encVal), .sl false (a0.names.map encS)])), (12, ((.pointer (some ⟨b2, 0, none⟩)), .optr 30 [.int .i64 0, .int .i64 0, .str ([] : Bs), .nil, .nil])), (13, ((.pointer (some ⟨(bse (ν1 13)), 0, none⟩)), .optr 30 [.int .i64 a0.kind, .int .i64 a0.num, .str a0.text, .hd 57 (ν2 57), .hd 3001 (ν1 3001)])), (57, ((ν2 57), .osl 30 5 ((x1 ++ [y3]).map encOVal))), (3001, ((ν1 3001), .osl 9 1 (y2.map encS)))]) (lw [some 11, some 12, some 13, some 5707, some 3001, some 15]) (by kernel_rfl) ⟨?_, ⟨?_, ⟨?_, ⟨?_, ⟨?_, ⟨?_, ⟨?_, ⟨?_, trivial⟩⟩⟩⟩⟩⟩⟩⟩ ⟨fun _ _ _ => rfl, ⟨fun _ _ _ => rfl, ⟨fun _ _ _ => rfl, ⟨fun _ _ h => (cong2 (fun zz0 zz1 => (some (.agg [.int .i64 y3.kind, .int .i64 y3.num, .str y3.text, .hd 3005 zz0, .hd 3006 zz1]) : Option AV)) (h 3005 (by decide)) (h 3006 (by decide))), ⟨fun _ _ h => (congrArg (fun zz0 => (some (.hd 56 zz0) : Option AV)) (h 56 (by decide))), ⟨fun _ _ h => (congrArg (fun zz0 => (some (.hd 57 zz0) : Option AV)) (h 57 (by decide))), ⟨fun _ _ _ => rfl, ⟨fun _ _ _ => rfl, trivial⟩⟩⟩⟩⟩⟩⟩⟩ ⟨fun _ _ h => (congrArg (fun zz0 => (some (zz0, .osl 30 5 (y3.list.map encOVal)) : Option (Value × AV))) (h 3005 (by decide))), ⟨fun _ _ h => (congrArg (fun zz0 => (some (zz0, .osl 9 1 (y3.names.map encS)) : Option (Value × AV))) (h 3006 (by decide))), ⟨fun _ _ h => (congrArg (fun zz0 => (some (zz0, .osl 30 5 ([y3].map encOVal)) : Option (Value × AV))) (h 56 (by decide))), ⟨fun _ _ h => (congrArg (fun zz0 => (some (zz0, .osl 30 5 ((x1 ++ [y3]).map encOVal)) : Option (Value × AV))) (h 57 (by decide))), ⟨fun _ _ h => (congrArg (fun zz0 => (some ((.pointer (some ⟨(bse (ν1 13)), 0, none⟩)), .optr 30 [.int .i64 a0.kind, .int .i64 a0.num, .str a0.text, .hd 57 zz0, .hd 3001 (ν1 3001)]) : Option (Value × AV))) (h 57 (by decide))), ⟨fun _ _ _ => rfl, ⟨fun _ _ _ => rfl, ⟨fun _ _ _ => rfl, ⟨fun _ _ _ => rfl, ⟨fun _ _ _ => rfl, ⟨fun _ _ _ => rfl, trivial⟩⟩⟩⟩⟩⟩⟩⟩⟩⟩⟩ (fun _ => rfl) (fun _ => rfl) (by kernel_rfl) (fun _ => ⟨⟨_, rfl, .refl _⟩, ⟨⟨_, rfl, .refl _⟩, ⟨⟨_, rfl, .refl _⟩, ⟨⟨_, rfl, .refl _⟩, ⟨⟨_, rfl, .refl _⟩, ⟨⟨_, rfl, .refl _⟩, trivial⟩⟩⟩⟩⟩⟩) (fun _ => ⟨⟨_, rfl, .refl _⟩, ⟨⟨_, rfl, .refl _⟩, ⟨⟨_, rfl, .refl _⟩, ⟨⟨_, rfl, .refl _⟩, ⟨⟨_, rfl, .refl _⟩, trivial⟩⟩⟩⟩⟩) (by kernel_rfl) (by decide) ?_
   ·refine local_mk (fun ν2 => [(3, .ptr 13 (bse (ν1 13)) 0)]) (fun ν2 => []) (fun _ => rfl) (fun _ => ⟨⟨_, rfl, .refl _, .refl _⟩, trivial⟩) (fun _ => rfl) (fun _ => trivial) ?_
    intro ν2 S H hS hfr
    refine st_op rfl (ValOk.op (v_fieldP tabOk rfl tfoff30_3 rfl ?_))
    exact lp_v hS rfl rfl (fun _ => rfl)
   ·refine local_mk (fun ν2 => [(42, .ptr 13 (bse (ν1 13)) 3)]) (fun ν2 => [(13, ((.pointer (some ⟨(bse (ν1 13)), 0, none⟩)), .optr 30 [.int .i64 a0.kind, .int .i64 a0.num, .str a0.text, .hd 5707 w2, .hd 3001 (ν1 3001)]))]) (fun _ => rfl) (fun _ => ⟨⟨_, rfl, .refl _, .refl _⟩, trivial⟩) (fun _ => rfl) (fun _ => ⟨rfl, trivial⟩) ?_
    intro ν2 S H hS hfr
    refine st_op rfl (ValOk.op (v_loadP tabOk rfl rfl tsize28 tagg28 rfl rfl rfl rfl ?_))
    exact lp_v hS rfl rfl (fun _ => rfl)
   ·refine local_mk (fun ν2 => [(5, .ptr 15 b3 0)]) (fun ν2 => [(15, ((.pointer (some ⟨b3, 0, none⟩)), .optr 30 [.int .i64 s2.1, .int .i64 s2.2.1, .str s2.2.2.1, .sl true (s2.2.2.2.1.map encVal), .sl false (s2.2.2.2.2.map encS)]))]) (fun _ => rfl) (fun _ => ⟨⟨_, rfl, .refl _, .refl _⟩, trivial⟩) (fun _ => rfl) (fun _ => ⟨rfl, trivial⟩) ?_
    intro ν2 S H hS hfr
    refine st_op rfl (ValOk.op (v_loadP tabOk rfl rfl tsize30 tagg30 rfl rfl rfl rfl ?_))
    exact lp_v hS rfl rfl (fun _ => rfl)
   ·refine local_mk (fun ν2 => [(44, .agg [.int .i64 s2.1, .int .i64 s2.2.1, .str s2.2.2.1, .sl true (s2.2.2.2.1.map encVal), .sl false (s2.2.2.2.2.map encS)])]) (fun ν2 => []) (fun _ => rfl) (fun _ => ⟨⟨_, rfl, .refl _, .refl _⟩, trivial⟩) (fun _ => rfl) (fun _ => trivial) ?_
    intro ν2 S H hS hfr
    refine st_op rfl (o_callDa [] [] [] (core_value rfl rfl) ((ih m1 (by omega)) (Val.mk s2.1 s2.2.1 s2.2.2.1 s2.2.2.2.1 s2.2.2.2.2) _ hy3) trivial (.cons (.refl _) (.nil)) trivial rfl rfl rfl ?_)
    rintro _ _ ⟨w4, w5, rfl, rfl⟩
    refine ⟨.agg [.int .i64 y3.kind, .int .i64 y3.num, .str y3.text, .hd 3005 w4, .hd 3006 w5], [(3005, _), (3006, _)], .agg (.cons (.refl _) (.cons (.refl _) (.cons (.refl _) (.cons (.hd _ _ _) (.cons (.hd _ _ _) (.nil)))))), rfl, rfl, rfl, (fun x hx => has_minus (hfr x hx)), .inl rfl, ?_⟩
    exact lp_mm (hN := [(3005, _), (3006, _)]) hS rfl rfl (fun _ => rfl) ⟨rfl, ⟨rfl, trivial⟩⟩
   ·refine local_mk (fun ν2 => [(45, .agg [.int .i64 y3.kind, .int .i64 y3.num, .str y3.text, .hd 3005 (ν2 3005), .hd 3006 (ν2 3006)])]) (fun ν2 => [(3005, ((ν2 3005), .osl 30 5 (y3.list.map encOVal))), (3006, ((ν2 3006), .osl 9 1 (y3.names.map encS)))]) (fun _ => rfl) (fun _ => ⟨⟨_, rfl, .refl _, .refl _⟩, trivial⟩) (fun _ => rfl) (fun _ => ⟨rfl, ⟨rfl, trivial⟩⟩) ?_
    intro ν2 S H hS hfr
    refine st_op rfl (OpOk.le (o_buildSlice (k := 56) (rows := [[.int .i64 y3.kind, .int .i64 y3.num, .str y3.text, .hd 3005 (ν2 3005), .hd 3006 (ν2 3006)]]) tabOk telem28 tsize30 rfl rfl rfl rfl (by decide) (by decide) (by rw [tzero30]; rfl) rfl rfl rfl (hfr _ (by decide)) rfl ?_))
    intro w
    refine ⟨_, (Le.trans (Le.trans (Le.trans (le_absorb1 (k := 56) (k2 := 3005) 0 3 _ rfl (by decide) rfl rfl rfl) (le_absorb1 (k := 56) (k2 := 3006) (rows' := [y3].map encOVal) 0 4 _ rfl (by decide) rfl rfl (cons_eq (encOVal_eq _) rfl))) (le_mm (rs := [3005, 3006]) rfl)) (le_mm0 (rs := [3005, 3006]) rfl)), ?_⟩
    exact lp_m (k := 56) hS rfl rfl (.inl rfl) (fun _ => rfl) rfl
   ·refine local_mk (fun ν2 => [(43, .hd 5707 w2), (46, .hd 56 (ν2 56))]) (fun ν2 => [(5707, (w2, .osl 30 5 (x1.map encOVal))), (56, ((ν2 56), .osl 30 5 ([y3].map encOVal)))]) (fun _ => rfl) (fun _ => ⟨⟨_, rfl, .refl _, .refl _⟩, ⟨⟨_, rfl, .refl _, .refl _⟩, trivial⟩⟩) (fun _ => rfl) (fun _ => ⟨rfl, ⟨rfl, trivial⟩⟩) ?_
    intro ν2 S H hS hfr
    refine st_op rfl (o_appendHM (q := 5707) (r := 56) (k := 57) (f := encOVal) tabOk ⟨_, rfl⟩ rfl ⟨_, rfl⟩ rfl rfl telem28 tsize30 tbytes30 tzero30 rfl (by decide) (by decide) encOVal_ok rfl (has_minus (hfr _ (by decide))) rfl hb2 ?_)
    intro w
    exact lp_m (k := 57) hS rfl rfl (.inl rfl) (fun _ => rfl) rfl
   ·refine local_mk (fun ν2 => [(3, .ptr 13 (bse (ν1 13)) 0)]) (fun ν2 => []) (fun _ => rfl) (fun _ => ⟨⟨_, rfl, .refl _, .refl _⟩, trivial⟩) (fun _ => rfl) (fun _ => trivial) ?_
    intro ν2 S H hS hfr
    refine st_op rfl (ValOk.op (v_fieldP tabOk rfl tfoff30_3 rfl ?_))
    exact lp_v hS rfl rfl (fun _ => rfl)
   ·refine local_mk (fun ν2 => [(48, .ptr 13 (bse (ν1 13)) 3), (47, .hd 57 (ν2 57))]) (fun ν2 => [(13, ((.pointer (some ⟨(bse (ν1 13)), 0, none⟩)), .optr 30 [.int .i64 a0.kind, .int .i64 a0.num, .str a0.text, .hd 5707 w2, .hd 3001 (ν1 3001)]))]) (fun _ => rfl) (fun _ => ⟨⟨_, rfl, .refl _, .refl _⟩, ⟨⟨_, rfl, .refl _, .refl _⟩, trivial⟩⟩) (fun _ => rfl) (fun _ => ⟨rfl, trivial⟩) ?_
    intro ν2 S H hS hfr
    refine st_op rfl (o_storeP tabOk (cs' := [.int .i64 a0.kind, .int .i64 a0.num, .str a0.text, .hd 57 (ν2 57), .hd 3001 (ν1 3001)]) rfl rfl tsize28 rfl rfl rfl (Nat.le_of_ble_eq_true rfl) rfl rfl rfl ?_)
    exact lp_m (k := 9007) hS rfl rfl (.inr (by decide)) (fun _ => rfl) rfl
   intro ν2
   refine hK9 _ ?_
   refine rg 2 ?_
   refine g_nil ?_
   exact round_mk m1 (x1 ++ [y3], IntKind.wrap .i64 (x2 + 1), (ν2 57)) (Nat.lt_succ_self _) ⟨by omega, h⟩ (lw [some 11, some 12, some 13, some 57, some 3001])
  replace h := ho2
  refine good_seq fun K12 hK12 => ?_
  refine rg 3 ?_
  refine gk hK12 51 [1, 2, 3, 4, 5, 20, 21, 22, 29] [11, 12, 13, 5707, 3001, 15] ?_
  refine good_cond rfl (fun hc2 => ?_) (fun hc2 => ?_)
  ·replace h := ifT h (dT hc2)
   obtain ⟨hb3, h⟩ := ifS h
   obtain ⟨y4, hy4, h⟩ := bnd h
   obtain ⟨hb4, h⟩ := ifS h
   refine good_anyM (by kernel_rfl) [⟨[], [1], [], [], [], []⟩, ⟨[0], [30], [11], [], [], []⟩, ⟨[], [1], [], [], [], []⟩, ⟨[2], [32], [11], [], [], []⟩, ⟨[], [3], [], [], [], []⟩, ⟨[4], [34], [13], [], [], []⟩, ⟨[], [4], [], [], [], []⟩, ⟨[4, 5, 6], [35, 36], [3001], [], [], []⟩, ⟨[4, 5, 6, 7], [37], [3001], [], [], []⟩, ⟨[2, 3, 4, 5, 6, 7, 8], [33, 38], [], [], [], []⟩, ⟨[0, 1, 2, 3, 4, 5, 6, 7, 8, 9], [31, 39], [], [], [], []⟩, ⟨[0, 1, 2, 3, 4, 5, 6, 7, 8, 9, 10], [40], [], [], [], []⟩, ⟨[0, 1, 2, 3, 4, 5, 6, 7, 8, 9, 10, 11], [5, 41], [15], [15], [9008], []⟩] [some 30, some 31, some 32, some 33, some 34, some 35, some 36, some 37, some 38, some 39, some 40, some 41, none] 51 [(1, .ptr 11 b1 0), (2, .ptr 12 b2 0), (3, .ptr 13 (bse (ν1 13)) 0), (4, .int .i64 x2), (5, .ptr 15 b3 0), (20, .sl true (a0.list.map encVal)), (21, .int .i64 (a0.list.length : Int)), (22, .int .i64 x2)] [(11, ((.pointer (some ⟨b1, 0, none⟩)), .optr 30 [.int .i64 a0.kind, .int .i64 a0.num, .str a0.text, .sl true (a0.list.map encVal), .sl false (a0.names.map encS)])), (12, ((.pointer (some ⟨b2, 0, none⟩)), .optr 30 [.int .i64 0, .int .i64 0, .str ([] : Bs), .nil, .nil])), (13, ((.pointer (some ⟨(bse (ν1 13)), 0, none⟩)), .optr 30 [.int .i64 a0.kind, .int .i64 a0.num, .str a0.text, .hd 5707 w2, .hd 3001 (ν1 3001)])), (5707, (w2, .osl 30 5 (x1.map encOVal))), (3001, ((ν1 3001), .osl 9 1 (y2.map encS))), (15, ((.pointer (some ⟨b3, 0, none⟩)), .optr 30 [.int .i64 ((ix a0.list x2).kind), .int .i64 ((ix a0.list x2).num), .str ((ix a0.list x2).text), .sl true (((ix a0.list x2).list).map encVal), .sl false (((ix a0.list x2).names).map encS)]))] (fun ν3 => [.ptr 11 b1 3, .sl true (a0.list.map encVal), .ptr 11 b1 4, .sl false (a0.names.map encS), .ptr 13 (bse (ν1 13)) 4, .hd 3001 (ν1 3001), .int .i64 x2, .rptr 3001 (ν1 3001) 1 (Int.toNat x2) 0, .str (ix y2 x2), .int .i64 y4, .eptr [.int .i64 ((ix a0.list y4).kind), .int .i64 ((ix a0.list y4).num), .str ((ix a0.list y4).text), .sl true (((ix a0.list y4).list).map encVal), .sl false (((ix a0.list y4).names).map encS)], .agg [.int .i64 ((ix a0.list y4).kind), .int .i64 ((ix a0.list y4).num), .str ((ix a0.list y4).text), .sl true (((ix a0.list y4).list).map encVal), .sl false (((ix a0.list y4).names).map encS)], .und]) (fun ν3 => [(9008, ((.pointer (some ⟨b3, 0, none⟩)), .optr 30 [.int .i64 ((ix a0.list y4).kind), .int .i64 ((ix a0.list y4).num), .str ((ix a0.list y4).text), .sl true (((ix a0.list y4).list).map encVal), .sl false (((ix a0.list y4).names).map encS)]))]) [(9008, []), (11, []), (12, []), (13, []), (5707, []), (3001, []), (15, [])] [9008] [some 11, some 12, some 13, some 5707, some 3001, some 9008] (fun ν3 => [(1, .ptr 11 b1 0), (2, .ptr 12 b2 0), (3, .ptr 13 (bse (ν1 13)) 0), (5, .ptr 15 b3 0), (20, .sl true (a0.list.map encVal)), (21, .int .i64 (a0.list.length : Int)), (22, .int .i64 x2)]) (fun ν3 => [(11, ((.pointer (some ⟨b1, 0, none⟩)), .optr 30 [.int .i64 a0.kind, .int .i64 a0.num, .str a0.text, .sl true (a0.list.map encVal), .sl false (a0.names.map encS)])), (12, ((.pointer (some ⟨b2, 0, none⟩)), .optr 30 [.int .i64 0, .int .i64 0, .str ([] : Bs), .nil, .nil])), (13, ((.pointer (some ⟨(bse (ν1 13)), 0, none⟩)), .optr 30 [.int .i64 a0.kind, .int .i64 a0.num, .str a0.text, .hd 5707 w2, .hd 3001 (ν1 3001)])), (5707, (w2, .osl 30 5 (x1.map encOVal))), (3001, ((ν1 3001), .osl 9 1 (y2.map encS))), (15, ((.pointer (some ⟨b3, 0, none⟩)), .optr 30 [.int .i64 ((ix a0.list y4).kind), .int .i64 ((ix a0.list y4).num), .str ((ix a0.list y4).text), .sl true (((ix a0.list y4).list).map encVal), .sl false (((ix a0.list y4).names).map encS)]))]) (lw [some 11, some 12, some 13, some 5707, some 3001, some 15]) (by kernel_rfl) ⟨?_, ⟨?_, ⟨?_, ⟨?_, ⟨?_, ⟨?_, ⟨?_, ⟨?_, ⟨?_, ⟨?_, ⟨?_, ⟨?_, ⟨?_, trivial⟩⟩⟩⟩⟩⟩⟩⟩⟩⟩⟩⟩⟩ ⟨fun _ _ _ => rfl, ⟨fun _ _ _ => rfl, ⟨fun _ _ _ => rfl, ⟨fun _ _ _ => rfl, ⟨fun _ _ _ => rfl, ⟨fun _ _ _ => rfl, ⟨fun _ _ _ => rfl, ⟨fun _ _ _ => rfl, ⟨fun _ _ _ => rfl, ⟨fun _ _ _ => rfl, ⟨fun _ _ _ => rfl, ⟨fun _ _ _ => rfl, ⟨fun _ _ _ => rfl, trivial⟩⟩⟩⟩⟩⟩⟩⟩⟩⟩⟩⟩⟩ ⟨fun _ _ _ => rfl, ⟨fun _ _ _ => rfl, ⟨fun _ _ _ => rfl, ⟨fun _ _ _ => rfl, ⟨fun _ _ _ => rfl, ⟨fun _ _ _ => rfl, ⟨fun _ _ _ => rfl, trivial⟩⟩⟩⟩⟩⟩⟩ (fun _ => rfl) (fun _ => rfl) (by kernel_rfl) (fun _ => ⟨⟨_, rfl, .refl _⟩, ⟨⟨_, rfl, .refl _⟩, ⟨⟨_, rfl, .refl _⟩, ⟨⟨_, rfl, .refl _⟩, ⟨⟨_, rfl, .refl _⟩, ⟨⟨_, rfl, .refl _⟩, ⟨⟨_, rfl, .refl _⟩, trivial⟩⟩⟩⟩⟩⟩⟩) (fun _ => ⟨⟨_, rfl, .refl _⟩, ⟨⟨_, rfl, .refl _⟩, ⟨⟨_, rfl, .refl _⟩, ⟨⟨_, rfl, .refl _⟩, ⟨⟨_, rfl, .refl _⟩, ⟨⟨_, rfl, .refl _⟩, trivial⟩⟩⟩⟩⟩⟩) (by kernel_rfl) (by decide) ?_
   ·refine local_mk (fun ν3 => [(1, .ptr 11 b1 0)]) (fun ν3 => []) (fun _ => rfl) (fun _ => ⟨⟨_, rfl, .refl _, .refl _⟩, trivial⟩) (fun _ => rfl) (fun _ => trivial) ?_
    intro ν3 S H hS hfr
    refine st_op rfl (ValOk.op (v_fieldP tabOk rfl tfoff30_3 rfl ?_))
    exact lp_v hS rfl rfl (fun _ => rfl)
   ·refine local_mk (fun ν3 => [(30, .ptr 11 b1 3)]) (fun ν3 => [(11, ((.pointer (some ⟨b1, 0, none⟩)), .optr 30 [.int .i64 a0.kind, .int .i64 a0.num, .str a0.text, .sl true (a0.list.map encVal), .sl false (a0.names.map encS)]))]) (fun _ => rfl) (fun _ => ⟨⟨_, rfl, .refl _, .refl _⟩, trivial⟩) (fun _ => rfl) (fun _ => ⟨rfl, trivial⟩) ?_
    intro ν3 S H hS hfr
    refine st_op rfl (ValOk.op (v_loadP tabOk rfl rfl tsize28 tagg28 rfl rfl rfl rfl ?_))
    exact lp_v hS rfl rfl (fun _ => rfl)
   ·refine local_mk (fun ν3 => [(1, .ptr 11 b1 0)]) (fun ν3 => []) (fun _ => rfl) (fun _ => ⟨⟨_, rfl, .refl _, .refl _⟩, trivial⟩) (fun _ => rfl) (fun _ => trivial) ?_
    intro ν3 S H hS hfr
    refine st_op rfl (ValOk.op (v_fieldP tabOk rfl tfoff30_4 rfl ?_))
    exact lp_v hS rfl rfl (fun _ => rfl)
   ·refine local_mk (fun ν3 => [(32, .ptr 11 b1 4)]) (fun ν3 => [(11, ((.pointer (some ⟨b1, 0, none⟩)), .optr 30 [.int .i64 a0.kind, .int .i64 a0.num, .str a0.text, .sl true (a0.list.map encVal), .sl false (a0.names.map encS)]))]) (fun _ => rfl) (fun _ => ⟨⟨_, rfl, .refl _, .refl _⟩, trivial⟩) (fun _ => rfl) (fun _ => ⟨rfl, trivial⟩) ?_
    intro ν3 S H hS hfr
    refine st_op rfl (ValOk.op (v_loadP tabOk rfl rfl tsize23 tagg23 rfl rfl rfl rfl ?_))
    exact lp_v hS rfl rfl (fun _ => rfl)
   ·refine local_mk (fun ν3 => [(3, .ptr 13 (bse (ν1 13)) 0)]) (fun ν3 => []) (fun _ => rfl) (fun _ => ⟨⟨_, rfl, .refl _, .refl _⟩, trivial⟩) (fun _ => rfl) (fun _ => trivial) ?_
    intro ν3 S H hS hfr
    refine st_op rfl (ValOk.op (v_fieldP tabOk rfl tfoff30_4 rfl ?_))
    exact lp_v hS rfl rfl (fun _ => rfl)
   ·refine local_mk (fun ν3 => [(34, .ptr 13 (bse (ν1 13)) 4)]) (fun ν3 => [(13, ((.pointer (some ⟨(bse (ν1 13)), 0, none⟩)), .optr 30 [.int .i64 a0.kind, .int .i64 a0.num, .str a0.text, .hd 5707 w2, .hd 3001 (ν1 3001)]))]) (fun _ => rfl) (fun _ => ⟨⟨_, rfl, .refl _, .refl _⟩, trivial⟩) (fun _ => rfl) (fun _ => ⟨rfl, trivial⟩) ?_
    intro ν3 S H hS hfr
    refine st_op rfl (ValOk.op (v_loadP tabOk rfl rfl tsize23 tagg23 rfl rfl rfl rfl ?_))
    exact lp_v hS rfl rfl (fun _ => rfl)
   ·refine local_mk (fun ν3 => [(4, .int .i64 x2)]) (fun ν3 => []) (fun _ => rfl) (fun _ => ⟨⟨_, rfl, .refl _, .refl _⟩, trivial⟩) (fun _ => rfl) (fun _ => trivial) ?_
    intro ν3 S H hS hfr
    refine st_op rfl (ValOk.op (v_move rfl rfl ?_))
    exact lp_v hS rfl rfl (fun _ => rfl)
   ·refine local_mk (fun ν3 => [(35, .hd 3001 (ν1 3001)), (36, .int .i64 x2)]) (fun ν3 => [(3001, ((ν1 3001), .osl 9 1 (y2.map encS)))]) (fun _ => rfl) (fun _ => ⟨⟨_, rfl, .refl _, .refl _⟩, ⟨⟨_, rfl, .refl _, .refl _⟩, trivial⟩⟩) (fun _ => rfl) (fun _ => ⟨rfl, trivial⟩) ?_
    intro ν3 S H hS hfr
    refine st_op rfl (ValOk.op (v_idxHM (q := 3001) tabOk ⟨_, rfl⟩ rfl rfl telem23 tsize9 hb3 rfl ?_))
    exact lp_v hS rfl rfl (fun _ => rfl)
   ·refine local_mk (fun ν3 => [(37, .rptr 3001 (ν1 3001) 1 (Int.toNat x2) 0)]) (fun ν3 => [(3001, ((ν1 3001), .osl 9 1 (y2.map encS)))]) (fun _ => rfl) (fun _ => ⟨⟨_, rfl, .refl _, .refl _⟩, trivial⟩) (fun _ => rfl) (fun _ => ⟨rfl, trivial⟩) ?_
    intro ν3 S H hS hfr
    refine st_op rfl (ValOk.op (v_loadRM tabOk rfl rfl hb3 rfl tsize9 tagg9 rfl rfl rfl rfl ?_))
    exact lp_v hS rfl rfl (fun _ => rfl)
   ·refine local_mk (fun ν3 => [(33, .sl false (a0.names.map encS)), (38, .str (ix y2 x2))]) (fun ν3 => []) (fun _ => rfl) (fun _ => ⟨⟨_, rfl, .refl _, .refl _⟩, ⟨⟨_, rfl, .refl _, .refl _⟩, trivial⟩⟩) (fun _ => rfl) (fun _ => trivial) ?_
    intro ν3 S H hS hfr
    refine st_op rfl (o_callR [] [] (core_value rfl rfl) (m_impl_placeOf_ok m1 a0.names (ix y2 x2) _ hy4) trivial (.cons (.refl _) (.cons (.refl _) (.nil))) (.inl rfl) rfl ?_)
    exact lp_v hS rfl rfl (fun _ => rfl)
   ·refine local_mk (fun ν3 => [(31, .sl true (a0.list.map encVal)), (39, .int .i64 y4)]) (fun ν3 => []) (fun _ => rfl) (fun _ => ⟨⟨_, rfl, .refl _, .refl _⟩, ⟨⟨_, rfl, .refl _, .refl _⟩, trivial⟩⟩) (fun _ => rfl) (fun _ => trivial) ?_
    intro ν3 S H hS hfr
    refine st_op rfl (ValOk.op (v_idxM tabOk rfl rfl telem28 tsize30 hb4 (encVal_eq _) rfl rfl ?_))
    exact lp_v hS rfl rfl (fun _ => rfl)
   ·refine local_mk (fun ν3 => [(40, .eptr [.int .i64 ((ix a0.list y4).kind), .int .i64 ((ix a0.list y4).num), .str ((ix a0.list y4).text), .sl true (((ix a0.list y4).list).map encVal), .sl false (((ix a0.list y4).names).map encS)])]) (fun ν3 => []) (fun _ => rfl) (fun _ => ⟨⟨_, rfl, .refl _, .refl _⟩, trivial⟩) (fun _ => rfl) (fun _ => trivial) ?_
    intro ν3 S H hS hfr
    refine st_op rfl (ValOk.op (v_loadE tabOk rfl tsize30 tagg30 rfl rfl rfl ?_))
    exact lp_v hS rfl rfl (fun _ => rfl)
   ·refine local_mk (fun ν3 => [(5, .ptr 15 b3 0), (41, .agg [.int .i64 ((ix a0.list y4).kind), .int .i64 ((ix a0.list y4).num), .str ((ix a0.list y4).text), .sl true (((ix a0.list y4).list).map encVal), .sl false (((ix a0.list y4).names).map encS)])]) (fun ν3 => [(15, ((.pointer (some ⟨b3, 0, none⟩)), .optr 30 [.int .i64 ((ix a0.list x2).kind), .int .i64 ((ix a0.list x2).num), .str ((ix a0.list x2).text), .sl true (((ix a0.list x2).list).map encVal), .sl false (((ix a0.list x2).names).map encS)]))]) (fun _ => rfl) (fun _ => ⟨⟨_, rfl, .refl _, .refl _⟩, ⟨⟨_, rfl, .refl _, .refl _⟩, trivial⟩⟩) (fun _ => rfl) (fun _ => ⟨rfl, trivial⟩) ?_
    intro ν3 S H hS hfr
    refine st_op rfl (o_storeP tabOk (cs' := [.int .i64 ((ix a0.list y4).kind), .int .i64 ((ix a0.list y4).num), .str ((ix a0.list y4).text), .sl true (((ix a0.list y4).list).map encVal), .sl false (((ix a0.list y4).names).map encS)]) rfl rfl tsize30 rfl rfl rfl (Nat.le_of_ble_eq_true rfl) rfl rfl rfl ?_)
    exact lp_m (k := 9008) hS rfl rfl (.inr (by decide)) (fun _ => rfl) rfl
   intro ν3
   exact hw2 ((ix a0.list y4).kind, (ix a0.list y4).num, (ix a0.list y4).text, (ix a0.list y4).list, (ix a0.list y4).names) (Option.some.inj h).symm _ (lw [some 11, some 12, some 13, some 5707, some 3001, some 15])
  ·replace h := ifF h (dF hc2)
   refine good_skip ?_
   exact hw2 ((ix a0.list x2).kind, (ix a0.list x2).num, (ix a0.list x2).text, (ix a0.list x2).list, (ix a0.list x2).names) (Option.some.inj h).symm _ (lw [some 11, some 12, some 13, some 5707, some 3001, some 15])
 ·replace h := ifF h (dF hc1)
  refine good_exit ?_
  exact hw1 x1 w2 (Option.some.inj h).symm _ (lw [some 12, some 13, some 5707, some 3001])
theorem m_impl_sorted_all (k : Nat) : P_m_impl_sorted k := by
 induction k using Nat.strongRecOn with
 | _ k ih => exact m_impl_sorted_step k ih
theorem m_impl_sorted_ok (k : Nat) : ∀ (a0 : Val) (r : Val), m_impl_sorted k a0 = some r → Does Try.prog 66 [.agg [.int .i64 a0.kind, .int .i64 a0.num, .str a0.text, .sl true (a0.list.map encVal), .sl false (a0.names.map encS)]] [] (fun q h' => ∃ u0 : Value, ∃ u1 : Value, q = .agg [.int .i64 r.kind, .int .i64 r.num, .str r.text, .hd 100 u0, .hd 101 u1] ∧ h' = [(100, (u0, .osl 30 5 (r.list.map encOVal))), (101, (u1, .osl 9 1 (r.names.map encS)))]) := (m_impl_sorted_all k)
theorem m_impl_sorted_okF (k : Nat) : ∀ (a0 : Val) (r : Val), m_impl_sorted k a0 = some r → Does Try.prog 66 [.agg [.int .i64 a0.kind, .int .i64 a0.num, .str a0.text, .sl true (a0.list.map encVal), .sl false (a0.names.map encS)]] [] (ret (.agg [.int .i64 r.kind, .int .i64 r.num, .str r.text, .sl true (r.list.map encVal), .sl false (r.names.map encS)])) := by
 intro a0 r h
 refine does_frz (m_impl_sorted_ok k a0 r h) ?_
 rintro q h' ⟨u0, u1, rfl, rfl⟩
 exact ⟨[100, 101], [(_, _), (_, _)], ⟨⟨_, rfl, .osl (FrzLL.map fun _ _ => encOVal_frz _)⟩, ⟨⟨_, rfl, .osl (FrzLL.map fun _ _ => encS_frz _)⟩, trivial⟩⟩, .agg (.cons (.refl _) (.cons (.refl _) (.cons (.refl _) (.cons (.frz _ _ _ (.head _)) (.cons (.frz _ _ _ (.tail _ (.head _))) (.nil))))))⟩
def m_impl_ValueSorted (k : Nat) (a0 : Val) : Option Val :=
 (m_impl_ValueOk k a0).bind fun y1 =>
 if y1 = true then
  (m_impl_sorted k a0).bind fun y2 =>
  some y2
 else
  some (Val.mk 0 0 ([] : Bs) ([] : List Val) ([] : List Bs))
theorem m_impl_ValueSorted_ok (k : Nat) : ∀ (a0 : Val) (r : Val), m_impl_ValueSorted k a0 = some r → Does Try.prog 29 [.agg [.int .i64 a0.kind, .int .i64 a0.num, .str a0.text, .sl true (a0.list.map encVal), .sl false (a0.names.map encS)]] [] (fun q h' => ∃ u0 : Value, ∃ u1 : Value, q = .agg [.int .i64 r.kind, .int .i64 r.num, .str r.text, .hd 100 u0, .hd 101 u1] ∧ h' = [(100, (u0, .osl 30 5 (r.list.map encOVal))), (101, (u1, .osl 9 1 (r.names.map encS)))]) := by
 intro a0 r h
 rw [m_impl_ValueSorted] at h
 refine does_of_good tabOk Try.func29 rfl (by decide +kernel) (Nat.le_of_ble_eq_true rfl) fun c => ?_
 refine Good.le (σ' := ⟨9, [(0, .agg [.int .i64 a0.kind, .int .i64 a0.num, .str a0.text, .sl true (a0.list.map encVal), .sl false (a0.names.map encS)])], []⟩) (Le.refl _) ?_
 refine good_seq fun K1 hK1 => ?_
 refine good_region ?_
 refine g_op rfl (o_box (k := 11) tabOk rfl rfl rfl rfl rfl ?_)
 intro b1
 refine g_op rfl (o_alloc (k := 12) tabOk tzero30 rfl rfl ?_)
 intro b2
 refine gk hK1 9 [1, 2] [11, 12] ?_
 refine good_seq fun K2 hK2 => ?_
 refine good_seq fun K3 hK3 => ?_
 refine rg 1 ?_
 obtain ⟨y1, hy1, h⟩ := bnd h
 refine g_op rfl (o_callR [] [] (core_value rfl rfl) (m_impl_ValueOk_ok k a0 _ hy1) trivial (.cons (.refl _) (.nil)) (.inl rfl) rfl ?_)
 refine gs 1 ?_
 refine gk hK3 9 [1, 2, 5] [11, 12] ?_
 refine good_cond rfl (fun hc1 => ?_) (fun hc1 => ?_)
 ·replace h := bF h (nT hc1)
  refine good_seq fun K4 hK4 => ?_
  refine good_region ?_
  refine g_op rfl (ValOk.op (v_build tabOk (cs := [.int .i64 0, .int .i64 0, .str ([] : Bs), .nil, .nil]) tzero30 tsok30 rfl rfl rfl ?_))
  refine g_op rfl (o_storeP tabOk (cs' := [.int .i64 0, .int .i64 0, .str ([] : Bs), .nil, .nil]) rfl rfl tsize30 rfl rfl rfl (Nat.le_of_ble_eq_true rfl) rfl rfl rfl ?_)
  refine gk hK4 9 [1, 2] [11, 12] ?_
  refine Good.le (σ' := ⟨9, [(2, .ptr 12 b2 0)], [(100, (nilV, .osl 30 5 (([] : List Val).map encOVal))), (101, (nilV, .osl 9 1 (([] : List Bs).map encS))), (12, ((.pointer (some ⟨b2, 0, none⟩)), .optr 30 [.int .i64 0, .int .i64 0, .str ([] : Bs), .hd 100 nilV, .hd 101 nilV]))]⟩) (lw [none, none, some 12]) ?_
  refine good_ret ?_
  obtain rfl := Option.some.inj h
  refine thenQ_ret ?_
  exact endQ_ret (h' := [(100, (_, _)), (101, (_, _))]) [some 100, some 101] (.cell rfl rfl tsize30 tagg30 rfl rfl rfl (.nil)) ⟨⟨_, rfl, .refl _⟩, ⟨⟨_, rfl, .refl _⟩, trivial⟩⟩ (by decide) ⟨nilV, nilV, rfl, rfl⟩
 ·replace h := ifT h (nF hc1)
  refine good_skip ?_
  refine hK2 _ (kp 9 [1, 2] [11, 12] ?_)
  refine good_seq fun K5 hK5 => ?_
  refine rg 1 ?_
  obtain ⟨y2, hy2, h⟩ := bnd h
  refine g_op rfl (o_callD [] [] [] (core_value rfl rfl) (m_impl_sorted_ok k a0 _ hy2) trivial (.cons (.refl _) (.nil)) trivial rfl rfl rfl ?_)
  rintro _ _ ⟨w1, w2, rfl, rfl⟩
  refine ⟨.agg [.int .i64 y2.kind, .int .i64 y2.num, .str y2.text, .hd 3001 w1, .hd 3002 w2], [(3001, _), (3002, _)], .agg (.cons (.refl _) (.cons (.refl _) (.cons (.refl _) (.cons (.hd _ _ _) (.cons (.hd _ _ _) (.nil)))))), rfl, rfl, rfl, rfl, .inl rfl, ?_⟩
  refine g_op rfl (o_storeP tabOk (cs' := [.int .i64 y2.kind, .int .i64 y2.num, .str y2.text, .hd 3001 w1, .hd 3002 w2]) rfl rfl tsize30 rfl rfl rfl (Nat.le_of_ble_eq_true rfl) rfl rfl rfl ?_)
  refine gk hK5 9 [2] [12, 3001, 3002] ?_
  refine Good.le (σ' := ⟨9, [(2, .ptr 12 b2 0)], [(100, (w1, .osl 30 5 (y2.list.map encOVal))), (101, (w2, .osl 9 1 (y2.names.map encS))), (12, ((.pointer (some ⟨b2, 0, none⟩)), .optr 30 [.int .i64 y2.kind, .int .i64 y2.num, .str y2.text, .hd 100 w1, .hd 101 w2]))]⟩) (lw [some 3001, some 3002, some 12]) ?_
  refine good_ret ?_
  obtain rfl := Option.some.inj h
  exact endQ_ret (h' := [(100, (_, _)), (101, (_, _))]) [some 100, some 101] (.cell rfl rfl tsize30 tagg30 rfl rfl rfl (.nil)) ⟨⟨_, rfl, .refl _⟩, ⟨⟨_, rfl, .refl _⟩, trivial⟩⟩ (by decide) ⟨w1, w2, rfl, rfl⟩
theorem m_impl_ValueSorted_okF (k : Nat) : ∀ (a0 : Val) (r : Val), m_impl_ValueSorted k a0 = some r → Does Try.prog 29 [.agg [.int .i64 a0.kind, .int .i64 a0.num, .str a0.text, .sl true (a0.list.map encVal), .sl false (a0.names.map encS)]] [] (ret (.agg [.int .i64 r.kind, .int .i64 r.num, .str r.text, .sl true (r.list.map encVal), .sl false (r.names.map encS)])) := by
 intro a0 r h
 refine does_frz (m_impl_ValueSorted_ok k a0 r h) ?_
 rintro q h' ⟨u0, u1, rfl, rfl⟩
 exact ⟨[100, 101], [(_, _), (_, _)], ⟨⟨_, rfl, .osl (FrzLL.map fun _ _ => encOVal_frz _)⟩, ⟨⟨_, rfl, .osl (FrzLL.map fun _ _ => encS_frz _)⟩, trivial⟩⟩, .agg (.cons (.refl _) (.cons (.refl _) (.cons (.refl _) (.cons (.frz _ _ _ (.head _)) (.cons (.frz _ _ _ (.tail _ (.head _))) (.nil))))))⟩
end Go.Proofs.Ytiaigcdckmpepaa
end
end
section
/-! Functions of the program. -/
set_option linter.unusedVariables false
set_option linter.unnecessarySimpa false
set_option maxRecDepth 100000
set_option maxHeartbeats 20000000
noncomputable section
namespace Go.Proofs.Ytiaigcdckmpepaa
open Go.Bb
def m_laws_FnExactValueSorted (k : Nat) (a0 : Val) : Option Bool :=
 (m_laws_szValue k a0 1048576).bind fun y1 =>
 if y1 < 0 then
  some true
 else
  (m_laws_toValue k a0).bind fun y2 =>
  (m_spec_ValueSorted k y2).bind fun y3 =>
  (m_laws_toValue k a0).bind fun y4 =>
  (m_impl_ValueSorted k y4).bind fun y5 =>
  (m_laws_eqValue k y5 y3).bind fun y6 =>
  if y6 = true then
   (m_laws_toValue k a0).bind fun y7 =>
   (m_laws_eqValue k y4 y7).bind fun y8 =>
   if y8 = true then
    (m_laws_markValue k y4 1).bind fun y9 =>
    (if y9.1 < 0 then
      some (Lp.go true)
     else
      (m_laws_eqValue k y5 y3).bind fun y16 =>
      some (Lp.go (!y16))).bind fun o1 =>
    o1.then fun s1 =>
  if s1 = true then
   some false
  else
   (m_laws_markValue k y5 1).bind fun y10 =>
   (m_laws_heldValue k (Val.mk y5.kind y5.num y5.text y10.2.1 y10.2.2) 1).bind fun y11 =>
   if y11 < 0 then
    some false
   else
    if y11 = y10.1 then
     (m_laws_toValue k a0).bind fun y12 =>
     (m_impl_ValueSorted k y12).bind fun y13 =>
     (m_laws_eqValue k y13 y3).bind fun y14 =>
     if y14 = true then
      (m_laws_heldValue k (Val.mk y5.kind y5.num y5.text y10.2.1 y10.2.2) 1).bind fun y15 =>
      if y15 < 0 then
       some false
      else
       if y15 = y10.1 then
        some true
       else
        some false
     else
      some false
    else
     some false
   else
    some false
  else
   some false
theorem m_laws_FnExactValueSorted_ok (k : Nat) : ∀ (a0 : Val) (r : Bool), m_laws_FnExactValueSorted k a0 = some r → Does Try.prog 7 [.agg [.int .i64 a0.kind, .int .i64 a0.num, .str a0.text, .sl false (a0.list.map encLVal), .sl false (a0.names.map encS)]] [] (ret (.bool r)) := by
 intro a0 r h
 rw [m_laws_FnExactValueSorted] at h
 refine does_of_good tabOk Try.func7 rfl (by decide +kernel) (Nat.le_of_ble_eq_true rfl) fun c => ?_
 refine Good.le (σ' := ⟨69, [(0, .agg [.int .i64 a0.kind, .int .i64 a0.num, .str a0.text, .sl false (a0.list.map encLVal), .sl false (a0.names.map encS)])], []⟩) (Le.refl _) ?_
 refine good_seq fun K1 hK1 => ?_
 refine good_region ?_
 refine g_op rfl (o_box (k := 11) tabOk rfl rfl rfl rfl rfl ?_)
 intro b1
 refine gs 1 ?_
 refine gk hK1 69 [1, 2] [11] ?_
 refine good_seq fun K2 hK2 => ?_
 refine rg 1 ?_
 refine g_nil (hK2 _ ?_)
 refine good_seq fun K3 hK3 => ?_
 refine rg 2 ?_
 obtain ⟨y1, hy1, h⟩ := bnd h
 refine g_op rfl (o_callR [] [] (core_value rfl rfl) (m_laws_szValue_ok k a0 1048576 _ hy1) trivial (.cons (.refl _) (.cons (.refl _) (.nil))) (.inl rfl) rfl ?_)
 refine gs 1 ?_
 refine gk hK3 69 [1, 2, 3] [11] ?_
 refine good_seq fun K4 hK4 => ?_
 refine good_seq fun K5 hK5 => ?_
 refine rg 2 ?_
 refine gk hK5 69 [1, 2, 15] [11] ?_
 refine good_cond rfl (fun hc1 => ?_) (fun hc1 => ?_)
 ·replace h := ifT h (dT hc1)
  refine good_seq fun K6 hK6 => ?_
  refine rg 1 ?_
  refine gk hK6 69 [1, 2] [11] ?_
  obtain rfl := Option.some.inj h
  exact rt
 ·replace h := ifF h (dF hc1)
  refine good_skip ?_
  refine hK4 _ (kp 69 [1, 2] [11] ?_)
  refine good_seq fun K7 hK7 => ?_
  refine rg 1 ?_
  obtain ⟨y2, hy2, h⟩ := bnd h
  refine g_op rfl (o_callD [] [] [] (core_value rfl rfl) (m_laws_toValue_ok k a0 _ hy2) trivial (.cons (.refl _) (.nil)) trivial rfl rfl rfl ?_)
  rintro _ _ ⟨w1, w2, rfl, rfl⟩
  refine ⟨.agg [.int .i64 y2.kind, .int .i64 y2.num, .str y2.text, .hd 3001 w1, .hd 3002 w2], [(3001, _), (3002, _)], .agg (.cons (.refl _) (.cons (.refl _) (.cons (.refl _) (.cons (.hd _ _ _) (.cons (.hd _ _ _) (.nil)))))), rfl, rfl, rfl, rfl, .inl rfl, ?_⟩
  refine g_le (σ1 := ⟨69, [(1, .ptr 11 b1 0), (17, .agg [.int .i64 y2.kind, .int .i64 y2.num, .str y2.text, .sl true (y2.list.map encVal), .sl false (y2.names.map encS)])], [(11, ((.pointer (some ⟨b1, 0, none⟩)), .optr 25 [.int .i64 a0.kind, .int .i64 a0.num, .str a0.text, .sl false (a0.list.map encLVal), .sl false (a0.names.map encS)]))]⟩) (le_of [3001, 3002] [(_, _), (_, _)] [some 11] rfl ⟨⟨_, rfl, .osl (FrzLL.map fun _ _ => encOVal_frz _)⟩, ⟨⟨_, rfl, .osl (FrzLL.map fun _ _ => encS_frz _)⟩, trivial⟩⟩ ⟨⟨_, rfl, .refl _⟩, ⟨⟨_, rfl, .agg (.cons (.refl _) (.cons (.refl _) (.cons (.refl _) (.cons (.frz _ _ _ (.head _)) (.cons (.frz _ _ _ (.tail _ (.head _))) (.nil))))))⟩, trivial⟩⟩ ⟨⟨_, rfl, .refl _⟩, trivial⟩ (by decide) (by decide)) ?_
  obtain ⟨y3, hy3, h⟩ := bnd h
  refine g_op rfl (o_callR [] [] (core_value rfl rfl) (m_spec_ValueSorted_ok k y2 _ hy3) trivial (.cons (.refl _) (.nil)) (.inl rfl) rfl ?_)
  refine g_op rfl (o_alloc (k := 14) tabOk tzero30 rfl rfl ?_)
  intro b2
  refine g_op rfl (o_storeP tabOk (cs' := [.int .i64 y3.kind, .int .i64 y3.num, .str y3.text, .sl true (y3.list.map encVal), .sl false (y3.names.map encS)]) rfl rfl tsize30 rfl rfl rfl (Nat.le_of_ble_eq_true rfl) rfl rfl rfl ?_)
  refine gk hK7 69 [1, 4] [11, 14] ?_
  refine good_seq fun K8 hK8 => ?_
  refine rg 1 ?_
  obtain ⟨y4, hy4, h⟩ := bnd h
  refine g_op rfl (o_callD [] [] [] (core_value rfl rfl) (m_laws_toValue_ok k a0 _ hy4) trivial (.cons (.refl _) (.nil)) trivial rfl rfl rfl ?_)
  rintro _ _ ⟨w3, w4, rfl, rfl⟩
  refine ⟨.agg [.int .i64 y4.kind, .int .i64 y4.num, .str y4.text, .hd 3003 w3, .hd 3004 w4], [(3003, _), (3004, _)], .agg (.cons (.refl _) (.cons (.refl _) (.cons (.refl _) (.cons (.hd _ _ _) (.cons (.hd _ _ _) (.nil)))))), rfl, rfl, rfl, rfl, .inl rfl, ?_⟩
  refine g_op rfl (o_alloc (k := 15) tabOk tzero30 rfl rfl ?_)
  intro b3
  refine g_op rfl (o_storeP tabOk (cs' := [.int .i64 y4.kind, .int .i64 y4.num, .str y4.text, .hd 3003 w3, .hd 3004 w4]) rfl rfl tsize30 rfl rfl rfl (Nat.le_of_ble_eq_true rfl) rfl rfl rfl ?_)
  refine gk hK8 69 [1, 4, 5] [11, 14, 15, 3003, 3004] ?_
  refine good_seq fun K9 hK9 => ?_
  refine rg 1 ?_
  obtain ⟨y5, hy5, h⟩ := bnd h
  refine g_op rfl (o_callD [3003, 3004] [(_, _), (_, _)] [] (core_value rfl rfl) (m_impl_ValueSorted_ok k y4 _ hy5) ⟨⟨_, rfl, .osl (FrzLL.map fun _ _ => encOVal_frz _)⟩, ⟨⟨_, rfl, .osl (FrzLL.map fun _ _ => encS_frz _)⟩, trivial⟩⟩ (.cons (.agg (.cons (.refl _) (.cons (.refl _) (.cons (.refl _) (.cons (.frz _ _ _ (.head _)) (.cons (.frz _ _ _ (.tail _ (.head _))) (.nil))))))) (.nil)) trivial rfl rfl rfl ?_)
  rintro _ _ ⟨w5, w6, rfl, rfl⟩
  refine ⟨.agg [.int .i64 y5.kind, .int .i64 y5.num, .str y5.text, .hd 3005 w5, .hd 3006 w6], [(3005, _), (3006, _)], .agg (.cons (.refl _) (.cons (.refl _) (.cons (.refl _) (.cons (.hd _ _ _) (.cons (.hd _ _ _) (.nil)))))), rfl, rfl, rfl, rfl, .inr ⟨.agg _ (by intro av hav; simp only [List.mem_cons, List.not_mem_nil, or_false] at hav; rcases hav with rfl | rfl | rfl | rfl | rfl <;> constructor), (by intro p hp; simp only [List.mem_cons, List.not_mem_nil, or_false] at hp; rcases hp with rfl | rfl; exact cln_rows fun _ => encOVal_cln _; exact cln_rows fun _ => encS_cln _)⟩, ?_⟩
  refine g_op rfl (o_alloc (k := 16) tabOk tzero30 rfl rfl ?_)
  intro b4
  refine g_op rfl (o_storeP tabOk (cs' := [.int .i64 y5.kind, .int .i64 y5.num, .str y5.text, .hd 3005 w5, .hd 3006 w6]) rfl rfl tsize30 rfl rfl rfl (Nat.le_of_ble_eq_true rfl) rfl rfl rfl ?_)
  refine gk hK9 69 [1, 4, 5, 6] [11, 14, 15, 3003, 3004, 16, 3005, 3006] ?_
  refine good_seq fun K10 hK10 => ?_
  refine good_seq fun K11 hK11 => ?_
  refine rg 2 ?_
  obtain ⟨y6, hy6, h⟩ := bnd h
  refine g_op rfl (o_callR [3005, 3006] [(_, _), (_, _)] (core_value rfl rfl) (m_laws_eqValue_ok k y5 y3 _ hy6) ⟨⟨_, rfl, .osl (FrzLL.map fun _ _ => encOVal_frz _)⟩, ⟨⟨_, rfl, .osl (FrzLL.map fun _ _ => encS_frz _)⟩, trivial⟩⟩ (.cons (.agg (.cons (.refl _) (.cons (.refl _) (.cons (.refl _) (.cons (.frz _ _ _ (.head _)) (.cons (.frz _ _ _ (.tail _ (.head _))) (.nil))))))) (.cons (.refl _) (.nil))) (.inr (.bool _)) rfl ?_)
  refine gs 1 ?_
  refine gk hK11 69 [1, 4, 5, 6, 26] [11, 14, 15, 3003, 3004, 16, 3005, 3006] ?_
  refine good_cond rfl (fun hc2 => ?_) (fun hc2 => ?_)
  ·replace h := bF h (nT hc2)
   refine good_seq fun K12 hK12 => ?_
   refine rg 1 ?_
   refine gk hK12 69 [1, 2, 4, 5, 6] [11, 14, 15, 3003, 3004, 16, 3005, 3006] ?_
   obtain rfl := Option.some.inj h
   exact rt
  ·replace h := ifT h (nF hc2)
   refine good_skip ?_
   refine hK10 _ (kp 69 [1, 4, 5, 6] [11, 14, 15, 3003, 3004, 16, 3005, 3006] ?_)
   refine good_seq fun K13 hK13 => ?_
   refine good_seq fun K14 hK14 => ?_
   obtain ⟨y7, hy7, h⟩ := bnd h
   obtain ⟨y8, hy8, h⟩ := bnd h
   refine good_anyM (by kernel_rfl) [⟨[], [5], [15], [], [], []⟩, ⟨[], [1], [11], [], [], []⟩, ⟨[1], [28], [], [], [], []⟩, ⟨[0, 1, 2], [27, 29], [3003, 3004], [], [], []⟩, ⟨[0, 1, 2, 3], [30], [], [], [], []⟩] [some 27, some 28, some 29, some 30, some 31] 69 [(1, .ptr 11 b1 0), (4, .ptr 14 b2 0), (5, .ptr 15 b3 0), (6, .ptr 16 b4 0)] [(11, ((.pointer (some ⟨b1, 0, none⟩)), .optr 25 [.int .i64 a0.kind, .int .i64 a0.num, .str a0.text, .sl false (a0.list.map encLVal), .sl false (a0.names.map encS)])), (14, ((.pointer (some ⟨b2, 0, none⟩)), .optr 30 [.int .i64 y3.kind, .int .i64 y3.num, .str y3.text, .sl true (y3.list.map encVal), .sl false (y3.names.map encS)])), (15, ((.pointer (some ⟨b3, 0, none⟩)), .optr 30 [.int .i64 y4.kind, .int .i64 y4.num, .str y4.text, .hd 3003 w3, .hd 3004 w4])), (3003, (w3, .osl 30 5 (y4.list.map encOVal))), (3004, (w4, .osl 9 1 (y4.names.map encS))), (16, ((.pointer (some ⟨b4, 0, none⟩)), .optr 30 [.int .i64 y5.kind, .int .i64 y5.num, .str y5.text, .hd 3005 w5, .hd 3006 w6])), (3005, (w5, .osl 30 5 (y5.list.map encOVal))), (3006, (w6, .osl 9 1 (y5.names.map encS)))] (fun ν1 => [.agg [.int .i64 y4.kind, .int .i64 y4.num, .str y4.text, .hd 3003 w3, .hd 3004 w4], .agg [.int .i64 a0.kind, .int .i64 a0.num, .str a0.text, .sl false (a0.list.map encLVal), .sl false (a0.names.map encS)], .agg [.int .i64 y7.kind, .int .i64 y7.num, .str y7.text, .sl true (y7.list.map encVal), .sl false (y7.names.map encS)], .bool y8, .bool (!y8)]) (fun ν1 => []) [(11, []), (14, []), (15, []), (3003, []), (3004, []), (16, []), (3005, []), (3006, [])] [] [some 11, some 14, some 15, some 3003, some 3004, some 16, some 3005, some 3006] (fun ν1 => [(1, .ptr 11 b1 0), (4, .ptr 14 b2 0), (5, .ptr 15 b3 0), (6, .ptr 16 b4 0), (31, .bool (!y8))]) (fun ν1 => [(11, ((.pointer (some ⟨b1, 0, none⟩)), .optr 25 [.int .i64 a0.kind, .int .i64 a0.num, .str a0.text, .sl false (a0.list.map encLVal), .sl false (a0.names.map encS)])), (14, ((.pointer (some ⟨b2, 0, none⟩)), .optr 30 [.int .i64 y3.kind, .int .i64 y3.num, .str y3.text, .sl true (y3.list.map encVal), .sl false (y3.names.map encS)])), (15, ((.pointer (some ⟨b3, 0, none⟩)), .optr 30 [.int .i64 y4.kind, .int .i64 y4.num, .str y4.text, .hd 3003 w3, .hd 3004 w4])), (3003, (w3, .osl 30 5 (y4.list.map encOVal))), (3004, (w4, .osl 9 1 (y4.names.map encS))), (16, ((.pointer (some ⟨b4, 0, none⟩)), .optr 30 [.int .i64 y5.kind, .int .i64 y5.num, .str y5.text, .hd 3005 w5, .hd 3006 w6])), (3005, (w5, .osl 30 5 (y5.list.map encOVal))), (3006, (w6, .osl 9 1 (y5.names.map encS)))]) (lw [some 11, some 14, some 15, some 3003, some 3004, some 16, some 3005, some 3006]) (by kernel_rfl) ⟨?_, ⟨?_, ⟨?_, ⟨?_, ⟨?_, trivial⟩⟩⟩⟩⟩ ⟨fun _ _ _ => rfl, ⟨fun _ _ _ => rfl, ⟨fun _ _ _ => rfl, ⟨fun _ _ _ => rfl, ⟨fun _ _ _ => rfl, trivial⟩⟩⟩⟩⟩ ⟨fun _ _ _ => rfl, ⟨fun _ _ _ => rfl, ⟨fun _ _ _ => rfl, ⟨fun _ _ _ => rfl, ⟨fun _ _ _ => rfl, ⟨fun _ _ _ => rfl, ⟨fun _ _ _ => rfl, ⟨fun _ _ _ => rfl, trivial⟩⟩⟩⟩⟩⟩⟩⟩ (fun _ => rfl) (fun _ => rfl) (by kernel_rfl) (fun _ => ⟨⟨_, rfl, .refl _⟩, ⟨⟨_, rfl, .refl _⟩, ⟨⟨_, rfl, .refl _⟩, ⟨⟨_, rfl, .refl _⟩, ⟨⟨_, rfl, .refl _⟩, trivial⟩⟩⟩⟩⟩) (fun _ => ⟨⟨_, rfl, .refl _⟩, ⟨⟨_, rfl, .refl _⟩, ⟨⟨_, rfl, .refl _⟩, ⟨⟨_, rfl, .refl _⟩, ⟨⟨_, rfl, .refl _⟩, ⟨⟨_, rfl, .refl _⟩, ⟨⟨_, rfl, .refl _⟩, ⟨⟨_, rfl, .refl _⟩, trivial⟩⟩⟩⟩⟩⟩⟩⟩) (by kernel_rfl) (by decide) ?_
   ·refine local_mk (fun ν1 => [(5, .ptr 15 b3 0)]) (fun ν1 => [(15, ((.pointer (some ⟨b3, 0, none⟩)), .optr 30 [.int .i64 y4.kind, .int .i64 y4.num, .str y4.text, .hd 3003 w3, .hd 3004 w4]))]) (fun _ => rfl) (fun _ => ⟨⟨_, rfl, .refl _, .refl _⟩, trivial⟩) (fun _ => rfl) (fun _ => ⟨rfl, trivial⟩) ?_
    intro ν1 S H hS hfr
    refine st_op rfl (ValOk.op (v_loadP tabOk rfl rfl tsize30 tagg30 rfl rfl rfl rfl ?_))
    exact lp_v hS rfl rfl (fun _ => rfl)
   ·refine local_mk (fun ν1 => [(1, .ptr 11 b1 0)]) (fun ν1 => [(11, ((.pointer (some ⟨b1, 0, none⟩)), .optr 25 [.int .i64 a0.kind, .int .i64 a0.num, .str a0.text, .sl false (a0.list.map encLVal), .sl false (a0.names.map encS)]))]) (fun _ => rfl) (fun _ => ⟨⟨_, rfl, .refl _, .refl _⟩, trivial⟩) (fun _ => rfl) (fun _ => ⟨rfl, trivial⟩) ?_
    intro ν1 S H hS hfr
    refine st_op rfl (ValOk.op (v_loadP tabOk rfl rfl tsize25 tagg25 rfl rfl rfl rfl ?_))
    exact lp_v hS rfl rfl (fun _ => rfl)
   ·refine local_mk (fun ν1 => [(28, .agg [.int .i64 a0.kind, .int .i64 a0.num, .str a0.text, .sl false (a0.list.map encLVal), .sl false (a0.names.map encS)])]) (fun ν1 => []) (fun _ => rfl) (fun _ => ⟨⟨_, rfl, .refl _, .refl _⟩, trivial⟩) (fun _ => rfl) (fun _ => trivial) ?_
    intro ν1 S H hS hfr
    refine st_op rfl (o_callR [] [] (core_value rfl rfl) (m_laws_toValue_okF k a0 _ hy7) trivial (.cons (.refl _) (.nil)) (.inl rfl) rfl ?_)
    exact lp_v hS rfl rfl (fun _ => rfl)
   ·refine local_mk (fun ν1 => [(27, .agg [.int .i64 y4.kind, .int .i64 y4.num, .str y4.text, .hd 3003 w3, .hd 3004 w4]), (29, .agg [.int .i64 y7.kind, .int .i64 y7.num, .str y7.text, .sl true (y7.list.map encVal), .sl false (y7.names.map encS)])]) (fun ν1 => [(3003, (w3, .osl 30 5 (y4.list.map encOVal))), (3004, (w4, .osl 9 1 (y4.names.map encS)))]) (fun _ => rfl) (fun _ => ⟨⟨_, rfl, .refl _, .refl _⟩, ⟨⟨_, rfl, .refl _, .refl _⟩, trivial⟩⟩) (fun _ => rfl) (fun _ => ⟨rfl, ⟨rfl, trivial⟩⟩) ?_
    intro ν1 S H hS hfr
    refine st_op rfl (o_callR [3003, 3004] [(_, _), (_, _)] (core_value rfl rfl) (m_laws_eqValue_ok k y4 y7 _ hy8) ⟨⟨_, rfl, .osl (FrzLL.map fun _ _ => encOVal_frz _)⟩, ⟨⟨_, rfl, .osl (FrzLL.map fun _ _ => encS_frz _)⟩, trivial⟩⟩ (.cons (.agg (.cons (.refl _) (.cons (.refl _) (.cons (.refl _) (.cons (.frz _ _ _ (.head _)) (.cons (.frz _ _ _ (.tail _ (.head _))) (.nil))))))) (.cons (.refl _) (.nil))) (.inr (.bool _)) rfl ?_)
    exact lp_v hS rfl rfl (fun _ => rfl)
   ·refine local_mk (fun ν1 => [(30, .bool y8)]) (fun ν1 => []) (fun _ => rfl) (fun _ => ⟨⟨_, rfl, .refl _, .refl _⟩, trivial⟩) (fun _ => rfl) (fun _ => trivial) ?_
    intro ν1 S H hS hfr
    refine st_op rfl (ValOk.op (v_not rfl rfl ?_))
    exact lp_v hS rfl rfl (fun _ => rfl)
   intro ν1
   refine hK14 _ ?_
   refine good_cond rfl (fun hc3 => ?_) (fun hc3 => ?_)
   ·replace h := bF h (nT hc3)
    refine good_seq fun K15 hK15 => ?_
    refine rg 1 ?_
    refine gk hK15 69 [1, 2, 4, 5, 6] [11, 14, 15, 3003, 3004, 16, 3005, 3006] ?_
    obtain rfl := Option.some.inj h
    exact rt
   ·replace h := ifT h (nF hc3)
    refine good_skip ?_
    refine hK13 _ (kp 69 [1, 4, 5, 6] [11, 14, 15, 3003, 3004, 16, 3005, 3006] ?_)
    refine good_seq fun K16 hK16 => ?_
    refine rg 1 ?_
    refine g_nil (hK16 _ ?_)
    refine good_seq fun K17 hK17 => ?_
    refine rg 2 ?_
    obtain ⟨y9, hy9, h⟩ := bnd h
    refine g_op rfl (o_callD [] [] [3003, 3004] (core_value rfl rfl) (m_laws_markValue_ok k y4 1 _ _ _ hy9) trivial (.cons (.agg (.cons (.refl _) (.cons (.refl _) (.cons (.refl _) (.cons (.hd _ _ _) (.cons (.hd _ _ _) (.nil))))))) (.cons (.refl _) (.nil))) ⟨rfl, ⟨rfl, trivial⟩⟩ rfl rfl rfl ?_)
    rintro _ _ ⟨rfl, rfl⟩
    refine ⟨_, [(3003, _), (3004, _)], .refl _, rfl, rfl, rfl, rfl, .inl rfl, ?_⟩
    refine gs 1 ?_
    refine gk hK17 69 [1, 4, 6, 7] [11, 14, 16, 3005, 3006] ?_
    refine good_seq fun K18 hK18 => ?_
    refine good_seq fun K19 hK19 => ?_
    obtain ⟨o1, ho1, hJ1⟩ := bnd h
    have hw1 : ∀ (s1 : Bool), o1 = Lp.go s1 → ∀ σ', Le σ' ⟨69, [(1, .ptr 11 b1 0), (4, .ptr 14 b2 0), (6, .ptr 16 b4 0), (42, .bool s1)], [(11, ((.pointer (some ⟨b1, 0, none⟩)), .optr 25 [.int .i64 a0.kind, .int .i64 a0.num, .str a0.text, .sl false (a0.list.map encLVal), .sl false (a0.names.map encS)])), (14, ((.pointer (some ⟨b2, 0, none⟩)), .optr 30 [.int .i64 y3.kind, .int .i64 y3.num, .str y3.text, .sl true (y3.list.map encVal), .sl false (y3.names.map encS)])), (16, ((.pointer (some ⟨b4, 0, none⟩)), .optr 30 [.int .i64 y5.kind, .int .i64 y5.num, .str y5.text, .hd 3005 w5, .hd 3006 w6])), (3005, (w5, .osl 30 5 (y5.list.map encOVal))), (3006, (w6, .osl 9 1 (y5.names.map encS)))]⟩ → K19 σ' := by
     intro s1 e1 σ' hle1
     subst e1
     refine hK19 _ (Good.le hle1 ?_)
     replace h := hJ1
     refine good_cond rfl (fun hc4 => ?_) (fun hc4 => ?_)
     ·replace h := ifT h hc4
      refine good_seq fun K20 hK20 => ?_
      refine rg 1 ?_
      refine gk hK20 69 [1, 2, 4, 6] [11, 14, 16, 3005, 3006] ?_
      obtain rfl := Option.some.inj h
      exact rt
     ·replace h := bF h hc4
      refine good_skip ?_
      refine hK18 _ (kp 69 [1, 4, 6] [11, 14, 16, 3005, 3006] ?_)
      refine good_seq fun K21 hK21 => ?_
      refine rg 1 ?_
      refine g_nil (hK21 _ ?_)
      refine good_seq fun K22 hK22 => ?_
      refine rg 2 ?_
      obtain ⟨y10, hy10, h⟩ := bnd h
      refine g_op rfl (o_callD [] [] [3005, 3006] (core_value rfl rfl) (m_laws_markValue_ok k y5 1 _ _ _ hy10) trivial (.cons (.agg (.cons (.refl _) (.cons (.refl _) (.cons (.refl _) (.cons (.hd _ _ _) (.cons (.hd _ _ _) (.nil))))))) (.cons (.refl _) (.nil))) ⟨rfl, ⟨rfl, trivial⟩⟩ rfl rfl rfl ?_)
      rintro _ _ ⟨rfl, rfl⟩
      refine ⟨_, [(3005, _), (3006, _)], .refl _, rfl, rfl, rfl, rfl, .inl rfl, ?_⟩
      refine gs 1 ?_
      refine gk hK22 69 [1, 4, 6, 8] [11, 14, 16, 3005, 3006] ?_
      refine good_seq fun K23 hK23 => ?_
      refine rg 1 ?_
      refine g_nil (hK23 _ ?_)
      refine good_seq fun K24 hK24 => ?_
      refine rg 2 ?_
      obtain ⟨y11, hy11, h⟩ := bnd h
      refine g_op rfl (o_callR [3005, 3006] [(_, _), (_, _)] (core_value rfl rfl) (m_laws_heldValue_ok k (Val.mk y5.kind y5.num y5.text y10.2.1 y10.2.2) 1 _ hy11) ⟨⟨_, rfl, .osl (FrzLL.map fun _ _ => encOVal_frz _)⟩, ⟨⟨_, rfl, .osl (FrzLL.map fun _ _ => encS_frz _)⟩, trivial⟩⟩ (.cons (.agg (.cons (.refl _) (.cons (.refl _) (.cons (.refl _) (.cons (.frz _ _ _ (.head _)) (.cons (.frz _ _ _ (.tail _ (.head _))) (.nil))))))) (.cons (.refl _) (.nil))) (.inr (.int _ _)) rfl ?_)
      refine gs 1 ?_
      refine gk hK24 69 [1, 4, 6, 8, 9] [11, 14, 16, 3005, 3006] ?_
      refine good_seq fun K25 hK25 => ?_
      refine good_seq fun K26 hK26 => ?_
      refine rg 2 ?_
      refine gk hK26 69 [1, 4, 6, 8, 9, 50] [11, 14, 16, 3005, 3006] ?_
      refine good_cond rfl (fun hc5 => ?_) (fun hc5 => ?_)
      ·replace h := ifT h (dT hc5)
       refine good_seq fun K27 hK27 => ?_
       refine rg 1 ?_
       refine gk hK27 69 [1, 2, 4, 6, 8, 9] [11, 14, 16, 3005, 3006] ?_
       obtain rfl := Option.some.inj h
       exact rt
      ·replace h := ifF h (dF hc5)
       refine good_skip ?_
       refine hK25 _ (kp 69 [1, 4, 6, 8, 9] [11, 14, 16, 3005, 3006] ?_)
       refine good_seq fun K28 hK28 => ?_
       refine good_seq fun K29 hK29 => ?_
       refine rg 3 ?_
       refine gk hK29 69 [1, 4, 6, 8, 53] [11, 14, 16, 3005, 3006] ?_
       refine good_cond rfl (fun hc6 => ?_) (fun hc6 => ?_)
       ·replace h := ifF h (ndT hc6)
        refine good_seq fun K30 hK30 => ?_
        refine rg 1 ?_
        refine gk hK30 69 [1, 2, 4, 6, 8] [11, 14, 16, 3005, 3006] ?_
        obtain rfl := Option.some.inj h
        exact rt
       ·replace h := ifT h (ndF hc6)
        refine good_skip ?_
        refine hK28 _ (kp 69 [1, 4, 6, 8] [11, 14, 16, 3005, 3006] ?_)
        refine good_seq fun K31 hK31 => ?_
        refine rg 1 ?_
        obtain ⟨y12, hy12, h⟩ := bnd h
        refine g_op rfl (o_callD [] [] [] (core_value rfl rfl) (m_laws_toValue_ok k a0 _ hy12) trivial (.cons (.refl _) (.nil)) trivial rfl rfl rfl ?_)
        rintro _ _ ⟨w7, w8, rfl, rfl⟩
        refine ⟨.agg [.int .i64 y12.kind, .int .i64 y12.num, .str y12.text, .hd 3007 w7, .hd 3008 w8], [(3007, _), (3008, _)], .agg (.cons (.refl _) (.cons (.refl _) (.cons (.refl _) (.cons (.hd _ _ _) (.cons (.hd _ _ _) (.nil)))))), rfl, rfl, rfl, rfl, .inl rfl, ?_⟩
        obtain ⟨y13, hy13, h⟩ := bnd h
        refine g_op rfl (o_callD [3007, 3008] [(_, _), (_, _)] [] (core_value rfl rfl) (m_impl_ValueSorted_ok k y12 _ hy13) ⟨⟨_, rfl, .osl (FrzLL.map fun _ _ => encOVal_frz _)⟩, ⟨⟨_, rfl, .osl (FrzLL.map fun _ _ => encS_frz _)⟩, trivial⟩⟩ (.cons (.agg (.cons (.refl _) (.cons (.refl _) (.cons (.refl _) (.cons (.frz _ _ _ (.head _)) (.cons (.frz _ _ _ (.tail _ (.head _))) (.nil))))))) (.nil)) trivial rfl rfl rfl ?_)
        rintro _ _ ⟨w9, w10, rfl, rfl⟩
        refine ⟨.agg [.int .i64 y13.kind, .int .i64 y13.num, .str y13.text, .hd 3009 w9, .hd 3010 w10], [(3009, _), (3010, _)], .agg (.cons (.refl _) (.cons (.refl _) (.cons (.refl _) (.cons (.hd _ _ _) (.cons (.hd _ _ _) (.nil)))))), rfl, rfl, rfl, rfl, .inr ⟨.agg _ (by intro av hav; simp only [List.mem_cons, List.not_mem_nil, or_false] at hav; rcases hav with rfl | rfl | rfl | rfl | rfl <;> constructor), (by intro p hp; simp only [List.mem_cons, List.not_mem_nil, or_false] at hp; rcases hp with rfl | rfl; exact cln_rows fun _ => encOVal_cln _; exact cln_rows fun _ => encS_cln _)⟩, ?_⟩
        refine g_op rfl (o_alloc (k := 20) tabOk tzero30 rfl rfl ?_)
        intro b5
        refine g_op rfl (o_storeP tabOk (cs' := [.int .i64 y13.kind, .int .i64 y13.num, .str y13.text, .hd 3009 w9, .hd 3010 w10]) rfl rfl tsize30 rfl rfl rfl (Nat.le_of_ble_eq_true rfl) rfl rfl rfl ?_)
        refine gk hK31 69 [4, 6, 8, 10] [14, 16, 3005, 3006, 20, 3009, 3010] ?_
        refine good_seq fun K32 hK32 => ?_
        refine good_seq fun K33 hK33 => ?_
        refine rg 2 ?_
        obtain ⟨y14, hy14, h⟩ := bnd h
        refine g_op rfl (o_callR [3009, 3010] [(_, _), (_, _)] (core_value rfl rfl) (m_laws_eqValue_ok k y13 y3 _ hy14) ⟨⟨_, rfl, .osl (FrzLL.map fun _ _ => encOVal_frz _)⟩, ⟨⟨_, rfl, .osl (FrzLL.map fun _ _ => encS_frz _)⟩, trivial⟩⟩ (.cons (.agg (.cons (.refl _) (.cons (.refl _) (.cons (.refl _) (.cons (.frz _ _ _ (.head _)) (.cons (.frz _ _ _ (.tail _ (.head _))) (.nil))))))) (.cons (.refl _) (.nil))) (.inr (.bool _)) rfl ?_)
        refine gs 1 ?_
        refine gk hK33 69 [6, 8, 60] [16, 3005, 3006] ?_
        refine good_cond rfl (fun hc7 => ?_) (fun hc7 => ?_)
        ·replace h := bF h (nT hc7)
         refine good_seq fun K34 hK34 => ?_
         refine rg 1 ?_
         refine gk hK34 69 [2, 6, 8] [16, 3005, 3006] ?_
         obtain rfl := Option.some.inj h
         exact rt
        ·replace h := ifT h (nF hc7)
         refine good_skip ?_
         refine hK32 _ (kp 69 [6, 8] [16, 3005, 3006] ?_)
         refine good_seq fun K35 hK35 => ?_
         refine rg 1 ?_
         refine g_nil (hK35 _ ?_)
         refine good_seq fun K36 hK36 => ?_
         refine rg 2 ?_
         obtain ⟨y15, hy15, h⟩ := bnd h
         refine g_op rfl (o_callR [3005, 3006] [(_, _), (_, _)] (core_value rfl rfl) (m_laws_heldValue_ok k (Val.mk y5.kind y5.num y5.text y10.2.1 y10.2.2) 1 _ hy15) ⟨⟨_, rfl, .osl (FrzLL.map fun _ _ => encOVal_frz _)⟩, ⟨⟨_, rfl, .osl (FrzLL.map fun _ _ => encS_frz _)⟩, trivial⟩⟩ (.cons (.agg (.cons (.refl _) (.cons (.refl _) (.cons (.refl _) (.cons (.frz _ _ _ (.head _)) (.cons (.frz _ _ _ (.tail _ (.head _))) (.nil))))))) (.cons (.refl _) (.nil))) (.inr (.int _ _)) rfl ?_)
         refine gs 1 ?_
         refine gk hK36 69 [8, 9] [] ?_
         refine good_seq fun K37 hK37 => ?_
         refine good_seq fun K38 hK38 => ?_
         refine rg 2 ?_
         refine gk hK38 69 [8, 9, 65] [] ?_
         refine good_cond rfl (fun hc8 => ?_) (fun hc8 => ?_)
         ·replace h := ifT h (dT hc8)
          refine good_seq fun K39 hK39 => ?_
          refine rg 1 ?_
          refine gk hK39 69 [2, 8, 9] [] ?_
          obtain rfl := Option.some.inj h
          exact rt
         ·replace h := ifF h (dF hc8)
          refine good_skip ?_
          refine hK37 _ (kp 69 [8, 9] [] ?_)
          refine good_seq fun K40 hK40 => ?_
          refine good_seq fun K41 hK41 => ?_
          refine rg 3 ?_
          refine gk hK41 69 [68] [] ?_
          refine good_cond rfl (fun hc9 => ?_) (fun hc9 => ?_)
          ·replace h := ifF h (ndT hc9)
           refine good_seq fun K42 hK42 => ?_
           refine rg 1 ?_
           refine gk hK42 69 [2] [] ?_
           obtain rfl := Option.some.inj h
           exact rt
          ·replace h := ifT h (ndF hc9)
           refine good_skip ?_
           refine hK40 _ (kp 69 [] [] ?_)
           refine good_seq fun K43 hK43 => ?_
           refine rg 1 ?_
           refine g_nil (hK43 _ ?_)
           obtain rfl := Option.some.inj h
           exact rt
    replace h := ho1
    refine rg 3 ?_
    rcases bsplit ((decide (y9.1 < 0))) with hg1 | hg1
    ·replace h := ifT h (dT hg1)
     refine gs 5 ?_
     refine g_nil ?_
     exact hw1 true (Option.some.inj h).symm _ (lw [some 11, some 14, some 16, some 3005, some 3006])
    ·replace h := ifF h (dF hg1)
     refine gs 2 ?_
     obtain ⟨y16, hy16, h⟩ := bnd h
     refine g_yes rfl rfl hg1 (o_callR [3005, 3006] [(_, _), (_, _)] (core_value rfl rfl) (m_laws_eqValue_ok k y5 y3 _ hy16) ⟨⟨_, rfl, .osl (FrzLL.map fun _ _ => encOVal_frz _)⟩, ⟨⟨_, rfl, .osl (FrzLL.map fun _ _ => encS_frz _)⟩, trivial⟩⟩ (.cons (.agg (.cons (.refl _) (.cons (.refl _) (.cons (.refl _) (.cons (.frz _ _ _ (.head _)) (.cons (.frz _ _ _ (.tail _ (.head _))) (.nil))))))) (.cons (.refl _) (.nil))) (.inr (.bool _)) rfl ?_)
     refine gs 2 ?_
     refine g_nil ?_
     exact hw1 (!y16) (Option.some.inj h).symm _ (lw [some 11, some 14, some 16, some 3005, some 3006])
end Go.Proofs.Ytiaigcdckmpepaa
end
end
section
/-! Names in order. -/
set_option linter.unusedVariables false
set_option linter.unusedSimpArgs false
set_option linter.unnecessarySimpa false
namespace Go.Proofs.Ytiaigcdckmpepaa
open Go.Bb

/-- The greater of two texts. -/
def gtB (a s : Bs) : Bool := !(Op.bytesLess a s || decide (a = s))
theorem bs_trans {a b c : Bs} (h1 : a ≤ b) (h2 : b ≤ c) : a ≤ c := List.le_trans h1 h2
theorem bs_total (a b : Bs) : a ≤ b ∨ b ≤ a := List.le_total a b
theorem bs_anti {a b : Bs} (h1 : a ≤ b) (h2 : b ≤ a) : a = b := List.le_antisymm h1 h2
theorem gtB_le {a s : Bs} : gtB a s = false ↔ a ≤ s := by
  unfold gtB
  rw [bytesLess_eq]
  by_cases h : a < s
  · simp only [h, decide_true, Bool.true_or, Bool.not_true, true_iff]
    intro h2; exact List.lt_irrefl a (List.lt_trans h h2)
  · by_cases e : a = s
    · subst e; simp [List.le_refl]
    · simp only [h, e, decide_false, Bool.or_self, Bool.not_false, Bool.true_eq_false, false_iff]
      intro h2; exact e (bs_anti h2 h)
theorem gtB_lt {a s : Bs} : gtB a s = true → s ≤ a := fun h => by
  rcases bs_total a s with h2 | h2
  · rw [gtB_le.2 h2] at h; cases h
  · exact h2

/-- The place behind the last that is not greater. -/
def plc (l : List Bs) (s : Bs) : Nat → Nat
  | 0 => 0
  | k + 1 => if gtB (ix l (k : Int)) s = true then plc l s k else k + 1
theorem plc_le (l : List Bs) (s : Bs) : ∀ k, plc l s k ≤ k
  | 0 => Nat.le_refl _
  | k + 1 => by
    unfold plc
    split
    · have := plc_le l s k; omega
    · exact Nat.le_refl _
theorem plc_hi (l : List Bs) (s : Bs) : ∀ k, k ≤ l.length → ∀ i (h : i < l.length), plc l s k ≤ i → i < k → s ≤ l[i]
  | 0, _, i, h, h1, h2 => by omega
  | k + 1, hk, i, h, h1, h2 => by
    unfold plc at h1
    split at h1
    · rename_i hg
      rw [ix_nat (by omega)] at hg
      by_cases e : i = k
      · subst e; exact gtB_lt hg
      · exact plc_hi l s k (by omega) i h h1 (by omega)
    · omega
theorem plc_lo (l : List Bs) (s : Bs) : ∀ k, k ≤ l.length → 0 < plc l s k → ∃ h : plc l s k - 1 < l.length, l[plc l s k - 1] ≤ s
  | 0, _, h => by simp [plc] at h
  | k + 1, hk, h => by
    unfold plc at h ⊢
    split
    · rename_i hg
      simp only [hg, if_true] at h
      exact plc_lo l s k (by omega) h
    · rename_i hg
      rw [ix_nat (by omega)] at hg
      exact ⟨by simp; omega, by simpa using gtB_le.1 (by simpa using hg)⟩

def stp (P : List (Bs × Val)) (q : Bs × Val) : List (Bs × Val) := P.take (plc (P.map Prod.fst) q.1 P.length) ++ [q] ++ P.drop (plc (P.map Prod.fst) q.1 P.length)
theorem stp_perm (P : List (Bs × Val)) (q : Bs × Val) : (stp P q).Perm (P ++ [q]) := by
  unfold stp
  generalize plc _ _ _ = k
  have h1 : (P.take k ++ [q] ++ P.drop k).Perm (P.take k ++ (P.drop k ++ [q])) := by
    rw [List.append_assoc]
    exact List.Perm.append_left _ List.perm_append_comm
  refine h1.trans ?_
  rw [← List.append_assoc, List.take_append_drop]
def inOrder (l : List Bs) : Prop := l.Pairwise fun a b => a ≤ b
theorem stp_order (P : List (Bs × Val)) (q : Bs × Val) (h : inOrder (P.map Prod.fst)) : inOrder ((stp P q).map Prod.fst) := by
  unfold stp
  have hp := plc_hi (P.map Prod.fst) q.1 P.length (by simp)
  have hq := plc_lo (P.map Prod.fst) q.1 P.length (by simp)
  have hl : P.length = (P.map Prod.fst).length := by simp
  rw [hl] at hp hq ⊢
  simp only [List.map_append, List.map_take, List.map_drop, List.map_cons, List.map_nil]
  generalize P.map Prod.fst = l at h hp hq ⊢
  have hkl := plc_le l q.1 l.length
  generalize plc l q.1 l.length = k at hp hq hkl ⊢
  generalize q.1 = s at hp hq ⊢
  unfold inOrder at h ⊢
  have hi := List.pairwise_iff_getElem.1 h
  have h1 : ∀ a ∈ l.take k, a ≤ s := by
    intro a ha
    obtain ⟨i, hi', rfl⟩ := List.mem_take_iff_getElem.1 ha
    obtain ⟨hk, h2⟩ := hq (by omega)
    by_cases e : i = k - 1
    · subst e; exact h2
    · exact bs_trans (hi i (k - 1) (by omega) hk (by omega)) h2
  have h2 : ∀ b ∈ l.drop k, s ≤ b := by
    intro b hb
    obtain ⟨i, hi', rfl⟩ := List.mem_drop_iff_getElem.1 hb
    exact hp _ (by omega) (by omega) (by omega)
  rw [List.append_assoc, List.pairwise_append]
  refine ⟨h.sublist (List.take_sublist ..), ?_, ?_⟩
  · exact List.pairwise_cons.2 ⟨h2, h.sublist (List.drop_sublist ..)⟩
  · intro a ha b hb
    rcases List.mem_cons.1 hb with rfl | hb
    · exact h1 a ha
    · exact bs_trans (h1 a ha) (h2 b hb)
def pairsIn (ns : List Bs) (ws : List Val) : List (Bs × Val) := (ns.zip ws).foldl stp []
theorem fold_perm : ∀ (l P : List (Bs × Val)), (l.foldl stp P).Perm (P ++ l)
  | [], P => by simp
  | q :: l, P => by
    refine (fold_perm l (stp P q)).trans ?_
    have := (stp_perm P q).append_right l
    simpa using this
theorem fold_order : ∀ (l P : List (Bs × Val)), inOrder (P.map Prod.fst) → inOrder ((l.foldl stp P).map Prod.fst)
  | [], P, h => h
  | q :: l, P, h => fold_order l (stp P q) (stp_order P q h)
theorem pairs_perm (ns : List Bs) (ws : List Val) : (pairsIn ns ws).Perm (ns.zip ws) := by
  have := fold_perm (ns.zip ws) []
  rw [List.nil_append] at this
  exact this
theorem pairs_order (ns : List Bs) (ws : List Val) : inOrder ((pairsIn ns ws).map Prod.fst) := fold_order _ _ (by simp [inOrder])
theorem srtB_perm (l : List Bs) : (srtB l).Perm l := List.mergeSort_perm l _
theorem srtB_order (l : List Bs) : inOrder (srtB l) := by
  have := List.pairwise_mergeSort (le := fun x y : Bs => decide (x ≤ y)) (fun a b c h1 h2 => by simp only [decide_eq_true_eq] at *; exact bs_trans h1 h2) (fun a b => by simpa using bs_total a b) l
  unfold inOrder srtB
  exact this.imp fun h => by simpa using h
theorem order_eq {a b : List Bs} (h1 : inOrder a) (h2 : inOrder b) (h : a.Perm b) : a = b := List.Perm.eq_of_pairwise (fun _ _ _ _ h1 h2 => bs_anti h1 h2) h1 h2 h
/-- The names of what is in order are the names in order. -/
theorem pairs_names (ns : List Bs) (ws : List Val) (h : ns.length = ws.length) : (pairsIn ns ws).map Prod.fst = srtB ns := by
  refine order_eq (pairs_order ns ws) (srtB_order ns) ?_
  refine (List.Perm.map Prod.fst (pairs_perm ns ws)).trans ?_
  rw [List.map_fst_zip (by omega)]
  exact (srtB_perm ns).symm
theorem pairs_len (ns : List Bs) (ws : List Val) (h : ns.length = ws.length) : (pairsIn ns ws).length = ns.length := by
  rw [(pairs_perm ns ws).length_eq]; simp [h]
theorem once_nodup {l : List Bs} (h : onceOk l = true) : l.Nodup := by
  rw [List.nodup_iff_pairwise_ne, List.pairwise_iff_getElem]
  intro i j hi hj hij
  unfold onceOk at h
  have h1 := List.all_eq_true.1 h j (by simpa using hj)
  rw [Bool.and_eq_true] at h1
  have h2 := of_decide_eq_true (List.all_eq_true.1 h1.2 i (by simpa using hij))
  rwa [ix_nat hi, ix_nat hj] at h2
/-- What stands with a name is what stood with it. -/
theorem pairs_at {ns : List Bs} {ws : List Val} (h : ns.length = ws.length) (hn : ns.Nodup) {j : Nat} (hj : j < (pairsIn ns ws).length) {i : Nat} (hi : i < ns.length) (e : ns[i] = (pairsIn ns ws)[j].1) : ws[i]'(by omega) = (pairsIn ns ws)[j].2 := by
  have hm : (pairsIn ns ws)[j] ∈ ns.zip ws := (pairs_perm ns ws).subset (List.getElem_mem hj)
  obtain ⟨i2, hi2, e2⟩ := List.getElem_of_mem hm
  rw [List.getElem_zip] at e2
  have hi3 : i2 < ns.length := by simp at hi2; omega
  have e3 : ns[i2] = ns[i] := by rw [e, ← e2]
  have hq := List.pairwise_iff_getElem.1 hn
  have : i2 = i := by
    rcases Nat.lt_trichotomy i2 i with g | g | g
    · exact absurd e3 (hq _ _ hi3 hi g)
    · exact g
    · exact absurd e3.symm (hq _ _ hi hi3 g)
  subst this
  rw [← e2]
end Go.Proofs.Ytiaigcdckmpepaa
end
section
/-! Values in order: the reference. -/
set_option linter.unusedVariables false
set_option linter.unusedSimpArgs false
set_option linter.unnecessarySimpa false
namespace Go.Proofs.Ytiaigcdckmpepaa
open Go.Bb

mutual
def sortV : Val → Val
  | .mk a b t l ns => if a = 5 then .mk a b t ((pairsIn ns (sortVs l)).map Prod.snd) (srtB ns) else .mk a b t (sortVs l) []
def sortVs : List Val → List Val
  | [] => []
  | v :: l => sortV v :: sortVs l
end
theorem sortVs_eq : ∀ l : List Val, sortVs l = l.map sortV
  | [] => rfl
  | v :: l => by simp only [sortVs, List.map_cons, sortVs_eq l]
theorem sortV_eq (v : Val) : sortV v = if v.kind = 5 then .mk v.kind v.num v.text ((pairsIn v.names (v.list.map sortV)).map Prod.snd) (srtB v.names) else .mk v.kind v.num v.text (v.list.map sortV) [] := by
  cases v; simp only [sortV, sortVs_eq]; rfl
theorem plain_five {v : Val} (h : plainOk v = true) (hk : v.kind = 5) : v.names.length = v.list.length ∧ v.list.length ≤ 12 := by
  unfold plainOk at h
  simp only [hk] at h
  have := of_decide_eq_true (by simpa using h : decide (v.num = 0 ∧ v.text = [] ∧ v.names.length = v.list.length ∧ v.list.length ≤ 12) = true)
  exact this.2.2
theorem plain_none {v : Val} (h : plainOk v = true) (hk : v.kind ≠ 5) : v.names = [] := by
  have z : ∀ {a b : Prop}, a ∧ b ∧ noneIn v → v.names = [] := fun h => List.eq_nil_of_length_eq_zero h.2.2.2
  unfold plainOk at h
  repeat' split at h
  · exact z (of_decide_eq_true h)
  · exact z (of_decide_eq_true h)
  · exact z (of_decide_eq_true h)
  · exact z (of_decide_eq_true h)
  · exact List.eq_nil_of_length_eq_zero (of_decide_eq_true h).2.2.1
  · rw [Bool.and_eq_true] at h
    exact List.eq_nil_of_length_eq_zero (of_decide_eq_true h.2 : noneIn v).2
  · cases h
theorem okV_parts {v : Val} {d : Int} {f : Bool} (h : okV v d f = true) : plainOk v = true ∧ onceOk v.names = true ∧ ∀ x ∈ v.list, okV x (d - 1) f = true := by
  rw [okV_eq] at h
  simp only [Bool.and_eq_true, List.all_eq_true] at h
  exact ⟨h.1.1.1.2, h.1.2, h.2⟩
theorem subT {α : Type} (l : List α) (n : Nat) : sub l 0 (n : Int) = l.take n := by unfold sub; simp
theorem subD {α : Type} (l : List α) (n : Nat) : sub l (n : Int) (l.length : Int) = l.drop n := by unfold sub; simp

theorem ev_l8_place (v : Val) (x2 : List Bs) (i : Nat) (hk : v.kind = 5) (hi : i < v.names.length) (hx : x2.length ≤ 1048576) : ∀ k : Nat, k ≤ x2.length → Ev (fun F => m_spec_l8Sorted_l2 F v x2 (i : Int) (k : Int)) (.go (plc x2 (ix v.names (i : Int)) k : Int))
  | 0, _ => by
    rw [ev_shift]; simp only [m_spec_l8Sorted_l2]
    rw [evbT hk, evbF (by simp), evbS]; simp only [thenG]; rw [evF (by simp)]; exact ev_some _
  | k + 1, h => by
    have e : ((k + 1 : Nat) : Int) - 1 = (k : Int) := by omega
    rw [ev_shift]; simp only [m_spec_l8Sorted_l2]
    rw [wrap_id (n := ((k + 1 : Nat) : Int) - 1) (by omega), e]
    rw [evbT hk, evbT (by omega), evbT (by omega), evbT (by omega), evbS]; simp only [thenG]
    by_cases hg : gtB (ix x2 (k : Int)) (ix v.names (i : Int)) = true
    · have hg' : (!(Op.bytesLess (ix x2 (k : Int)) (ix v.names (i : Int)) || decide ((ix x2 (k : Int)) = (ix v.names (i : Int))))) = true := hg
      rw [evT hg']
      have := ev_l8_place v x2 i hk hi hx k (by omega)
      simpa [plc, hg] using this
    · have hg' : ¬ (!(Op.bytesLess (ix x2 (k : Int)) (ix v.names (i : Int)) || decide ((ix x2 (k : Int)) = (ix v.names (i : Int))))) = true := hg
      rw [evF hg']
      exact ev_eq (ev_some _) (by simp [plc, hg])
theorem ev_l8_keep (v : Val) (x2 : List Bs) (i x : Int) (hk : v.kind ≠ 5) : Ev (fun F => m_spec_l8Sorted_l2 F v x2 i x) (.go x) := by
  rw [ev_shift]; simp only [m_spec_l8Sorted_l2]
  rw [evbF hk, evbS]; simp only [thenG]; rw [evF (by simp)]; exact ev_some _

theorem ev_l8Sorted : ∀ (v : Val) (d : Int), okV v d false = true → Bd 1048576 v → Ev (fun k => m_spec_l8Sorted k v) (sortV v) := by
  apply Val.ind (p := fun v => ∀ (d : Int), okV v d false = true → Bd 1048576 v → Ev (fun k => m_spec_l8Sorted k v) (sortV v))
  intro v ih d hok hb
  obtain ⟨h1, h2, h3⟩ := okV_parts hok
  have hl := hb.list
  have hn := hb.names
  rw [ev_shift, sortV_eq]; simp only [m_spec_l8Sorted]
  by_cases hk : v.kind = 5
  · obtain ⟨h4, h5⟩ := plain_five h1 hk
    rw [if_pos hk]
    have hz : v.names.length = (v.list.map sortV).length := by simp [h4]
    refine Ev.go (s := ((pairsIn v.names (v.list.map sortV)).map Prod.snd, (pairsIn v.names (v.list.map sortV)).map Prod.fst)) ?_ (ev_eq (ev_some _) (by rw [pairs_names _ _ hz]))
    have := ev_fold (L := fun k (x : List Val × List Bs) i => m_spec_l8Sorted_l1 k v x.1 x.2 i) (n := v.list.length) (fun j => ((((v.names.zip (v.list.map sortV)).take j).foldl stp []).map Prod.snd, (((v.names.zip (v.list.map sortV)).take j).foldl stp []).map Prod.fst)) (fun i r hi h' => by
      have hin : i < v.names.length := by omega
      have hzl : i < (v.names.zip (v.list.map sortV)).length := by simp; omega
      rw [List.take_add_one, List.getElem?_eq_getElem hzl, Option.toList_some, List.foldl_append, List.foldl_cons, List.foldl_nil] at h'
      simp only [List.getElem_zip, List.getElem_map] at h'
      have hP : (((v.names.zip (v.list.map sortV)).take i).foldl stp []).length = i := by
        rw [(fold_perm _ []).length_eq]; simp; omega
      generalize (((v.names.zip (v.list.map sortV)).take i).foldl stp []) = P at hP h' ⊢
      dsimp only at h' ⊢
      have hp := ev_l8_place v (P.map Prod.fst) i hk hin (by simp; omega) P.length (by simp)
      have hpl := plc_le (P.map Prod.fst) (ix v.names (i : Int)) P.length
      rw [ix_nat hin] at hp hpl
      unfold stp at h'
      simp only [List.map_append, List.map_take, List.map_drop, List.map_cons, List.map_nil] at h'
      rw [ev_shift]; simp only [m_spec_l8Sorted_l1]
      rw [evT (by omega)]
      simp only [List.length_map]
      refine Ev.go hp ?_
      generalize plc (P.map Prod.fst) v.names[i] P.length = m at hpl h' ⊢
      have hD1 : sub (P.map Prod.snd) (m : Int) (P.length : Int) = (P.map Prod.snd).drop m := by have := subD (P.map Prod.snd) m; simpa using this
      have hD2 : sub (P.map Prod.fst) (m : Int) (P.length : Int) = (P.map Prod.fst).drop m := by have := subD (P.map Prod.fst) m; simpa using this
      simp only [subT, hD1, hD2, ix_nat hi, ix_nat hin, List.nil_append]
      rw [evT (by omega), evT (by simp; omega), evT (by omega), evC (ih _ (List.getElem_mem hi) _ (h3 _ (List.getElem_mem hi)) (hb.within _ (List.getElem_mem hi)))]
      rw [evT (by simp; omega), evT (by omega), evT (by simp; omega), evT hk, evT (by omega), evT (by simp; omega), evT (by omega), evT (by simp; omega), evT (by omega), evT (by simp; omega), wrap_id (n := (i : Int) + 1) (by omega)]
      exact h') (by
      rw [ev_shift]; simp only [m_spec_l8Sorted_l1]
      rw [evF (by omega)]; exact ev_some _) v.list.length 0 (by omega)
    have hfull : (v.names.zip (v.list.map sortV)).take v.list.length = v.names.zip (v.list.map sortV) := List.take_of_length_le (by simp; omega)
    simpa [hfull, pairsIn] using this
  · rw [if_neg hk]
    refine Ev.go (s := (v.list.map sortV, [])) ?_ (ev_some _)
    have := ev_fold (L := fun k (x : List Val × List Bs) i => m_spec_l8Sorted_l1 k v x.1 x.2 i) (n := v.list.length) (fun j => ((v.list.take j).map sortV, [])) (fun i r hi h' => by
      rw [List.take_add_one, List.getElem?_eq_getElem hi, Option.toList_some, List.map_append, List.map_cons, List.map_nil] at h'
      have hP : ((v.list.take i).map sortV).length = i := by simp; omega
      generalize (v.list.take i).map sortV = P at hP h' ⊢
      dsimp only at h' ⊢
      rw [ev_shift]; simp only [m_spec_l8Sorted_l1]
      rw [evT (by omega)]
      refine Ev.go (ev_l8_keep v [] (i : Int) (P.length : Int) hk) ?_
      simp only [subT, subD, ix_nat hi, List.nil_append]
      rw [evT (by omega), evT (by simp; omega), evT (by omega), evC (ih _ (List.getElem_mem hi) _ (h3 _ (List.getElem_mem hi)) (hb.within _ (List.getElem_mem hi)))]
      rw [evT (by simp; omega), evT (by omega), evT (by simp; omega), evF hk, wrap_id (n := (i : Int) + 1) (by omega)]
      simpa using h') (by
      rw [ev_shift]; simp only [m_spec_l8Sorted_l1]
      rw [evF (by omega)]; exact ev_some _) v.list.length 0 (by omega)
    simpa using this
end Go.Proofs.Ytiaigcdckmpepaa
end
section
/-! Values in order: the program. -/
set_option linter.unusedVariables false
set_option linter.unusedSimpArgs false
set_option linter.unnecessarySimpa false
namespace Go.Proofs.Ytiaigcdckmpepaa
open Go.Bb

theorem ev_place_from (l : List Bs) (s : Bs) (h : l.length ≤ 1048576) : ∀ (d j : Nat), j + d = l.length → (∃ i, j ≤ i ∧ ∃ hi : i < l.length, l[i] = s) → ∃ (i : Nat) (hi : i < l.length), l[i] = s ∧ Ev (fun k => m_slices_Index_string_string_l1 k l s j) (.ret (i : Int))
  | 0, j, hj, ⟨i, h1, h2, _⟩ => by omega
  | d + 1, j, hj, ⟨i, h1, h2, h3⟩ => by
    by_cases hx : ix l (j : Int) = s
    · refine ⟨j, by omega, by rw [← hx, ix_nat (by omega)], ?_⟩
      rw [ev_shift]; simp only [m_slices_Index_string_string_l1]
      rw [evT (by omega), evT (by omega), evT hx.symm]; exact ev_some _
    · have hji : j ≠ i := fun e => by subst e; rw [ix_nat (by omega)] at hx; exact hx h3
      obtain ⟨q, q1, q2, q3⟩ := ev_place_from l s h d (j + 1) (by omega) ⟨i, by omega, h2, h3⟩
      refine ⟨q, q1, q2, ?_⟩
      rw [ev_shift]; simp only [m_slices_Index_string_string_l1]
      rw [evT (by omega), evT (by omega), evF (fun e => hx e.symm), wrap_id (by omega)]
      simpa using q3
theorem ev_place (l : List Bs) (s : Bs) (h : l.length ≤ 1048576) (hs : s ∈ l) : ∃ (i : Nat) (hi : i < l.length), l[i] = s ∧ Ev (fun k => m_impl_placeOf k l s) (i : Int) := by
  obtain ⟨i, hi, e⟩ := List.getElem_of_mem hs
  obtain ⟨q, q1, q2, q3⟩ := ev_place_from l s h l.length 0 (by omega) ⟨i, by omega, hi, e⟩
  refine ⟨q, q1, q2, ?_⟩
  simp only [m_impl_placeOf, m_slices_Index_string_string]
  exact Ev.bind (Ev.ret q3) (ev_some _)

theorem ev_sorted : ∀ (v : Val) (d : Int), okV v d false = true → Bd 1048576 v → Ev (fun k => m_impl_sorted k v) (sortV v) := by
  apply Val.ind (p := fun v => ∀ (d : Int), okV v d false = true → Bd 1048576 v → Ev (fun k => m_impl_sorted k v) (sortV v))
  intro v ih d hok hb
  obtain ⟨h1, h2, h3⟩ := okV_parts hok
  have hl := hb.list
  have hn := hb.names
  have hn12 : v.names.length ≤ 1000000 := by
    by_cases hk : v.kind = 5
    · have := plain_five h1 hk; omega
    · rw [plain_none h1 hk]; simp
  have hsrt : m_slices_Sort_string_string v.names = some (srtB v.names) := by unfold m_slices_Sort_string_string; rw [if_pos hn12]
  rw [ev_shift, sortV_eq]; simp only [m_impl_sorted, copyTexts_eq v.names hn, hsrt, Option.bind_some]
  by_cases hk : v.kind = 5
  · obtain ⟨h4, h5⟩ := plain_five h1 hk
    rw [if_pos hk]
    have hz : v.names.length = (v.list.map sortV).length := by simp [h4]
    have hpn := pairs_names _ _ hz
    have hpl := pairs_len _ _ hz
    have hnd := once_nodup h2
    have hat := fun {j : Nat} (hj : j < (pairsIn v.names (v.list.map sortV)).length) {i : Nat} (hi : i < v.names.length) e => pairs_at hz hnd hj hi e
    refine Ev.go (s := (pairsIn v.names (v.list.map sortV)).map Prod.snd) ?_ (ev_some _)
    have hsub : ∀ s ∈ srtB v.names, s ∈ v.names := fun s hs => (srtB_perm v.names).subset hs
    have := ev_fold (L := fun k (x : List Val) i => m_impl_sorted_l1 k v (srtB v.names) x i) (n := v.list.length) (fun j => ((pairsIn v.names (v.list.map sortV)).take j).map Prod.snd) (fun i r hi h' => by
      have hiP : i < (pairsIn v.names (v.list.map sortV)).length := by omega
      rw [List.take_add_one, List.getElem?_eq_getElem hiP, Option.toList_some, List.map_append, List.map_cons, List.map_nil] at h'
      have hP : (((pairsIn v.names (v.list.map sortV)).take i).map Prod.snd).length = i := by simp; omega
      generalize ((pairsIn v.names (v.list.map sortV)).take i).map Prod.snd = P at hP h' ⊢
      have hsl : (srtB v.names).length = v.names.length := (srtB_perm v.names).length_eq
      have hiS : i < (srtB v.names).length := by omega
      have hname : (srtB v.names)[i] = (pairsIn v.names (v.list.map sortV))[i].1 := by
        have : ((pairsIn v.names (v.list.map sortV)).map Prod.fst)[i]'(by simpa using hiP) = (srtB v.names)[i] := by simp only [hpn]
        rw [← this, List.getElem_map]
      obtain ⟨q, q1, q2, q3⟩ := ev_place v.names (srtB v.names)[i] hn (hsub _ (List.getElem_mem hiS))
      have hv := hat hiP q1 (by rw [q2, hname])
      rw [List.getElem_map] at hv
      have hql : q < v.list.length := by omega
      rw [ev_shift]; simp only [m_impl_sorted_l1]
      rw [evT (by omega), evT (by omega), evbT hk, evbT (by omega), ix_nat hiS, evJ, evC q3, evbT (by omega), evbS, ix_nat hql]
      simp only [thenG]
      have e : Val.mk v.list[q].kind v.list[q].num v.list[q].text v.list[q].list v.list[q].names = v.list[q] := by cases v.list[q]; rfl
      rw [e, evC (ih _ (List.getElem_mem hql) _ (h3 _ (List.getElem_mem hql)) (hb.within _ (List.getElem_mem hql))), hv]
      rw [evT (by simp; omega), wrap_id (n := (i : Int) + 1) (by omega)]
      exact h') (by
      rw [ev_shift]; simp only [m_impl_sorted_l1]
      rw [evF (by omega)]; exact ev_some _) v.list.length 0 (by omega)
    have hfull : (pairsIn v.names (v.list.map sortV)).take v.list.length = pairsIn v.names (v.list.map sortV) := List.take_of_length_le (by omega)
    simpa [hfull] using this
  · rw [if_neg hk]
    have hs0 : srtB v.names = [] := by rw [plain_none h1 hk]; simp [srtB]
    rw [hs0]
    refine Ev.go (s := v.list.map sortV) ?_ (ev_some _)
    have := ev_fold (L := fun k (x : List Val) i => m_impl_sorted_l1 k v [] x i) (n := v.list.length) (fun j => (v.list.take j).map sortV) (fun i r hi h' => by
      rw [List.take_add_one, List.getElem?_eq_getElem hi, Option.toList_some, List.map_append, List.map_cons, List.map_nil] at h'
      have hP : ((v.list.take i).map sortV).length = i := by simp; omega
      generalize (v.list.take i).map sortV = P at hP h' ⊢
      rw [ev_shift]; simp only [m_impl_sorted_l1]
      rw [evT (by omega), evT (by omega), evbF hk, evbS, ix_nat hi]
      simp only [thenG]
      have e : Val.mk v.list[i].kind v.list[i].num v.list[i].text v.list[i].list v.list[i].names = v.list[i] := by cases v.list[i]; rfl
      rw [e, evC (ih _ (List.getElem_mem hi) _ (h3 _ (List.getElem_mem hi)) (hb.within _ (List.getElem_mem hi)))]
      rw [evT (by simp; omega), wrap_id (n := (i : Int) + 1) (by omega)]
      exact h') (by
      rw [ev_shift]; simp only [m_impl_sorted_l1]
      rw [evF (by omega)]; exact ev_some _) v.list.length 0 (by omega)
    simpa using this

/-- The answer to any value. -/
def ordV (v : Val) : Val := if okV v 6 false = true then sortV v else .mk 0 0 [] [] []
theorem ev_sValueSorted (v : Val) (h : Bd 1048576 v) : Ev (fun k => m_spec_ValueSorted k v) (ordV v) := by
  simp only [m_spec_ValueSorted]
  rw [evC (ev_sValueOk v h)]
  unfold ordV
  by_cases g : okV v 6 false = true
  · rw [evT g, if_pos g, evC (ev_l8Sorted v 6 g h)]; exact ev_some _
  · rw [evF g, if_neg g]; exact ev_some _
theorem ev_iValueSorted (v : Val) (h : Bd 1048576 v) : Ev (fun k => m_impl_ValueSorted k v) (ordV v) := by
  simp only [m_impl_ValueSorted]
  rw [evC (ev_iValueOk v h)]
  unfold ordV
  by_cases g : okV v 6 false = true
  · rw [evT g, if_pos g, evC (ev_sorted v 6 g h)]; exact ev_some _
  · rw [evF g, if_neg g]; exact ev_some _
end Go.Proofs.Ytiaigcdckmpepaa
end
section
/-! The law of ValueSorted. -/
set_option linter.unusedVariables false
set_option linter.unusedSimpArgs false
set_option linter.unnecessarySimpa false
namespace Go.Proofs.Ytiaigcdckmpepaa
open Go.Bb

theorem wtVs_sum : ∀ l : List Val, wtVs l = (l.map wtV).sum
  | [] => rfl
  | v :: l => by simp only [wtVs, List.map_cons, List.sum_cons, wtVs_sum l]
theorem sum_perm {a b : List Nat} (h : a.Perm b) : a.sum = b.sum := by
  induction h with
  | nil => rfl
  | cons x _ ih => simp [ih]
  | swap x y l => simp; omega
  | trans _ _ h1 h2 => exact h1.trans h2
theorem pairs_snd (ns : List Bs) (ws : List Val) (h : ns.length = ws.length) : ((pairsIn ns ws).map Prod.snd).Perm ws := by
  have := List.Perm.map Prod.snd (pairs_perm ns ws)
  rwa [List.map_snd_zip (by omega)] at this
theorem wt_sortV : ∀ (v : Val) (d : Int) (f : Bool), okV v d f = true → wtV (sortV v) = wtV v := by
  apply Val.ind (p := fun v => ∀ (d : Int) (f : Bool), okV v d f = true → wtV (sortV v) = wtV v)
  intro v ih d f hok
  obtain ⟨h1, h2, h3⟩ := okV_parts hok
  have hs : ((v.list.map sortV).map wtV).sum = (v.list.map wtV).sum := by
    congr 1
    rw [List.map_map]
    exact List.map_congr_left fun x hx => ih x hx _ f (h3 x hx)
  rw [sortV_eq, wtV_eq v]
  by_cases hk : v.kind = 5
  · obtain ⟨h4, h5⟩ := plain_five h1 hk
    have hz : v.names.length = (v.list.map sortV).length := by simp [h4]
    rw [if_pos hk, wtV_eq]
    simp only [Val.list_mk, Val.names_mk, wtVs_sum]
    rw [sum_perm ((pairs_snd v.names (v.list.map sortV) hz).map wtV), hs, (srtB_perm v.names).length_eq]
  · rw [if_neg hk, wtV_eq]
    simp only [Val.list_mk, Val.names_mk, wtVs_sum]
    rw [hs, plain_none h1 hk]
theorem bd_sortV : ∀ (v : Val) (d : Int) (f : Bool), okV v d f = true → Bd 1048576 v → Bd 1048576 (sortV v) := by
  apply Val.ind (p := fun v => ∀ (d : Int) (f : Bool), okV v d f = true → Bd 1048576 v → Bd 1048576 (sortV v))
  intro v ih d f hok hb
  obtain ⟨h1, h2, h3⟩ := okV_parts hok
  have hin : ∀ x ∈ v.list.map sortV, Bd 1048576 x := fun x hx => by
    obtain ⟨y, hy, rfl⟩ := List.mem_map.1 hx
    exact ih y hy _ f (h3 y hy) (hb.within y hy)
  have hl := hb.list
  rw [sortV_eq]
  by_cases hk : v.kind = 5
  · obtain ⟨h4, h5⟩ := plain_five h1 hk
    have hz : v.names.length = (v.list.map sortV).length := by simp [h4]
    have hp := pairs_snd v.names (v.list.map sortV) hz
    rw [if_pos hk]
    refine .mk _ hb.text ?_ ?_ ?_ ?_
    · simp only [Val.list_mk]; rw [hp.length_eq]; simpa using hl
    · simp only [Val.names_mk]; rw [(srtB_perm v.names).length_eq]; exact hb.names
    · simp only [Val.names_mk]; exact fun s hs => hb.name s ((srtB_perm v.names).subset hs)
    · simp only [Val.list_mk]; exact fun x hx => hin x (hp.subset hx)
  · rw [if_neg hk]
    exact .mk _ hb.text (by simpa using hl) (by simp) (by simp) (by simpa using hin)
theorem bd_ordV (v : Val) (h : Bd 1048576 v) : Bd 1048576 (ordV v) := by
  unfold ordV
  split
  · exact bd_sortV v 6 false (by assumption) h
  · exact .mk _ (by simp) (by simp) (by simp) (by simp) (by simp)
theorem wt_ordV (v : Val) : wtV (ordV v) ≤ wtV v := by
  unfold ordV
  split
  · rw [wt_sortV v 6 false (by assumption)]; exact Nat.le_refl _
  · rw [wtV_eq, wtV_eq v]; simp [wtVs]; omega

theorem law_ValueSorted (v : Val) (h : Bd maxLen v) : ∃ k, m_laws_FnExactValueSorted k v = some true := by
  refine Ev.get (m := fun k => m_laws_FnExactValueSorted k v) ?_
  simp only [m_laws_FnExactValueSorted]
  obtain ⟨y, h3, h4⟩ := ev_szValueW v h 1048576 (by omega) (by omega)
  rcases h4 with h4 | ⟨h4, h5, h6, h7⟩
  · rw [evC h3, evT h4]; exact ev_some _
  rw [evC h3, evF (by omega)]
  have hw := wt_ordV v
  have g3 := bd_ordV v h6
  have hw1 : wtV v ≤ 100000000 := by rw [wtV_eq]; unfold wtW at h7; omega
  obtain ⟨l0, n0, m0, a1, a2, _⟩ := ev_markValue v h6 (by omega)
  obtain ⟨l', ns', m, b1, b2, b3⟩ := ev_markValue (ordV v) g3 (by omega)
  have ht := ev_toValue v h6
  have hq := ev_eqValue (ordV v) g3
  rw [evC ht, evC (ev_sValueSorted v h6), evC ht, evC (ev_iValueSorted v h6), evC hq, evT rfl, evC ht, evC (ev_eqValue v h6), evT rfl, evC a1]
  rw [evbF (by omega), evJ, evC hq, evbS]
  simp only [thenG]
  rw [evF (by simp), evC b1, evC b3, evF (by omega), evT rfl, evC ht, evC (ev_iValueSorted v h6), evC hq, evT rfl, evC b3, evF (by omega), evT rfl]
  exact ev_some _
end Go.Proofs.Ytiaigcdckmpepaa
end
