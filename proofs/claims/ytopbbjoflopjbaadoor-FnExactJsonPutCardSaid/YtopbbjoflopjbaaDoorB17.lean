/- The library's Builder, over abstract states; the conditions stand in each theorem. -/
import Derived.Test.YtopbbjoflopjbaaDoorB15
import Derived.Test.YtopbbjoflopjbaaDoorB16
/-! strings.Builder. -/
set_option linter.unusedVariables false
set_option linter.unusedSimpArgs false
set_option maxRecDepth 100000
namespace Go.Proofs.YtopbbjoflopjbaaDoor
open Go.Bb

theorem unch_drew (M : Nat → Prop) (w : World) : Unch M w w.drew := ⟨rfl, rfl, rfl, Nat.le_refl _, fun _ _ _ => rfl⟩
theorem unch_freeze (w : World) (g n : Nat) : Unch (fun k => k = g) w (w.freeze ⟨g, 0, none⟩ n) := by
  unfold World.freeze
  split
  · exact .refl _ _
  · refine ⟨rfl, rfl, rfl, by simp, fun k hk hne => ?_⟩
    simp only [Array.getElem?_modify]
    rw [if_neg (fun h => hne h.symm)]
theorem unch_alloc (M : Nat → Prop) (w : World) (o : Obj) : Unch M w (w.alloc o) := ⟨rfl, rfl, rfl, by simp, fun k hk _ => by
  show (w.heap.push _)[k]? = _
  rw [Array.getElem?_push, if_neg (by omega)]⟩

def bBox (b y : Nat) (v : Value) : Value × AV := (.pointer (some ⟨b, 0, none⟩), .optr 55 [.adr b, .hd y v])

theorem bBox_own {N : Nat → Prop} {w : World} {S : Nat → Prop} {b y : Nat} {v : Value} (h : OwnV N w S (bBox b y v).2 (bBox b y v).1) : ∃ p, S b ∧ w.heap[b]? = some (.cells #[p, v] 55 (0, 0)) ∧ (p = .pointer none ∨ p = .pointer (some ⟨b, 0, none⟩)) := by
  cases h with
  | frz _ _ _ h => cases h
  | optr _ _ _ _ arr G u hb hh hsz hG hd hc ho =>
    have h0 := hc 0 _ rfl
    have h1 := hc 1 _ rfl
    have o0 := ho 0 _ rfl
    have o1 := ho 1 _ rfl
    generalize u 0 = u0 at h0 o0
    generalize u 1 = u1 at h1 o1
    have e1 : u1 = v := by
      cases o1 with
      | frz _ _ _ h => cases h; rfl
    subst e1
    have ea : arr = #[u0, u1] := by
      apply Array.ext_getElem?
      intro i
      match i with
      | 0 => simpa using h0
      | 1 => simpa using h1
      | i + 2 => rw [Array.getElem?_eq_none (by simp at hsz; omega), Array.getElem?_eq_none (by simp)]
    subst ea
    refine ⟨u0, hb, hh, ?_⟩
    cases o0 with
    | frz _ _ _ h => cases h with
      | adr0 => exact .inl rfl
      | adr => exact .inr rfl
theorem bBox_mk {N : Nat → Prop} {w : World} {S : Nat → Prop} {b y : Nat} {p v : Value} (hb : S b) (hh : w.heap[b]? = some (.cells #[p, v] 55 (0, 0))) (hp : p = .pointer none ∨ p = .pointer (some ⟨b, 0, none⟩)) (hv : v.oneCell' = true) : OwnV N w S (bBox b y v).2 (bBox b y v).1 := by
  refine own_cells hb hh rfl fun j av hj => ?_
  match j, hj with
  | 0, hj => cases hj; exact ⟨p, rfl, by rcases hp with rfl | rfl; exact .adr0 _; exact .adr _⟩
  | 1, hj => cases hj; exact ⟨v, rfl, .hd _ _ hv⟩

theorem args_ptr {N : Nat → Prop} {w : World} {x b : Nat} {vs : Array Value} (h : RelVs N w [.ptr x b 0] vs) : vs = #[.pointer (some ⟨b, 0, none⟩)] := by
  obtain ⟨h1, h2⟩ := h
  have hl : vs.size = 1 := h1
  have h3 := h2 0 _ (vs[0]'(by omega)) rfl (by simp [hl])
  have e : vs = #[vs[0]'(by omega)] := by
    apply Array.ext
    · simpa using hl
    · intro i h4 h5
      have : i = 0 := by omega
      subst this; rfl
  rw [e]
  generalize vs[0]'(by omega) = z at h3
  cases h3; rfl

/-- copyCheck of a builder of the call's own: it is as it was. -/
theorem copyCheck_does (b y : Nat) (v : Value) : Does Tryd.prog 54 [.ptr 0 b 0] [(0, bBox b y v)] (fun r h' => r = .tup [] ∧ h' = [(0, bBox b y v)]) := by
  refine ⟨⟨_, Tryd.func54, rfl, by decide +kernel⟩, fun F N w vs hvs hh => ?_⟩
  obtain rfl := args_ptr hvs
  have hown := hh.own 0 (bBox b y v).1 (bBox b y v).2 rfl
  have hone : v.oneCell' = true := by
    cases hown with
    | frz _ _ _ h => cases h
    | optr _ _ _ _ arr G u hb hhb hsz hG hd hc ho =>
      have := ho 1 _ rfl
      generalize u 1 = z at this
      cases this with
      | frz _ _ _ h => cases h; assumption
  obtain ⟨p, hb, hhb, hp⟩ := bBox_own hown
  have c0 : w.cell? ⟨b, 0, none⟩ = some p := by simp [World.cell?, hhb]
  rcases hp with rfl | rfl
  · refine (copyCheck_fresh b w c0 (by simp [World.shape?, hhb]) (by simp [World.frozen?, hhb])).mono ?_
    rintro e w' ⟨rfl, rfl⟩
    have hoth : ∀ k, k ≠ b → (w.setCell ⟨b, 0, none⟩ (.pointer (some ⟨b, 0, none⟩))).heap[k]? = w.heap[k]? := fun k hk => heap_setCell_other w ⟨b, 0, none⟩ k _ hk
    refine ⟨_, .tup [], _, F, N, rfl, ⟨rfl, rfl⟩, .tup _ _ rfl (fun i av v h => by simp at h), ⟨fun x v' o hx => ?_, fun x hx b' hb' => ⟨(hh.foot x hx b' hb').1, by simpa using (hh.foot x hx b' hb').2⟩, hh.disj, hh.one⟩, fun x hx b' hb' => .inl ⟨x, hx, hb'⟩, fun _ _ h => h, fun _ _ h => .inl h, ⟨rfl, rfl, rfl, by simp, fun k hk hM => hoth k (fun e => hM ⟨0, by simp [keys], e ▸ hb⟩)⟩⟩
    simp only [getk] at hx
    split at hx
    · rename_i e0
      subst e0
      cases hx
      exact bBox_mk hb (heap_setCell_same w b 0 _ _ _ hhb) (.inr rfl) hone
    · cases hx
  · refine (copyCheck_used b w c0).mono ?_
    rintro e w' ⟨rfl, rfl⟩
    exact ⟨_, .tup [], _, F, N, rfl, ⟨rfl, rfl⟩, .tup _ _ rfl (fun i av v h => by simp at h), hh, fun x hx b' hb' => .inl ⟨x, hx, hb'⟩, fun _ _ h => h, fun _ _ h => .inl h, .refl _ _⟩

def bSl (v : Value) (l : List Int) : Value × AV := (v, .osl 5 1 (l.map (encI .u8)))

theorem writeByte_does (b y : Nat) (v : Value) (l : List Int) (ch : Int) (hy : y ≠ 0 ∧ y ≠ 23 ∧ y ≠ 24) (hfit : (l ++ [ch]).length * 1 ≤ 140737488355328) :
    Does Tryd.prog 34 [.ptr 0 b 0, .int .u8 ch] [(0, bBox b y v), (1, bSl v l)] (fun r h' => r = .raw .nilIface ∧ ∃ v', h' = [(0, bBox b y v'), (1, bSl v' (l ++ [ch]))]) := by
  refine does_of_good tabOk Tryd.func34 rfl (by decide +kernel) (Nat.le_of_ble_eq_true rfl) fun c => ?_
  refine Good.le (σ' := ⟨17, [(0, .ptr 0 b 0), (1, .int .u8 ch)], [(0, bBox b y v), (1, bSl v l)]⟩) (Le.refl _) ?_
  refine good_seq fun K1 hK1 => ?_
  refine good_region ?_
  refine g_op rfl (ValOk.op (v_assign rfl rfl ?_))
  refine g_nil ?_
  refine hK1 _ ?_
  refine good_seq fun K2 hK2 => ?_
  refine good_region ?_
  refine g_op rfl (ValOk.op (v_move rfl rfl ?_))
  refine g_op rfl (o_callP (q := 0) (core_value rfl rfl) (copyCheck_does b y v) (.cons (.refl _) .nil) rfl rfl ?_)
  refine g_nil ?_
  refine hK2 _ ?_
  refine Good.le (σ' := ⟨17, [(0, .ptr 0 b 0), (1, .int .u8 ch)], [(0, bBox b y v), (1, bSl v l)]⟩) (le_w [some 0, some 1] rfl ⟨⟨_, rfl, .refl _⟩, ⟨_, rfl, .refl _⟩, trivial⟩ ⟨⟨_, rfl, .refl _⟩, ⟨_, rfl, .refl _⟩, trivial⟩ (by decide)) ?_
  refine good_seq fun K3 hK3 => ?_
  refine good_region ?_
  refine g_op rfl (ValOk.op (v_move rfl rfl ?_))
  refine g_op rfl (ValOk.op (v_move rfl rfl ?_))
  refine g_op rfl (ValOk.op (v_nilP rfl rfl ?_))
  refine g_op rfl (ValOk.op (v_fieldP tabOk rfl tfoff55_1 rfl ?_))
  refine g_op rfl (ValOk.op (v_loadP tabOk rfl rfl tsize30 tagg30 rfl rfl rfl rfl ?_))
  refine g_op rfl (ValOk.op (v_move rfl rfl ?_))
  refine g_op rfl (o_buildSlice (k := 23) (rows := [ch].map (encI .u8)) tabOk telem30 tsize5 rfl rfl rfl rfl (by decide) (by decide) (by rw [tzero5]; rfl) rfl rfl rfl rfl rfl ?_)
  intro w1
  refine g_op rfl (o_appendHM (q := 1) (r := 23) (k := 24) (f := encI .u8) tabOk ⟨_, rfl⟩ rfl ⟨_, rfl⟩ rfl rfl telem30 tsize5 tbytes5 tzero5 rfl (by decide) (by decide) encI_ok rfl rfl rfl hfit ?_)
  intro w2
  refine g_op rfl (ValOk.op (v_nilP rfl rfl ?_))
  refine g_op rfl (ValOk.op (v_fieldP tabOk rfl tfoff55_1 rfl ?_))
  refine g_op rfl (o_storeP tabOk (cs' := [.adr b, .hd 24 w2]) rfl rfl tsize30 rfl rfl rfl (Nat.le_of_ble_eq_true rfl) rfl rfl rfl ?_)
  refine g_nil ?_
  refine hK3 _ ?_
  refine good_seq fun K4 hK4 => ?_
  refine good_region ?_
  refine g_op rfl (ValOk.op (v_assign rfl rfl ?_))
  refine g_nil ?_
  refine hK4 _ ?_
  refine Good.le (σ' := ⟨17, [(4, .raw .nilIface)], [(0, bBox b y w2), (1, bSl w2 (l ++ [ch]))]⟩) (le_w [some 0, some 24] rfl ⟨⟨_, rfl, .refl _⟩, trivial⟩ ⟨⟨_, rfl, .optr (.cons (.refl _) (.cons (.hd _ _ _) .nil))⟩, ⟨_, rfl, .refl _⟩, trivial⟩ (by decide)) ?_
  refine good_ret ?_
  exact endQ_ret (h' := [(0, bBox b y w2), (1, bSl w2 (l ++ [ch]))]) [some 0, some 1] (.tmp rfl (.nil)) ⟨⟨_, rfl, .refl _⟩, ⟨_, rfl, .refl _⟩, trivial⟩ (by decide) ⟨rfl, w2, rfl⟩

theorem writeString_does (b y : Nat) (v : Value) (l : List Int) (s : List UInt8) (hfit : (l ++ toI s).length * 1 ≤ 140737488355328) :
    Does Tryd.prog 35 [.ptr 0 b 0, .str s] [(0, bBox b y v), (1, bSl v l)] (fun r h' => r = .tup [.int .i64 (s.length : Int), .raw .nilIface] ∧ ∃ v', h' = [(0, bBox b y v'), (1, bSl v' (l ++ toI s))]) := by
  refine does_of_good tabOk Tryd.func35 rfl (by decide +kernel) (Nat.le_of_ble_eq_true rfl) fun c => ?_
  refine Good.le (σ' := ⟨19, [(0, .ptr 0 b 0), (1, .str s)], [(0, bBox b y v), (1, bSl v l)]⟩) (Le.refl _) ?_
  refine good_seq fun K1 hK1 => ?_
  refine good_region ?_
  refine g_op rfl (ValOk.op (v_assign rfl rfl ?_))
  refine g_op rfl (ValOk.op (v_assign rfl rfl ?_))
  refine g_nil ?_
  refine hK1 _ ?_
  refine good_seq fun K2 hK2 => ?_
  refine good_region ?_
  refine g_op rfl (ValOk.op (v_move rfl rfl ?_))
  refine g_op rfl (o_callP (q := 0) (core_value rfl rfl) (copyCheck_does b y v) (.cons (.refl _) .nil) rfl rfl ?_)
  refine g_nil ?_
  refine hK2 _ ?_
  refine Good.le (σ' := ⟨19, [(0, .ptr 0 b 0), (1, .str s)], [(0, bBox b y v), (1, bSl v l)]⟩) (le_w [some 0, some 1] rfl ⟨⟨_, rfl, .refl _⟩, ⟨_, rfl, .refl _⟩, trivial⟩ ⟨⟨_, rfl, .refl _⟩, ⟨_, rfl, .refl _⟩, trivial⟩ (by decide)) ?_
  refine good_seq fun K3 hK3 => ?_
  refine good_region ?_
  refine g_op rfl (ValOk.op (v_move rfl rfl ?_))
  refine g_op rfl (ValOk.op (v_move rfl rfl ?_))
  refine g_op rfl (ValOk.op (v_nilP rfl rfl ?_))
  refine g_op rfl (ValOk.op (v_fieldP tabOk rfl tfoff55_1 rfl ?_))
  refine g_op rfl (ValOk.op (v_loadP tabOk rfl rfl tsize30 tagg30 rfl rfl rfl rfl ?_))
  refine g_op rfl (ValOk.op (v_move rfl rfl ?_))
  refine g_op rfl (o_appendStr (q := 1) (k := 24) tabOk ⟨_, rfl⟩ rfl rfl telem30 tsize5 tbytes5 tzero5 tagg5 tkind9 rfl rfl rfl hfit ?_)
  intro w2
  refine g_op rfl (ValOk.op (v_nilP rfl rfl ?_))
  refine g_op rfl (ValOk.op (v_fieldP tabOk rfl tfoff55_1 rfl ?_))
  refine g_op rfl (o_storeP tabOk (cs' := [.adr b, .hd 24 w2]) rfl rfl tsize30 rfl rfl rfl (Nat.le_of_ble_eq_true rfl) rfl rfl rfl ?_)
  refine g_nil ?_
  refine hK3 _ ?_
  refine good_seq fun K4 hK4 => ?_
  refine good_region ?_
  refine g_op rfl (ValOk.op (v_move rfl rfl ?_))
  refine g_op rfl (ValOk.op (v_lenS tabOk rfl rfl tkind9 rfl ?_))
  refine g_op rfl (ValOk.op (v_assign rfl rfl ?_))
  refine g_op rfl (ValOk.op (v_assign rfl rfl ?_))
  refine g_nil ?_
  refine hK4 _ ?_
  refine Good.le (σ' := ⟨19, [(4, .int .i64 (s.length : Int)), (5, .raw .nilIface)], [(0, bBox b y w2), (1, bSl w2 (l ++ toI s))]⟩) (le_w [some 0, some 24] rfl ⟨⟨_, rfl, .refl _⟩, ⟨_, rfl, .refl _⟩, trivial⟩ ⟨⟨_, rfl, .optr (.cons (.refl _) (.cons (.hd _ _ _) .nil))⟩, ⟨_, rfl, .refl _⟩, trivial⟩ (by decide)) ?_
  refine good_ret ?_
  exact endQ_ret (h' := [(0, bBox b y w2), (1, bSl w2 (l ++ toI s))]) [some 0, some 1] (.tmp rfl (.tmp rfl (.nil))) ⟨⟨_, rfl, .refl _⟩, ⟨_, rfl, .refl _⟩, trivial⟩ (by decide) ⟨rfl, w2, rfl⟩
end Go.Proofs.YtopbbjoflopjbaaDoor
