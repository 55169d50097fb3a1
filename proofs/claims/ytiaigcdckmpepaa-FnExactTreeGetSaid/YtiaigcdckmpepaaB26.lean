/- Lists that are being copied, and those around them; the conditions stand in each theorem. -/
import Derived.Test.YtiaigcdckmpepaaB25
import Derived.Test.YtiaigcdckmpepaaB24
import Derived.Test.YtiaigcdckmpepaaB19
import Derived.Test.YtiaigcdckmpepaaDatO
/-! Chains of spans. -/
set_option linter.unusedVariables false
set_option linter.unusedSimpArgs false
set_option maxRecDepth 100000
namespace Go.Bb
section
variable {P : Program} {T : Tab} {c : Cx} {F : Nat → Nat → Prop} {o : Oper} {σ : St} {K : St → Prop} {N : Nat → Prop} {a : Act} {w : World} {all r : List Oper}
variable {d : Option Tmp} {ty : TypeId} {pos : String} {af : Array Edge} {g : Option (Nat × Bool)}
/-- A value may be taken for less. -/
theorem ValOk.weak {av av' : AV} (h : ValOk P c o σ fun σ' => σ' = σ.put o.dst av) (hw : Wk [] av' av) (hinj : ∀ x, σ.put o.dst x = σ.put o.dst av → x = av) (hK : K (σ.put o.dst av')) : ValOk P c o σ K := by
  intro F N a w hr
  obtain ⟨x, v, h1, h2, h3, h4⟩ := h F N a w hr
  have := hinj x h2
  subst this
  exact ⟨av', v, h1, hK, hw.rel (fun _ _ h => by cases h) h3, h4⟩
theorem put_inj {t : Tmp} {x y : AV} (h : σ.put (some t) x = σ.put (some t) y) : x = y := by
  have := congrArg (fun s => getk t s.slots) h
  simpa [St.put, getk] using this
theorem v_buildW (hT : TabOk P T) {d : Tmp} {t : TypeId} {parts : Array (Nat × Operand)} {z cs : List AV} {ps : List (Nat × AV)} {av' : AV} (hz : T.zero t = some z) (hs : structOk T t = true) (hps : evParts σ parts.toList = some ps) (hf : fillA (T.foff t) z ps = some cs)
    (hw : Wk [] av' (.agg cs)) (hd : dok (some d) σ.nt = true) (hK : K (σ.put (some d) av')) : ValOk P c ⟨some d, .build t parts, ty, pos, af, g⟩ σ K :=
  ValOk.weak (o := ⟨some d, .build t parts, ty, pos, af, g⟩) (v_build hT hz hs hps hf hd rfl) hw (fun x h => put_inj h) hK
/-- The address of a list's first element. -/
theorem v_idx0 (hT : TabOk P T) {t e sz : Nat} {x i : Operand} {k : IntKind} {rows : List (List AV)} (hx : evA σ x = some (.sl true rows)) (hi : evA σ i = some (.int k 0)) (he : T.elem t = some e) (hs : T.size e = some sz)
    (hne : rows ≠ []) (hd : dok d σ.nt = true) (hK : K (σ.put d (.spt rows))) : ValOk P c ⟨d, .indexAddr t x i, ty, pos, af, g⟩ σ K :=
  mkV hd hK fun F N a w hr => by
    have hp := evA_rel hr hx
    have hq := evA_rel hr hi
    generalize hv : a.eval x = vx at hp
    generalize hv' : a.eval i = vi at hq
    cases hq
    have hlt : 0 < rows.length := List.length_pos_iff.2 hne
    have hp' := hp
    cases hp with
    | slNil => simp at hlt
    | sl _ rows ad cap sz' u hsp hc hm h5 h6 h7 h8z =>
      have hz := fun w => run_size hT hs w
      refine ⟨.pointer (some ad), .spt _ _ cap hne hp', fun w' _ => ?_⟩
      simp only [execOp, hv, hv', Instr.indexAt]
      have hadd : ad.add 0 = ad := by
        rw [add_none _ _ (hsp hlt)]
        have := hsp hlt
        obtain ⟨b1, o1, s1⟩ := ad
        simp only at this
        subst this; rfl
      simp [Sem.run_bind, asIntOf, run_underlying (hT.elem he), hz, hlt, hadd]
end
end Go.Bb
namespace Go.Proofs.Ytiaigcdckmpepaa
open Go.Bb
section
variable {c : Cx} {σ : St} {K : St → Prop} {d : Option Tmp} {ty : TypeId} {pos : String} {af : Array Edge} {g : Option (Nat × Bool)}
def encChain : List (List Val) → AV
  | [] => .raw (.pointer none)
  | l :: r => .eptr [.spt (l.map encVal), .int .i64 (l.length : Int), .one, encChain r]
theorem fill_made (r : List (List AV)) (kk : IntKind) (n : Int) (k : Nat) (v : Value) (ch : List (List Val)) : fillA (tab.foff 123) [AV.raw (Value.pointer none), AV.int IntKind.i64 0, AV.nil, AV.raw (Value.pointer none)] [(0, AV.agg (List.take 2 (List.drop 0 [.spt r, .int kk n]))), (1, AV.hd k v), (2, encChain ch)] = some [.spt r, .int kk n, AV.hd k v, encChain ch] := by
  cases ch <;> rfl
theorem cells_made (r : List (List AV)) (k : IntKind) (n : Int) (ch : List (List Val)) : cellsOk [.spt r, .int k n, .one, encChain ch] = true := by
  cases ch <;> rfl
theorem frz_chain (ch : List (List Val)) : Frz (encChain ch) (encChain ch) := by
  cases ch <;> exact .refl _ rfl
noncomputable instance : DecidableEq Val := fun _ _ => Classical.propDecidable _
theorem v_chainNe {x y : Operand} {t ty' : TypeId} {e : Nat} {ch : List (List Val)} (hx : evA σ x = some (encChain ch)) (hy : evA σ y = some (.raw (.pointer none))) (hk : tab.kind t = some (.ptr e)) (hd : dok d σ.nt = true) (hK : K (σ.put d (.bool (!(decide (ch = [])))))) : ValOk Try.prog c ⟨d, .binOp .neq t x y ty', ty, pos, af, g⟩ σ K := by
  cases ch with
  | nil => exact v_binT tabOk hx hy (by simp [binT, encChain, hk, eqr]) hd hK
  | cons l r => exact v_binT tabOk hx hy (by simp [binT, encChain, hk, eqr]) hd hK
theorem v_chainNil {x : Operand} {ch : List (List Val)} (hx : evA σ x = some (encChain ch)) (hne : ch ≠ []) (hd : dok d σ.nt = true) (hK : K (σ.put d (.eptr [.spt ((ch.headD []).map encVal), .int .i64 ((ch.headD []).length : Int), .one, encChain ch.tail]))) : ValOk Try.prog c ⟨d, .nilCheck x, ty, pos, af, g⟩ σ K := by
  cases ch with
  | nil => exact absurd rfl hne
  | cons l r => exact v_nilE hx hd hK
theorem v_spanNe {x y : Operand} {ty' : TypeId} {l l' : List Val} (hx : evA σ x = some (.agg [.spt (l.map encVal), .int .i64 (l.length : Int)])) (hy : evA σ y = some (.agg [.spt (l'.map encVal), .int .i64 (l'.length : Int)])) (hne : l ≠ l') (hd : dok d σ.nt = true) (hK : K (σ.put d (.bool false))) : ValOk Try.prog c ⟨d, .binOp .eql 62 x y ty', ty, pos, af, g⟩ σ K :=
  mkV hd hK fun F N a w hr => by
    have hp := evA_rel hr hx
    have hq := evA_rel hr hy
    generalize hv : a.eval x = vx at hp
    generalize hu : a.eval y = vy at hq
    have two : ∀ {l : List Val} {v : Value}, RelV N w (.agg [.spt (l.map encVal), .int .i64 (l.length : Int)]) v → ∃ p, v = .agg #[p, .int .i64 (l.length : Int)] ∧ RelV N w (.spt (l.map encVal)) p := by
      intro l v h
      cases h with
      | agg _ vs hl h =>
        have hl : vs.size = 2 := hl
        have h0 := h 0 _ vs[0] rfl (by simp [hl])
        have h1 := h 1 _ vs[1] rfl (by simp [hl])
        refine ⟨vs[0], ?_, h0⟩
        have e1 : vs[1] = .int .i64 (l.length : Int) := by
          generalize vs[1] = q at h1
          cases h1; rfl
        congr 1
        apply Array.ext
        · simpa using hl
        · intro i hi hi'
          have : i = 0 ∨ i = 1 := by simp at hi'; omega
          rcases this with rfl | rfl
          · rfl
          · exact e1
    obtain ⟨p, rfl, hp1⟩ := two hp
    obtain ⟨p', rfl, hq1⟩ := two hq
    refine ⟨_, .bool _, fun w' hw => ?_⟩
    have hs := span_ne hp1 hq1 hne (w' := w') hw.2
    simp only [execOp, hv, hu]
    rw [Sem.run_bind, Sem.run_bind, run_eqGuard_agg (P := Try.prog) w' .eql 62 x y _ _ (by kernel_rfl)]
    simp only [Result.andThen_ok]
    rw [run_eql_struct, hs]
    rfl
end
end Go.Proofs.Ytiaigcdckmpepaa
