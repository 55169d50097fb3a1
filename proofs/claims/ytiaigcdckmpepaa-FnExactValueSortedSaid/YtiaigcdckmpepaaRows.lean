/-
  NARROWER THAN 'FOR EVERY INPUT', by the rows' own cells (each row's printed sentence says how): FnExactValueSame: loops · FnExactValueDeep: loops · FnExactTreeGet: loops · FnExactValueSorted: loops · FnExactMergeDo: loops · FnExactMergeOf: loops.
  DERIVED. THE GIVEN ROWS OF THIS SEAT. 12 by the template 'for every input the law returns true; each argument reads behind the call as it read before'; 0 by the template 'total and deterministic' (their statements: YtiaigcdckmpepaaTotals.lean).
  GIVEN WITH THE SEED: the statements are not yours to turn. If you find one false, say at which input.
  Laid BY PROGRAM, IN A SANDBOX (cutbox-rows.mjs): the forced cells as the released guide's own fill.sh prints them over the translation 8d597f8870ae4e53… (all of the seat's roots in one cut). By AI agents, Wed Nov 11 2026. No macro, syntax, notation, axiom, sorry.
-/
import Derived.Test.YtiaigcdckmpepaaChecked
import GoSem.Claim
import GoSem.ClaimJoined
import GoSem.ClaimMapViews
import Derived.JoinedTies
import Derived.KernelRfl
namespace Go.Proofs.Ytiaigcdckmpepaa
/- THE CELL 'sum', in the pinned program and in every row, IS THE sha256 OF THE DUMP (.gsa) THAT YtiaigcdckmpepaaProg.lean LOADS. Nothing in Lean hashes anything: it is a label: what it is worth is what the hold of that sum in a sandbox is worth. -/
noncomputable def Try.pinned : Pinned := { name := "ytiaigcdckmpepaa", sum := "8d597f8870ae4e53b272145256f2aa55e294e9b50c9c0568c1ee1a3fe3903a4d", checked := Try.checked }
namespace Rows
def none {H : Type} : Left H := { results := [], args := [] }

/-- 'laws.FnExactValueSame': WHATEVER THE INPUT: true; the input reads as it did. -/
def fnExactValueSameSpec : ChangeSpec := { name := "fnExactValueSame", fn := fun _ => fun
  | [d1, d2] => { results := [.lit (.bool true)], args := [d1, d2] }
  | _ => none }
def fnExactValueSameRow : OpenClaim := { program := "ytiaigcdckmpepaa", sum := "8d597f8870ae4e53b272145256f2aa55e294e9b50c9c0568c1ee1a3fe3903a4d", func := "loop.example/pergola/laws.FnExactValueSame", spec := "fnExactValueSame", recurses := true, loops := true, plainKeys := false, apart := false }
def FnExactValueSameSaid : Prop := fnExactValueSameRow.holds Try.pinned (OpenSpec.ofChange fnExactValueSameSpec)

/-- ITS FALSE NEIGHBOUR: 'it returns false'. Refute it at one input. -/
def fnExactValueSameWrong : ChangeSpec := { name := "fnExactValueSame", fn := fun _ => fun
  | [d1, d2] => { results := [.lit (.bool false)], args := [d1, d2] }
  | _ => none }
def FnExactValueSameWrongFalsely : Prop := fnExactValueSameRow.holds Try.pinned (OpenSpec.ofChange fnExactValueSameWrong)

/-- 'laws.FnExactValueDeep': WHATEVER THE INPUT: true; the input reads as it did. -/
def fnExactValueDeepSpec : ChangeSpec := { name := "fnExactValueDeep", fn := fun _ => fun
  | [d] => { results := [.lit (.bool true)], args := [d] }
  | _ => none }
def fnExactValueDeepRow : OpenClaim := { program := "ytiaigcdckmpepaa", sum := "8d597f8870ae4e53b272145256f2aa55e294e9b50c9c0568c1ee1a3fe3903a4d", func := "loop.example/pergola/laws.FnExactValueDeep", spec := "fnExactValueDeep", recurses := true, loops := true, plainKeys := false, apart := false }
def FnExactValueDeepSaid : Prop := fnExactValueDeepRow.holds Try.pinned (OpenSpec.ofChange fnExactValueDeepSpec)

/-- ITS FALSE NEIGHBOUR: 'it returns false'. Refute it at one input. -/
def fnExactValueDeepWrong : ChangeSpec := { name := "fnExactValueDeep", fn := fun _ => fun
  | [d] => { results := [.lit (.bool false)], args := [d] }
  | _ => none }
def FnExactValueDeepWrongFalsely : Prop := fnExactValueDeepRow.holds Try.pinned (OpenSpec.ofChange fnExactValueDeepWrong)

/-- 'laws.FnExactTreeGet': WHATEVER THE INPUT: true; the input reads as it did. -/
def fnExactTreeGetSpec : ChangeSpec := { name := "fnExactTreeGet", fn := fun _ => fun
  | [d1, d2] => { results := [.lit (.bool true)], args := [d1, d2] }
  | _ => none }
def fnExactTreeGetRow : OpenClaim := { program := "ytiaigcdckmpepaa", sum := "8d597f8870ae4e53b272145256f2aa55e294e9b50c9c0568c1ee1a3fe3903a4d", func := "loop.example/pergola/laws.FnExactTreeGet", spec := "fnExactTreeGet", unfollowed := true, recurses := true, loops := true, plainKeys := false, apart := false }
def FnExactTreeGetSaid : Prop := fnExactTreeGetRow.holds Try.pinned (OpenSpec.ofChange fnExactTreeGetSpec)

/-- ITS FALSE NEIGHBOUR: 'it returns false'. Refute it at one input. -/
def fnExactTreeGetWrong : ChangeSpec := { name := "fnExactTreeGet", fn := fun _ => fun
  | [d1, d2] => { results := [.lit (.bool false)], args := [d1, d2] }
  | _ => none }
def FnExactTreeGetWrongFalsely : Prop := fnExactTreeGetRow.holds Try.pinned (OpenSpec.ofChange fnExactTreeGetWrong)

/-- 'laws.FnExactJsonGet': WHATEVER THE INPUT: true; the input reads as it did. -/
def fnExactJsonGetSpec : ChangeSpec := { name := "fnExactJsonGet", fn := fun _ => fun
  | [d] => { results := [.lit (.bool true)], args := [d] }
  | _ => none }
def fnExactJsonGetRow : OpenClaim := { program := "ytiaigcdckmpepaa", sum := "8d597f8870ae4e53b272145256f2aa55e294e9b50c9c0568c1ee1a3fe3903a4d", func := "loop.example/pergola/laws.FnExactJsonGet", spec := "fnExactJsonGet", unfollowed := true, recurses := true, plainKeys := false, apart := false }
def FnExactJsonGetSaid : Prop := fnExactJsonGetRow.holds Try.pinned (OpenSpec.ofChange fnExactJsonGetSpec)

/-- ITS FALSE NEIGHBOUR: 'it returns false'. Refute it at one input. -/
def fnExactJsonGetWrong : ChangeSpec := { name := "fnExactJsonGet", fn := fun _ => fun
  | [d] => { results := [.lit (.bool false)], args := [d] }
  | _ => none }
def FnExactJsonGetWrongFalsely : Prop := fnExactJsonGetRow.holds Try.pinned (OpenSpec.ofChange fnExactJsonGetWrong)

/-- 'laws.FnExactValueSorted': WHATEVER THE INPUT: true; the input reads as it did. -/
def fnExactValueSortedSpec : ChangeSpec := { name := "fnExactValueSorted", fn := fun _ => fun
  | [d] => { results := [.lit (.bool true)], args := [d] }
  | _ => none }
def fnExactValueSortedRow : OpenClaim := { program := "ytiaigcdckmpepaa", sum := "8d597f8870ae4e53b272145256f2aa55e294e9b50c9c0568c1ee1a3fe3903a4d", func := "loop.example/pergola/laws.FnExactValueSorted", spec := "fnExactValueSorted", unfollowed := true, recurses := true, loops := true, plainKeys := false, apart := false }
def FnExactValueSortedSaid : Prop := fnExactValueSortedRow.holds Try.pinned (OpenSpec.ofChange fnExactValueSortedSpec)

/-- ITS FALSE NEIGHBOUR: 'it returns false'. Refute it at one input. -/
def fnExactValueSortedWrong : ChangeSpec := { name := "fnExactValueSorted", fn := fun _ => fun
  | [d] => { results := [.lit (.bool false)], args := [d] }
  | _ => none }
def FnExactValueSortedWrongFalsely : Prop := fnExactValueSortedRow.holds Try.pinned (OpenSpec.ofChange fnExactValueSortedWrong)

/-- 'laws.FnTreeGet': WHATEVER THE INPUT: true; the input reads as it did. -/
def fnTreeGetSpec : ChangeSpec := { name := "fnTreeGet", fn := fun _ => fun
  | [d] => { results := [.lit (.bool true)], args := [d] }
  | _ => none }
def fnTreeGetRow : OpenClaim := { program := "ytiaigcdckmpepaa", sum := "8d597f8870ae4e53b272145256f2aa55e294e9b50c9c0568c1ee1a3fe3903a4d", func := "loop.example/pergola/laws.FnTreeGet", spec := "fnTreeGet", unfollowed := true, recurses := true, plainKeys := false, apart := false }
def FnTreeGetSaid : Prop := fnTreeGetRow.holds Try.pinned (OpenSpec.ofChange fnTreeGetSpec)

/-- ITS FALSE NEIGHBOUR: 'it returns false'. Refute it at one input. -/
def fnTreeGetWrong : ChangeSpec := { name := "fnTreeGet", fn := fun _ => fun
  | [d] => { results := [.lit (.bool false)], args := [d] }
  | _ => none }
def FnTreeGetWrongFalsely : Prop := fnTreeGetRow.holds Try.pinned (OpenSpec.ofChange fnTreeGetWrong)

/-- 'laws.FnValueSorted': WHATEVER THE INPUT: true; the input reads as it did. -/
def fnValueSortedSpec : ChangeSpec := { name := "fnValueSorted", fn := fun _ => fun
  | [d] => { results := [.lit (.bool true)], args := [d] }
  | _ => none }
def fnValueSortedRow : OpenClaim := { program := "ytiaigcdckmpepaa", sum := "8d597f8870ae4e53b272145256f2aa55e294e9b50c9c0568c1ee1a3fe3903a4d", func := "loop.example/pergola/laws.FnValueSorted", spec := "fnValueSorted", unfollowed := true, recurses := true, plainKeys := false, apart := false }
def FnValueSortedSaid : Prop := fnValueSortedRow.holds Try.pinned (OpenSpec.ofChange fnValueSortedSpec)

/-- ITS FALSE NEIGHBOUR: 'it returns false'. Refute it at one input. -/
def fnValueSortedWrong : ChangeSpec := { name := "fnValueSorted", fn := fun _ => fun
  | [d] => { results := [.lit (.bool false)], args := [d] }
  | _ => none }
def FnValueSortedWrongFalsely : Prop := fnValueSortedRow.holds Try.pinned (OpenSpec.ofChange fnValueSortedWrong)

/-- 'laws.FnJsonBlank': WHATEVER THE INPUT: true; the input reads as it did. -/
def fnJsonBlankSpec : ChangeSpec := { name := "fnJsonBlank", fn := fun _ => fun
  | [d] => { results := [.lit (.bool true)], args := [d] }
  | _ => none }
def fnJsonBlankRow : OpenClaim := { program := "ytiaigcdckmpepaa", sum := "8d597f8870ae4e53b272145256f2aa55e294e9b50c9c0568c1ee1a3fe3903a4d", func := "loop.example/pergola/laws.FnJsonBlank", spec := "fnJsonBlank", unfollowed := true, recurses := true, plainKeys := false, apart := false }
def FnJsonBlankSaid : Prop := fnJsonBlankRow.holds Try.pinned (OpenSpec.ofChange fnJsonBlankSpec)

/-- ITS FALSE NEIGHBOUR: 'it returns false'. Refute it at one input. -/
def fnJsonBlankWrong : ChangeSpec := { name := "fnJsonBlank", fn := fun _ => fun
  | [d] => { results := [.lit (.bool false)], args := [d] }
  | _ => none }
def FnJsonBlankWrongFalsely : Prop := fnJsonBlankRow.holds Try.pinned (OpenSpec.ofChange fnJsonBlankWrong)

/-- 'laws.FnExactMergeDo': WHATEVER THE INPUT: true; the input reads as it did. -/
def fnExactMergeDoSpec : ChangeSpec := { name := "fnExactMergeDo", fn := fun _ => fun
  | [d1, d2] => { results := [.lit (.bool true)], args := [d1, d2] }
  | _ => none }
def fnExactMergeDoRow : OpenClaim := { program := "ytiaigcdckmpepaa", sum := "8d597f8870ae4e53b272145256f2aa55e294e9b50c9c0568c1ee1a3fe3903a4d", func := "loop.example/pergola/laws.FnExactMergeDo", spec := "fnExactMergeDo", unfollowed := true, recurses := true, loops := true, plainKeys := false, apart := false }
def FnExactMergeDoSaid : Prop := fnExactMergeDoRow.holds Try.pinned (OpenSpec.ofChange fnExactMergeDoSpec)

/-- ITS FALSE NEIGHBOUR: 'it returns false'. Refute it at one input. -/
def fnExactMergeDoWrong : ChangeSpec := { name := "fnExactMergeDo", fn := fun _ => fun
  | [d1, d2] => { results := [.lit (.bool false)], args := [d1, d2] }
  | _ => none }
def FnExactMergeDoWrongFalsely : Prop := fnExactMergeDoRow.holds Try.pinned (OpenSpec.ofChange fnExactMergeDoWrong)

/-- 'laws.FnExactMergeOf': WHATEVER THE INPUT: true; the input reads as it did. -/
def fnExactMergeOfSpec : ChangeSpec := { name := "fnExactMergeOf", fn := fun _ => fun
  | [d1, d2] => { results := [.lit (.bool true)], args := [d1, d2] }
  | _ => none }
def fnExactMergeOfRow : OpenClaim := { program := "ytiaigcdckmpepaa", sum := "8d597f8870ae4e53b272145256f2aa55e294e9b50c9c0568c1ee1a3fe3903a4d", func := "loop.example/pergola/laws.FnExactMergeOf", spec := "fnExactMergeOf", unfollowed := true, recurses := true, loops := true, plainKeys := false, apart := false }
def FnExactMergeOfSaid : Prop := fnExactMergeOfRow.holds Try.pinned (OpenSpec.ofChange fnExactMergeOfSpec)

/-- ITS FALSE NEIGHBOUR: 'it returns false'. Refute it at one input. -/
def fnExactMergeOfWrong : ChangeSpec := { name := "fnExactMergeOf", fn := fun _ => fun
  | [d1, d2] => { results := [.lit (.bool false)], args := [d1, d2] }
  | _ => none }
def FnExactMergeOfWrongFalsely : Prop := fnExactMergeOfRow.holds Try.pinned (OpenSpec.ofChange fnExactMergeOfWrong)

/-- 'laws.FnMergeDo': WHATEVER THE INPUT: true; the input reads as it did. -/
def fnMergeDoSpec : ChangeSpec := { name := "fnMergeDo", fn := fun _ => fun
  | [d] => { results := [.lit (.bool true)], args := [d] }
  | _ => none }
def fnMergeDoRow : OpenClaim := { program := "ytiaigcdckmpepaa", sum := "8d597f8870ae4e53b272145256f2aa55e294e9b50c9c0568c1ee1a3fe3903a4d", func := "loop.example/pergola/laws.FnMergeDo", spec := "fnMergeDo", unfollowed := true, recurses := true, plainKeys := false, apart := false }
def FnMergeDoSaid : Prop := fnMergeDoRow.holds Try.pinned (OpenSpec.ofChange fnMergeDoSpec)

/-- ITS FALSE NEIGHBOUR: 'it returns false'. Refute it at one input. -/
def fnMergeDoWrong : ChangeSpec := { name := "fnMergeDo", fn := fun _ => fun
  | [d] => { results := [.lit (.bool false)], args := [d] }
  | _ => none }
def FnMergeDoWrongFalsely : Prop := fnMergeDoRow.holds Try.pinned (OpenSpec.ofChange fnMergeDoWrong)

/-- 'laws.FnMergeOf': WHATEVER THE INPUT: true; the input reads as it did. -/
def fnMergeOfSpec : ChangeSpec := { name := "fnMergeOf", fn := fun _ => fun
  | [d] => { results := [.lit (.bool true)], args := [d] }
  | _ => none }
def fnMergeOfRow : OpenClaim := { program := "ytiaigcdckmpepaa", sum := "8d597f8870ae4e53b272145256f2aa55e294e9b50c9c0568c1ee1a3fe3903a4d", func := "loop.example/pergola/laws.FnMergeOf", spec := "fnMergeOf", unfollowed := true, recurses := true, plainKeys := false, apart := false }
def FnMergeOfSaid : Prop := fnMergeOfRow.holds Try.pinned (OpenSpec.ofChange fnMergeOfSpec)

/-- ITS FALSE NEIGHBOUR: 'it returns false'. Refute it at one input. -/
def fnMergeOfWrong : ChangeSpec := { name := "fnMergeOf", fn := fun _ => fun
  | [d] => { results := [.lit (.bool false)], args := [d] }
  | _ => none }
def FnMergeOfWrongFalsely : Prop := fnMergeOfRow.holds Try.pinned (OpenSpec.ofChange fnMergeOfWrong)

/- THE SECOND FORM. 'bulk': how many values and letters a reading holds, each counted each time it is reached (what is shared counts as often as it is met; a slice's spare places count too). A statement '..UptoSaid' is the law's where the arguments, and the package variables that the reading takes, are together of bulk at most 1048576: NARROWER than '..Said'. Prove '..Said' where nothing that the law and all that it calls make is longer than what came in: it says more and counts as full. Else prove '..UptoSaid'. A law counts once. -/
mutual
def uptoBulk {H : Type} : DataW H → Nat
  | .lit (.string bytes) => bytes.length + 1
  | .lit _ => 1
  | .nil => 1
  | .ptr d => uptoBulk d + 1
  | .slice elems spare => uptoBulkAll elems + uptoBulkAll spare + 1
  | .agg parts => uptoBulkAll parts + 1
  | .iface _ d => uptoBulk d + 1
  | .map entries => uptoBulkEntries entries + 1
  | .held _ => 1
def uptoBulkAll {H : Type} : List (DataW H) → Nat
  | [] => 0
  | d :: r => uptoBulk d + uptoBulkAll r
def uptoBulkEntries {H : Type} : List (Lit × DataW H) → Nat
  | [] => 0
  | x :: r => uptoBulkEntry x + uptoBulkEntries r
def uptoBulkEntry {H : Type} : Lit × DataW H → Nat
  | (.string bytes, d) => bytes.length + uptoBulk d + 1
  | (_, d) => uptoBulk d + 1
 end
def uptoSmall : (H : Type) → List (DataW H) → Bool := fun _ ds => decide (uptoBulkAll ds ≤ 1048576)
def OpenSpec.upto (s : _root_.Go.ChangeSpec) : _root_.Go.OpenSpec := { _root_.Go.OpenSpec.ofChange s with cond := some uptoSmall }

/-- 'laws.FnExactValueSame', WHERE WHAT IT READS IS OF BULK AT MOST 1048576: true; the input reads as it did. -/
def fnExactValueSameUptoRow : OpenClaim := { program := "ytiaigcdckmpepaa", sum := "8d597f8870ae4e53b272145256f2aa55e294e9b50c9c0568c1ee1a3fe3903a4d", func := "loop.example/pergola/laws.FnExactValueSame", spec := "fnExactValueSame", recurses := true, loops := true, plainKeys := false, apart := false, narrowed := true }
def FnExactValueSameUptoSaid : Prop := fnExactValueSameUptoRow.holds Try.pinned (OpenSpec.upto fnExactValueSameSpec)

/-- 'laws.FnExactValueDeep', WHERE WHAT IT READS IS OF BULK AT MOST 1048576: true; the input reads as it did. -/
def fnExactValueDeepUptoRow : OpenClaim := { program := "ytiaigcdckmpepaa", sum := "8d597f8870ae4e53b272145256f2aa55e294e9b50c9c0568c1ee1a3fe3903a4d", func := "loop.example/pergola/laws.FnExactValueDeep", spec := "fnExactValueDeep", recurses := true, loops := true, plainKeys := false, apart := false, narrowed := true }
def FnExactValueDeepUptoSaid : Prop := fnExactValueDeepUptoRow.holds Try.pinned (OpenSpec.upto fnExactValueDeepSpec)

/-- 'laws.FnExactTreeGet', WHERE WHAT IT READS IS OF BULK AT MOST 1048576: true; the input reads as it did. -/
def fnExactTreeGetUptoRow : OpenClaim := { program := "ytiaigcdckmpepaa", sum := "8d597f8870ae4e53b272145256f2aa55e294e9b50c9c0568c1ee1a3fe3903a4d", func := "loop.example/pergola/laws.FnExactTreeGet", spec := "fnExactTreeGet", unfollowed := true, recurses := true, loops := true, plainKeys := false, apart := false, narrowed := true }
def FnExactTreeGetUptoSaid : Prop := fnExactTreeGetUptoRow.holds Try.pinned (OpenSpec.upto fnExactTreeGetSpec)

/-- 'laws.FnExactJsonGet', WHERE WHAT IT READS IS OF BULK AT MOST 1048576: true; the input reads as it did. -/
def fnExactJsonGetUptoRow : OpenClaim := { program := "ytiaigcdckmpepaa", sum := "8d597f8870ae4e53b272145256f2aa55e294e9b50c9c0568c1ee1a3fe3903a4d", func := "loop.example/pergola/laws.FnExactJsonGet", spec := "fnExactJsonGet", unfollowed := true, recurses := true, plainKeys := false, apart := false, narrowed := true }
def FnExactJsonGetUptoSaid : Prop := fnExactJsonGetUptoRow.holds Try.pinned (OpenSpec.upto fnExactJsonGetSpec)

/-- 'laws.FnExactValueSorted', WHERE WHAT IT READS IS OF BULK AT MOST 1048576: true; the input reads as it did. -/
def fnExactValueSortedUptoRow : OpenClaim := { program := "ytiaigcdckmpepaa", sum := "8d597f8870ae4e53b272145256f2aa55e294e9b50c9c0568c1ee1a3fe3903a4d", func := "loop.example/pergola/laws.FnExactValueSorted", spec := "fnExactValueSorted", unfollowed := true, recurses := true, loops := true, plainKeys := false, apart := false, narrowed := true }
def FnExactValueSortedUptoSaid : Prop := fnExactValueSortedUptoRow.holds Try.pinned (OpenSpec.upto fnExactValueSortedSpec)

/-- 'laws.FnTreeGet', WHERE WHAT IT READS IS OF BULK AT MOST 1048576: true; the input reads as it did. -/
def fnTreeGetUptoRow : OpenClaim := { program := "ytiaigcdckmpepaa", sum := "8d597f8870ae4e53b272145256f2aa55e294e9b50c9c0568c1ee1a3fe3903a4d", func := "loop.example/pergola/laws.FnTreeGet", spec := "fnTreeGet", unfollowed := true, recurses := true, plainKeys := false, apart := false, narrowed := true }
def FnTreeGetUptoSaid : Prop := fnTreeGetUptoRow.holds Try.pinned (OpenSpec.upto fnTreeGetSpec)

/-- 'laws.FnValueSorted', WHERE WHAT IT READS IS OF BULK AT MOST 1048576: true; the input reads as it did. -/
def fnValueSortedUptoRow : OpenClaim := { program := "ytiaigcdckmpepaa", sum := "8d597f8870ae4e53b272145256f2aa55e294e9b50c9c0568c1ee1a3fe3903a4d", func := "loop.example/pergola/laws.FnValueSorted", spec := "fnValueSorted", unfollowed := true, recurses := true, plainKeys := false, apart := false, narrowed := true }
def FnValueSortedUptoSaid : Prop := fnValueSortedUptoRow.holds Try.pinned (OpenSpec.upto fnValueSortedSpec)

/-- 'laws.FnJsonBlank', WHERE WHAT IT READS IS OF BULK AT MOST 1048576: true; the input reads as it did. -/
def fnJsonBlankUptoRow : OpenClaim := { program := "ytiaigcdckmpepaa", sum := "8d597f8870ae4e53b272145256f2aa55e294e9b50c9c0568c1ee1a3fe3903a4d", func := "loop.example/pergola/laws.FnJsonBlank", spec := "fnJsonBlank", unfollowed := true, recurses := true, plainKeys := false, apart := false, narrowed := true }
def FnJsonBlankUptoSaid : Prop := fnJsonBlankUptoRow.holds Try.pinned (OpenSpec.upto fnJsonBlankSpec)

/-- 'laws.FnExactMergeDo', WHERE WHAT IT READS IS OF BULK AT MOST 1048576: true; the input reads as it did. -/
def fnExactMergeDoUptoRow : OpenClaim := { program := "ytiaigcdckmpepaa", sum := "8d597f8870ae4e53b272145256f2aa55e294e9b50c9c0568c1ee1a3fe3903a4d", func := "loop.example/pergola/laws.FnExactMergeDo", spec := "fnExactMergeDo", unfollowed := true, recurses := true, loops := true, plainKeys := false, apart := false, narrowed := true }
def FnExactMergeDoUptoSaid : Prop := fnExactMergeDoUptoRow.holds Try.pinned (OpenSpec.upto fnExactMergeDoSpec)

/-- 'laws.FnExactMergeOf', WHERE WHAT IT READS IS OF BULK AT MOST 1048576: true; the input reads as it did. -/
def fnExactMergeOfUptoRow : OpenClaim := { program := "ytiaigcdckmpepaa", sum := "8d597f8870ae4e53b272145256f2aa55e294e9b50c9c0568c1ee1a3fe3903a4d", func := "loop.example/pergola/laws.FnExactMergeOf", spec := "fnExactMergeOf", unfollowed := true, recurses := true, loops := true, plainKeys := false, apart := false, narrowed := true }
def FnExactMergeOfUptoSaid : Prop := fnExactMergeOfUptoRow.holds Try.pinned (OpenSpec.upto fnExactMergeOfSpec)

/-- 'laws.FnMergeDo', WHERE WHAT IT READS IS OF BULK AT MOST 1048576: true; the input reads as it did. -/
def fnMergeDoUptoRow : OpenClaim := { program := "ytiaigcdckmpepaa", sum := "8d597f8870ae4e53b272145256f2aa55e294e9b50c9c0568c1ee1a3fe3903a4d", func := "loop.example/pergola/laws.FnMergeDo", spec := "fnMergeDo", unfollowed := true, recurses := true, plainKeys := false, apart := false, narrowed := true }
def FnMergeDoUptoSaid : Prop := fnMergeDoUptoRow.holds Try.pinned (OpenSpec.upto fnMergeDoSpec)

/-- 'laws.FnMergeOf', WHERE WHAT IT READS IS OF BULK AT MOST 1048576: true; the input reads as it did. -/
def fnMergeOfUptoRow : OpenClaim := { program := "ytiaigcdckmpepaa", sum := "8d597f8870ae4e53b272145256f2aa55e294e9b50c9c0568c1ee1a3fe3903a4d", func := "loop.example/pergola/laws.FnMergeOf", spec := "fnMergeOf", unfollowed := true, recurses := true, plainKeys := false, apart := false, narrowed := true }
def FnMergeOfUptoSaid : Prop := fnMergeOfUptoRow.holds Try.pinned (OpenSpec.upto fnMergeOfSpec)

end Rows
end Go.Proofs.Ytiaigcdckmpepaa
