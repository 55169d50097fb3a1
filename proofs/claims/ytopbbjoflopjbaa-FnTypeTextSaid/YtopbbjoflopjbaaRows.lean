/-
  NARROWER THAN 'FOR EVERY INPUT', by the rows' own cells (each row's printed sentence says how): FnExactValueOk: loops · FnExactValueSize: loops.
  DERIVED. THE GIVEN ROWS OF THIS SEAT. 8 by the template 'for every input the law returns true; each argument reads behind the call as it read before'; 0 by the template 'total and deterministic' (their statements: YtopbbjoflopjbaaTotals.lean).
  GIVEN WITH THE SEED: the statements are not yours to turn. If you find one false, say at which input.
  Laid BY PROGRAM, IN A SANDBOX (cutbox-rows.mjs): the forced cells as the released guide's own fill.sh prints them over the translation af5f4f0b31af3168… (all of the seat's roots in one cut). By AI agents, Wed Nov 11 2026. No macro, syntax, notation, axiom, sorry.
-/
import Derived.Test.YtopbbjoflopjbaaChecked
import GoSem.Claim
import GoSem.ClaimJoined
import GoSem.ClaimMapViews
import Derived.JoinedTies
import Derived.KernelRfl
namespace Go.Proofs.Ytopbbjoflopjbaa
/- THE CELL 'sum', in the pinned program and in every row, IS THE sha256 OF THE DUMP (.gsa) THAT YtopbbjoflopjbaaProg.lean LOADS. Nothing in Lean hashes anything: it is a label: what it is worth is what the hold of that sum in a sandbox is worth. -/
noncomputable def Try.pinned : Pinned := { name := "ytopbbjoflopjbaa", sum := "af5f4f0b31af3168a3eca6868bdc0e4e2e27a0c1fd86ec0948278b01f084eed2", checked := Try.checked }
namespace Rows
def none {H : Type} : Left H := { results := [], args := [] }

/-- 'laws.FnExactValueOk': WHATEVER THE INPUT: true; the input reads as it did. -/
def fnExactValueOkSpec : ChangeSpec := { name := "fnExactValueOk", fn := fun _ => fun
  | [d] => { results := [.lit (.bool true)], args := [d] }
  | _ => none }
def fnExactValueOkRow : OpenClaim := { program := "ytopbbjoflopjbaa", sum := "af5f4f0b31af3168a3eca6868bdc0e4e2e27a0c1fd86ec0948278b01f084eed2", func := "loop.example/pergola/laws.FnExactValueOk", spec := "fnExactValueOk", unfollowed := true, recurses := true, loops := true, plainKeys := false, apart := false }
def FnExactValueOkSaid : Prop := fnExactValueOkRow.holds Try.pinned (OpenSpec.ofChange fnExactValueOkSpec)

/-- ITS FALSE NEIGHBOUR: 'it returns false'. Refute it at one input. -/
def fnExactValueOkWrong : ChangeSpec := { name := "fnExactValueOk", fn := fun _ => fun
  | [d] => { results := [.lit (.bool false)], args := [d] }
  | _ => none }
def FnExactValueOkWrongFalsely : Prop := fnExactValueOkRow.holds Try.pinned (OpenSpec.ofChange fnExactValueOkWrong)

/-- 'laws.FnExactValueSize': WHATEVER THE INPUT: true; the input reads as it did. -/
def fnExactValueSizeSpec : ChangeSpec := { name := "fnExactValueSize", fn := fun _ => fun
  | [d] => { results := [.lit (.bool true)], args := [d] }
  | _ => none }
def fnExactValueSizeRow : OpenClaim := { program := "ytopbbjoflopjbaa", sum := "af5f4f0b31af3168a3eca6868bdc0e4e2e27a0c1fd86ec0948278b01f084eed2", func := "loop.example/pergola/laws.FnExactValueSize", spec := "fnExactValueSize", unfollowed := true, recurses := true, loops := true, plainKeys := false, apart := false }
def FnExactValueSizeSaid : Prop := fnExactValueSizeRow.holds Try.pinned (OpenSpec.ofChange fnExactValueSizeSpec)

/-- ITS FALSE NEIGHBOUR: 'it returns false'. Refute it at one input. -/
def fnExactValueSizeWrong : ChangeSpec := { name := "fnExactValueSize", fn := fun _ => fun
  | [d] => { results := [.lit (.bool false)], args := [d] }
  | _ => none }
def FnExactValueSizeWrongFalsely : Prop := fnExactValueSizeRow.holds Try.pinned (OpenSpec.ofChange fnExactValueSizeWrong)

/-- 'laws.FnValueOk': WHATEVER THE INPUT: true; the input reads as it did. -/
def fnValueOkSpec : ChangeSpec := { name := "fnValueOk", fn := fun _ => fun
  | [d] => { results := [.lit (.bool true)], args := [d] }
  | _ => none }
def fnValueOkRow : OpenClaim := { program := "ytopbbjoflopjbaa", sum := "af5f4f0b31af3168a3eca6868bdc0e4e2e27a0c1fd86ec0948278b01f084eed2", func := "loop.example/pergola/laws.FnValueOk", spec := "fnValueOk", unfollowed := true, recurses := true, plainKeys := false, apart := false }
def FnValueOkSaid : Prop := fnValueOkRow.holds Try.pinned (OpenSpec.ofChange fnValueOkSpec)

/-- ITS FALSE NEIGHBOUR: 'it returns false'. Refute it at one input. -/
def fnValueOkWrong : ChangeSpec := { name := "fnValueOk", fn := fun _ => fun
  | [d] => { results := [.lit (.bool false)], args := [d] }
  | _ => none }
def FnValueOkWrongFalsely : Prop := fnValueOkRow.holds Try.pinned (OpenSpec.ofChange fnValueOkWrong)

/-- 'laws.FnValueSize': WHATEVER THE INPUT: true; the input reads as it did. -/
def fnValueSizeSpec : ChangeSpec := { name := "fnValueSize", fn := fun _ => fun
  | [d] => { results := [.lit (.bool true)], args := [d] }
  | _ => none }
def fnValueSizeRow : OpenClaim := { program := "ytopbbjoflopjbaa", sum := "af5f4f0b31af3168a3eca6868bdc0e4e2e27a0c1fd86ec0948278b01f084eed2", func := "loop.example/pergola/laws.FnValueSize", spec := "fnValueSize", unfollowed := true, recurses := true, plainKeys := false, apart := false }
def FnValueSizeSaid : Prop := fnValueSizeRow.holds Try.pinned (OpenSpec.ofChange fnValueSizeSpec)

/-- ITS FALSE NEIGHBOUR: 'it returns false'. Refute it at one input. -/
def fnValueSizeWrong : ChangeSpec := { name := "fnValueSize", fn := fun _ => fun
  | [d] => { results := [.lit (.bool false)], args := [d] }
  | _ => none }
def FnValueSizeWrongFalsely : Prop := fnValueSizeRow.holds Try.pinned (OpenSpec.ofChange fnValueSizeWrong)

/-- 'laws.FnExactPointerText': WHATEVER THE INPUT: true; the input reads as it did. -/
def fnExactPointerTextSpec : ChangeSpec := { name := "fnExactPointerText", fn := fun _ => fun
  | [d] => { results := [.lit (.bool true)], args := [d] }
  | _ => none }
def fnExactPointerTextRow : OpenClaim := { program := "ytopbbjoflopjbaa", sum := "af5f4f0b31af3168a3eca6868bdc0e4e2e27a0c1fd86ec0948278b01f084eed2", func := "loop.example/pergola/laws.FnExactPointerText", spec := "fnExactPointerText", inPlace := ["internal/abi.NoEscape"], plainKeys := false, apart := false }
def FnExactPointerTextSaid : Prop := fnExactPointerTextRow.holds Try.pinned (OpenSpec.ofChange fnExactPointerTextSpec)

/-- ITS FALSE NEIGHBOUR: 'it returns false'. Refute it at one input. -/
def fnExactPointerTextWrong : ChangeSpec := { name := "fnExactPointerText", fn := fun _ => fun
  | [d] => { results := [.lit (.bool false)], args := [d] }
  | _ => none }
def FnExactPointerTextWrongFalsely : Prop := fnExactPointerTextRow.holds Try.pinned (OpenSpec.ofChange fnExactPointerTextWrong)

/-- 'laws.FnExactRefTo': WHATEVER THE INPUT: true; the input reads as it did. -/
def fnExactRefToSpec : ChangeSpec := { name := "fnExactRefTo", fn := fun _ => fun
  | [d] => { results := [.lit (.bool true)], args := [d] }
  | _ => none }
def fnExactRefToRow : OpenClaim := { program := "ytopbbjoflopjbaa", sum := "af5f4f0b31af3168a3eca6868bdc0e4e2e27a0c1fd86ec0948278b01f084eed2", func := "loop.example/pergola/laws.FnExactRefTo", spec := "fnExactRefTo", recurses := true, plainKeys := false, apart := false }
def FnExactRefToSaid : Prop := fnExactRefToRow.holds Try.pinned (OpenSpec.ofChange fnExactRefToSpec)

/-- ITS FALSE NEIGHBOUR: 'it returns false'. Refute it at one input. -/
def fnExactRefToWrong : ChangeSpec := { name := "fnExactRefTo", fn := fun _ => fun
  | [d] => { results := [.lit (.bool false)], args := [d] }
  | _ => none }
def FnExactRefToWrongFalsely : Prop := fnExactRefToRow.holds Try.pinned (OpenSpec.ofChange fnExactRefToWrong)

/-- 'laws.FnExactTypeGet': WHATEVER THE INPUT: true; the input reads as it did. -/
def fnExactTypeGetSpec : ChangeSpec := { name := "fnExactTypeGet", fn := fun _ => fun
  | [d] => { results := [.lit (.bool true)], args := [d] }
  | _ => none }
def fnExactTypeGetRow : OpenClaim := { program := "ytopbbjoflopjbaa", sum := "af5f4f0b31af3168a3eca6868bdc0e4e2e27a0c1fd86ec0948278b01f084eed2", func := "loop.example/pergola/laws.FnExactTypeGet", spec := "fnExactTypeGet", recurses := true, plainKeys := false, apart := false }
def FnExactTypeGetSaid : Prop := fnExactTypeGetRow.holds Try.pinned (OpenSpec.ofChange fnExactTypeGetSpec)

/-- ITS FALSE NEIGHBOUR: 'it returns false'. Refute it at one input. -/
def fnExactTypeGetWrong : ChangeSpec := { name := "fnExactTypeGet", fn := fun _ => fun
  | [d] => { results := [.lit (.bool false)], args := [d] }
  | _ => none }
def FnExactTypeGetWrongFalsely : Prop := fnExactTypeGetRow.holds Try.pinned (OpenSpec.ofChange fnExactTypeGetWrong)

/-- 'laws.FnTypeText': WHATEVER THE INPUT: true; the input reads as it did. -/
def fnTypeTextSpec : ChangeSpec := { name := "fnTypeText", fn := fun _ => fun
  | [d1, d2] => { results := [.lit (.bool true)], args := [d1, d2] }
  | _ => none }
def fnTypeTextRow : OpenClaim := { program := "ytopbbjoflopjbaa", sum := "af5f4f0b31af3168a3eca6868bdc0e4e2e27a0c1fd86ec0948278b01f084eed2", func := "loop.example/pergola/laws.FnTypeText", spec := "fnTypeText", recurses := true, plainKeys := false, apart := false }
def FnTypeTextSaid : Prop := fnTypeTextRow.holds Try.pinned (OpenSpec.ofChange fnTypeTextSpec)

/-- ITS FALSE NEIGHBOUR: 'it returns false'. Refute it at one input. -/
def fnTypeTextWrong : ChangeSpec := { name := "fnTypeText", fn := fun _ => fun
  | [d1, d2] => { results := [.lit (.bool false)], args := [d1, d2] }
  | _ => none }
def FnTypeTextWrongFalsely : Prop := fnTypeTextRow.holds Try.pinned (OpenSpec.ofChange fnTypeTextWrong)

/- THE SECOND FORM. 'bulk': how many values and letters a reading holds, each counted each time it is reached (what is shared counts as often as it is met; a slice's spare places count too). A statement '..UptoSaid' is the law's where the arguments, and the package variables that the reading takes, are together of bulk at most 1048576: NARROWER than '..Said'. Prove '..Said' where nothing that the law and all that it calls make is longer than what came in: it says more and counts as full. Else prove '..UptoSaid'. A law counts once. -/
mutual
def uptoBulk {H : Type} : DataW H → Nat
  | .lit (.string bytes) => bytes.length + 1
  | .lit _ => 1
  | .nil => 1
  | .ptr d => uptoBulk d + 1
  | .slice elems spare => uptoBulkAll elems + uptoBulkAll spare + 1
  | .agg parts => uptoBulkAll parts + 1
  | .iface _ d => uptoBulk d + 1
  | .map entries => uptoBulkEntries entries + 1
  | .held _ => 1
def uptoBulkAll {H : Type} : List (DataW H) → Nat
  | [] => 0
  | d :: r => uptoBulk d + uptoBulkAll r
def uptoBulkEntries {H : Type} : List (Lit × DataW H) → Nat
  | [] => 0
  | x :: r => uptoBulkEntry x + uptoBulkEntries r
def uptoBulkEntry {H : Type} : Lit × DataW H → Nat
  | (.string bytes, d) => bytes.length + uptoBulk d + 1
  | (_, d) => uptoBulk d + 1
 end
def uptoSmall : (H : Type) → List (DataW H) → Bool := fun _ ds => decide (uptoBulkAll ds ≤ 1048576)
def OpenSpec.upto (s : _root_.Go.ChangeSpec) : _root_.Go.OpenSpec := { _root_.Go.OpenSpec.ofChange s with cond := some uptoSmall }

/-- 'laws.FnExactValueOk', WHERE WHAT IT READS IS OF BULK AT MOST 1048576: true; the input reads as it did. -/
def fnExactValueOkUptoRow : OpenClaim := { program := "ytopbbjoflopjbaa", sum := "af5f4f0b31af3168a3eca6868bdc0e4e2e27a0c1fd86ec0948278b01f084eed2", func := "loop.example/pergola/laws.FnExactValueOk", spec := "fnExactValueOk", unfollowed := true, recurses := true, loops := true, plainKeys := false, apart := false, narrowed := true }
def FnExactValueOkUptoSaid : Prop := fnExactValueOkUptoRow.holds Try.pinned (OpenSpec.upto fnExactValueOkSpec)

/-- 'laws.FnExactValueSize', WHERE WHAT IT READS IS OF BULK AT MOST 1048576: true; the input reads as it did. -/
def fnExactValueSizeUptoRow : OpenClaim := { program := "ytopbbjoflopjbaa", sum := "af5f4f0b31af3168a3eca6868bdc0e4e2e27a0c1fd86ec0948278b01f084eed2", func := "loop.example/pergola/laws.FnExactValueSize", spec := "fnExactValueSize", unfollowed := true, recurses := true, loops := true, plainKeys := false, apart := false, narrowed := true }
def FnExactValueSizeUptoSaid : Prop := fnExactValueSizeUptoRow.holds Try.pinned (OpenSpec.upto fnExactValueSizeSpec)

/-- 'laws.FnValueOk', WHERE WHAT IT READS IS OF BULK AT MOST 1048576: true; the input reads as it did. -/
def fnValueOkUptoRow : OpenClaim := { program := "ytopbbjoflopjbaa", sum := "af5f4f0b31af3168a3eca6868bdc0e4e2e27a0c1fd86ec0948278b01f084eed2", func := "loop.example/pergola/laws.FnValueOk", spec := "fnValueOk", unfollowed := true, recurses := true, plainKeys := false, apart := false, narrowed := true }
def FnValueOkUptoSaid : Prop := fnValueOkUptoRow.holds Try.pinned (OpenSpec.upto fnValueOkSpec)

/-- 'laws.FnValueSize', WHERE WHAT IT READS IS OF BULK AT MOST 1048576: true; the input reads as it did. -/
def fnValueSizeUptoRow : OpenClaim := { program := "ytopbbjoflopjbaa", sum := "af5f4f0b31af3168a3eca6868bdc0e4e2e27a0c1fd86ec0948278b01f084eed2", func := "loop.example/pergola/laws.FnValueSize", spec := "fnValueSize", unfollowed := true, recurses := true, plainKeys := false, apart := false, narrowed := true }
def FnValueSizeUptoSaid : Prop := fnValueSizeUptoRow.holds Try.pinned (OpenSpec.upto fnValueSizeSpec)

/-- 'laws.FnExactPointerText', WHERE WHAT IT READS IS OF BULK AT MOST 1048576: true; the input reads as it did. -/
def fnExactPointerTextUptoRow : OpenClaim := { program := "ytopbbjoflopjbaa", sum := "af5f4f0b31af3168a3eca6868bdc0e4e2e27a0c1fd86ec0948278b01f084eed2", func := "loop.example/pergola/laws.FnExactPointerText", spec := "fnExactPointerText", inPlace := ["internal/abi.NoEscape"], plainKeys := false, apart := false, narrowed := true }
def FnExactPointerTextUptoSaid : Prop := fnExactPointerTextUptoRow.holds Try.pinned (OpenSpec.upto fnExactPointerTextSpec)

/-- 'laws.FnExactRefTo', WHERE WHAT IT READS IS OF BULK AT MOST 1048576: true; the input reads as it did. -/
def fnExactRefToUptoRow : OpenClaim := { program := "ytopbbjoflopjbaa", sum := "af5f4f0b31af3168a3eca6868bdc0e4e2e27a0c1fd86ec0948278b01f084eed2", func := "loop.example/pergola/laws.FnExactRefTo", spec := "fnExactRefTo", recurses := true, plainKeys := false, apart := false, narrowed := true }
def FnExactRefToUptoSaid : Prop := fnExactRefToUptoRow.holds Try.pinned (OpenSpec.upto fnExactRefToSpec)

/-- 'laws.FnExactTypeGet', WHERE WHAT IT READS IS OF BULK AT MOST 1048576: true; the input reads as it did. -/
def fnExactTypeGetUptoRow : OpenClaim := { program := "ytopbbjoflopjbaa", sum := "af5f4f0b31af3168a3eca6868bdc0e4e2e27a0c1fd86ec0948278b01f084eed2", func := "loop.example/pergola/laws.FnExactTypeGet", spec := "fnExactTypeGet", recurses := true, plainKeys := false, apart := false, narrowed := true }
def FnExactTypeGetUptoSaid : Prop := fnExactTypeGetUptoRow.holds Try.pinned (OpenSpec.upto fnExactTypeGetSpec)

/-- 'laws.FnTypeText', WHERE WHAT IT READS IS OF BULK AT MOST 1048576: true; the input reads as it did. -/
def fnTypeTextUptoRow : OpenClaim := { program := "ytopbbjoflopjbaa", sum := "af5f4f0b31af3168a3eca6868bdc0e4e2e27a0c1fd86ec0948278b01f084eed2", func := "loop.example/pergola/laws.FnTypeText", spec := "fnTypeText", recurses := true, plainKeys := false, apart := false, narrowed := true }
def FnTypeTextUptoSaid : Prop := fnTypeTextUptoRow.holds Try.pinned (OpenSpec.upto fnTypeTextSpec)

end Rows
end Go.Proofs.Ytopbbjoflopjbaa
