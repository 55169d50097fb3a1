/-
  DERIVED. GIVEN WITH THE SEED: THE CARDS: each row of YtopbbjoflopjbaaDoorRows.lean that lists a variable, with what it lists TIED to the program's text (the seventh form; the later family's looks); each row that meets fmt, with fmt's text TOLD by the authors' own Lean function (tested against real Go, not proved from fmt's source: count such statements apart). THE CARD IS WHAT COUNTS. Prove the row's statement (the work); the ties are given (YtopbbjoflopjbaaDoorTie.lean); close each card by the builder's one call (the guide's Derived/Test/ToyasCard.lean, 'card_holds'). Laid BY PROGRAM, IN A SANDBOX (cutbox-door.mjs). By AI agents, Wed Nov 11 2026. No macro, syntax, notation, axiom, sorry.
-/
import Derived.Test.YtopbbjoflopjbaaDoorRows
import GoSem.ClaimSeven
namespace Go.Proofs.YtopbbjoflopjbaaDoor
namespace Rows

/-- THE TIED CARD OF 'laws.FnExactAskPut'. -/
def fnExactAskPutCard : Claim7 := { stood := { row := fnExactAskPutRow, standIns := [], harness := (true, "80ce9bd7c33ba0b4e8c0a290319056034e7137b3c62a5f79a68aaf4989af99bd"), looks := true }, kinds := [], alts := [], laidByText := true, laidKinds := [.data, .data, .data], laidTests := true, laidLooks := .later }
def FnExactAskPutCardSaid : Prop := Claim7.holds Tryd.pinned (.plain (OpenSpec.ofChange fnExactAskPutSpec)) fnExactAskPutCard

/-- THE TIED CARD OF 'laws.FnExactPointerGet'. -/
def fnExactPointerGetCard : Claim7 := { stood := { row := fnExactPointerGetRow, standIns := [], harness := (true, "80ce9bd7c33ba0b4e8c0a290319056034e7137b3c62a5f79a68aaf4989af99bd"), looks := true }, kinds := [], alts := [], laidByText := true, laidKinds := [.data, .pinned], laidTests := true, laidLooks := .later }
def FnExactPointerGetCardSaid : Prop := Claim7.holds Tryd.pinned (.plain (OpenSpec.ofChange fnExactPointerGetSpec)) fnExactPointerGetCard

/-- THE TIED CARD OF 'laws.FnPointer'. -/
def fnPointerCard : Claim7 := { stood := { row := fnPointerRow, standIns := [], harness := (true, "80ce9bd7c33ba0b4e8c0a290319056034e7137b3c62a5f79a68aaf4989af99bd"), looks := true }, kinds := [], alts := [], laidByText := true, laidKinds := [.data, .pinned], laidTests := true, laidLooks := .later }
def FnPointerCardSaid : Prop := Claim7.holds Tryd.pinned (.plain (OpenSpec.ofChange fnPointerSpec)) fnPointerCard

/-- THE TIED CARD OF 'laws.FnExactJsonPut'. -/
def fnExactJsonPutCard : Claim7 := { stood := { row := fnExactJsonPutRow, standIns := [], harness := (true, "80ce9bd7c33ba0b4e8c0a290319056034e7137b3c62a5f79a68aaf4989af99bd"), looks := true }, kinds := [], alts := [], laidByText := true, laidKinds := [.data, .data, .data], laidTests := true, laidLooks := .later }
def FnExactJsonPutCardSaid : Prop := Claim7.holds Tryd.pinned (.plain (OpenSpec.ofChange fnExactJsonPutSpec)) fnExactJsonPutCard

/-- THE SECOND FORM's CARD OF 'laws.FnExactAskPut'. -/
def fnExactAskPutUptoCard : Claim7 := { stood := { row := fnExactAskPutUptoRow, standIns := [], harness := (true, "80ce9bd7c33ba0b4e8c0a290319056034e7137b3c62a5f79a68aaf4989af99bd"), looks := true }, kinds := [], alts := [], laidByText := true, laidKinds := [.data, .data, .data], laidTests := true, laidLooks := .later }
def FnExactAskPutUptoCardSaid : Prop := Claim7.holds Tryd.pinned (.plain (OpenSpec.upto fnExactAskPutSpec)) fnExactAskPutUptoCard

/-- THE SECOND FORM's CARD OF 'laws.FnExactPointerGet'. -/
def fnExactPointerGetUptoCard : Claim7 := { stood := { row := fnExactPointerGetUptoRow, standIns := [], harness := (true, "80ce9bd7c33ba0b4e8c0a290319056034e7137b3c62a5f79a68aaf4989af99bd"), looks := true }, kinds := [], alts := [], laidByText := true, laidKinds := [.data, .pinned], laidTests := true, laidLooks := .later }
def FnExactPointerGetUptoCardSaid : Prop := Claim7.holds Tryd.pinned (.plain (OpenSpec.upto fnExactPointerGetSpec)) fnExactPointerGetUptoCard

/-- THE SECOND FORM's CARD OF 'laws.FnPointer'. -/
def fnPointerUptoCard : Claim7 := { stood := { row := fnPointerUptoRow, standIns := [], harness := (true, "80ce9bd7c33ba0b4e8c0a290319056034e7137b3c62a5f79a68aaf4989af99bd"), looks := true }, kinds := [], alts := [], laidByText := true, laidKinds := [.data, .pinned], laidTests := true, laidLooks := .later }
def FnPointerUptoCardSaid : Prop := Claim7.holds Tryd.pinned (.plain (OpenSpec.upto fnPointerSpec)) fnPointerUptoCard

/-- THE SECOND FORM's CARD OF 'laws.FnExactJsonPut'. -/
def fnExactJsonPutUptoCard : Claim7 := { stood := { row := fnExactJsonPutUptoRow, standIns := [], harness := (true, "80ce9bd7c33ba0b4e8c0a290319056034e7137b3c62a5f79a68aaf4989af99bd"), looks := true }, kinds := [], alts := [], laidByText := true, laidKinds := [.data, .data, .data], laidTests := true, laidLooks := .later }
def FnExactJsonPutUptoCardSaid : Prop := Claim7.holds Tryd.pinned (.plain (OpenSpec.upto fnExactJsonPutSpec)) fnExactJsonPutUptoCard
end Rows
end Go.Proofs.YtopbbjoflopjbaaDoor
