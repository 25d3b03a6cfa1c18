/-
  DERIVED. GIVEN WITH THE SEED: THE CARDS: each row of YtodlhchgpmgeeaaGreatDoorRows.lean that lists a variable, with what it lists TIED to the program's text (the seventh form; the later family's looks); each row that meets fmt, with fmt's text TOLD by the authors' own Lean function (tested against real Go, not proved from fmt's source: count such statements apart). THE CARD IS WHAT COUNTS. Prove the row's statement (the work); the ties are given (YtodlhchgpmgeeaaGreatDoorTie.lean); close each card by the builder's one call (the guide's Derived/Test/ToyasCard.lean, 'card_holds'). Laid BY PROGRAM, IN A SANDBOX (cutbox-door.mjs). By AI agents, Wed Nov 11 2026. No macro, syntax, notation, axiom, sorry.
-/
import Derived.Test.YtodlhchgpmgeeaaGreatDoorRows
import GoSem.ClaimSeven
namespace Go.Proofs.YtodlhchgpmgeeaaGreatDoor
namespace Rows

/-- THE TIED CARD OF 'constraintlaw46.IntervalSound'. -/
def intervalSoundCard : Claim7 := { stood := { row := intervalSoundRow, standIns := [], harness := (true, "1deabc0011fe38cdc76a60478ef77b1936a9bf716724db4371033b841132813a"), looks := true }, kinds := [], alts := [], laidByText := true, laidKinds := [.data, .data, .data, .data], laidTests := true, laidLooks := .later }
def IntervalSoundCardSaid : Prop := Claim7.holds Tryz.pinned (.plain (OpenSpec.ofChange intervalSoundSpec)) intervalSoundCard

/-- THE TIED CARD OF 'constraintlaw51.TablingNone'. -/
def tablingNoneCard : Claim7 := { stood := { row := tablingNoneRow, standIns := [], harness := (true, "1deabc0011fe38cdc76a60478ef77b1936a9bf716724db4371033b841132813a"), looks := true }, kinds := [], alts := [], laidByText := true, laidKinds := [.data, .data, .data], laidTests := true, laidLooks := .later }
def TablingNoneCardSaid : Prop := Claim7.holds Tryz.pinned (.plain (OpenSpec.ofChange tablingNoneSpec)) tablingNoneCard

/-- THE SECOND FORM's CARD OF 'constraintlaw46.IntervalSound'. -/
def intervalSoundUptoCard : Claim7 := { stood := { row := intervalSoundUptoRow, standIns := [], harness := (true, "1deabc0011fe38cdc76a60478ef77b1936a9bf716724db4371033b841132813a"), looks := true }, kinds := [], alts := [], laidByText := true, laidKinds := [.data, .data, .data, .data], laidTests := true, laidLooks := .later }
def IntervalSoundUptoCardSaid : Prop := Claim7.holds Tryz.pinned (.plain (OpenSpec.upto intervalSoundSpec)) intervalSoundUptoCard

/-- THE SECOND FORM's CARD OF 'constraintlaw51.TablingNone'. -/
def tablingNoneUptoCard : Claim7 := { stood := { row := tablingNoneUptoRow, standIns := [], harness := (true, "1deabc0011fe38cdc76a60478ef77b1936a9bf716724db4371033b841132813a"), looks := true }, kinds := [], alts := [], laidByText := true, laidKinds := [.data, .data, .data], laidTests := true, laidLooks := .later }
def TablingNoneUptoCardSaid : Prop := Claim7.holds Tryz.pinned (.plain (OpenSpec.upto tablingNoneSpec)) tablingNoneUptoCard
end Rows
end Go.Proofs.YtodlhchgpmgeeaaGreatDoor
