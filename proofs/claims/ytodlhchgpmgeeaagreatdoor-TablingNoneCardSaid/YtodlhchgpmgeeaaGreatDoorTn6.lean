/-
  THE CARD's CLOSED CELLS.
-/
import Derived.Test.YtodlhchgpmgeeaaGreatDoorCards
import Derived.SevenTiedAt
namespace Go.Proofs.YtodlhchgpmgeeaaGreatDoor
set_option maxRecDepth 100000
theorem looks_true : true = Tryz.prog.looks [] := by kernel_rfl
end Go.Proofs.YtodlhchgpmgeeaaGreatDoor
