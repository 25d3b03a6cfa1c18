/-
  CLOSED FACTS about a start in which the listed variables are laid.
-/
import Derived.Test.YtodlhchgpmgeeaaGreatDoorCards
import Derived.ProofKit
import Derived.LaidMore
import Derived.OpenShut
import Derived.Stop.Joined
import Derived.LaidLaws
namespace Go.Proofs.YtodlhchgpmgeeaaGreatDoor
open Go.ChangeShapes Go.WideShapes Go.ChangeAt Go.WideMaps Go.WideElems Go.RowKit
set_option maxRecDepth 100000
/-- the start -/
noncomputable abbrev Wd (os : Os) : World := (World.doorLaid Tryz.prog 60 os).forCall (fun _ _ => 0) ⟨#[], #[.slice none 0 0, .int .i64 0], []⟩
theorem fA (os : Os) : (Wd os).variablesRefB Tryz.prog = true := by kernel_rfl
theorem fB (os : Os) : ((Wd os).heap.toList.drop Tryz.prog.globals.size).take ((begin Tryz.prog (fun _ _ => 0) default).world.heap.size - Tryz.prog.globals.size) = (begin Tryz.prog (fun _ _ => 0) default).world.heap.toList.drop Tryz.prog.globals.size := by kernel_rfl
theorem fC (os : Os) : Input.okWideB Tryz.prog (Wd os) 4 ⟨#[], #[.slice none 0 0, .int .i64 0], []⟩ = true := by kernel_rfl
theorem fD {H : Type} (enc : TypeId × Value → H) (os : Os) : Rows.tablingNoneSpec.preB enc Tryz.prog Tryz.f4 [] false (Wd os).memory #[.slice none 0 0, .int .i64 0] 8 = true := by kernel_rfl
theorem fE {H : Type} (enc : TypeId × Value → H) (os : Os) : Rows.tablingNoneSpec.sizedB enc Tryz.prog Tryz.f4 false (Wd os).memory #[.slice none 0 0, .int .i64 0] 8 = true := by kernel_rfl
theorem fF (os : Os) : (DataW.laidRun Tryz.prog (Wd os).memory 8 ((Rows.tablingNoneRow.laid.filter fun x => x.2.handleName?.isNone).map (·.1))).map (·.1) = some (Rows.tablingNoneRow.laid.filter fun x => x.2.handleName?.isNone) := by kernel_rfl
theorem fG (os : Os) : (DataW.laidRun Tryz.prog (Wd os).memory 8 ((Rows.tablingNoneRow.laid.filter fun x => x.2.handleName?.isNone).map (·.1))).map (fun x => decide x.2.Nodup && laidRowsB Tryz.prog (Wd os).memory x.2) = some true := by kernel_rfl
theorem fI (os : Os) : (Rows.tablingNoneRow.laid.filter fun x => x.2.handleName?.isSome && x.2.funcsIn?.isNone).all (handleAtB Tryz.prog (Wd os).memory) = true := by kernel_rfl
theorem fJ (os : Os) : funcsRun Tryz.prog (Wd os).memory 8 ((funcsListed Rows.tablingNoneRow.laid).map (·.1)) = some ((funcsListed Rows.tablingNoneRow.laid).map (·.2.funcsOut)) := by kernel_rfl
theorem door_met (os : Os) : laidMetH Tryz.prog Rows.tablingNoneRow.laid (Wd os).memory :=
  laidMetH_of_parts3 (fuel := 8) (laidMet_of_run' 8 (fF os) (fG os)) (fI os) (fJ os)
theorem door_shaped (os : Os) : (Wd os).Shaped Tryz.prog := World.shaped_of_RefB (fA os) (fB os)
theorem own : ownKnob Tryz.prog.godebug = none := by kernel_rfl
theorem laidOut : laidOutB Tryz.prog = true := by kernel_rfl
theorem readable37 : Tryz.prog.readableRec 37 = true := by kernel_rfl
theorem readable3 : Tryz.prog.readableRec 3 = true := by kernel_rfl
end Go.Proofs.YtodlhchgpmgeeaaGreatDoor
