/-
  THE CARD's OTHER CLOSED CELLS.
-/
import Derived.Test.YtodlhchgpmgeeaaGreatDoorCards
import Derived.SevenTiedAt
namespace Go.Proofs.YtodlhchgpmgeeaaGreatDoor
set_option maxRecDepth 100000
theorem goes_none : Tryz.prog.funcs.any Func.goes = false := by kernel_rfl
theorem goes_of_none {P : Program} (h : P.funcs.any Func.goes = false) (f : FuncId) : P.goes f = false := by
  unfold Program.goes
  rw [h, Bool.and_false, Bool.or_false]
  apply Bool.eq_false_iff.2
  intro hc
  rw [List.any_eq_true] at hc
  obtain ⟨g, _, hg⟩ := hc
  cases hf : P.funcs[g]? with
  | none => rw [hf] at hg; simp at hg
  | some fn =>
    rw [hf] at hg
    have hg : fn.goes = true := by simpa using hg
    have : P.funcs.any Func.goes = true := by
      rw [Array.any_eq_true]
      obtain ⟨hlt, he⟩ := Array.getElem?_eq_some_iff.1 hf
      exact ⟨g, hlt, by rw [he]; exact hg⟩
    rw [h] at this
    simp at this
theorem goesBy_none {P : Program} {c : OpenClaim} (e : c.start = .entering) (h : P.funcs.any Func.goes = false) : false = c.goesBy P := by
  unfold OpenClaim.goesBy Program.goesAt Program.goesFrom
  rw [e, Bool.or_false]
  cases P.funcNamed c.func with
  | none => rfl
  | some f => exact (goes_of_none h f).symm
theorem goes_false : false = Rows.tablingNoneRow.goesBy Tryz.prog := goesBy_none rfl goes_none
theorem wf_text : Rows.tablingNoneRow.wfByText (OpenSpec.ofChange Rows.tablingNoneSpec) = true := by kernel_rfl
theorem main_is : Tryz.prog.mainIs = some (true, "1deabc0011fe38cdc76a60478ef77b1936a9bf716724db4371033b841132813a".toList) := by kernel_rfl
end Go.Proofs.YtodlhchgpmgeeaaGreatDoor
