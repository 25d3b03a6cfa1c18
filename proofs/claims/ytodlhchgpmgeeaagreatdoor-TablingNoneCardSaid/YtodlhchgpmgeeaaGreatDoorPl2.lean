/-
  WALKS of the deferred closures that recover, in a frame that returns: nothing turns.
-/
import Derived.Test.YtodlhchgpmgeeaaGreatDoorProg
import Derived.WalkKit
import Derived.RecoverIn
import Derived.TacticsIn
namespace Go.Proofs
open Go.RowKit

set_option maxHeartbeats 1000000 in
theorem Tryz.dfr201 (a : Value) (w : World) :
    CallsDIn Fence.wide 0 Tryz.prog 201 #[a] .returning w fun e u' w' => e = .returned (.tuple #[]) ∧ u' = .returning ∧ w' = w := by
  refine callsDIn_of_wpSIn Tryz.func201 rfl trivial fun c₀ cs hu => ?_
  apply wpSIn_seq
  apply wpSIn_region
  simp [wpOpsSIn, go_sem, recoverD, hu, Tryz.ntmps201, Exit.thenS, Fence.wide]
  refine wpSIn_of_wpIn rfl ?_
  refine wpIn_block ?_
  refine wpIn_seq ?_
  gi_wp2
  cases c₀
  simp_all [bodyPostS, results, Tryz.results201]

set_option maxHeartbeats 1000000 in
theorem Tryz.dfr124 (a b : Value) (w : World) :
    CallsDIn Fence.wide 0 Tryz.prog 124 #[a, b] .returning w fun e u' w' => e = .returned (.tuple #[]) ∧ u' = .returning ∧ w' = w := by
  refine callsDIn_of_wpSIn Tryz.func124 rfl trivial fun c₀ cs hu => ?_
  apply wpSIn_seq
  apply wpSIn_region
  simp [wpOpsSIn, go_sem, recoverD, hu, Tryz.ntmps124, Exit.thenS, Fence.wide]
  apply wpSIn_seq
  apply wpSIn_region
  simp [wpOpsSIn, go_sem, Exit.thenS]
  refine wpSIn_cond (t := false) (by simp [Act.eval, Array.replicate]) ?_
  simp only [Bool.false_eq_true, if_false]
  refine wpSIn_of_wpIn rfl (wpIn_skip ?_)
  cases c₀
  simp_all [bodyPostS, results, Tryz.results124]
end Go.Proofs
