/-
  THE EVALUATOR's SOUNDNESS, part 15: copy, clear; everything that writes, but calls no code.
-/
import Derived.Test.YtodlhchgpmgeeaaGreatDoorEv15
namespace Go.Ev
open Go.RowKit
set_option linter.unusedSimpArgs false

variable {P : Program} {B : Nat} {ρ : Rho} {h : H}

theorem copy_ok {w : World} (hs : Sim B ρ h w.heap) {ts : Array TypeId} {as : Array Value} {dT ty e : TypeId} {d x v : AV} {d' x' : Value} (t0 : ts[0]? = some dT) (a0 : as[0]? = some d') (a1 : as[1]? = some x')
    (hxv : conc ρ x = some x') (hd : desc P dT = some (.slice e)) {sz dl xl : Nat} (hsz : szOf P e = some sz) (hxl : lenOfA x = some xl) {cs : List AV} {h' : H}
    (he : (match d with
              | .sn => some (.i .i64 ((Nat.min xl dl : Nat) : Int), h)
              | .sl id off _ _ _ => (match cs with
                | [] => some (.i .i64 ((Nat.min xl dl : Nat) : Int), h)
                | _ => (match setCells h id off cs with | some h' => some (.i .i64 ((Nat.min xl dl : Nat) : Int), h') | none => none))
              | _ => (none : Option (AV × H))) = some (v, h')) (hdv : conc ρ d = some d') (hdl : lenOfA d = some dl) (hf : firstA h sz (Nat.min xl dl) x = some cs) :
    ∃ v' w', (Builtin.copy_ ts ty as).run P w = .ok v' w' ∧ conc ρ v = some v' ∧ Ext B ρ h w ρ h' w' := by
  have hlen := lenOf_ok (P := P) hxv hxl w
  obtain ⟨ys, q1, q2⟩ := first_ok (P := P) hs hxv hf (fun l c e => by subst e; simp [lenOfA] at hxl; subst hxl; exact Nat.min_le_left _ _)
  cases d with
  | sn =>
    simp [conc] at hdv
    subst hdv
    simp [lenOfA] at hdl
    subst hdl
    simp at he
    obtain ⟨rfl, rfl⟩ := he
    refine ⟨_, w, ?_, rfl, Ext.refl hs⟩
    simp only [Builtin.copy_, t0, a0, a1, Sem.run_bind, run_desc w hd, Result.andThen_ok, hlen, run_sz w hsz, q2, Sem.run_pure]
    simp [goInt]
  | sl id off beg len cap =>
    simp only [conc, Option.map_eq_some_iff] at hdv
    obtain ⟨be, hbe, rfl⟩ := hdv
    simp [lenOfA] at hdl
    subst hdl
    simp only at he
    split at he
    · simp at he
      obtain ⟨rfl, rfl⟩ := he
      simp [concs] at q1
      subst q1
      refine ⟨_, w, ?_, rfl, Ext.refl hs⟩
      simp only [Builtin.copy_, t0, a0, a1, Sem.run_bind, run_desc w hd, Result.andThen_ok, hlen, run_sz w hsz, q2, Sem.run_pure]
      simp [goInt, storeCells]
    · split at he
      · rename_i h1 hset
        simp at he
        obtain ⟨rfl, rfl⟩ := he
        obtain ⟨w', r1, r2⟩ := setCells_ok (P := P) hs hbe hset q1
        refine ⟨_, w', ?_, rfl, r2⟩
        simp only [Builtin.copy_, t0, a0, a1, Sem.run_bind, run_desc w hd, Result.andThen_ok, hlen, run_sz w hsz, q2, Sem.run_pure]
        simp [goInt, r1]
      · simp at he
  | _ => simp at he

theorem clear_ok {w : World} (hs : Sim B ρ h w.heap) {ts : Array TypeId} {as : Array Value} {t ty : TypeId} {x v : AV} {x' : Value} (t0 : ts[0]? = some t) (a0 : as[0]? = some x') {h' : H}
    (he : (match desc P t, x with
        | some (.map _ _), .mn => some (undefA, h)
        | some (.map _ _), .m id => (match h.t.get id with | some (.map _ clock) => some (undefA, h.upd id (.map [] clock)) | _ => none)
        | some (.slice _), .sn => some (undefA, h)
        | some (.slice _), .sl _ _ _ 0 _ => some (undefA, h)
        | some (.slice e), .sl id off _ n _ => (match zeroOf P e with
          | some z => (match setCells h id off (repl n z.cells) with | some h' => some (undefA, h') | none => none)
          | none => none)
        | _, _ => (none : Option (AV × H))) = some (v, h')) (hxv : conc ρ x = some x') :
    ∃ v' w', (Builtin.clear_ ts ty as).run P w = .ok v' w' ∧ conc ρ v = some v' ∧ Ext B ρ h w ρ h' w' := by
  split at he
  · rename_i hd
    simp at he
    obtain ⟨rfl, rfl⟩ := he
    simp [conc] at hxv
    subst hxv
    exact ⟨.tuple #[], w, by simp [Builtin.clear_, t0, a0, run_desc w hd], by simp [undefA, conc, concs], Ext.refl hs⟩
  · rename_i id hd
    simp only [conc, Option.map_eq_some_iff] at hxv
    obtain ⟨be, hbe, rfl⟩ := hxv
    split at he
    · rename_i es clock hg
      simp at he
      obtain ⟨rfl, rfl⟩ := he
      obtain ⟨l, h1, h2⟩ := hs.blk id _ be hg hbe
      refine ⟨.tuple #[], { w with heap := w.heap.setIfInBounds be.1 (.map #[] clock) }, ?_, by simp [undefA, conc, concs], Ext.upd hs hg hbe rfl (setObj_but w be.1 _) ⟨[], setObj_get h1 _, rfl⟩⟩
      simp only [Builtin.clear_, t0, a0, Sem.run_bind, run_desc w hd, Result.andThen_ok, run_getObj w be.1 h1 (by simp), run_setObj w be.1 h1 (by simp), Sem.run_pure]
    · simp at he
  · rename_i hd
    simp at he
    obtain ⟨rfl, rfl⟩ := he
    simp [conc] at hxv
    subst hxv
    exact ⟨.tuple #[], w, by simp [Builtin.clear_, t0, a0, run_desc w hd], by simp [undefA, conc, concs], Ext.refl hs⟩
  · rename_i id off beg cap hd
    simp at he
    obtain ⟨rfl, rfl⟩ := he
    simp only [conc, Option.map_eq_some_iff] at hxv
    obtain ⟨be, hbe, rfl⟩ := hxv
    exact ⟨.tuple #[], w, by simp [Builtin.clear_, t0, a0, run_desc w hd], by simp [undefA, conc, concs], Ext.refl hs⟩
  · rename_i e id off beg n cap hn hd
    simp only [conc, Option.map_eq_some_iff] at hxv
    obtain ⟨be, hbe, rfl⟩ := hxv
    split at he
    · rename_i z hz
      split at he
      · rename_i h1 hset
        simp at he
        obtain ⟨rfl, rfl⟩ := he
        obtain ⟨z0, hz1, hz2⟩ := run_zero (P := P) w ρ hz
        have hr := repl_ok (conc_cells hz2) n
        rw [← zeroCells_ok] at hr
        obtain ⟨w', r1, r2⟩ := setCells_ok (P := P) hs hbe hset hr
        refine ⟨.tuple #[], w', ?_, by simp [undefA, conc, concs], r2⟩
        have hn0 : n ≠ 0 := by
          intro e0
          subst e0
          simp at hn
        obtain ⟨n, rfl⟩ : ∃ k, n = k + 1 := ⟨n - 1, by omega⟩
        simp only [Builtin.clear_, t0, a0, Sem.run_bind, run_desc w hd, Result.andThen_ok, hz1, r1, Sem.run_pure]
      · simp at he
    · simp at he
  · simp at he

end Go.Ev
