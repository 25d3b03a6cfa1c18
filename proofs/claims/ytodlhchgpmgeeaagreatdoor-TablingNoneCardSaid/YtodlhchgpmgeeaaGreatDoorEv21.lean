/-
  THE EVALUATOR's SOUNDNESS, part 20: rounds; operations.
-/
import Derived.Test.YtodlhchgpmgeeaaGreatDoorEv20
namespace Go.Ev
open Go.RowKit
set_option linter.unusedSimpArgs false

variable {P : Program} {B : Nat} {ρ : Rho} {h : H}

theorem setParams_ok {nt : Nat} : ∀ (ps : List Tmp) (args : List AV) (t t' : Tr AV), setParams nt ps args t = some t' → ∀ {as : List Value} {tmps : Array Value}, concs ρ args = some as → TOk ρ t nt tmps →
    as.length = ps.length ∧ TOk ρ t' nt ((ps.zip as).foldl (fun tmps (x : Tmp × Value) => tmps.setIfInBounds x.1 x.2) tmps)
  | [], [], t, t', hp, as, tmps, hc, ht => by
    simp [setParams] at hp
    simp [concs] at hc
    subst hp hc
    exact ⟨rfl, ht⟩
  | p :: ps, v :: vs, t, t', hp, as, tmps, hc, ht => by
    simp only [setParams] at hp
    split at hp
    · rename_i hlt
      obtain ⟨x, y, hx, hy, rfl⟩ := concs_cons hc
      obtain ⟨h1, h2⟩ := setParams_ok ps vs _ t' hp hy (ht.put hx (d := p) (by simpa using hlt))
      exact ⟨by simp [h1], by simpa using h2⟩
    · simp at hp
  | [], _ :: _, t, t', hp, as, tmps, hc, ht => by simp [setParams] at hp
  | _ :: _, [], t, t', hp, as, tmps, hc, ht => by simp [setParams] at hp

/-- a loop's record, and what is written there -/
theorem loop_upd {w : World} (hs : Sim B ρ h w.heap) {l : K} {r : LoopR} {lb e : Nat} (hg : h.t.get l = some (.loop r)) (hl : ρ l = some (lb, e)) :
    ∃ o : Loop, w.heap[lb]? = some (.loop o) ∧ o.state = r.state ∧ o.pending = r.pending ∧ o.params = r.params.toArray ∧ o.assign = r.asg ∧ o.body = r.body ∧ TOk ρ r.tmps r.nt o.tmps ∧ 
      ∀ st pe, Ext B ρ h w ρ (h.upd l (.loop { r with state := st, pending := pe })) { w with heap := w.heap.setIfInBounds lb (.loop { o with state := st, pending := pe }) } := by
  obtain ⟨fn, tmps, be, q1, q2, q3⟩ := hs.blk l _ _ hg hl
  refine ⟨_, q3, rfl, rfl, rfl, rfl, rfl, q2, fun st pe => Ext.upd hs hg hl rfl (setObj_but w lb _) ?_⟩
  exact ⟨fn, tmps, be, q1, q2, setObj_get q3 _⟩

theorem fen_in (ro : Option Nat) (l : Nat) : (fen ro).inRound l = fen (some l) := by cases ro <;> rfl

set_option maxHeartbeats 1000000 in
theorem round_ok {ev : Option K → Code → St → R (X × St)} (ih : Sound P B ev) {l : K} {lb e : Nat} (hl : ρ l = some (lb, e)) {args : List AV} {v : AV} {h' : H} (hr : roundA ev l args h = .ok (v, h'))
    {w : World} (hs : Sim B ρ h w.heap) {as : List Value} (ha : concs ρ args = some as) (ro : Option Nat) :
    ∃ fn tmps asg body, (Instr.yield lb as.toArray).run P w = .ok (.round lb fn tmps asg body) w ∧ RoundIn (fen ro) 0 P lb fn tmps asg body w (Ret B ρ h w v h') := by
  unfold roundA at hr
  split at hr
  case h_2 => simp at hr
  rename_i r hg
  split at hr
  case h_1 => simp at hr
  rename_i t hsp
  obtain ⟨o, q1, q2, q3, q4, q5, q6, q7, _⟩ := loop_upd hs hg hl
  obtain ⟨p1, p2⟩ := setParams_ok _ _ _ _ hsp ha q7
  refine ⟨o.fn, (r.params.zip as).foldl (fun tmps (x : Tmp × Value) => tmps.setIfInBounds x.1 x.2) o.tmps, r.asg, r.body, ?_, ?_⟩
  · have hne : ¬ as.toArray.size ≠ o.params.size := by simp [q4, p1]
    simp only [Instr.yield, Instr.getLoop, Sem.run_bind, run_getObj w lb q1 (by simp), Result.andThen_ok, Sem.run_pure, hne, if_false, q5, q6]
    congr 2
    rw [q4]
    simp [← Array.foldl_toList]
  · refine roundIn_of_wpIn (fen_fn ro _) ?_
    rw [fen_in]
    split at hr
    case h_1 => simp at hr
    · -- the assignments
      rename_i s hev
      have hw := (ih _ _ _ _ _ hev ρ (some lb) { tmps := _, defers := [] } w ⟨e, hl⟩ hs p2 trivial).wpIn
      refine Go.wpIn_mono hw fun ex a₁ w₁ hp => ?_
      obtain ⟨ρ₁, rfl, hx₁, ht₁, hd₁⟩ := hp
      simp only [X.out, Exit.then]
      split at hr
      case h_2 => simp at hr
      rename_i r' hg'
      split at hr
      case h_2 => simp at hr
      rename_i hst
      have hl₁ := hx₁.le _ _ hl
      obtain ⟨o₁, k1, k2, k3, k4, k5, k6, k7, k9⟩ := loop_upd hx₁.sim hg' hl₁
      have k10 := k9 .busy r'.pending
      refine ⟨{ w₁ with heap := w₁.heap.setIfInBounds lb (.loop { o₁ with state := .busy, pending := r'.pending }) }, by
        simp only [Instr.beginRound, Instr.getLoop, Sem.run_bind, run_getObj w₁ lb k1 (by simp), Result.andThen_ok, Sem.run_pure, run_setObj w₁ lb k1 (by simp), k2, hst, k3], ?_⟩
      -- the body
      split at hr
      case h_1 => simp at hr
      rename_i x s₂ hev₂
      have hw₂ := (ih _ _ _ _ _ hev₂ ρ₁ (some lb) a₁ _ ⟨e, hl₁⟩ k10.sim ht₁ hd₁).wpIn
      refine Go.wpIn_mono hw₂ fun ex a₂ w₂ hp₂ => ?_
      obtain ⟨ρ₂, rfl, hx₂, ht₂, hd₂⟩ := hp₂
      split at hr
      case h_2 => simp at hr
      rename_i r'' hg''
      split at hr
      case h_2 => simp at hr
      have hl₂ := hx₂.le _ _ hl₁
      have fin : ∀ (jump : Option Code) (bv : Bool) (st : LoopState), st = (if jump.isNone then .ready else .done) → bv = jump.isNone →
          (Go.Ev.R.ok (AV.b bv, s₂.h.upd l (.loop { r'' with state := st, pending := jump })) : Go.Ev.R (AV × H)) = .ok (v, h') →
          ∃ u w₃, (Instr.endRound lb jump).run P w₂ = .ok u w₃ ∧ Ret B ρ h w v h' (.returned u) w₃ := by
        intro jump bv st e1 e2 e3
        subst e1 e2
        injection e3 with e3
        injection e3 with e4 e5
        subst e4 e5
        obtain ⟨o₂, m1, m2, m3, m4, m5, m6, m7, m9⟩ := loop_upd hx₂.sim hg'' hl₂
        refine ⟨_, _, ?_, ρ₂, .bool jump.isNone, rfl, rfl, (hx₁.trans (k10.trans hx₂)).trans (m9 (if jump.isNone then .ready else .done) jump)⟩
        simp only [Instr.endRound, Instr.getLoop, Sem.run_bind, run_getObj w₂ lb m1 (by simp), Result.andThen_ok, Sem.run_pure, run_setObj w₂ lb m1 (by simp)]
      cases x with
      | normal => exact fin none _ _ rfl rfl hr
      | ret => exact fin (some .ret) _ _ rfl rfl hr
      | exit id => exact fin (some (.exit id)) _ _ rfl rfl hr
      | goto t => exact fin (some (.goto t)) _ _ rfl rfl hr
    · simp at hr

end Go.Ev
