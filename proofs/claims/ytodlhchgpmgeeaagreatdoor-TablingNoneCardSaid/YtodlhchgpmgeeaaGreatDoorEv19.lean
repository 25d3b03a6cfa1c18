/-
  THE EVALUATOR's SOUNDNESS, part 18: control, but for regions, calls and rounds.
-/
import Derived.Test.YtodlhchgpmgeeaaGreatDoorEv18
namespace Go.Ev
open Go.RowKit
set_option linter.unusedSimpArgs false

variable {P : Program} {B : Nat} {ρ : Rho} {h : H}

section steps
variable {b : Frame} {a : Act} {k : List Item} {cs : List Frame} {w : World}
theorem stepR_scope {c : Code} : step P (lone (b.atR a (.code (.scope c) :: k)) cs w) = .next (lone (b.atR a (.code c :: .inScope c :: k)) cs w) :=
  step_lone_go (by simp [stepG, stepG.exec, Frame.atR])
theorem stepR_inScope {c : Code} : step P (lone (b.atR a (.inScope c :: k)) cs w) = .next (lone (b.atR a k) cs w) :=
  step_lone_go (by simp [stepG, stepG.exec, Frame.atR])
end steps

variable {ro : Option Nat} {Q : Exit → Act → World → Prop} {a : Act} {w : World}

/-- a loop, one pass and the rest -/
theorem wp1_loop {c : Code} (hp : c.wpIn (fen ro) 0 P (Exit.then (fun a w => Wp1 P ro (.loop c) Q a w) Q) a w) : Wp1 P ro (.loop c) Q a w := by
  intro b k cs hro
  obtain ⟨e, a₁, w₁, hq, harr⟩ := hp b (.inLoop c :: k) cs (by rw [fen_round]; exact hro) (fen_fn ro _) (fen_room ro _)
  cases e with
  | normal =>
    obtain ⟨e₂, a₂, w₂, hq₂, harr₂⟩ := hq b k cs hro
    exact ⟨e₂, a₂, w₂, hq₂, .of_steps (StepsIn.trans harr (.one (fen_calm rfl) stepR_inLoop)) harr₂⟩
  | exit id => exact ⟨_, a₁, w₁, hq, .pass (x := .inLoop c) rfl (fun _ _ => .inl (by simp)) harr⟩
  | goto l => exact ⟨_, a₁, w₁, hq, .pass (x := .inLoop c) rfl (fun _ _ => .inl (by simp)) harr⟩
  | ret => exact ⟨_, a₁, w₁, hq, .pass (x := .inLoop c) rfl (fun _ _ => .inl (by simp)) harr⟩
  | panic ch => exact ⟨_, a₁, w₁, hq, .pass (x := .inLoop c) rfl (fun _ _ => .inl (by simp)) harr⟩
  | outgrown => exact ⟨_, a₁, w₁, hq, .pass (x := .inLoop c) rfl (fun _ _ => .inl (by simp)) harr⟩

/-- code within a scope -/
def WpS (P : Program) (ro : Option Nat) (c : Code) (rest : Code) (Q : Exit → Act → World → Prop) (a : Act) (w : World) : Prop :=
  ∀ (b : Frame) (k : List Item) (cs : List Frame), b.roundOf = ro →
    ∃ e a' w', Q e a' w' ∧ ArrivesIn (Machine.fenced P (fen ro)) P (lone (b.atR a (.code rest :: .inScope c :: k)) cs w) b k cs e a' w'

/-- one pass through a scope's code: it is left for good, or by a goto back into it -/
theorem wpS_step {c rest : Code} (hp : rest.wpIn (fen ro) 0 P (fun e a w => match e with
      | .goto l => (match findLabel c l with | some rest' => WpS P ro c rest' Q a w | none => Q (.goto l) a w)
      | e => Q e a w) a w) : WpS P ro c rest Q a w := by
  intro b k cs hro
  obtain ⟨e, a₁, w₁, hq, harr⟩ := hp b (.inScope c :: k) cs (by rw [fen_round]; exact hro) (fen_fn ro _) (fen_room ro _)
  cases e with
  | normal => exact ⟨.normal, a₁, w₁, hq, StepsIn.trans harr (.one (fen_calm rfl) stepR_inScope)⟩
  | exit id => exact ⟨.exit id, a₁, w₁, hq, fun k' hk => harr.1 k' (by simp [exitTo, hk]), fun hr' hk => harr.2 hr' (by simp [exitTo, hk])⟩
  | goto l =>
    simp only at hq
    cases hf : findLabel c l with
    | none =>
      rw [hf] at hq
      exact ⟨.goto l, a₁, w₁, hq, fun k' hk => harr.1 k' (by simp [gotoIn, hf, hk]), fun hr' hk => harr.2 hr' (by simp [gotoIn, hf, hk])⟩
    | some rest' =>
      rw [hf] at hq
      obtain ⟨e₂, a₂, w₂, hq₂, harr₂⟩ := hq b k cs hro
      exact ⟨e₂, a₂, w₂, hq₂, .of_steps (harr.1 _ (by simp [gotoIn, hf])) harr₂⟩
  | ret => exact ⟨_, a₁, w₁, hq, harr⟩
  | panic ch => exact ⟨_, a₁, w₁, hq, harr⟩
  | outgrown => exact ⟨_, a₁, w₁, hq, harr⟩
theorem wp1_scope {c : Code} (hp : WpS P ro c c Q a w) : Wp1 P ro (.scope c) Q a w := by
  intro b k cs hro
  obtain ⟨e, a', w', q, r⟩ := hp b k cs hro
  exact ⟨e, a', w', q, .of_steps (.one (fen_calm rfl) stepR_scope) r⟩

theorem scope_ok {ev : Option K → Code → St → R (X × St)} (ih : Sound P B ev) {ctx : Option K} {c : Code} : ∀ (n : Nat) (x : X) (s : St) (r : X × St), scopeA ev ctx c n (x, s) = .ok r →
    ∀ ρ ro a w, CtxOk ρ ctx ro → Sim B ρ s.h w.heap → TOk ρ s.t s.nt a.tmps → DOk ρ s.ds a.defers →
      (match x with
       | .goto l => (match findLabel c l with | some rest => WpS P ro c rest (Post B ρ s.h w r.1 r.2) a w | none => Post B ρ s.h w r.1 r.2 (.goto l) a w)
       | x => Post B ρ s.h w r.1 r.2 x.out a w)
  | 0, x, s, r, hs => by simp [scopeA] at hs
  | n + 1, x, s, r, hs => by
    intro ρ ro a w hc hsim ht hd
    have done : ∀ x' : X, r = (x', s) → Post B ρ s.h w r.1 r.2 x'.out a w := fun x' e => by
      subst e
      exact ⟨ρ, rfl, Ext.refl hsim, ht, hd⟩
    cases x with
    | normal => simp [scopeA] at hs; exact done _ hs.symm
    | ret => simp [scopeA] at hs; exact done _ hs.symm
    | exit id => simp [scopeA] at hs; exact done _ hs.symm
    | goto l =>
      simp only [scopeA] at hs
      simp only
      cases hf : findLabel c l with
      | none => rw [hf] at hs; simp at hs; exact done _ hs.symm
      | some rest =>
        rw [hf] at hs
        simp only at hs
        split at hs
        case h_2 => simp at hs
        rename_i q hq
        obtain ⟨x1, s1⟩ := q
        have hw := (ih _ _ _ _ _ hq ρ ro a w hc hsim ht hd).wpIn
        refine wpS_step (Go.wpIn_mono hw fun e a' w' hp => ?_)
        obtain ⟨ρ', he, hx, ht', hd'⟩ := hp
        have hrec := scope_ok ih n x1 s1 r hs ρ' ro a' w' (hc.mono hx.le) hx.sim ht' hd'
        subst he
        cases x1 with
        | normal => exact hrec.trans hx
        | ret => exact hrec.trans hx
        | exit id => exact hrec.trans hx
        | goto l' =>
          simp only [X.out] at hrec ⊢
          cases hf' : findLabel c l' with
          | none => rw [hf'] at hrec; exact hrec.trans hx
          | some rest' =>
            rw [hf'] at hrec
            intro b k cs hro
            obtain ⟨e, a2, w2, q, r'⟩ := hrec b k cs hro
            exact ⟨e, a2, w2, q.trans hx, r'⟩

end Go.Ev
