/-
  THE EVALUATOR's SOUNDNESS, part 16: everything that writes, but calls no code, in one.
-/
import Derived.Test.YtodlhchgpmgeeaaGreatDoorEv16
namespace Go.Ev
open Go.RowKit
set_option linter.unusedSimpArgs false

variable {P : Program} {B : Nat} {ρ : Rho} {h : H}

/-- what an operation that acts answers -/
def Answers (P : Program) (ρ : Rho) (h : H) (B : Nat) (o : Oper) (a : Act) (w : World) (v : AV) (h' : H) : Prop :=
  ∃ x w' ρ', ((execOp a.eval o).run P w = .ok (.value x) w' ∨ ((execOp a.eval o).run P w = .ok .skip w' ∧ x = undef)) ∧ conc ρ' v = some x ∧ Ext B ρ h w ρ' h' w'

theorem opvs_two {w : World} (hs : Sim B ρ h w.heap) {t : Tr AV} {nt : Nat} {a : Act} (ht : TOk ρ t nt a.tmps) {args : Array Operand} {x y : AV} (ho : opvs t args.toList = some [x, y]) :
    ∃ x' y', (args.map a.eval)[0]? = some x' ∧ (args.map a.eval)[1]? = some y' ∧ conc ρ x = some x' ∧ conc ρ y = some y' := by
  have hc := opvs_ok hs ht ho
  obtain ⟨a0, l0, h0, h1, e0⟩ := concs_cons hc
  obtain ⟨a1, l1, h2, h3, e1⟩ := concs_cons h1
  subst e1
  refine ⟨a0, a1, ?_, ?_, h0, h2⟩
  · rw [← Array.getElem?_toList, Array.toList_map, e0]; rfl
  · rw [← Array.getElem?_toList, Array.toList_map, e0]; rfl
theorem opvs_one {w : World} (hs : Sim B ρ h w.heap) {t : Tr AV} {nt : Nat} {a : Act} (ht : TOk ρ t nt a.tmps) {args : Array Operand} {x : AV} (ho : opvs t args.toList = some [x]) :
    ∃ x', (args.map a.eval)[0]? = some x' ∧ conc ρ x = some x' := by
  have hc := opvs_ok hs ht ho
  obtain ⟨a0, l0, h0, h1, e0⟩ := concs_cons hc
  refine ⟨a0, ?_, h0⟩
  rw [← Array.getElem?_toList, Array.toList_map, e0]; rfl

set_option maxHeartbeats 1000000 in
theorem eff_ok {w : World} (hs : Sim B ρ h w.heap) {t : Tr AV} {nt : Nat} {a : Act} (ht : TOk ρ t nt a.tmps) (o : Oper) {v : AV} {h' : H} (he : effA P t h o.op = some (v, h')) : Answers P ρ h B o a w v h' := by
  obtain ⟨dst, op, ty, pos, after, guard⟩ := o
  simp only at he
  cases op <;> simp only [effA, reduceCtorEq] at he
  case store st x y =>
    split at he
    case h_2 => simp at he
    rename_i id off u n hx hu hn
    split at he
    case isFalse => simp at he
    rename_i hl
    rw [Nat.beq_eq] at hl
    split at he
    case h_2 => simp at he
    rename_i h1 hset
    simp at he
    obtain ⟨rfl, rfl⟩ := he
    obtain ⟨w', r1, r2⟩ := store_ok (P := P) hs st (opv_ok hs ht hx) (opv_ok hs ht hu) hn hl hset
    exact ⟨undef, w', ρ, .inr ⟨by simp [execOp, r1], rfl⟩, by simp [undefA, conc, concs, undef], r2⟩
  case mapUpdate mt m k x =>
    split at he
    case h_2 => simp at he
    rename_i m' k' v' hm hk hv
    split at he
    case h_2 => simp at he
    rename_i h1 hu
    simp at he
    obtain ⟨rfl, rfl⟩ := he
    obtain ⟨w', r1, r2⟩ := mapUpdate_ok (P := P) hs mt (opv_ok hs ht hm) (opv_ok hs ht hk) (opv_ok hs ht hv) hu
    exact ⟨undef, w', ρ, .inr ⟨by simp [execOp, r1], rfl⟩, by simp [undefA, conc, concs, undef], r2⟩
  case insert mt m k x =>
    split at he
    case h_2 => simp at he
    rename_i m' k' v' hm hk hv
    split at he
    case h_2 => simp at he
    rename_i h1 hu
    simp at he
    obtain ⟨rfl, rfl⟩ := he
    obtain ⟨w', r1, r2⟩ := mapUpdate_ok (P := P) hs mt (opv_ok hs ht hm) (opv_ok hs ht hk) (opv_ok hs ht hv) hu
    exact ⟨undef, w', ρ, .inr ⟨by simp [execOp, r1], rfl⟩, by simp [undefA, conc, concs, undef], r2⟩
  case range rt x =>
    cases hx : opv t x with
    | none => rw [hx] at he; simp at he
    | some xv =>
      obtain ⟨v', w', ρ', r1, r2, r3⟩ := range_ok (P := P) hs rt (x := xv) (v := v) (h' := h') (by
        rw [hx] at he
        split at he
        · rename_i e1 e2; simp at e1; subst e1; rw [e2]; exact he
        · rename_i e1 e2; simp at e1; subst e1; rw [e2]; exact he
        · rename_i e1 e2; simp at e1; subst e1; rw [e2]; exact he
        · simp at he) _ (opv_ok hs ht hx)
      exact ⟨v', w', ρ', .inl (by simp [execOp, r1]), r2, r3⟩
  case next x isStr =>
    split at he
    case h_2 => simp at he
    rename_i it hx
    obtain ⟨v', w', r1, r2, r3⟩ := next_ok (P := P) hs ty (opv_ok hs ht hx) isStr he
    exact ⟨v', w', ρ, .inl (by simp [execOp, r1]), r2, r3⟩
  case entry x =>
    split at he
    case h_2 => simp at he
    rename_i it hx
    split at he
    case h_2 => simp at he
    rename_i u hu
    simp at he
    obtain ⟨rfl, rfl⟩ := he
    obtain ⟨v', r1, r2⟩ := entry_ok (P := P) hs (opv_ok hs ht hx) hu
    exact ⟨v', w, ρ, .inl (by simp [execOp, r1]), r2, Ext.refl hs⟩
  case call c =>
    obtain ⟨callee, args, argTypes⟩ := c
    simp only at he
    split at he
    · -- append
      split at he
      case h_2 => simp at he
      rename_i s x sT xT hv hts
      obtain ⟨x', y', a0, a1, c0, c1⟩ := opvs_two hs ht hv
      have t0 : argTypes[0]? = some sT := by rw [← Array.getElem?_toList, hts]; rfl
      have t1 : argTypes[1]? = some xT := by rw [← Array.getElem?_toList, hts]; rfl
      obtain ⟨v', w', ρ', r1, r2, r3⟩ := append_ok hs t0 t1 a0 a1 c0 c1 he
      refine ⟨v', w', ρ', .inl ?_, r2, r3⟩
      simp only [execOp, resolve, Sem.run_bind, Sem.run_pure, Result.andThen_ok, invoke, builtin]
      rw [append_type, r1]
      rfl
    · -- copy
      split at he
      case h_2 => simp at he
      rename_i d x dT ts hv hts
      obtain ⟨x', y', a0, a1, c0, c1⟩ := opvs_two hs ht hv
      have t0 : argTypes[0]? = some dT := by rw [← Array.getElem?_toList, hts]; rfl
      split at he
      case h_2 => simp at he
      rename_i e hd
      split at he
      case h_2 => simp at he
      rename_i sz dl xl hsz hdl hxl
      split at he
      case h_2 => simp at he
      rename_i cs hf
      obtain ⟨v', w', r1, r2, r3⟩ := copy_ok (P := P) (ty := ty) hs t0 a0 a1 c1 hd hsz hxl he c0 hdl hf
      refine ⟨v', w', ρ, .inl ?_, r2, r3⟩
      simp only [execOp, resolve, Sem.run_bind, Sem.run_pure, Result.andThen_ok, invoke, builtin]
      rw [r1]
      rfl
    · -- delete
      split at he
      case h_2 => simp at he
      rename_i m k mT ts hv hts
      obtain ⟨x', y', a0, a1, c0, c1⟩ := opvs_two hs ht hv
      have t0 : argTypes[0]? = some mT := by rw [← Array.getElem?_toList, hts]; rfl
      split at he
      case h_2 => simp at he
      rename_i kt et hd
      split at he
      case isFalse => simp at he
      rename_i hk
      obtain ⟨v', w', r1, r2, r3⟩ := delete_ok (P := P) (ty := ty) hs t0 a0 a1 c1 hd hk he c0
      refine ⟨v', w', ρ, .inl ?_, r2, r3⟩
      simp only [execOp, resolve, Sem.run_bind, Sem.run_pure, Result.andThen_ok, invoke, builtin]
      rw [r1]
      rfl
    · -- clear
      split at he
      case h_2 => simp at he
      rename_i x xT ts hv hts
      obtain ⟨x', a0, c0⟩ := opvs_one hs ht hv
      have t0 : argTypes[0]? = some xT := by rw [← Array.getElem?_toList, hts]; rfl
      obtain ⟨v', w', r1, r2, r3⟩ := clear_ok (P := P) (ty := ty) hs t0 a0 he c0
      refine ⟨v', w', ρ, .inl ?_, r2, r3⟩
      simp only [execOp, resolve, Sem.run_bind, Sem.run_pure, Result.andThen_ok, invoke, builtin]
      rw [r1]
      rfl
    · simp at he

end Go.Ev
