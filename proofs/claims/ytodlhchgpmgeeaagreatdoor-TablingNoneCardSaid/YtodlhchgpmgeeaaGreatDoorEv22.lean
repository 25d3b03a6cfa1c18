/-
  THE EVALUATOR's SOUNDNESS, part 21: operations that act; regions in their own order.
-/
import Derived.Test.YtodlhchgpmgeeaaGreatDoorEv21
namespace Go.Ev
open Go.RowKit
set_option linter.unusedSimpArgs false

variable {P : Program} {B : Nat} {ρ : Rho} {h : H}

/-- an operation that acts: its value, the heap, the deferred calls -/
def actV (P : Program) (G : Plug) (rd : Bool) (ev : Option K → Code → St → R (X × St)) (o : Oper) (t : Tr AV) (h : H) (ds : List (AV × List AV)) : R (AV × H × List (AV × List AV)) :=
  match effA P t h o.op with
  | some (v, h) => .ok (v, h, ds)
  | none =>
    match o.op with
    | .call c => (match c.callee with
      | .value f => (match opv t f, opvs t c.args.toList with
        | some fv, some args => (match callV P G ev fv args h with
          | .ok (v, h) => .ok (v, h, ds)
          | .er n => .er n)
        | _, _ => .er 30)
      | _ => .er (2 + 256 * enc o.pos.toUTF8.data.toList))
    | .defer c => (match c.callee with
      | .value f => (match opv t f, opvs t c.args.toList with
        | some (.fn (.func g) a b), some args => if rd then .er 35 else .ok (undefA, h, (.fn (.func g) a b, args) :: ds)
        | _, _ => .er 33)
      | _ => .er 34)
    | _ => .er (3 + 256 * enc o.pos.toUTF8.data.toList)

theorem actA_eq (G : Plug) (rd : Bool) (ev : Option K → Code → St → R (X × St)) (o : Oper) (s : St) :
    actA P G rd ev o s = (match actV P G rd ev o s.t s.h s.ds with
      | .ok (v, h, ds) => .ok ({ s with h := h, ds := ds }.set o.dst v)
      | .er n => .er n) := by
  unfold actA actV
  cases h0 : effA P s.t s.h o.op with
  | some q => rfl
  | none =>
    simp only
    cases o.op <;> try rfl
    case call c =>
      simp only
      cases c.callee <;> try rfl
      case value f =>
        simp only
        cases opv s.t f <;> cases opvs s.t c.args.toList <;> try rfl
        case some.some fv args =>
          simp only
          cases callV P G ev fv args s.h <;> rfl
    case defer c =>
      simp only
      cases c.callee <;> try rfl
      case value f =>
        simp only
        cases opv s.t f with
        | none => cases opvs s.t c.args.toList <;> rfl
        | some fv =>
          cases opvs s.t c.args.toList with
          | none => cases fv <;> first | rfl | (rename_i fn _ _; cases fn <;> rfl)
          | some args =>
            cases fv <;> try rfl
            rename_i fn _ _
            cases fn <;> try rfl
            simp only
            cases rd <;> rfl

theorem fen_about {ro : Option Nat} (o : Oper) (w : World) (ρ' : Operand → Value) : ∀ f, o.about P w ρ' = some f → (fen ro).fn f := fun f _ => fen_fn ro f
theorem fen_sem {ro : Option Nat} (ρ' : Operand → Value) (o : Oper) (hd : ∀ c, o.op ≠ .defer c) : o.semAt (fen ro).round ρ' = execOp ρ' o := Oper.semAt_eq _ _ _ hd

theorem fnVal {f : AV} {f' : Value} (hf : conc ρ f = some f') {g : FuncId} {first cap : List AV} (e : f = .fn (.func g) first cap) : ∃ a b, concs ρ first = some a ∧ concs ρ cap = some b ∧ f' = .func (.func g) a.toArray b.toArray := by
  subst e
  simp only [conc] at hf
  split at hf
  · rename_i a b h1 h2
    simp at hf
    exact ⟨a, b, h1, h2, hf.symm⟩
  · simp at hf

set_option maxHeartbeats 1000000 in
theorem actV_ok {G : Plug} {ev : Option K → Code → St → R (X × St)} (hG : Good P G B) (ih : Sound P B ev) {rd : Bool} {o : Oper} {t : Tr AV} {nt : Nat} {ds ds2 : List (AV × List AV)} {v : AV} {h2 : H} (he : actV P G rd ev o t h ds = .ok (v, h2, ds2))
    {ro : Option Nat} (hro : rd = ro.isSome) {a : Act} {w : World} (hs : Sim B ρ h w.heap) (ht : TOk ρ t nt a.tmps) (hd : DOk ρ ds a.defers) {K : Act → World → Prop} {Q : Exit → Act → World → Prop}
    (hk : ∀ (ρ' : Rho) (x : Value) (a2 : Act) (w' : World), Ext B ρ h w ρ' h2 w' → conc ρ' v = some x → a2.tmps = a.tmps → DOk ρ' ds2 a2.defers → K (a2.put o.dst x) w') : o.wpIn (fen ro) 0 P a w K Q := by
  refine ⟨fen_about o w _, ?_⟩
  unfold actV at he
  split at he
  · -- it writes
    rename_i v' h' heff
    injection he with he
    injection he with e1 he
    injection he with e2 e3
    subst e1 e2 e3
    have hnd : ∀ c, o.op ≠ .defer c := by
      intro c hc
      rw [hc] at heff
      simp [effA] at heff
    rw [fen_sem _ _ hnd]
    obtain ⟨x, w', ρ', hrun, hv, hx⟩ := eff_ok (P := P) hs ht o heff
    rcases hrun with hrun | ⟨hrun, rfl⟩
    · rw [hrun]
      exact hk ρ' x a w' hx hv rfl (hd.mono hx.le)
    · rw [hrun]
      exact hk ρ' _ a w' hx hv rfl (hd.mono hx.le)
  · split at he
    · -- a call
      rename_i c hop
      have hnd : ∀ c, o.op ≠ .defer c := by
        intro c hc
        rw [hc] at hop
        simp at hop
      rw [fen_sem _ _ hnd]
      split at he
      case h_2 => simp at he
      rename_i f hcal
      split at he
      case h_2 => simp at he
      rename_i fv args hf hargs
      split at he
      case h_2 => simp at he
      rename_i v' h' hcall
      injection he with he
      injection he with e1 he
      injection he with e2 e3
      subst e1 e2 e3
      have hfv := opv_ok hs ht hf
      have has := opvs_ok hs ht hargs
      have hargsA : c.args.map a.eval = (c.args.toList.map a.eval).toArray := by
        apply Array.ext'
        simp
      unfold callV at hcall
      split at hcall
      · -- a function
        rename_i g first cap
        obtain ⟨f1, c1, q1, q2, q3⟩ := fnVal hfv rfl
        have hall := concs_append _ _ _ _ (concs_append _ _ _ _ q1 has) q2
        have hsem : (execOp a.eval o).run P w = (callFunc g (f1 ++ c.args.toList.map a.eval ++ c1).toArray).run P w := by
          simp only [execOp, hop, resolve, hcal, q3, Deferred.ofValue, Sem.run_bind, Sem.run_pure, Result.andThen_ok, invoke, hargsA]
          congr 2
          simp
        rw [hsem]
        rcases call_ok hG ih hcall hs hall with ⟨x, w', r1, r2⟩ | ⟨r1, r2⟩
        · obtain ⟨ρ', y, e0, hv, hx⟩ := r2
          injection e0 with e0
          subst e0
          rw [r1]
          exact hk ρ' x a w' hx hv rfl (hd.mono hx.le)
        · rw [r1, Oper.uponIn_enter]
          refine ⟨fen_one ro 0, ?_⟩
          have r3 : CallsIn (fen ro) (0 - 1) P g (f1 ++ c.args.toList.map a.eval ++ c1).toArray w (Ret B ρ h w v' h') := by
            cases ro
            · exact r2
            · exact CallsIn.inRound _ r2
          refine CallsIn.mono r3 fun e w' hr => ?_
          obtain ⟨ρ', x, rfl, hv, hx⟩ := hr
          exact hk ρ' x a w' hx hv rfl (hd.mono hx.le)
      · -- yield
        rename_i n l
        simp only [conc, Option.map_eq_some_iff] at hfv
        obtain ⟨be, hbe, q3⟩ := hfv
        obtain ⟨fn, tmps, asg, body, y1, y2⟩ := round_ok ih (lb := be.1) (e := be.2) hbe hcall hs has ro
        have hsem : (execOp a.eval o).run P w = .ok (.round be.1 fn tmps asg body) w := by
          simp only [execOp, hop, resolve, hcal, ← q3, Deferred.ofValue, Sem.run_bind, Sem.run_pure, Result.andThen_ok, invoke, hargsA]
          rw [show #[] ++ (c.args.toList.map a.eval).toArray = (c.args.toList.map a.eval).toArray by simp]
          exact y1
        rw [hsem, Oper.uponIn_round]
        refine ⟨fen_one ro 0, RoundIn.mono y2 fun e w' hr => ?_⟩
        obtain ⟨ρ', x, rfl, hv, hx⟩ := hr
        exact hk ρ' x a w' hx hv rfl (hd.mono hx.le)
      · simp at hcall
    · -- a deferred call
      rename_i c hop
      split at he
      case h_2 => simp at he
      rename_i f hcal
      split at he
      case h_2 => simp at he
      rename_i g first cap args hf hargs
      split at he
      · simp at he
      rename_i hrd
      have hron : ro = none := by
        cases ro with
        | none => rfl
        | some l => simp [hro] at hrd
      subst hron
      injection he with he
      injection he with e1 he
      injection he with e2 e3
      subst e1 e2 e3
      obtain ⟨f1, c1, q1, q2, q3⟩ := fnVal (opv_ok hs ht hf) rfl
      have has := opvs_ok hs ht hargs
      have hargsA : c.args.map a.eval = (c.args.toList.map a.eval).toArray := by
        apply Array.ext'
        simp
      have hsem : (o.semAt (fen none).round a.eval).run P w = .ok (.defer { target := .fn (.func g) c1.toArray, args := f1.toArray ++ (c.args.toList.map a.eval).toArray }) w := by
        rw [fen_round, Oper.semAt_none]
        simp only [execOp, hop, resolve, hcal, q3, Deferred.ofValue, Sem.run_bind, Sem.run_pure, Result.andThen_ok, hargsA]
      rw [hsem, Oper.uponIn_defer]
      exact hk ρ undef { a with defers := _ :: a.defers } w (Ext.refl hs) undef_ok rfl ⟨⟨f1, c1, _, q1, q2, has, rfl⟩, hd⟩
    · simp at he

/-- is it wanted -/
theorem wanted_ok {ops : Array Oper} {o : Oper} {t : Tr AV} {nt : Nat} {tmps : Array Value} (ht : TOk ρ t nt tmps) {b : Bool} (hw : wantedA ops o t = some b) : Region.wanted o (yielded ops tmps) = b := by
  unfold wantedA at hw
  unfold Region.wanted
  split at hw
  · simp at hw; rename_i hg; simp [hg, hw]
  · rename_i j want hg
    rw [hg]
    simp only
    split at hw
    case h_2 => simp at hw
    rename_i q hq
    split at hw
    case h_2 => simp at hw
    rename_i d hdst
    unfold yielded
    rw [hq]
    simp only [Option.bind_some, hdst]
    split at hw
    · rename_i v hv
      simp at hw
      subst hw
      obtain ⟨x, h1, h2⟩ := ht.2 d _ hv
      simp [conc] at h2
      subst h2
      rw [h1]
      cases v <;> cases want <;> rfl
    · rename_i u hne hv
      simp at hw
      subst hw
      obtain ⟨x, h1, h2⟩ := ht.2 d _ hv
      rw [h1]
      have : ∀ b, x ≠ .bool b := by
        intro b hb
        subst hb
        cases hu : u with
        | b y => exact hne y (by rw [hu])
        | fn f a c =>
          subst hu
          cases f <;> simp [conc] at h2
          all_goals (try (split at h2 <;> simp at h2))
        | se id a b c =>
          subst hu
          simp only [conc, Option.map_eq_some_iff] at h2
          obtain ⟨be, _, h2⟩ := h2
          split at h2 <;> simp at h2
        | _ =>
          subst hu
          simp [conc] at h2
      cases x <;> first | rfl | exact absurd rfl (this _)
    · simp at hw

end Go.Ev
