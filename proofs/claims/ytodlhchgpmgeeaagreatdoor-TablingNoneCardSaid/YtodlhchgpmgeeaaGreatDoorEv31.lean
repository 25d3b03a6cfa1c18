/-
  THE EVALUATOR's SOUNDNESS, part 30: all of it.
-/
import Derived.Test.YtodlhchgpmgeeaaGreatDoorEv30
namespace Go.Ev
open Go.RowKit
set_option linter.unusedSimpArgs false

variable {P : Program} {G : Plug} {B : Nat}

theorem Post.then {ρ : Rho} {h : H} {w : World} {x : X} {s' : St} {Kn : Act → World → Prop} {Q : Exit → Act → World → Prop} (hn : x = .normal → ∀ a' w' , Post B ρ h w x s' .normal a' w' → Kn a' w')
    (hq : x ≠ .normal → ∀ e a' w', Post B ρ h w x s' e a' w' → Q e a' w') : ∀ e a' w', Post B ρ h w x s' e a' w' → Exit.then Kn Q e a' w' := by
  intro e a' w' hp
  obtain ⟨ρ', he, h1, h2, h3⟩ := hp
  subst he
  cases x with
  | normal => exact hn rfl a' w' ⟨ρ', rfl, h1, h2, h3⟩
  | exit id => exact hq (by simp) _ a' w' ⟨ρ', rfl, h1, h2, h3⟩
  | goto l => exact hq (by simp) _ a' w' ⟨ρ', rfl, h1, h2, h3⟩
  | ret => exact hq (by simp) _ a' w' ⟨ρ', rfl, h1, h2, h3⟩

theorem step_sound (hG : Good P G B) {ev : Option K → Code → St → R (X × St)} (ih : Sound P B ev) : Sound P B (stepA P G ev) := by
  intro ctx c s x s' he ρ ro a w hc hs ht hd
  have here : Post B ρ s.h w .normal s .normal a w := ⟨ρ, rfl, Ext.refl hs, ht, hd⟩
  cases c with
  | skip =>
    simp [stepA] at he
    obtain ⟨rfl, rfl⟩ := he
    exact .of_wpIn rfl (wpIn_skip here)
  | label l =>
    simp [stepA] at he
    obtain ⟨rfl, rfl⟩ := he
    exact .of_wpIn rfl (wpIn_label here)
  | exit id =>
    simp [stepA] at he
    obtain ⟨rfl, rfl⟩ := he
    exact .of_wpIn rfl (wpIn_exit ⟨ρ, rfl, Ext.refl hs, ht, hd⟩)
  | goto l =>
    simp [stepA] at he
    obtain ⟨rfl, rfl⟩ := he
    exact .of_wpIn rfl (wpIn_goto ⟨ρ, rfl, Ext.refl hs, ht, hd⟩)
  | ret =>
    simp [stepA] at he
    obtain ⟨rfl, rfl⟩ := he
    exact .of_wpIn rfl (wpIn_ret ⟨ρ, rfl, Ext.refl hs, ht, hd⟩)
  | refuse m => simp [stepA] at he
  | region id ops draw =>
    simp only [stepA] at he
    split at he
    case h_2 => simp at he
    rename_i s1 hreg
    simp at he
    obtain ⟨rfl, rfl⟩ := he
    exact .of_wpIn rfl (region_ok hG ih hc.isSome hreg hs ht hd fun ρ' a' w' h1 h2 h3 => ⟨ρ', rfl, h1, h2, h3⟩)
  | seq c1 c2 =>
    simp only [stepA] at he
    refine .of_wpIn rfl (wpIn_seq ?_)
    split at he
    · rename_i s1 h1
      refine Go.wpIn_mono (ih _ _ _ _ _ h1 ρ ro a w hc hs ht hd).wpIn (Post.then (fun _ a' w' hp => ?_) (fun hx => absurd rfl hx))
      obtain ⟨ρ', _, hx, ht', hd'⟩ := hp
      exact Go.wpIn_mono (ih _ _ _ _ _ he ρ' ro a' w' (hc.mono hx.le) hx.sim ht' hd').wpIn fun e a2 w2 hp2 => hp2.trans hx
    · rename_i hne
      refine Go.wpIn_mono (ih _ _ _ _ _ he ρ ro a w hc hs ht hd).wpIn (Post.then (fun hx => ?_) (fun _ _ _ _ hp => hp))
      subst hx
      exact absurd he (hne s')
  | cond cv c1 c2 =>
    simp only [stepA] at he
    split at he
    · rename_i hv
      have := opv_ok hs ht hv
      simp [conc] at this
      exact .of_wpIn rfl (wpIn_cond_true this.symm (ih _ _ _ _ _ he ρ ro a w hc hs ht hd).wpIn)
    · rename_i hv
      have := opv_ok hs ht hv
      simp [conc] at this
      exact .of_wpIn rfl (wpIn_cond_false this.symm (ih _ _ _ _ _ he ρ ro a w hc hs ht hd).wpIn)
    · simp at he
  | block id c1 =>
    simp only [stepA] at he
    refine .of_wpIn rfl (wpIn_block ?_)
    split at he
    · rename_i id' s1 h1
      refine Go.wpIn_mono (ih _ _ _ _ _ h1 ρ ro a w hc hs ht hd).wpIn fun e a' w' hp => ?_
      obtain ⟨ρ', rfl, hx, ht', hd'⟩ := hp
      simp only [X.out, Exit.inBlock]
      split at he
      · rename_i hid
        rw [Nat.beq_eq] at hid
        simp at he
        obtain ⟨rfl, rfl⟩ := he
        rw [if_pos hid]
        exact ⟨ρ', rfl, hx, ht', hd'⟩
      · rename_i hid
        rw [Nat.beq_eq] at hid
        simp at he
        obtain ⟨rfl, rfl⟩ := he
        rw [if_neg hid]
        exact ⟨ρ', rfl, hx, ht', hd'⟩
    · rename_i hne
      refine Go.wpIn_mono (ih _ _ _ _ _ he ρ ro a w hc hs ht hd).wpIn fun e a' w' hp => ?_
      obtain ⟨ρ', he', hx, ht', hd'⟩ := hp
      subst he'
      cases x with
      | exit id' => exact absurd he (hne id' s')
      | normal => exact ⟨ρ', rfl, hx, ht', hd'⟩
      | goto l => exact ⟨ρ', rfl, hx, ht', hd'⟩
      | ret => exact ⟨ρ', rfl, hx, ht', hd'⟩
  | loop c1 =>
    simp only [stepA] at he
    refine wp1_loop ?_
    split at he
    · rename_i s1 h1
      refine Go.wpIn_mono (ih _ _ _ _ _ h1 ρ ro a w hc hs ht hd).wpIn (Post.then (fun _ a' w' hp => ?_) (fun hx => absurd rfl hx))
      obtain ⟨ρ', _, hx, ht', hd'⟩ := hp
      exact (ih _ _ _ _ _ he ρ' ro a' w' (hc.mono hx.le) hx.sim ht' hd').mono fun e a2 w2 hp2 => hp2.trans hx
    · rename_i hne
      refine Go.wpIn_mono (ih _ _ _ _ _ he ρ ro a w hc hs ht hd).wpIn (Post.then (fun hx => ?_) (fun _ _ _ _ hp => hp))
      subst hx
      exact absurd he (hne s')
  | scope c1 =>
    simp only [stepA] at he
    split at he
    case h_2 => simp at he
    rename_i r h1
    obtain ⟨x1, s1⟩ := r
    refine wp1_scope (wpS_step (Go.wpIn_mono (ih _ _ _ _ _ h1 ρ ro a w hc hs ht hd).wpIn fun e a' w' hp => ?_))
    obtain ⟨ρ', he', hx, ht', hd'⟩ := hp
    have hrec := scope_ok ih _ x1 s1 _ he ρ' ro a' w' (hc.mono hx.le) hx.sim ht' hd'
    subst he'
    cases x1 with
    | normal => exact hrec.trans hx
    | ret => exact hrec.trans hx
    | exit id => exact hrec.trans hx
    | goto l' =>
      simp only [X.out] at hrec ⊢
      cases hf' : findLabel c1 l' with
      | none => rw [hf'] at hrec; exact hrec.trans hx
      | some rest' =>
        rw [hf'] at hrec
        intro b k cs hro
        obtain ⟨e, a2, w2, q, r'⟩ := hrec b k cs hro
        exact ⟨e, a2, w2, q.trans hx, r'⟩
  | rangeFunc f params asg body =>
    simp only [stepA] at he
    split at he
    case h_2 => simp at he
    rename_i g first cap hf
    split at he
    case h_1 => simp at he
    rename_i dk h1 mark hen
    split at he
    case h_1 => simp at he
    rename_i v h2 hbody
    obtain ⟨f1, c1, q1, q2, q3⟩ := fnVal (opv_ok hs ht hf) rfl
    refine .of_wpIn rfl (wpIn_rangeFunc fun fn _ => ?_)
    rw [fen_round]
    obtain ⟨ρ1, l, e, marks, w1, g1, g2, g3, g4⟩ := enter_ok hc hen hs ht params asg body fn
    have hy : concs ρ1 [.fn (.yield 0) [.p h1.nx 0] []] = some [.func (.yield l) #[] #[]] := by simp [concs, conc, g2]
    have hall := concs_append _ _ _ _ (concs_append _ _ _ _ (concs_mono g4.le _ _ q1) hy) (concs_mono g4.le _ _ q2)
    obtain ⟨b1, b2⟩ := body_ok hG ih hbody g4.sim hall
    have hargs : (f1.toArray ++ #[Value.func (.yield l) #[] #[]]) ++ c1.toArray = (f1 ++ [Value.func (.yield l) #[] #[]] ++ c1).toArray := by simp
    have b3 : CallsIn (fen ro) (0 - 1) P g (f1 ++ [Value.func (.yield l) #[] #[]] ++ c1).toArray w1 (Ret B ρ1 (h1.new (.loop { state := .ready, pending := none, tmps := s.t, nt := s.nt, params := params.toList, asg, body, dblock := dk })) w1 v h2) := by
      cases ro
      · exact b2
      · exact CallsIn.inRound _ b2
    refine ⟨l, marks, w1, { target := .fn (.func g) c1.toArray, args := f1.toArray ++ #[Value.func (.yield l) #[] #[]] }, w1, g, (f1 ++ [Value.func (.yield l) #[] #[]] ++ c1).toArray, w1, g1, ?_, fun f' _ => fen_fn ro f', ?_, fen_one ro 0, CallsIn.mono b3 fun e3 w3 hr => ?_⟩
    · have e1 : (rangeCall f l).args.map a.eval = #[Value.func (.yield l) #[] #[]] := by simp [rangeCall, Act.eval]
      simp only [resolve, e1, q3, Deferred.ofValue, Sem.run_pure]
    · simp only [invoke, hargs]
      exact b1 w1
    · obtain ⟨ρ3, y, rfl, hv, hx⟩ := hr
      simp only [rangePost]
      split at he
      case h_2 => simp at he
      rename_i r hg
      have hl3 := hx.le _ _ g2
      obtain ⟨o, k1, k2, k3, k4, k5, k6, k7, k9⟩ := loop_upd hx.sim hg hl3
      have hx4 := k9 .exhausted r.pending
      have hd3 : DOk ρ3 (mark ++ s.ds) (marks ++ a.defers) := (g3.mono hx.le).append (hd.mono (g4.trans hx).le)
      have hne : r.state ≠ .busy := by
        intro e0
        rw [e0] at he
        simp at he
      have hend : (Instr.endLoop l).run P w3 = .ok r.pending { w3 with heap := w3.heap.setIfInBounds l (.loop { o with state := .exhausted, pending := r.pending }) } := by
        have hb : (o.state == .busy) = false := by
          rw [k2]
          cases hst : r.state <;> first | rfl | exact absurd hst hne
        simp only [Instr.endLoop, Instr.getLoop, Sem.run_bind, run_getObj w3 l k1 (by simp), Result.andThen_ok, Sem.run_pure, hb, Bool.false_eq_true, if_false, run_setObj w3 l k1 (by simp), k3]
      refine ⟨r.pending, _, hend, ?_⟩
      have hall3 := (g4.trans hx).trans hx4
      split at he
      · simp at he
      · cases hpe : r.pending with
        | none =>
          rw [hpe] at he
          simp at he
          obtain ⟨rfl, rfl⟩ := he
          rw [hpe] at hall3
          exact ⟨ρ3, rfl, hall3, ht.mono (g4.trans hx).le, hd3⟩
        | some c =>
          rw [hpe] at he
          simp only at he
          rw [hpe] at hall3
          refine Go.wpIn_mono (ih _ _ _ _ _ he ρ3 ro { tmps := a.tmps, defers := marks ++ a.defers } _ (hc.mono (g4.trans hx).le) hall3.sim (ht.mono (g4.trans hx).le) hd3).wpIn fun e a2 w2 hp2 => hp2.trans hall3

theorem ev_sound (hG : Good P G B) : ∀ n, Sound P B (ev P G n)
  | 0 => fun ctx c s x s' he => by simp [ev] at he
  | n + 1 => step_sound hG (ev_sound hG n)

/-- **the evaluator's word is the model's** -/
theorem run_sound (hG : Good P G B) {n : Nat} {f : FuncId} {args : List AV} {h : H} {v : AV} {h' : H} (he : run P G n f args h = .ok (v, h')) {ρ : Rho} {w : World} (hs : Sim B ρ h w.heap) {as : List Value} (ha : concs ρ args = some as) :
    CalleeOk P f as.toArray w (Ret B ρ h w v h') := call_ok hG (ev_sound hG n) he hs ha

end Go.Ev
