/-
  THE EVALUATOR's SOUNDNESS, part 17: frames, exits, deferred calls; what is asked of the evaluator of code.
-/
import Derived.Test.YtodlhchgpmgeeaaGreatDoorEv17
import Derived.RangeFuncCalls
namespace Go.Ev
open Go.RowKit
set_option linter.unusedSimpArgs false

variable {P : Program} {B : Nat} {ρ : Rho} {h : H}

/-- the fence: of an activation, or of a round of the loop l -/
def fen : Option Nat → Fence
  | none => Fence.wide
  | some l => Fence.wide.inRound l
theorem fen_fn (ro : Option Nat) (f : FuncId) : (fen ro).fn f := by cases ro <;> trivial
theorem fen_depth (ro : Option Nat) : (fen ro).depth = none := by cases ro <;> rfl
theorem fen_room (ro : Option Nat) (n : Nat) : (fen ro).room n := fun d hd => by rw [fen_depth] at hd; simp at hd
theorem fen_round (ro : Option Nat) : (fen ro).round = ro := by cases ro <;> rfl
theorem fen_one (ro : Option Nat) (n : Nat) : (fen ro).depth.isSome = true → 1 ≤ n := by rw [fen_depth]; simp

/-- the context of code: no round; a round of the loop at that key -/
def CtxOk (ρ : Rho) : Option K → Option Nat → Prop
  | none, none => True
  | some k, some l => ∃ e, ρ k = some (l, e)
  | _, _ => False
theorem CtxOk.mono {ρ ρ' : Rho} (hl : Le ρ ρ') : ∀ {ctx : Option K} {ro : Option Nat}, CtxOk ρ ctx ro → CtxOk ρ' ctx ro
  | none, none, _ => trivial
  | some _, some _, ⟨e, he⟩ => ⟨e, hl _ _ he⟩
theorem CtxOk.isSome {ctx : Option K} {ro : Option Nat} (h : CtxOk ρ ctx ro) : ctx.isSome = ro.isSome := by
  cases ctx <;> cases ro <;> first | rfl | exact h.elim

/-- a deferred call -/
def DefOk (ρ : Rho) (d : AV × List AV) (e : Deferred) : Prop :=
  match d.1 with
  | .p dk _ => d.2 = [] → ∃ b eo, ρ dk = some (b, eo) ∧ e = { target := .collected b, args := #[] }
  | .fn (.func g) first cap => ∃ f' c' a', concs ρ first = some f' ∧ concs ρ cap = some c' ∧ concs ρ d.2 = some a' ∧ e = { target := .fn (.func g) c'.toArray, args := f'.toArray ++ a'.toArray }
  | _ => True
def DOk (ρ : Rho) : List (AV × List AV) → List Deferred → Prop
  | [], [] => True
  | d :: ds, e :: es => DefOk ρ d e ∧ DOk ρ ds es
  | _, _ => False
theorem DefOk.mono {ρ ρ' : Rho} (hl : Le ρ ρ') {d : AV × List AV} {e : Deferred} (h : DefOk ρ d e) : DefOk ρ' d e := by
  unfold DefOk at *
  split at h
  · intro h0
    obtain ⟨b, eo, h1, h2⟩ := h h0
    exact ⟨b, eo, hl _ _ h1, h2⟩
  · obtain ⟨f', c', a', h1, h2, h3, h4⟩ := h
    exact ⟨f', c', a', concs_mono hl _ _ h1, concs_mono hl _ _ h2, concs_mono hl _ _ h3, h4⟩
  · trivial
theorem DOk.mono {ρ ρ' : Rho} (hl : Le ρ ρ') : ∀ {ds : List (AV × List AV)} {es : List Deferred}, DOk ρ ds es → DOk ρ' ds es
  | [], [], _ => trivial
  | _ :: _, _ :: _, h => ⟨h.1.mono hl, h.2.mono hl⟩
  | [], _ :: _, h => h.elim
  | _ :: _, [], h => h.elim
theorem DOk.nil {es : List Deferred} (h : DOk ρ [] es) : es = [] := by
  cases es with
  | nil => rfl
  | cons e es => exact h.elim
theorem DOk.append {ρ : Rho} : ∀ {ds ds' : List (AV × List AV)} {es es' : List Deferred}, DOk ρ ds es → DOk ρ ds' es' → DOk ρ (ds ++ ds') (es ++ es')
  | [], _, [], _, _, k => k
  | _ :: _, _, _ :: _, _, h, k => ⟨h.1, h.2.append k⟩
  | [], _, _ :: _, _, h, _ => h.elim
  | _ :: _, _, [], _, h, _ => h.elim

def X.out : X → Exit
  | .normal => .normal
  | .exit id => .exit id
  | .goto l => .goto l
  | .ret => .ret

/-- what holds where code is left: the way, and the state that the evaluator has found -/
def Post (B : Nat) (ρ : Rho) (h : H) (w : World) (x : X) (s' : St) : Exit → Act → World → Prop := fun e a' w' =>
  ∃ ρ', e = x.out ∧ Ext B ρ h w ρ' s'.h w' ∧ TOk ρ' s'.t s'.nt a'.tmps ∧ DOk ρ' s'.ds a'.defers
theorem Post.trans {ρ' : Rho} {h' : H} {w w' : World} {x : X} {s' : St} {e : Exit} {a : Act} {w'' : World} (he : Ext B ρ h w ρ' h' w') (hp : Post B ρ' h' w' x s' e a w'') : Post B ρ h w x s' e a w'' := by
  obtain ⟨ρ'', h1, h2, h3, h4⟩ := hp
  exact ⟨ρ'', h1, he.trans h2, h3, h4⟩

/-- where code begins (a loop: within its first pass) -/
def startOf : Code → List Item
  | .loop c => [.code c, .inLoop c]
  | c => [.code c]

def Wp1 (P : Program) (ro : Option Nat) (c : Code) (Q : Exit → Act → World → Prop) (a : Act) (w : World) : Prop :=
  ∀ (b : Frame) (k : List Item) (cs : List Frame), b.roundOf = ro →
    ∃ e a' w', Q e a' w' ∧ ArrivesIn (Machine.fenced P (fen ro)) P (lone (b.atR a (startOf c ++ k)) cs w) b k cs e a' w'

theorem fen_calm {ro : Option Nat} {fr : Frame} {cs : List Frame} {w : World} (ha : fr.about P w = none) : (lone fr cs w).fenced P (fen ro) :=
  fenced_calm (n := 0) (fen_fn ro _) (fen_room ro _) ha

theorem Wp1.wpIn {ro : Option Nat} {c : Code} {Q : Exit → Act → World → Prop} {a : Act} {w : World} (h : Wp1 P ro c Q a w) : c.wpIn (fen ro) 0 P Q a w := by
  intro b k cs hro _ _
  rw [fen_round] at hro
  obtain ⟨e, a', w', q, r⟩ := h b k cs hro
  refine ⟨e, a', w', q, ?_⟩
  cases c with
  | loop c => exact .of_steps (.one (fen_calm rfl) stepR_loop) r
  | _ => exact r
theorem Wp1.of_wpIn {ro : Option Nat} {c : Code} {Q : Exit → Act → World → Prop} {a : Act} {w : World} (hc : startOf c = [.code c]) (h : c.wpIn (fen ro) 0 P Q a w) : Wp1 P ro c Q a w := by
  intro b k cs hro
  rw [hc]
  exact h b k cs (by rw [fen_round]; exact hro) (fen_fn ro _) (fen_room ro _)
theorem Wp1.mono {ro : Option Nat} {c : Code} {Q Q' : Exit → Act → World → Prop} {a : Act} {w : World} (h : Wp1 P ro c Q a w) (hq : ∀ e a w, Q e a w → Q' e a w) : Wp1 P ro c Q' a w :=
  fun b k cs hro => let ⟨e, a', w', q, r⟩ := h b k cs hro; ⟨e, a', w', hq _ _ _ q, r⟩

/-- the evaluator of code is right -/
def Sound (P : Program) (B : Nat) (ev : Option K → Code → St → R (X × St)) : Prop :=
  ∀ ctx c s x s', ev ctx c s = .ok (x, s') → ∀ ρ ro a w, CtxOk ρ ctx ro → Sim B ρ s.h w.heap → TOk ρ s.t s.nt a.tmps → DOk ρ s.ds a.defers → Wp1 P ro c (Post B ρ s.h w x s') a w

/-- a call that returns -/
def Ret (B : Nat) (ρ : Rho) (h : H) (w : World) (v : AV) (h' : H) : Ending → World → Prop := fun e w' => ∃ ρ' x, e = .returned x ∧ conc ρ' v = some x ∧ Ext B ρ h w ρ' h' w'

/-- what the call of a function comes to -/
def CalleeOk (P : Program) (g : FuncId) (as : Array Value) (w : World) (R : Ending → World → Prop) : Prop :=
  (∃ x w', (callFunc g as).run P w = .ok (.value x) w' ∧ R (.returned x) w') ∨ ((callFunc g as).run P w = .ok (.enter g as) w ∧ CallsIn Fence.wide 0 P g as w R)

/-- plug-ins that are right -/
structure Good (P : Program) (G : Plug) (B : Nat) : Prop where
  mixed : P.follows .mixedOrders = true
  call : ∀ f args h v h', G.call f args h = some (.ok (v, h')) → ∀ ρ w as, Sim B ρ h w.heap → concs ρ args = some as → CalleeOk P f as.toArray w (Ret B ρ h w v h')
  dfr : ∀ g args h, G.dfr g args h = true → ∀ ρ w as, Sim B ρ h w.heap → concs ρ args = some as →
    (callFunc g as.toArray).run P w = .ok (.enter g as.toArray) w ∧ CallsDIn Fence.wide 0 P g as.toArray .returning w (fun e u w' => ∃ x, e = .returned x ∧ u = .returning ∧ Ext B ρ h w ρ h w')

/-! ### temporaries -/
theorem slotK_inj {a b : Nat} (h : slotK a = slotK b) : a = b := K.ofNat_inj h
theorem TOk.put {t : Tr AV} {nt : Nat} {tmps : Array Value} (ht : TOk ρ t nt tmps) {v : AV} {x : Value} (hv : conc ρ v = some x) {d : Nat} (hd : d < nt) : TOk ρ (t.put (slotK d) (some v)) nt (tmps.setIfInBounds d x) := by
  refine ⟨by rw [Array.size_setIfInBounds]; exact ht.1, fun i u hu => ?_⟩
  rw [Tr.get_put] at hu
  by_cases hi : i = d
  · subst hi
    simp at hu
    subst hu
    exact ⟨x, by rw [Array.getElem?_setIfInBounds]; simp [ht.1, hd], hv⟩
  · rw [if_neg (fun e => hi (slotK_inj e))] at hu
    obtain ⟨y, h1, h2⟩ := ht.2 i u hu
    exact ⟨y, by rw [Array.getElem?_setIfInBounds_ne (Ne.symm hi)]; exact h1, h2⟩
theorem TOk.none {nt : Nat} {tmps : Array Value} (h : tmps.size = nt) : TOk ρ .nil nt tmps := ⟨h, fun i v hv => by rw [Tr.get_nil] at hv; simp at hv⟩
theorem set_ok {s : St} {a : Act} (ht : TOk ρ s.t s.nt a.tmps) {v : AV} {x : Value} (hv : conc ρ v = some x) (d : Option Tmp) : TOk ρ (s.set d v).t (s.set d v).nt (a.put d x).tmps := by
  cases d with
  | none => exact ht
  | some d =>
    simp only [St.set, Act.put]
    split
    · rename_i hd
      exact ht.put hv (by simpa using hd)
    · exact TOk.none (by rw [Array.size_setIfInBounds]; exact ht.1)
theorem set_h (s : St) (d : Option Tmp) (v : AV) : (s.set d v).h = s.h := by
  unfold St.set; split <;> (try split) <;> rfl
theorem set_ds (s : St) (d : Option Tmp) (v : AV) : (s.set d v).ds = s.ds := by
  unfold St.set; split <;> (try split) <;> rfl
theorem set_nt (s : St) (d : Option Tmp) (v : AV) : (s.set d v).nt = s.nt := by
  unfold St.set; split <;> (try split) <;> rfl
theorem put_defers (a : Act) (d : Option Tmp) (x : Value) : (a.put d x).defers = a.defers := by
  cases d <;> rfl
theorem undef_ok : conc ρ undefA = some undef := by simp [undefA, undef, conc, concs]

theorem initT_get : ∀ (l : List AV) (n : Nat) (t : Tr AV) (i : Nat), (initT n l t).get (slotK i) = if n ≤ i ∧ i < n + l.length then l[i - n]? else t.get (slotK i)
  | [], n, t, i => by
    simp only [initT, List.length_nil, Nat.add_zero]
    rw [if_neg (by omega)]
  | v :: l, n, t, i => by
    simp only [initT, initT_get l (n + 1), Tr.get_put, List.length_cons]
    by_cases h1 : i = n
    · subst h1
      rw [if_neg (by omega), if_pos rfl, if_pos (by omega)]
      simp
    · by_cases h2 : n + 1 ≤ i ∧ i < n + 1 + l.length
      · rw [if_pos h2, if_pos (by omega)]
        obtain ⟨j, rfl⟩ : ∃ j, i = n + 1 + j := ⟨i - (n + 1), by omega⟩
        rw [show n + 1 + j - (n + 1) = j by omega, show n + 1 + j - n = j + 1 by omega]
        simp
      · rw [if_neg h2, if_neg (fun e => h1 (slotK_inj e)), if_neg (by omega)]
theorem init_ok {args : List AV} {as : List Value} (hc : concs ρ args = some as) {nt : Nat} (hl : args.length ≤ nt) :
    TOk ρ (initT 0 args .nil) nt (as.toArray ++ Array.replicate (nt - as.toArray.size) undef) := by
  have hlen := concs_length _ _ hc
  refine ⟨by simp; omega, fun i v hv => ?_⟩
  rw [initT_get] at hv
  split at hv
  · rename_i hi
    obtain ⟨x, h1, h2⟩ := concs_get _ _ _ _ hc hv
    refine ⟨x, ?_, h2⟩
    rw [Array.getElem?_append_left (by simp; omega)]
    simpa using h1
  · rw [Tr.get_nil] at hv; simp at hv

end Go.Ev
