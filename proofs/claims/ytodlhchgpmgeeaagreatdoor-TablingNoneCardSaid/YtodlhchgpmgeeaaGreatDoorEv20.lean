/-
  THE EVALUATOR's SOUNDNESS, part 19: a function's results, its deferred calls, its call.
-/
import Derived.Test.YtodlhchgpmgeeaaGreatDoorEv19
namespace Go.Ev
open Go.RowKit
set_option linter.unusedSimpArgs false

variable {P : Program} {B : Nat} {ρ : Rho} {h : H}

def resVal (tmps : Array Value) : ResultVar → Sem Value
  | .tmp t => pure (tmps.getD t undef)
  | .cell a t => do loadVar t (← asAddr (tmps.getD a undef))
theorem results_eq (fn : Func) (tmps : Array Value) : results fn tmps = (do
    let vs ← fn.results.mapM (resVal tmps)
    pure (if h : vs.size = 1 then vs[0] else .tuple vs)) := by
  unfold results
  have : (fun x => match x with
    | .tmp t => (pure (tmps.getD t undef) : Sem Value)
    | .cell a t => do loadVar t (← asAddr (tmps.getD a undef))) = resVal tmps := by
    funext x
    cases x <;> rfl
  rw [← this]
  rfl

theorem resultsA_ok {w : World} (hs : Sim B ρ h w.heap) {t : Tr AV} {nt : Nat} {tmps : Array Value} (ht : TOk ρ t nt tmps) : ∀ (rs : List ResultVar) (l : List AV), resultsA P t h rs = some l →
    ∃ vs, concs ρ l = some vs ∧ (rs.mapM (resVal tmps)).run P w = .ok vs w
  | [], l, hr => by
    simp [resultsA] at hr
    subst hr
    exact ⟨[], rfl, by simp⟩
  | .tmp x :: rs, l, hr => by
    simp only [resultsA] at hr
    split at hr
    case h_2 => simp at hr
    rename_i v r hv hrr
    simp at hr
    subst hr
    obtain ⟨vs, h1, h2⟩ := resultsA_ok hs ht rs r hrr
    obtain ⟨y, h3, h4⟩ := ht.2 x v hv
    refine ⟨y :: vs, concs_cons_mk h4 h1, ?_⟩
    have hx : (resVal tmps (.tmp x)).run P w = .ok y w := by simp [resVal, Array.getD_eq_getD_getElem?, h3]
    rw [List.mapM_cons]
    simp only [Sem.run_bind, Sem.run_pure, Result.andThen_ok, h2, hx]
  | .cell x ty :: rs, l, hr => by
    simp only [resultsA] at hr
    split at hr
    case h_2 => simp at hr
    rename_i p hp
    split at hr
    case h_2 => simp at hr
    rename_i v r hv hrr
    simp at hr
    subst hr
    obtain ⟨vs, h1, h2⟩ := resultsA_ok hs ht rs r hrr
    obtain ⟨y, h3, h4⟩ := ht.2 x p hp
    obtain ⟨v', h5, ad, h6, h7⟩ := load_ok (P := P) hs ty p v hv y h4
    subst h6
    refine ⟨v' :: vs, concs_cons_mk h5 h1, ?_⟩
    have hx : (resVal tmps (.cell x ty)).run P w = .ok v' w := by simp [resVal, Array.getD_eq_getD_getElem?, h3, asAddr, h7]
    rw [List.mapM_cons]
    simp only [Sem.run_bind, Sem.run_pure, Result.andThen_ok, h2, hx]

theorem results_ok {w : World} (hs : Sim B ρ h w.heap) {t : Tr AV} {nt : Nat} {tmps : Array Value} (ht : TOk ρ t nt tmps) {fn : Func} {l : List AV} (hr : resultsA P t h fn.results.toList = some l) :
    ∃ x, conc ρ (resultV l) = some x ∧ (results fn tmps).run P w = .ok x w := by
  obtain ⟨vs, h1, h2⟩ := resultsA_ok hs ht _ _ hr
  have hlen := concs_length _ _ h1
  refine ⟨if h : vs.toArray.size = 1 then vs.toArray[0] else .tuple vs.toArray, ?_, ?_⟩
  · cases l with
    | nil =>
      simp [concs] at h1
      subst h1
      simp [resultV, conc, concs]
    | cons a l =>
      cases l with
      | nil =>
        obtain ⟨x, y, hx, hy, rfl⟩ := concs_cons h1
        simp [concs] at hy
        subst hy
        simpa [resultV] using hx
      | cons b l =>
        have : ¬ vs.toArray.size = 1 := by simp [hlen]
        rw [dif_neg this]
        simp [resultV, conc, h1]
  · rw [results_eq, Array.mapM_eq_mapM_toList]
    simp only [Sem.run_bind, Sem.run_map, h2, Result.andThen_ok, Sem.run_pure]

theorem callFunc_enter {w : World} {g : FuncId} {fn : Func} {c : Code} {as : Array Value} (hf : P.funcs[g]? = some fn) (hn : (fn.name == "runtime.NumGoroutine") = false) (hb : fn.body = some c) : (callFunc g as).run P w = .ok (.enter g as) w := by
  have hn' : ¬ fn.name = "runtime.NumGoroutine" := by simpa using hn
  simp [callFunc, hf, hn', hb]

/-- the deferred calls, one after the other -/
theorem defers_ok {G : Plug} {ev : Option K → Code → St → R (X × St)} (hG : Good P G B) (ih : Sound P B ev) {fn : Func} {tmps : Array Value} {R : Ending → World → Prop} :
    ∀ (ds : List (AV × List AV)) (h h' : H), defersA P G ev ds h = .ok h' → ∀ (ρ : Rho) (es : List Deferred) (w : World), DOk ρ ds es → Sim B ρ h w.heap →
      (∀ ρ' w', Ext B ρ h w ρ' h' w' → ∃ v, (results fn tmps).run P w' = .ok v w' ∧ R (.returned v) w') → LeavesInM Fence.wide 0 P fn tmps R es .returning w
  | [], h, h', hd => by
    intro ρ es w ho hs hk
    simp [defersA] at hd
    subst hd
    have := ho.nil
    subst this
    exact hk ρ w (Ext.refl hs)
  | (d, as) :: ds, h, h', hd => by
    intro ρ es w ho hs hk
    cases es with
    | nil => exact ho.elim
    | cons e es =>
      obtain ⟨ho1, ho2⟩ := ho
      simp only [defersA] at hd
      split at hd
      · -- the mark
        rename_i dk
        split at hd
        · rename_i hg
          obtain ⟨b, eo, hr, rfl⟩ := ho1 rfl
          have hblk := hs.blk dk _ _ hg hr
          simp only [BlkOk] at hblk
          have hown : B ≤ b := hs.own dk _ _ hg hr rfl
          refine ⟨by simp, .inl ⟨b, { w with heap := w.heap.setIfInBounds b (.deferred none) }, rfl, ?_, ?_⟩⟩
          · simp [Instr.takeDeferred, run_getObj w b hblk (by simp), run_setObj w b hblk (by simp)]
          · have hsb := setObj_but w b (.deferred none)
            have hs' : Sim B ρ (h.kill dk) (w.heap.setIfInBounds b (.deferred none)) := by
              have hk2 := hs.kill dk
              refine ⟨fun k c x h1 h2 => ?_, hk2.inj, hk2.lt, hk2.live, hk2.own, by simpa using hk2.base, hk2.glob⟩
              have hne : x.1 ≠ b := by
                rw [H.kill_get] at h1
                split at h1
                · simp at h1
                · rename_i hne
                  intro e0
                  exact hne (hs.inj k dk c _ x _ h1 hg h2 hr e0)
              exact (hk2.blk k c x h1 h2).congr (hsb.block _ hne)
            have hx : Ext B ρ h w ρ (h.kill dk) { w with heap := w.heap.setIfInBounds b (.deferred none) } := by
              refine ⟨Le.refl _, hs', hsb.below hown, fun k _ hn => ⟨hn, ?_⟩, Nat.le_refl _⟩
              rw [H.kill_get, if_neg (fun e0 => by rw [e0, hr] at hn; simp at hn)]
            exact defers_ok hG ih ds _ h' hd ρ es _ ho2 hs' (fun ρ' w' hx' => hk ρ' w' (hx.trans hx'))
        · simp at hd
      · -- a function
        rename_i g first cap
        obtain ⟨f', c', a', h1, h2, h3, rfl⟩ := ho1
        have hall : concs ρ (first ++ as ++ cap) = some (f' ++ a' ++ c') := concs_append _ _ _ _ (concs_append _ _ _ _ h1 h3) h2
        have harr : (f'.toArray ++ a'.toArray) ++ c'.toArray = (f' ++ a' ++ c').toArray := by simp
        split at hd
        · rename_i hdf
          obtain ⟨q1, q2⟩ := hG.dfr _ _ _ hdf ρ w _ hs hall
          refine ⟨by simp, .inr ⟨by simp [Fence.wide], _, _, g, (f' ++ a' ++ c').toArray, rfl, ?_, fun _ _ => trivial, ?_⟩⟩
          · simp only [invoke, harr]; exact q1
          · refine CallsDIn.mono q2 fun e u w' hr => ?_
            obtain ⟨x, rfl, rfl, hx⟩ := hr
            exact defers_ok hG ih ds h h' hd ρ es w' ho2 hx.sim (fun ρ' w'' hx' => hk ρ' w'' (hx.trans hx'))
        · split at hd
          case h_1 => simp at hd
          rename_i fn' hfn
          split at hd
          · simp at hd
          rename_i hname
          split at hd
          case h_1 => simp at hd
          rename_i c hbody
          split at hd
          · simp at hd
          rename_i hnt
          have hnt' : (first ++ as ++ cap).length ≤ fn'.ntmps := by simpa using hnt
          have finish : ∀ (x : X) (s : St), (x = .normal ∨ x = .ret) → ev none c { t := initT 0 (first ++ as ++ cap) .nil, nt := fn'.ntmps, h, ds := [] } = .ok (x, s) →
              (match s.ds, resultsA P s.t s.h fn'.results.toList with
              | [], some _ => defersA P G ev ds s.h
              | _, _ => (Go.Ev.R.er 6 : Go.Ev.R H)) = .ok h' → LeavesInM Fence.wide 0 P fn tmps R ({ target := .fn (.func g) c'.toArray, args := f'.toArray ++ a'.toArray } :: es) .returning w := by
            intro x s hx hev hrest
            split at hrest
            case h_2 => simp at hrest
            rename_i l hsd hres
            refine ⟨by simp, .inr ⟨by simp [Fence.wide], _, _, g, (f' ++ a' ++ c').toArray, rfl, ?_, fun _ _ => trivial, ?_⟩⟩
            · simp only [invoke, harr]
              exact callFunc_enter hfn (by simpa using hname) hbody
            · have hw := (ih _ _ _ _ _ hev ρ none { tmps := (f' ++ a' ++ c').toArray ++ Array.replicate (fn'.ntmps - (f' ++ a' ++ c').toArray.size) undef, defers := [] } w trivial hs (init_ok hall hnt') trivial).wpIn
              refine CallsDIn.mono (callsDIn_of_wp (u := .returning) (R := fun e w' => ∃ x ρ', e = .returned x ∧ Ext B ρ h w ρ' s.h w') hfn hbody trivial (Go.wpIn_mono hw fun e a w' hp => ?_)) fun e u w' hr => ?_
              · obtain ⟨ρ', he, hx', ht', hd'⟩ := hp
                rw [hsd] at hd'
                obtain ⟨y, _, hy⟩ := results_ok (P := P) hx'.sim ht' hres
                rcases hx with rfl | rfl <;> subst he <;> exact ⟨hd'.nil, y, hy, y, ρ', rfl, hx'⟩
              · obtain ⟨rfl, y, ρ', rfl, hx'⟩ := hr
                exact defers_ok hG ih ds s.h h' hrest ρ' es w' (ho2.mono hx'.le) hx'.sim (fun ρ'' w'' hx'' => hk ρ'' w'' (hx'.trans hx''))
          split at hd
          · rename_i s hev
            exact finish _ s (.inl rfl) hev hd
          · rename_i s hev
            exact finish _ s (.inr rfl) hev hd
          · simp at hd
          · simp at hd
      · simp at hd

theorem body_ok {G : Plug} {ev : Option K → Code → St → R (X × St)} (hG : Good P G B) (ih : Sound P B ev) {f : FuncId} {args : List AV} {v : AV} {h' : H} (he : bodyA P G ev f args h = .ok (v, h'))
    {w : World} (hs : Sim B ρ h w.heap) {as : List Value} (ha : concs ρ args = some as) :
    (∀ w0, (callFunc f as.toArray).run P w0 = .ok (.enter f as.toArray) w0) ∧ CallsIn Fence.wide 0 P f as.toArray w (Ret B ρ h w v h') := by
  unfold bodyA at he
  split at he
  case h_1 => simp at he
  rename_i fn hfn
  split at he
  · simp at he
  rename_i hname
  split at he
  case h_1 => simp at he
  rename_i c hbody
  split at he
  · simp at he
  rename_i hnt
  have hnt' : args.length ≤ fn.ntmps := by simpa using hnt
  refine ⟨fun w0 => callFunc_enter hfn (by simpa using hname) hbody, ?_⟩
  split at he
  case h_1 => simp at he
  rename_i x s hev
  have hw := (ih _ _ _ _ _ hev ρ none { tmps := as.toArray ++ Array.replicate (fn.ntmps - as.toArray.size) undef, defers := [] } w trivial hs (init_ok ha hnt') trivial).wpIn
  refine callsIn_of_wp_marks hfn hbody trivial (Go.wpIn_mono hw fun e a w' hp => ?_)
  obtain ⟨ρ', hout, hx', ht', hd'⟩ := hp
  have finish : (match defersA P G ev s.ds s.h with
          | .er n => (.er n : R (AV × H))
          | .ok h => match resultsA P s.t h fn.results.toList with
            | some l => .ok (resultV l, h)
            | none => .er (2000000 + f)) = .ok (v, h') → LeavesInM Fence.wide 0 P fn a.tmps (Ret B ρ h w v h') a.defers .returning w' := by
    intro he
    split at he
    case h_1 => simp at he
    rename_i h2 hdef
    split at he
    case h_2 => simp at he
    rename_i l hres
    simp at he
    obtain ⟨rfl, rfl⟩ := he
    refine defers_ok hG ih _ _ _ hdef ρ' _ w' hd' hx'.sim fun ρ'' w'' hx'' => ?_
    obtain ⟨y, hy, hy2⟩ := results_ok (P := P) hx''.sim (ht'.mono hx''.le) hres
    exact ⟨y, hy2, ρ'', y, rfl, hy, hx'.trans hx''⟩
  split at he
  · subst hout; exact finish he
  · subst hout; exact finish he
  · simp at he

theorem call_ok {G : Plug} {ev : Option K → Code → St → R (X × St)} (hG : Good P G B) (ih : Sound P B ev) {f : FuncId} {args : List AV} {v : AV} {h' : H} (he : callA P G ev f args h = .ok (v, h'))
    {w : World} (hs : Sim B ρ h w.heap) {as : List Value} (ha : concs ρ args = some as) : CalleeOk P f as.toArray w (Ret B ρ h w v h') := by
  unfold callA at he
  split at he
  · rename_i r hc
    subst he
    exact hG.call _ _ _ _ _ hc ρ w as hs ha
  · obtain ⟨h1, h2⟩ := body_ok hG ih he hs ha
    exact .inr ⟨h1 w, h2⟩

end Go.Ev
