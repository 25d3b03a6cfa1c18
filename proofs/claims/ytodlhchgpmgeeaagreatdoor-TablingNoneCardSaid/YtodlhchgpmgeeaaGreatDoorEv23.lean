/-
  THE EVALUATOR's SOUNDNESS, part 22: regions in their own order; ranges over functions.
-/
import Derived.Test.YtodlhchgpmgeeaaGreatDoorEv22
import Derived.TacticsIn
namespace Go.Ev
open Go.RowKit
set_option linter.unusedSimpArgs false

variable {P : Program} {B : Nat} {ρ : Rho} {h : H}

theorem quiet_noDefer {t : Tr AV} {o : Oper} {v : AV} (hq : quietA P t h o.op = some v) : ∀ c, o.op ≠ .defer c := by
  intro c hc
  rw [hc] at hq
  simp [quietA] at hq
theorem alloc_noDefer {t : Tr AV} {o : Oper} {q : Blk × (K → AV)} (hq : allocA P t o.op = some q) : ∀ c, o.op ≠ .defer c := by
  intro c hc
  rw [hc] at hq
  simp [allocA] at hq

theorem calm_ok {o : Oper} {s s' : St} (he : calmA P o s = .ok s') {ro : Option Nat} {a : Act} {w : World} (hs : Sim B ρ s.h w.heap) (ht : TOk ρ s.t s.nt a.tmps) {K : Act → World → Prop} {Q : Exit → Act → World → Prop}
    (hk : ∀ (ρ' : Rho) (x : Value) (w' : World), Ext B ρ s.h w ρ' s'.h w' → TOk ρ' s'.t s'.nt (a.put o.dst x).tmps → K (a.put o.dst x) w') : s'.ds = s.ds ∧ o.wpIn (fen ro) 0 P a w K Q := by
  unfold calmA at he
  split at he
  · rename_i v hq
    simp at he
    subst he
    refine ⟨set_ds _ _ _, fen_about o w _, ?_⟩
    rw [fen_sem _ _ (quiet_noDefer hq)]
    obtain ⟨x, hv, hrun⟩ := quiet_ok (P := P) hs ht o hq
    rw [hrun]
    exact hk ρ x w (by rw [set_h]; exact Ext.refl hs) (set_ok ht hv _)
  · split at he
    · rename_i blk f hq
      simp at he
      subst he
      refine ⟨set_ds _ _ _, fen_about o w _, ?_⟩
      rw [fen_sem _ _ (alloc_noDefer hq)]
      obtain ⟨ob, e, x, hrun, hid⟩ := alloc_ok (P := P) hs ht o hq
      obtain ⟨h1, h2⟩ := hid s.h.nx hs.nx_none
      rw [hrun]
      have hx := Ext.alloc (w := w) hs h1
      refine hk _ x _ (by rw [set_h]; exact hx) ?_
      exact set_ok (s := { s with h := s.h.new blk }) (ht.mono hx.le) h2 _
    · simp at he

theorem ops_ok {G : Plug} {ev : Option K → Code → St → R (X × St)} (hG : Good P G B) (ih : Sound P B ev) {rd : Bool} {ops : Array Oper} {ro : Option Nat} (hro : rd = ro.isSome) {Q : Exit → Act → World → Prop} :
    ∀ (l : List Oper) (s s' : St), opsA P G rd ev ops l s = .ok s' → ∀ (ρ : Rho) (a : Act) (w : World), Sim B ρ s.h w.heap → TOk ρ s.t s.nt a.tmps → DOk ρ s.ds a.defers →
      (∀ (ρ' : Rho) (a' : Act) (w' : World), Ext B ρ s.h w ρ' s'.h w' → TOk ρ' s'.t s'.nt a'.tmps → DOk ρ' s'.ds a'.defers → Q .normal a' w') → wpListIn (fen ro) 0 P ops Q l a w
  | [], s, s', he, ρ, a, w, hs, ht, hd, hk => by
    simp [opsA] at he
    subst he
    exact hk ρ a w (Ext.refl hs) ht hd
  | o :: l, s, s', he, ρ, a, w, hs, ht, hd, hk => by
    simp only [opsA] at he
    simp only [wpListIn]
    split at he
    · rename_i hw
      rw [if_pos (wanted_ok ht hw)]
      split at he
      case h_2 => simp at he
      rename_i s1 hop
      unfold operA at hop
      split at hop
      · rw [actA_eq] at hop
        split at hop
        case h_2 => simp at hop
        rename_i v h2 ds2 hact
        simp at hop
        subst hop
        refine actV_ok hG ih hact hro hs ht hd fun ρ' x a2 w' hx hv h3 h4 => ?_
        refine ops_ok hG ih hro l _ s' he ρ' _ w' (by rw [set_h]; exact hx.sim) ?_ (by rw [set_ds, put_defers]; exact h4) (fun ρ'' a' w'' hx' => hk ρ'' a' w'' (by rw [set_h] at hx'; exact hx.trans hx'))
        exact set_ok (s := { s with h := h2, ds := ds2 }) (by rw [h3]; exact ht.mono hx.le) hv _
      · have hcalm := fun hk => calm_ok (P := P) (B := B) (ρ := ρ) (ro := ro) (Q := Q) (K := wpListIn (fen ro) 0 P ops Q l) hop hs ht hk
        have hds : s1.ds = s.ds := by
          unfold calmA at hop
          split at hop
          · simp at hop; subst hop; exact set_ds _ _ _
          · split at hop
            · simp at hop; subst hop; exact set_ds _ _ _
            · simp at hop
        refine (hcalm fun ρ' x w' hx ht' => ?_).2
        exact ops_ok hG ih hro l s1 s' he ρ' _ w' hx.sim ht' (by rw [hds, put_defers]; exact hd.mono hx.le) (fun ρ'' a' w'' hx' => hk ρ'' a' w'' (hx.trans hx'))
    · rename_i hw
      rw [if_neg (by rw [wanted_ok ht hw]; simp)]
      refine ⟨fen_about o w _, ?_⟩
      refine ops_ok hG ih hro l _ s' he ρ _ w (by rw [set_h]; exact hs) (set_ok ht undef_ok _) (by rw [set_ds, put_defers]; exact hd) (fun ρ' a' w' hx' => hk ρ' a' w' (by rw [set_h] at hx'; exact hx'))
    · simp at he

/-- the statement 'for .. range f' -/
theorem enter_ok {ctx : Option K} {ro : Option Nat} (hc : CtxOk ρ ctx ro) {s : St} {dk : K} {h1 : H} {mark : List (AV × List AV)} (he : enterA ctx s = some (dk, h1, mark)) {w : World} (hs : Sim B ρ s.h w.heap)
    {tmps : Array Value} (ht : TOk ρ s.t s.nt tmps) (params : Array Tmp) (asg body : Code) (fn : FuncId) :
    ∃ (ρ' : Rho) (l : Nat) (e : Nat) (marks : List Deferred) (w' : World), (Instr.enterLoop fn tmps params asg body ro).run P w = .ok (l, marks) w' ∧ ρ' h1.nx = some (l, e) ∧ DOk ρ' mark marks ∧
      Ext B ρ s.h w ρ' (h1.new (.loop { state := .ready, pending := none, tmps := s.t, nt := s.nt, params := params.toList, asg, body, dblock := dk })) w' := by
  cases ctx with
  | some k =>
    cases ro with
    | none => exact hc.elim
    | some l0 =>
      obtain ⟨e0, hk⟩ := hc
      simp only [enterA] at he
      split at he
      case h_2 => simp at he
      rename_i r hg
      simp at he
      obtain ⟨rfl, rfl, rfl⟩ := he
      obtain ⟨fn0, tmps0, be, q1, q2, q3⟩ := hs.blk k _ _ hg hk
      have hblk : BlkOk (up ρ s.h.nx (w.heap.size, 0)) (w.heap.push (.loop { state := .ready, pending := none, fn, tmps, params, assign := asg, body, defers := be.1 })) w.heap.size 0 (.loop { state := .ready, pending := none, tmps := s.t, nt := s.nt, params := params.toList, asg, body, dblock := r.dblock }) :=
        ⟨fn, tmps, be, Le.up hs.nx_none _ _ _ q1, ht.mono (Le.up hs.nx_none _), by simp⟩
      refine ⟨_, w.heap.size, 0, [], _, ?_, up_same _ _ _, trivial, Ext.alloc (w := w) hs hblk⟩
      simp only [Instr.enterLoop, Instr.getLoop, Sem.run_bind, run_getObj w l0 q3 (by simp), Result.andThen_ok, Sem.run_pure]
      simp
  | none =>
    cases ro with
    | some l0 => exact hc.elim
    | none =>
      simp [enterA] at he
      obtain ⟨rfl, rfl, rfl⟩ := he
      have hx1 := Ext.alloc (w := w) (o := .deferred (some [])) (e := 0) (blk := .defd) hs (show BlkOk _ _ _ _ _ by simp [BlkOk])
      have hd : up ρ s.h.nx (w.heap.size, 0) s.h.nx = some (w.heap.size, 0) := up_same _ _ _
      have hn1 := hx1.sim.nx_none
      have hblk : BlkOk (up (up ρ s.h.nx (w.heap.size, 0)) (s.h.new .defd).nx ((w.alloc (.deferred (some []))).heap.size, 0)) ((w.alloc (.deferred (some []))).heap.push (.loop { state := .ready, pending := none, fn, tmps, params, assign := asg, body, defers := w.heap.size }))
          (w.alloc (.deferred (some []))).heap.size 0 (.loop { state := .ready, pending := none, tmps := s.t, nt := s.nt, params := params.toList, asg, body, dblock := s.h.nx }) :=
        ⟨fn, tmps, (w.heap.size, 0), Le.up hn1 _ _ _ hd, (ht.mono hx1.le).mono (Le.up hn1 _), by rw [push_get]⟩
      have hx2 := Ext.alloc (w := w.alloc (.deferred (some []))) hx1.sim hblk
      refine ⟨_, (w.alloc (.deferred (some []))).heap.size, 0, [{ target := .collected w.heap.size, args := #[] }], _, ?_, up_same _ _ _, ⟨?_, trivial⟩, hx1.trans hx2⟩
      · simp [Instr.enterLoop]
      · intro _
        exact ⟨w.heap.size, 0, Le.up hn1 _ _ _ hd, rfl⟩

end Go.Ev
