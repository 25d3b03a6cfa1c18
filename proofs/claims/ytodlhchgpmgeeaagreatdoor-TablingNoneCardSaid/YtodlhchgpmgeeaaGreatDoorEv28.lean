/-
  THE EVALUATOR's SOUNDNESS, part 27: regions that draw their order: each step keeps the invariant.
-/
import Derived.Test.YtodlhchgpmgeeaaGreatDoorEv27
namespace Go.Ev
open Go.RowKit
set_option linter.unusedSimpArgs false

/-- a trie cut down to some slots -/
def cutT (t : Tr AV) : List Tmp → Tr AV
  | [] => .nil
  | x :: l => (cutT t l).put (slotK x) (t.get (slotK x))
theorem cutT_get (t : Tr AV) : ∀ (l : List Tmp) (x : Tmp), (cutT t l).get (slotK x) = if x ∈ l then t.get (slotK x) else none
  | [], x => by simp [cutT, Tr.get_nil]
  | y :: l, x => by
    simp only [cutT, Tr.get_put, cutT_get t l x, List.mem_cons]
    by_cases e : x = y
    · subst e; simp
    · rw [if_neg (fun h => e (slotK_inj h))]
      simp [e]
theorem cutT_ok {ρ : Rho} {t : Tr AV} {l : List Tmp} {nt : Nat} {tmps : Array Value} (hn : tmps.size = nt) (h : ∀ x ∈ l, ∀ v, t.get (slotK x) = some v → ∃ y, tmps[x]? = some y ∧ conc ρ v = some y) : TOk ρ (cutT t l) nt tmps := by
  refine ⟨hn, fun i v hv => ?_⟩
  rw [cutT_get] at hv
  split at hv
  · rename_i hi; exact h i hi v hv
  · simp at hv

variable {P : Program} {G : Plug} {rd : Bool} {ev : Option K → Code → St → R (X × St)} {ops : Array Oper} {rs : List Row} {S : Nat → St} {s s' : St}
variable {B : Nat} {ρ0 ρ : Rho} {w0 w : World} {N : Nat} {listed : Array Bool} {a : Act}

theorem getD_set (l : Array Bool) (i j : Nat) (hi : i < l.size) : (l.setIfInBounds i true).getD j false = if j = i then true else l.getD j false := by
  by_cases e : j = i
  · subst e
    rw [if_pos rfl]
    simp [Array.getD_eq_getD_getElem?, hi]
  · rw [if_neg e, getD_set_ne false (Ne.symm e)]

theorem put_get (a : Act) (d : Option Tmp) (y : Value) (x : Tmp) (hd : ∀ d', d = some d' → d' < a.tmps.size) : (a.put d y).tmps[x]? = if d = some x then some y else a.tmps[x]? := by
  cases d with
  | none => simp [Act.put]
  | some d =>
    simp only [Act.put]
    by_cases e : d = x
    · subst e; simp [hd d rfl]
    · rw [Array.getElem?_setIfInBounds_ne e, if_neg (by simpa using e)]

theorem apart_look {o o' : Oper} (h : o.apart ops o' = true) {x : Tmp} : (o.dst = some x → x ∉ o'.looksAt ops) ∧ (o'.dst = some x → x ∉ o.looksAt ops) :=
  ⟨(Oper.apart_spec h).1 x, (Oper.apart_spec h).2.2 x⟩

/-- what a pending row (or the one whose turn it is) looks at is there, once all that it waits for is done -/
theorem Inv.looks (hp : Plan ops rs) {u : Nat} {r : Row} {o : Oper} (hr : rs[u]? = some r) (ho : ops[r.i]? = some o) (hm : ∀ b, r.mask.testBit b = true → listed.getD b false = true) :
    ∀ x ∈ o.looksAt ops, ∀ (p : Nat) (r' : Row), p < u → rs[p]? = some r' → listed.getD r'.i false = false → ¬ D ops rs p x := by
  intro x hx p r' hpu hr' hl ⟨r2, o2, h1, h2, h3⟩
  rw [hr'] at h1; simp at h1; subst h1
  rcases (hp.apart p u r' r o2 o hpu hr' hr h2 ho).2 with h | h
  · have := hm _ h
    rw [hl] at this; simp at this
  · exact (apart_look h).1 h3 hx

/-- a pending row is done -/
theorem Inv.calm (hp : Plan ops rs) (hc : Canon P G rd ev ops rs S s s') (h : Inv B ops rs P S s ρ0 w0 N listed a w ρ) {u : Nat} {r : Row} (hu : u < N) (hr : rs[u]? = some r) (hl : listed.getD r.i false = false)
    (hm : ∀ b, r.mask.testBit b = true → listed.getD b false = true) {ro : Option Nat} {K : Act → World → Prop} {Q : Exit → Act → World → Prop}
    (hk : ∀ ρ' a' w', Inv B ops rs P S s ρ0 w0 N (listed.setIfInBounds r.i true) a' w' ρ' → K a' w') : wpOpIn (fen ro) 0 P ops Q r.i K a w := by
  obtain ⟨o, ho, hd, hs⟩ := hc.step u r hr
  have hre : r.e = false := by
    cases hre : r.e with
    | false => rfl
    | true => have := h.acts u r hr hu hre; rw [hl] at this; simp at this
  have hulen : u < rs.length := (List.getElem?_eq_some_iff.1 hr).1
  have hnt : (S u).nt = s.nt := hc.ntAt u (by omega)
  have hi : r.i < listed.size := by rw [h.size]; exact (Array.getElem?_eq_some_iff.1 ho).1
  have hlk : ∀ i ∈ o.looksAt ops, (cutT (S u).t (o.looksAt ops)).get (slotK i) = (S u).t.get (slotK i) := fun i hi => by rw [cutT_get, if_pos hi]
  have htok : TOk ρ (cutT (S u).t (o.looksAt ops)) s.nt a.tmps := cutT_ok h.tsize fun x hx v hv => h.look u r o hu hr ho hl x hx (Inv.looks hp hr ho hm x hx) v hv
  have hops := looks_opv (ops := ops) hlk
  have hwant := wantedA_congr (ops := ops) (o := o) hlk
  have hdlt : ∀ d', o.dst = some d' → d' < a.tmps.size := fun d' e => by
    rw [e] at hd
    simp only [dstOk] at hd
    rw [h.tsize, ← hnt]
    simpa using hd
  -- what must be shown of the new state
  have keep : ∀ (v : AV) (y : Value) (ρ' : Rho) (w' : World), Le ρ ρ' → conc ρ' v = some y → (∀ x, o.dst = some x → (S (u + 1)).t.get (slotK x) = some v) → Ext B ρ0 s.h w0 ρ' (S N).h w' →
      (∀ (k : Go.Ev.K), ρ k = none → k ≠ (S u).h.nx → ρ' k = none) → ((∃ b f, wantedA ops o (S u).t = some true ∧ quietA P (S u).t (S u).h o.op = none ∧ allocA P (S u).t o.op = some (b, f)) ∨ ∀ k, ρ k = none → ρ' k = none) → K (a.put o.dst y) w' := by
    intro v y ρ' w' hle hv hval hext hnone hwho
    have hset : ∀ j, (listed.setIfInBounds r.i true).getD j false = false → listed.getD j false = false ∧ j ≠ r.i := by
      intro j hj
      rw [getD_set _ _ _ hi] at hj
      split at hj
      · simp at hj
      · rename_i e; exact ⟨hj, e⟩
    have hmono : ∀ j, listed.getD j false = true → (listed.setIfInBounds r.i true).getD j false = true := by
      intro j hj
      rw [getD_set _ _ _ hi]
      split <;> simp [hj]
    have hown : ∀ x q, u < q → q ≤ rs.length → o.dst = some x → (S q).t.get (slotK x) = some v := fun x q h1 h2 h3 => by
      rw [hc.get_own hp h1 h2 hr ho h3]; exact hval x h3
    refine hk ρ' _ w' ⟨h.le, by simp [h.size], ?_, fun p r' h1 h2 h3 => hmono _ (h.acts p r' h1 h2 h3), ?_, hext, by rw [put_defers]; exact h.dok.mono hle, ?_, ?_, ?_, ?_, ?_, ?_⟩
    · intro p r' h1 h2
      rw [getD_set _ _ _ hi, if_neg]
      · exact h.later p r' h1 h2
      · intro e
        have := hp.inj p u r' r h1 hr e
        omega
    · intro p r' h1 h2 b hb
      rw [getD_set _ _ _ hi] at h2
      split at h2
      · rename_i e
        have := hp.inj p u r' r h1 hr e
        subst this
        rw [hr] at h1; simp at h1; subst h1
        exact hmono _ (hm b hb)
      · exact hmono _ (h.closed p r' h1 h2 b hb)
    · cases hdst : o.dst with
      | none => exact h.tsize
      | some d => simp only [Act.put, Array.size_setIfInBounds]; exact h.tsize
    · intro x v' hx hg
      rw [put_get _ _ _ _ hdlt]
      by_cases e : o.dst = some x
      · rw [if_pos e]
        rw [hown x N hu h.le e] at hg
        simp at hg
        subst hg
        exact ⟨y, rfl, hv⟩
      · rw [if_neg e]
        obtain ⟨z, h1, h2⟩ := h.tmp x v' (fun p r' h1 h2 h3 hD => by
          by_cases hpu : p = u
          · subst hpu
            obtain ⟨r2, o2, k1, k2, k3⟩ := hD
            rw [hr] at k1; simp at k1; subst k1
            rw [ho] at k2; simp at k2; subst k2
            exact e k3
          · refine hx p r' h1 h2 ?_ hD
            rw [getD_set _ _ _ hi, if_neg (fun e0 => hpu (hp.inj p u r' r h2 hr e0))]
            exact h3) hg
        exact ⟨z, h1, conc_mono hle _ _ h2⟩
    · intro u' r' o' hu' hr' ho' hl' x hx hq v' hg
      obtain ⟨hl1, hl2⟩ := hset _ hl'
      have hne : u' ≠ u := fun e => by subst e; rw [hr] at hr'; simp at hr'; exact hl2 (by rw [hr'])
      rw [put_get _ _ _ _ hdlt]
      by_cases e : o.dst = some x
      · rw [if_pos e]
        rcases Nat.lt_or_ge u u' with hlt | hge
        · rw [hown x u' hlt (by have := h.le; omega) e] at hg
          simp at hg
          subst hg
          exact ⟨y, rfl, hv⟩
        · rcases (hp.apart u' u r' r o' o (by omega) hr' hr ho' ho).2 with h1 | h1
          · have := hm _ h1
            rw [hl1] at this; simp at this
          · exact absurd hx ((apart_look h1).2 e)
      · rw [if_neg e]
        obtain ⟨z, h1, h2⟩ := h.look u' r' o' hu' hr' ho' hl1 x hx (fun p r2 h1 h2 h3 hD => by
          by_cases hpu : p = u
          · subst hpu
            obtain ⟨r2', o2, k1, k2, k3⟩ := hD
            rw [hr] at k1; simp at k1; subst k1
            rw [ho] at k2; simp at k2; subst k2
            exact e k3
          · refine hq p r2 h1 h2 ?_ hD
            rw [getD_set _ _ _ hi, if_neg (fun e0 => hpu (hp.inj p u r2 r h2 hr e0))]
            exact h3) v' hg
        exact ⟨z, h1, conc_mono hle _ _ h2⟩
    · intro u' r' o' v' h1 h2 h3 h4 h5 h6 h7
      exact h.still u' r' o' v' h1 h2 h3 (hset _ h4).1 h5 h6 h7
    · intro u' r' o' b f h1 h2 h3 h4 h5 h6 h7 h8
      obtain ⟨hl1, hl2⟩ := hset _ h4
      obtain ⟨k1, k2, k3, k4⟩ := h.fresh u' r' o' b f h1 h2 h3 hl1 h5 h6 h7 h8
      refine ⟨?_, k2, k3, k4⟩
      rcases hwho with ⟨b0, f0, q1, q2, q3⟩ | hwho
      · refine hnone _ k1 ?_
        rcases Nat.lt_trichotomy u u' with hlt | heq | hgt
        · exact (h.far u u' r r' o o' b0 b f0 f hlt h1 hr h2 ho h3 hl hl1 hre h5 q1 h6 q2 h7 q3 h8).symm
        · subst heq; rw [hr] at h2; simp at h2; exact absurd (by rw [h2]) hl2
        · exact h.far u' u r' r o' o b b0 f f0 hgt hu h2 hr h3 ho hl1 hl h5 hre h6 q1 h7 q2 h8 q3
      · exact hwho _ k1
    · intro u1 u2 r1 r2 o1 o2 b1 b2 f1 f2 j1 j2 k1 k2 k3 k4 k5 k6
      exact h.far u1 u2 r1 r2 o1 o2 b1 b2 f1 f2 j1 j2 k1 k2 k3 k4 (hset _ k5).1 (hset _ k6).1
  unfold wpOpIn
  rw [ho]
  simp only
  have hstep : ∀ v, (S (u + 1)).t = ((S u).set o.dst v).t → ∀ x, o.dst = some x → (S (u + 1)).t.get (slotK x) = some v := fun v e x hx => by
    rw [e, set_get hd, if_pos hx]
  cases hs with
  | skip hw e =>
    rw [if_neg (by rw [wanted_ok htok (by rw [hwant]; exact hw)]; simp)]
    exact ⟨fen_about o w _, keep undefA undef ρ w (Le.refl _) undef_ok (hstep _ (by rw [e])) h.ext (fun _ h1 _ => h1) (.inr fun _ h1 => h1)⟩
  | act v h2 ds2 hw hr' ha e => rw [hre] at hr'; simp at hr'
  | quiet v hw hr' hq e =>
    rw [if_pos (wanted_ok htok (by rw [hwant]; exact hw))]
    have hqN := h.still u r o v hu hr ho hl hre hw hq
    rw [← quiet_congr hops] at hqN
    obtain ⟨x, hv, hrun⟩ := quiet_ok (P := P) h.ext.sim htok o hqN
    refine ⟨fen_about o w _, ?_⟩
    rw [fen_sem _ _ (quiet_noDefer hq), hrun]
    exact keep v x ρ w (Le.refl _) hv (hstep _ (by rw [e])) h.ext (fun _ h1 _ => h1) (.inr fun _ h1 => h1)
  | alloc b f hw hr' hn hq e =>
    rw [if_pos (wanted_ok htok (by rw [hwant]; exact hw))]
    obtain ⟨k1, k2, k3, k4⟩ := h.fresh u r o b f hu hr ho hl hre hw hn hq
    have hqN := hq
    rw [← alloc_congr hops] at hqN
    obtain ⟨ob, e0, x, hrun, hid⟩ := alloc_ok (P := P) h.ext.sim htok o hqN
    obtain ⟨g1, g2⟩ := hid _ k1
    refine ⟨fen_about o w _, ?_⟩
    rw [fen_sem _ _ (alloc_noDefer hq), hrun]
    refine keep (f (S u).h.nx) x _ _ (Le.up k1 _) g2 (hstep _ (by rw [e]; unfold St.set; cases o.dst with | none => rfl | some d => simp only; split <;> rfl)) ?_ (fun k h1 h2 => by rw [up_ne _ _ h2]; exact h1) (.inl ⟨b, f, hw, hn, hq⟩)
    refine ⟨h.ext.le.trans (Le.up k1 _), h.ext.sim.push k1 k3 k2 g1, h.ext.below.alloc ?_ ob, fun k hk hn0 => ?_, h.ext.nx⟩
    · exact h.ext.sim.base
    · obtain ⟨j1, j2⟩ := h.ext.frame k hk hn0
      exact ⟨by rw [up_ne _ _ (fun e1 => by rw [e1] at hk; omega)]; exact j1, j2⟩

end Go.Ev
