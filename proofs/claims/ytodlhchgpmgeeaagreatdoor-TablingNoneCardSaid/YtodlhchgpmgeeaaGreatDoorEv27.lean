/-
  THE EVALUATOR's SOUNDNESS, part 26: regions that draw their order: what holds at every moment, whatever the order.
-/
import Derived.Test.YtodlhchgpmgeeaaGreatDoorEv26
namespace Go.Ev
open Go.RowKit
set_option linter.unusedSimpArgs false

theorem set_get {s : St} {d : Option Tmp} (hd : dstOk s.nt d = true) (v : AV) (x : Tmp) : (s.set d v).t.get (slotK x) = if d = some x then some v else s.t.get (slotK x) := by
  cases d with
  | none => simp [St.set]
  | some d =>
    simp only [dstOk] at hd
    simp only [St.set, hd, if_true, Tr.get_put]
    by_cases e : x = d
    · subst e; simp
    · rw [if_neg (fun h => e (slotK_inj h)), if_neg (by simpa using fun h => e h.symm)]

variable {P : Program} {G : Plug} {rd : Bool} {ev : Option K → Code → St → R (X × St)} {ops : Array Oper} {rs : List Row} {S : Nat → St} {s s' : St}

theorem RowStep.nt {r : Row} {o : Oper} {s s' : St} (h : RowStep P G rd ev ops r o s s') : s'.nt = s.nt := by
  cases h with
  | skip hw e => subst e; exact set_nt _ _ _
  | act v h2 ds2 hw hr ha e => subst e; exact set_nt _ _ _
  | quiet v hw hr hq e => subst e; exact set_nt _ _ _
  | alloc b f hw hr hn hq e => subst e; exact set_nt _ _ _
theorem RowStep.keep {r : Row} {o : Oper} {s s' : St} (h : RowStep P G rd ev ops r o s s') (hd : dstOk s.nt o.dst = true) {x : Tmp} (hx : o.dst ≠ some x) : s'.t.get (slotK x) = s.t.get (slotK x) := by
  cases h with
  | skip hw e => subst e; rw [set_get hd, if_neg hx]
  | act v h2 ds2 hw hr ha e => subst e; rw [set_get (s := { s with h := h2, ds := ds2 }) hd, if_neg hx]
  | quiet v hw hr hq e => subst e; rw [set_get hd, if_neg hx]
  | alloc b f hw hr hn hq e => subst e; rw [set_get (s := { s with h := s.h.new b }) hd, if_neg hx]

theorem sameDst_ne {a b : Option Tmp} (h : sameDst a b = false) {x : Tmp} (ha : a = some x) : b ≠ some x := by
  intro hb
  subst ha hb
  simp [sameDst] at h

/-- row p writes x -/
def D (ops : Array Oper) (rs : List Row) (p : Nat) (x : Tmp) : Prop := ∃ r o, rs[p]? = some r ∧ ops[r.i]? = some o ∧ o.dst = some x

theorem Canon.ntAt (hc : Canon P G rd ev ops rs S s s') : ∀ p, p ≤ rs.length → (S p).nt = s.nt
  | 0, _ => by rw [hc.zero]
  | p + 1, hp => by
    obtain ⟨o, _, _, hs⟩ := hc.step p rs[p] (List.getElem?_eq_getElem (by omega))
    rw [hs.nt, hc.ntAt p (by omega)]

theorem Canon.get_far (hc : Canon P G rd ev ops rs S s s') (x : Tmp) (p : Nat) : ∀ k, p + k ≤ rs.length → (∀ q, p ≤ q → q < p + k → ¬ D ops rs q x) → (S (p + k)).t.get (slotK x) = (S p).t.get (slotK x)
  | 0, _, _ => rfl
  | k + 1, hp, hn => by
    have hr : rs[p + k]? = some rs[p + k] := List.getElem?_eq_getElem (by omega)
    obtain ⟨o, ho, hd, hs⟩ := hc.step (p + k) _ hr
    have := hs.keep hd (x := x) (fun e => hn (p + k) (by omega) (by omega) ⟨_, o, hr, ho, e⟩)
    rw [show p + (k + 1) = p + k + 1 by omega, this]
    exact hc.get_far x p k (by omega) (fun q h1 h2 => hn q h1 (by omega))

/-- the value that row u writes stays -/
theorem Canon.get_own (hp : Plan ops rs) (hc : Canon P G rd ev ops rs S s s') {u N : Nat} {r : Row} {o : Oper} {x : Tmp} (hu : u < N) (hN : N ≤ rs.length) (hr : rs[u]? = some r) (ho : ops[r.i]? = some o) (hx : o.dst = some x) :
    (S N).t.get (slotK x) = (S (u + 1)).t.get (slotK x) := by
  obtain ⟨k, rfl⟩ : ∃ k, N = u + 1 + k := ⟨N - (u + 1), by omega⟩
  refine hc.get_far x (u + 1) k hN fun q h1 h2 hq => ?_
  obtain ⟨r', o', hr', ho', hx'⟩ := hq
  exact sameDst_ne (hp.apart u q r r' o o' (by omega) hr hr' ho ho').1 hx hx'

/-- what holds while the region runs: listed: what is done; N: all that acts before it is done, nothing from it on is -/
structure Inv (B : Nat) (ops : Array Oper) (rs : List Row) (P : Program) (S : Nat → St) (s : St) (ρ0 : Rho) (w0 : World) (N : Nat) (listed : Array Bool) (a : Act) (w : World) (ρ : Rho) : Prop where
  le : N ≤ rs.length
  size : listed.size = ops.size
  later : ∀ (p : Nat) (r : Row), rs[p]? = some r → N ≤ p → listed.getD r.i false = false
  acts : ∀ (p : Nat) (r : Row), rs[p]? = some r → p < N → r.e = true → listed.getD r.i false = true
  closed : ∀ (p : Nat) (r : Row), rs[p]? = some r → listed.getD r.i false = true → ∀ b, r.mask.testBit b = true → listed.getD b false = true
  ext : Ext B ρ0 s.h w0 ρ (S N).h w
  dok : DOk ρ (S N).ds a.defers
  tsize : a.tmps.size = s.nt
  tmp : ∀ (x : Tmp) (v : AV), (∀ (p : Nat) (r : Row), p < N → rs[p]? = some r → listed.getD r.i false = false → ¬ D ops rs p x) → (S N).t.get (slotK x) = some v → ∃ y, a.tmps[x]? = some y ∧ conc ρ v = some y
  look : ∀ (u : Nat) (r : Row) (o : Oper), u < N → rs[u]? = some r → ops[r.i]? = some o → listed.getD r.i false = false → ∀ x ∈ o.looksAt ops,
    (∀ (p : Nat) (r : Row), p < u → rs[p]? = some r → listed.getD r.i false = false → ¬ D ops rs p x) → ∀ v, (S u).t.get (slotK x) = some v → ∃ y, a.tmps[x]? = some y ∧ conc ρ v = some y
  still : ∀ (u : Nat) (r : Row) (o : Oper) (v : AV), u < N → rs[u]? = some r → ops[r.i]? = some o → listed.getD r.i false = false → r.e = false → wantedA ops o (S u).t = some true → quietA P (S u).t (S u).h o.op = some v → quietA P (S u).t (S N).h o.op = some v
  fresh : ∀ (u : Nat) (r : Row) (o : Oper) (b : Blk) (f : K → AV), u < N → rs[u]? = some r → ops[r.i]? = some o → listed.getD r.i false = false → r.e = false → wantedA ops o (S u).t = some true → quietA P (S u).t (S u).h o.op = none → allocA P (S u).t o.op = some (b, f) →
    ρ (S u).h.nx = none ∧ (S N).h.t.get (S u).h.nx = some b ∧ (S u).h.nx.toNat < (S N).h.nx.toNat ∧ s.h.nx.toNat ≤ (S u).h.nx.toNat
  far : ∀ (u u' : Nat) (r r' : Row) (o o' : Oper) (b b' : Blk) (f f' : K → AV), u < u' → u' < N → rs[u]? = some r → rs[u']? = some r' → ops[r.i]? = some o → ops[r'.i]? = some o' → listed.getD r.i false = false → listed.getD r'.i false = false → r.e = false → r'.e = false →
    wantedA ops o (S u).t = some true → wantedA ops o' (S u').t = some true → quietA P (S u).t (S u).h o.op = none → quietA P (S u').t (S u').h o'.op = none → allocA P (S u).t o.op = some (b, f) → allocA P (S u').t o'.op = some (b', f') → (S u).h.nx ≠ (S u').h.nx

variable {B : Nat} {ρ0 ρ : Rho} {w0 w : World} {N : Nat} {listed : Array Bool} {a : Act}

theorem Ext.grow {h h' : H} (e : Ext B ρ0 h w0 ρ h' w) (b : Blk) : Ext B ρ0 h w0 ρ (h'.new b) w := by
  refine ⟨e.le, e.sim.grow b, e.below, fun k hk hn => ?_, by have := e.nx; simp only [H.new, K.toNat_succ]; omega⟩
  obtain ⟨h1, h2⟩ := e.frame k hk hn
  have := e.nx
  refine ⟨h1, ?_⟩
  rw [H.new_get, if_neg (fun e0 => by rw [e0] at hk; omega)]
  exact h2

/-- a row that does not act comes under the pending ones -/
theorem Inv.advance (hc : Canon P G rd ev ops rs S s s') (h : Inv B ops rs P S s ρ0 w0 N listed a w ρ) {r : Row} (hr : rs[N]? = some r) (hre : r.e = false) : Inv B ops rs P S s ρ0 w0 (N + 1) listed a w ρ := by
  obtain ⟨o, ho, hd, hs⟩ := hc.step N r hr
  have hlt : N < rs.length := (List.getElem?_eq_some_iff.1 hr).1
  have hpend : listed.getD r.i false = false := h.later N r hr (Nat.le_refl _)
  have hsplit : ∀ u, u < N + 1 → u < N ∨ u = N := fun u hu => by omega
  have hh : (S (N + 1)).h = (S N).h ∨ ∃ b f, wantedA ops o (S N).t = some true ∧ quietA P (S N).t (S N).h o.op = none ∧ allocA P (S N).t o.op = some (b, f) ∧ (S (N + 1)).h = (S N).h.new b := by
    cases hs with
    | skip hw e => left; rw [e, set_h]
    | act v h2 ds2 hw hr' ha e => rw [hre] at hr'; simp at hr'
    | quiet v hw hr' hq e => left; rw [e, set_h]
    | alloc b f hw hr' hn hq e => right; exact ⟨b, f, hw, hn, hq, by rw [e, set_h]⟩
  have hds : (S (N + 1)).ds = (S N).ds := by
    cases hs with
    | skip hw e => rw [e, set_ds]
    | act v h2 ds2 hw hr' ha e => rw [hre] at hr'; simp at hr'
    | quiet v hw hr' hq e => rw [e, set_ds]
    | alloc b f hw hr' hn hq e => rw [e, set_ds]
  have hmore : More (S N).h (S (N + 1)).h := by
    rcases hh with hh | ⟨b, f, _, _, _, hh⟩
    · rw [hh]; exact More.refl _
    · rw [hh]; exact new_more h.ext.sim.nx_free b
  have hnx : (S N).h.nx.toNat ≤ (S (N + 1)).h.nx.toNat := by
    rcases hh with hh | ⟨b, f, _, _, _, hh⟩
    · rw [hh]; exact Nat.le_refl _
    · rw [hh]; simp [H.new, K.toNat_succ]
  refine ⟨hlt, h.size, fun p r' h1 h2 => h.later p r' h1 (by omega), ?_, h.closed, ?_, by rw [hds]; exact h.dok, h.tsize, ?_, ?_, ?_, ?_, ?_⟩
  · intro p r' h1 h2 h3
    rcases hsplit p h2 with h2 | rfl
    · exact h.acts p r' h1 h2 h3
    · rw [hr] at h1; simp at h1; subst h1; rw [hre] at h3; simp at h3
  · rcases hh with hh | ⟨b, f, _, _, _, hh⟩
    · rw [hh]; exact h.ext
    · rw [hh]; exact h.ext.grow b
  · intro x v hx hg
    have hN : ¬ D ops rs N x := hx N r (by omega) hr hpend
    rw [hs.keep hd (fun e => hN ⟨r, o, hr, ho, e⟩)] at hg
    exact h.tmp x v (fun p r' h1 h2 h3 => hx p r' (by omega) h2 h3) hg
  · intro u r' o' hu hr' ho' hl x hx hq v hg
    rcases hsplit u hu with hu | rfl
    · exact h.look u r' o' hu hr' ho' hl x hx hq v hg
    · exact h.tmp x v hq hg
  · intro u r' o' v hu hr' ho' hl hre' hw hq
    rcases hsplit u hu with hu | rfl
    · exact quiet_more hmore (h.still u r' o' v hu hr' ho' hl hre' hw hq)
    · exact quiet_more hmore hq
  · intro u r' o' b f hu hr' ho' hl hre' hw hq ha
    rcases hsplit u hu with hu | rfl
    · obtain ⟨h1, h2, h3, h4⟩ := h.fresh u r' o' b f hu hr' ho' hl hre' hw hq ha
      exact ⟨h1, hmore _ _ h2, by omega, h4⟩
    · rw [hr] at hr'; simp at hr'; subst hr'
      rw [ho] at ho'; simp at ho'; subst ho'
      refine ⟨h.ext.sim.nx_none, ?_, ?_, h.ext.nx⟩
      · cases hs with
        | skip hw' e => rw [hw] at hw'; simp at hw'
        | act v h2 ds2 hw' hr' ha' e => rw [hre] at hr'; simp at hr'
        | quiet v hw' hr' hq' e => rw [hq] at hq'; simp at hq'
        | alloc b' f' hw' hr' hn' hq' e =>
          rw [ha] at hq'
          simp at hq'
          rw [e, set_h, H.new_get, if_pos rfl, hq'.1]
      · cases hs with
        | skip hw' e => rw [hw] at hw'; simp at hw'
        | act v h2 ds2 hw' hr' ha' e => rw [hre] at hr'; simp at hr'
        | quiet v hw' hr' hq' e => rw [hq] at hq'; simp at hq'
        | alloc b' f' hw' hr' hn' hq' e => rw [e, set_h]; simp [H.new, K.toNat_succ]
  · intro u u' r1 r2 o1 o2 b1 b2 f1 f2 huu hu' k1 k2 k3 k4 k5 k6 k7 k8 k9 k10 k11 k12 k13 k14
    rcases hsplit u' hu' with hu' | rfl
    · exact h.far u u' r1 r2 o1 o2 b1 b2 f1 f2 huu hu' k1 k2 k3 k4 k5 k6 k7 k8 k9 k10 k11 k12 k13 k14
    · obtain ⟨_, _, h3, _⟩ := h.fresh u r1 o1 b1 f1 huu k1 k3 k5 k7 k9 k11 k13
      intro e
      rw [e] at h3
      omega

/-- up to the next row that acts -/
theorem Inv.next (hc : Canon P G rd ev ops rs S s s') : ∀ (k N : Nat), rs.length - N ≤ k → Inv B ops rs P S s ρ0 w0 N listed a w ρ → ∃ N', N ≤ N' ∧ Inv B ops rs P S s ρ0 w0 N' listed a w ρ ∧ (N' = rs.length ∨ ∃ r, rs[N']? = some r ∧ r.e = true)
  | 0, N, hk, h => ⟨N, Nat.le_refl _, h, .inl (by have := h.le; omega)⟩
  | k + 1, N, hk, h => by
    cases hr : rs[N]? with
    | none =>
      have := List.getElem?_eq_none_iff.1 hr
      exact ⟨N, Nat.le_refl _, h, .inl (by have := h.le; omega)⟩
    | some r =>
      cases hre : r.e with
      | true => exact ⟨N, Nat.le_refl _, h, .inr ⟨r, hr, hre⟩⟩
      | false =>
        obtain ⟨N', h1, h2, h3⟩ := Inv.next hc k (N + 1) (by omega) (h.advance hc hr hre)
        exact ⟨N', by omega, h2, h3⟩

end Go.Ev
