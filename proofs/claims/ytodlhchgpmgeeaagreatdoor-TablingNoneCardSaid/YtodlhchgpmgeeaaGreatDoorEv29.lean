/-
  THE EVALUATOR's SOUNDNESS, part 28: regions that draw their order: rows that act; the whole region.
-/
import Derived.Test.YtodlhchgpmgeeaaGreatDoorEv28
namespace Go.Ev
open Go.RowKit
set_option linter.unusedSimpArgs false

variable {P : Program} {G : Plug} {rd : Bool} {ev : Option K → Code → St → R (X × St)} {ops : Array Oper} {rs : List Row} {S : Nat → St} {s s' : St}
variable {B : Nat} {ρ0 ρ : Rho} {w0 w : World} {N : Nat} {listed : Array Bool} {a : Act}

/-- the row that acts, and whose turn it is, is done -/
theorem Inv.deed (hG : Good P G B) (ih : Sound P B ev) {ro : Option Nat} (hro : rd = ro.isSome) (hp : Plan ops rs) (hc : Canon P G rd ev ops rs S s s') (h : Inv B ops rs P S s ρ0 w0 N listed a w ρ) {r : Row} (hr : rs[N]? = some r) (hre : r.e = true)
    (hm : ∀ b, r.mask.testBit b = true → listed.getD b false = true) {K : Act → World → Prop} {Q : Exit → Act → World → Prop}
    (hk : ∀ ρ' a' w', Inv B ops rs P S s ρ0 w0 (N + 1) (listed.setIfInBounds r.i true) a' w' ρ' → K a' w') : wpOpIn (fen ro) 0 P ops Q r.i K a w := by
  obtain ⟨o, ho, hd, hs⟩ := hc.step N r hr
  have hNlen : N < rs.length := (List.getElem?_eq_some_iff.1 hr).1
  have hnt : (S N).nt = s.nt := hc.ntAt N (by omega)
  have hi : r.i < listed.size := by rw [h.size]; exact (Array.getElem?_eq_some_iff.1 ho).1
  have hlk : ∀ i ∈ o.looksAt ops, (cutT (S N).t (o.looksAt ops)).get (slotK i) = (S N).t.get (slotK i) := fun i hi => by rw [cutT_get, if_pos hi]
  have htok : TOk ρ (cutT (S N).t (o.looksAt ops)) s.nt a.tmps := cutT_ok h.tsize fun x hx v hv => h.tmp x v (Inv.looks hp hr ho hm x hx) hv
  have hops := looks_opv (ops := ops) hlk
  have hwant := wantedA_congr (ops := ops) (o := o) hlk
  have hdlt : ∀ d', o.dst = some d' → d' < a.tmps.size := fun d' e => by
    rw [e] at hd
    simp only [dstOk] at hd
    rw [h.tsize, ← hnt]
    simpa using hd
  have keep : ∀ (v : AV) (y : Value) (ρ' : Rho) (w' : World) (a2 : Act), a2.tmps = a.tmps → conc ρ' v = some y → (∀ x, o.dst = some x → (S (N + 1)).t.get (slotK x) = some v) → Ext B ρ (S N).h w ρ' (S (N + 1)).h w' →
      DOk ρ' (S (N + 1)).ds a2.defers → (∀ (u : Nat) (r' : Row) (o' : Oper) (v' : AV), u < N → rs[u]? = some r' → ops[r'.i]? = some o' → listed.getD r'.i false = false → r'.e = false → wantedA ops o' (S u).t = some true → quietA P (S u).t (S u).h o'.op = some v' → quietA P (S u).t (S (N + 1)).h o'.op = some v') →
      K (a2.put o.dst y) w' := by
    intro v y ρ' w' a2 ha2 hv hval hext hdok hstill
    have hset : ∀ j, (listed.setIfInBounds r.i true).getD j false = false → listed.getD j false = false ∧ j ≠ r.i := by
      intro j hj
      rw [getD_set _ _ _ hi] at hj
      split at hj
      · simp at hj
      · rename_i e; exact ⟨hj, e⟩
    have hmono : ∀ j, listed.getD j false = true → (listed.setIfInBounds r.i true).getD j false = true := by
      intro j hj
      rw [getD_set _ _ _ hi]
      split <;> simp [hj]
    have hself : ∀ u r', rs[u]? = some r' → (listed.setIfInBounds r.i true).getD r'.i false = false → u ≠ N := by
      intro u r' h1 h2 e
      subst e
      rw [hr] at h1; simp at h1
      exact (hset _ h2).2 (by rw [h1])
    have hput : ∀ x : Tmp, (a2.put o.dst y).tmps[x]? = if o.dst = some x then some y else a.tmps[x]? := by
      intro x
      rw [put_get _ _ _ _ (by rw [ha2]; exact hdlt), ha2]
    have hfar : ∀ x, o.dst ≠ some x → (S (N + 1)).t.get (slotK x) = (S N).t.get (slotK x) := fun x hx => hs.keep hd hx
    refine hk ρ' _ w' ⟨hNlen, by simp [h.size], ?_, ?_, ?_, h.ext.trans hext, by rw [put_defers]; exact hdok, ?_, ?_, ?_, ?_, ?_, ?_⟩
    · intro p r' h1 h2
      rw [getD_set _ _ _ hi, if_neg]
      · exact h.later p r' h1 (by omega)
      · intro e
        have := hp.inj p N r' r h1 hr e
        omega
    · intro p r' h1 h2 h3
      by_cases e : p = N
      · subst e
        rw [hr] at h1; simp at h1; subst h1
        rw [getD_set _ _ _ hi, if_pos rfl]
      · exact hmono _ (h.acts p r' h1 (by omega) h3)
    · intro p r' h1 h2 b hb
      rw [getD_set _ _ _ hi] at h2
      split at h2
      · rename_i e
        have := hp.inj p N r' r h1 hr e
        subst this
        rw [hr] at h1; simp at h1; subst h1
        exact hmono _ (hm b hb)
      · exact hmono _ (h.closed p r' h1 h2 b hb)
    · cases hdst : o.dst with
      | none => simp only [Act.put]; rw [ha2]; exact h.tsize
      | some d => simp only [Act.put, Array.size_setIfInBounds]; rw [ha2]; exact h.tsize
    · intro x v' hx hg
      rw [hput]
      by_cases e : o.dst = some x
      · rw [if_pos e]
        rw [hval x e] at hg
        simp at hg
        subst hg
        exact ⟨y, rfl, hv⟩
      · rw [if_neg e]
        rw [hfar x e] at hg
        obtain ⟨z, h1, h2⟩ := h.tmp x v' (fun p r' h1 h2 h3 hD => by
          refine hx p r' (by omega) h2 ?_ hD
          rw [getD_set _ _ _ hi, if_neg (fun e0 => by have := hp.inj p N r' r h2 hr e0; omega)]
          exact h3) hg
        exact ⟨z, h1, conc_mono hext.le _ _ h2⟩
    · intro u r' o' hu hr' ho' hl' x hx hq v' hg
      have hne := hself u r' hr' hl'
      obtain ⟨hl1, _⟩ := hset _ hl'
      rw [hput]
      by_cases e : o.dst = some x
      · rcases (hp.apart u N r' r o' o (by omega) hr' hr ho' ho).2 with h1 | h1
        · have := hm _ h1
          rw [hl1] at this; simp at this
        · exact absurd hx ((apart_look h1).2 e)
      · rw [if_neg e]
        obtain ⟨z, h1, h2⟩ := h.look u r' o' (by omega) hr' ho' hl1 x hx (fun p r2 h1 h2 h3 hD => by
          refine hq p r2 h1 h2 ?_ hD
          rw [getD_set _ _ _ hi, if_neg (fun e0 => by have := hp.inj p N r2 r h2 hr e0; omega)]
          exact h3) v' hg
        exact ⟨z, h1, conc_mono hext.le _ _ h2⟩
    · intro u r' o' v' h1 h2 h3 h4 h5 h6 h7
      have hne := hself u r' h2 h4
      exact hstill u r' o' v' (by omega) h2 h3 (hset _ h4).1 h5 h6 h7
    · intro u r' o' b f h1 h2 h3 h4 h5 h6 h7 h8
      have hne := hself u r' h2 h4
      obtain ⟨k1, k2, k3, k4⟩ := h.fresh u r' o' b f (by omega) h2 h3 (hset _ h4).1 h5 h6 h7 h8
      obtain ⟨j1, j2⟩ := hext.frame _ k3 k1
      exact ⟨j1, by rw [j2]; exact k2, Nat.lt_of_lt_of_le k3 hext.nx, k4⟩
    · intro u1 u2 r1 r2 o1 o2 b1 b2 f1 f2 j1 j2 k1 k2 k3 k4 k5 k6
      have hne := hself u2 r2 k2 k6
      exact h.far u1 u2 r1 r2 o1 o2 b1 b2 f1 f2 j1 (by omega) k1 k2 k3 k4 (hset _ k5).1 (hset _ k6).1
  have notIn : ∀ (u : Nat) (r' : Row), u < N → rs[u]? = some r' → listed.getD r'.i false = false → r.mask.testBit r'.i = false := by
    intro u r' _ _ h3
    cases hb : r.mask.testBit r'.i with
    | false => rfl
    | true => have := hm _ hb; rw [h3] at this; simp at this
  unfold wpOpIn
  rw [ho]
  simp only
  cases hs with
  | skip hw e =>
    rw [if_neg (by rw [wanted_ok htok (by rw [hwant]; exact hw)]; simp)]
    refine ⟨fen_about o w _, keep undefA undef ρ w a rfl undef_ok (fun x hx => by rw [e, set_get hd, if_pos hx]) (by rw [e, set_h]; exact Ext.refl h.ext.sim) (by rw [e, set_ds]; exact h.dok) ?_⟩
    intro u r' o' v' h1 h2 h3 h4 h5 h6 h7
    rw [e, set_h]
    exact h.still u r' o' v' h1 h2 h3 h4 h5 h6 h7
  | act v h2 ds2 hw hr' ha e =>
    rw [if_pos (wanted_ok htok (by rw [hwant]; exact hw))]
    have ha' := ha
    rw [← actV_congr hops] at ha'
    refine actV_ok hG ih ha' hro h.ext.sim htok h.dok fun ρ' x a2 w' hx hv h3 h4 => ?_
    have hh : (S (N + 1)).h = h2 := by rw [e, set_h]
    have hds : (S (N + 1)).ds = ds2 := by rw [e, set_ds]
    refine keep v x ρ' w' a2 h3 hv (fun y hy => by rw [e, set_get (s := { S N with h := h2, ds := ds2 }) hd, if_pos hy]) (by rw [hh]; exact hx) (by rw [hds]; exact h4) ?_
    intro u r' o' v' k1 k2 k3 k4 k5 k6 k7
    cases hrd : isRead o'.op with
    | false => rw [← quiet_pure (h := (S u).h) hrd]; exact k7
    | true => exact hc.again u N r' r o' o v' k1 k2 hr k3 ho k6 k5 hrd k7 hw hre (notIn u r' k1 k2 k4)
  | quiet v hw hr' hq e => rw [hre] at hr'; simp at hr'
  | alloc b f hw hr' hn hq e => rw [hre] at hr'; simp at hr'

/-- ready: all that it waits for is done -/
theorem Inv.ready (hp : Plan ops rs) (h : Inv B ops rs P S s ρ0 w0 N listed a w ρ) {i : Nat} (hi : i ∈ Region.ready .any ops listed) : ∃ (p : Nat) (r : Row), rs[p]? = some r ∧ r.i = i ∧ listed.getD i false = false ∧ ∀ b, r.mask.testBit b = true → listed.getD b false = true := by
  obtain ⟨h1, o, h2, h3⟩ := mem_ready.1 hi
  have hlt : i < ops.size := (Array.getElem?_eq_some_iff.1 h2).1
  obtain ⟨p, r, hr, rfl⟩ := hp.all i hlt
  obtain ⟨o', k1, k2, k3, k4⟩ := hp.op p r hr
  rw [h2] at k1; simp at k1; subst k1
  refine ⟨p, r, hr, rfl, ?_, fun b hb => ?_⟩
  · have : r.i < listed.size := by rw [h.size]; exact hlt
    simpa [Array.getD_eq_getD_getElem?, this] using h1
  · obtain ⟨e, he, hbi, hb⟩ := k4 b hb
    have hl := h3 e he hbi
    rcases hb with rfl | ⟨q, r', hq, hqi, hb⟩
    · exact hl
    · exact h.closed q r' hq (by rw [hqi]; exact hl) b hb

/-- nothing is ready: all is done -/
theorem Inv.all (hp : Plan ops rs) (h : Inv B ops rs P S s ρ0 w0 N listed a w ρ) (hr : Region.ready .any ops listed = []) : ∀ (k p : Nat) (r : Row), p < k → rs[p]? = some r → listed.getD r.i false = true
  | 0, p, r, hk, _ => by omega
  | k + 1, p, r, hk, hpr => by
    have ih := Inv.all hp h hr k
    by_cases hlt : p < k
    · exact ih p r hlt hpr
    cases hl : listed.getD r.i false with
    | true => rfl
    | false =>
      exfalso
      obtain ⟨o, k1, k2, k3, k4⟩ := hp.op p r hpr
      have hsz : r.i < listed.size := by rw [h.size]; exact (Array.getElem?_eq_some_iff.1 k1).1
      have : r.i ∈ Region.ready .any ops listed := mem_ready.2 ⟨by simpa [Array.getD_eq_getD_getElem?, hsz] using hl, o, k1, fun e he hb => by
        obtain ⟨q, r', q1, q2, q3⟩ := hp.sub p r hpr e.on (k3 e he hb)
        rw [← q3]
        exact ih q r' (by omega) q2⟩
      rw [hr] at this
      simp at this

end Go.Ev
