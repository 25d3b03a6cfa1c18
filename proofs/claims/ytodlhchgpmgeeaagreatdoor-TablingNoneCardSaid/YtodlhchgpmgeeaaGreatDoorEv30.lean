/-
  THE EVALUATOR's SOUNDNESS, part 29: a region that draws its order, as a whole.
-/
import Derived.Test.YtodlhchgpmgeeaaGreatDoorEv29
namespace Go.Ev
open Go.RowKit
set_option linter.unusedSimpArgs false

variable {P : Program} {G : Plug} {rd : Bool} {ev : Option K → Code → St → R (X × St)} {ops : Array Oper} {rs : List Row} {S : Nat → St} {s s' : St}
variable {B : Nat} {ρ0 ρ : Rho} {w0 w : World} {N : Nat} {listed : Array Bool} {a : Act}

theorem Inv.finish (hp : Plan ops rs) (hc : Canon P G rd ev ops rs S s s') (h : Inv B ops rs P S s ρ0 w0 N listed a w ρ) (hr : Region.ready .any ops listed = []) :
    Ext B ρ0 s.h w0 ρ s'.h w ∧ TOk ρ s'.t s'.nt a.tmps ∧ DOk ρ s'.ds a.defers := by
  have hall : ∀ (p : Nat) (r : Row), rs[p]? = some r → listed.getD r.i false = true := fun p r => h.all hp hr (p + 1) p r (by omega)
  have hN : N = rs.length := by
    rcases Nat.lt_or_ge N rs.length with hlt | hge
    · have h1 := h.later N rs[N] (List.getElem?_eq_getElem hlt) (Nat.le_refl _)
      rw [hall N _ (List.getElem?_eq_getElem hlt)] at h1
      simp at h1
    · have := h.le; omega
  subst hN
  have hx := h.ext
  have hd := h.dok
  rw [hc.last] at hx hd
  refine ⟨hx, ⟨by rw [h.tsize, ← hc.last, hc.ntAt _ (Nat.le_refl _)], fun i v hv => ?_⟩, hd⟩
  rw [← hc.last] at hv
  exact h.tmp i v (fun p r _ h2 h3 => by rw [hall p r h2] at h3; simp at h3) hv

theorem count_set (l : Array Bool) (i : Nat) (hi : l.getD i true = false) : (l.setIfInBounds i true).toList.count false + 1 = l.toList.count false := by
  have hlt : i < l.size := by
    rcases Nat.lt_or_ge i l.size with h | h
    · exact h
    · simp [Array.getD_eq_getD_getElem?, h] at hi
  have hv : l.toList[i]'(by simpa using hlt) = false := by
    simpa [Array.getD_eq_getD_getElem?, hlt] using hi
  have hmem : false ∈ l.toList := by rw [← hv]; exact List.getElem_mem _
  have hpos : 0 < l.toList.count false := List.count_pos_iff.2 hmem
  have hpos' : 1 ≤ l.toList.count false := hpos
  rw [Array.toList_setIfInBounds, List.count_set (by simpa using hlt), hv]
  simp only [beq_self_eq_true, if_true, show (true == false) = false from rfl, Bool.false_eq_true, if_false]
  omega

theorem Inv.any (hG : Good P G B) (ih : Sound P B ev) {ro : Option Nat} (hro : rd = ro.isSome) (hp : Plan ops rs) (hc : Canon P G rd ev ops rs S s s') {Q : Exit → Act → World → Prop}
    (hk : ∀ (ρ' : Rho) (a' : Act) (w' : World), Ext B ρ0 s.h w0 ρ' s'.h w' → TOk ρ' s'.t s'.nt a'.tmps → DOk ρ' s'.ds a'.defers → Q .normal a' w') :
    ∀ (fuel N : Nat) (listed : Array Bool) (a : Act) (w : World) (ρ : Rho), Inv B ops rs P S s ρ0 w0 N listed a w ρ → listed.toList.count false ≤ fuel → wpAnyIn (fen ro) 0 P .any ops Q fuel listed a w
  | 0, N, listed, a, w, ρ, h, hf => by
    have hr : Region.ready .any ops listed = [] := by
      cases hr : Region.ready .any ops listed with
      | nil => rfl
      | cons i l =>
        exfalso
        obtain ⟨h1, _⟩ := mem_ready.1 (show i ∈ Region.ready .any ops listed by rw [hr]; simp)
        have := count_set listed i h1
        omega
    refine ⟨hr, ?_⟩
    obtain ⟨h1, h2, h3⟩ := h.finish hp hc hr
    exact hk ρ a w h1 h2 h3
  | fuel + 1, N, listed, a, w, ρ, h, hf => by
    refine ⟨fun hr => ?_, fun i hi => ?_⟩
    · obtain ⟨h1, h2, h3⟩ := h.finish hp hc hr
      exact hk ρ a w h1 h2 h3
    · obtain ⟨h1, _⟩ := mem_ready.1 hi
      have hcnt := count_set listed i h1
      obtain ⟨p, r, hr, rfl, hl, hm⟩ := h.ready hp hi
      obtain ⟨N', hN, h', hend⟩ := Inv.next hc _ N (Nat.le_refl _) h
      have hplen : p < rs.length := (List.getElem?_eq_some_iff.1 hr).1
      rcases Nat.lt_trichotomy p N' with hlt | rfl | hgt
      · exact h'.calm hp hc hlt hr hl hm fun ρ' a' w' hi' => Inv.any hG ih hro hp hc hk fuel N' _ a' w' ρ' hi' (by omega)
      · have hre : r.e = true := by
          rcases hend with hend | ⟨r', hr', hre⟩
          · omega
          · rw [hr] at hr'; simp at hr'; subst hr'; exact hre
        exact h'.deed hG ih hro hp hc hr hre hm fun ρ' a' w' hi' => Inv.any hG ih hro hp hc hk fuel (p + 1) _ a' w' ρ' hi' (by omega)
      · exfalso
        rcases hend with hend | ⟨r', hr', hre⟩
        · omega
        · have h1 := hm _ (hp.acts N' p r' r hgt hr' hr hre)
          rw [h'.later N' r' hr' (Nat.le_refl _)] at h1
          simp at h1

theorem region_ok (hG : Good P G B) (ih : Sound P B ev) {ro : Option Nat} (hro : rd = ro.isSome) {draw : Bool} (he : regionA P G rd ev ops draw s = .ok s') (hs : Sim B ρ s.h w.heap) (ht : TOk ρ s.t s.nt a.tmps) (hd : DOk ρ s.ds a.defers)
    {id : Nat} {Q : Exit → Act → World → Prop} (hk : ∀ (ρ' : Rho) (a' : Act) (w' : World), Ext B ρ s.h w ρ' s'.h w' → TOk ρ' s'.t s'.nt a'.tmps → DOk ρ' s'.ds a'.defers → Q .normal a' w') :
    (Code.region id ops draw).wpIn (fen ro) 0 P Q a w := by
  unfold regionA at he
  cases draw with
  | false =>
    simp only [Bool.false_eq_true, if_false] at he
    exact wpIn_region_list (ops_ok hG ih hro _ _ _ he ρ a w hs ht hd hk)
  | true =>
    simp only [if_true] at he
    split at he
    case h_2 => simp at he
    rename_i rs hpl
    have hp := plan_ok hpl
    obtain ⟨S, hc, _⟩ := canon_ok _ _ _ _ he
    refine wpIn_region_any hG.mixed (Inv.any (ρ0 := ρ) (w0 := w) hG ih hro hp hc hk ops.size 0 _ a _ ρ ?_ (by simp))
    have hfalse : ∀ j, (Array.replicate ops.size false).getD j false = false := fun j => by
      rw [Array.getD_eq_getD_getElem?, Array.getElem?_replicate]
      split <;> rfl
    refine ⟨Nat.zero_le _, by simp, fun p r h1 _ => hfalse _, fun p r h1 h2 => by omega, fun p r h1 h2 => by rw [hfalse] at h2; simp at h2, ?_, by rw [hc.zero]; exact hd, ht.1, ?_, ?_, ?_, ?_, ?_⟩
    · rw [hc.zero]; exact Ext.drew (w := w) (Ext.refl (w := w.drew) hs)
    · intro x v _ hg
      rw [hc.zero] at hg
      exact ht.2 x v hg
    · intro u r o hu; omega
    · intro u r o v hu; omega
    · intro u r o b f hu; omega
    · intro u u' r r' o o' b b' f f' huu hu'; omega

end Go.Ev
