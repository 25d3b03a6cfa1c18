/-
  THE EVALUATOR's SOUNDNESS, part 23: an operation looks at its own operands alone; what reads, reads the same in a heap that has grown.
-/
import Derived.Test.YtodlhchgpmgeeaaGreatDoorEv23
namespace Go.Ev
open Go.RowKit
set_option linter.unusedSimpArgs false

variable {P : Program} {B : Nat} {ρ : Rho} {h : H}

theorem opvs_congr {t t' : Tr AV} : ∀ {l : List Operand}, (∀ x ∈ l, opv t x = opv t' x) → opvs t l = opvs t' l
  | [], _ => rfl
  | x :: l, hx => by
    simp only [opvs]
    rw [hx x (by simp), opvs_congr (l := l) (fun y hy => hx y (by simp [hy]))]

set_option maxHeartbeats 1000000 in
theorem quiet_congr {t t' : Tr AV} {op : Op} (hx : ∀ x ∈ op.operands, opv t x = opv t' x) : quietA P t h op = quietA P t' h op := by
  cases op <;> simp only [Op.operands] at hx <;> simp only [quietA]
  case move x => exact hx x (by simp)
  case assign x => exact hx x (by simp)
  case pick c a b => rw [hx c (by simp), hx a (by simp), hx b (by simp)]
  case nilCheck x => rw [hx x (by simp)]
  case binOp op ty x y e => rw [hx x (by simp), hx y (by simp)]
  case unOp op ty x => rw [hx x (by simp)]
  case convert s d x => rw [hx x (by simp)]
  case makeInterface ty x => rw [hx x (by simp)]
  case makeFunc fn first captured => rw [opvs_congr (t := t) (t' := t') (l := first.toList) (fun x h1 => hx x (by simp at h1; simp [h1])), opvs_congr (t := t) (t' := t') (l := captured.toList) (fun x h1 => hx x (by simp at h1; simp [h1]))]
  case slice ty x lo hi mx =>
    rw [hx x (by simp), opvs_congr (t := t) (t' := t') (l := lo.toList ++ hi.toList ++ mx.toList) (fun x h1 => hx x (by simp at h1 ⊢; rcases h1 with h1 | h1 | h1 <;> simp [h1]))]
    have e1 : lo.bind (opv t) = lo.bind (opv t') := by
      cases lo with
      | none => rfl
      | some y => exact hx y (by simp)
    have e2 : hi.bind (opv t) = hi.bind (opv t') := by
      cases hi with
      | none => rfl
      | some y => exact hx y (by simp)
    have e3 : mx.bind (opv t) = mx.bind (opv t') := by
      cases mx with
      | none => rfl
      | some y => exact hx y (by simp)
    rw [e1, e2, e3]
  case fieldAddr ty x f => rw [hx x (by simp)]
  case field ty x f => rw [hx x (by simp)]
  case indexAddr ty x i => rw [hx x (by simp), hx i (by simp)]
  case index ty x i => rw [hx x (by simp), hx i (by simp)]
  case lookup ty x k ok => rw [hx x (by simp), hx k (by simp)]
  case load ty x => rw [hx x (by simp)]
  case extract x i => rw [hx x (by simp)]
  case typeAssert x y ty ok => rw [hx x (by simp)]
  case build ty parts => rw [opvs_congr (t := t) (t' := t') (fun x h1 => hx x (by simp at h1 ⊢; exact h1))]
  case call c =>
    obtain ⟨callee, args, argTypes⟩ := c
    have ha : opvs t args.toList = opvs t' args.toList := opvs_congr (fun x h1 => hx x (by simp at h1; simp [Call.operands, h1]))
    have h1 : ∀ x, args.toList = [x] → opv t x = opv t' x := fun x e => hx x (by
      have : x ∈ args := by rw [← Array.mem_toList_iff, e]; simp
      simp [Call.operands, this])
    simp only
    rw [ha]
    split
    · split
      · rename_i x ty l e1 e2; rw [h1 x e1]
      · rfl
    · split
      · rename_i x ty l e1 e2; rw [h1 x e1]
      · rfl
    all_goals rfl

theorem alloc_congr {t t' : Tr AV} {op : Op} (hx : ∀ x ∈ op.operands, opv t x = opv t' x) : allocA P t op = allocA P t' op := by
  cases op <;> simp only [Op.operands] at hx <;> simp only [allocA]
  case box e x => rw [hx x (by simp)]
  case buildSlice ty n parts => rw [opvs_congr (t := t) (t' := t') (fun x h1 => hx x (by simp at h1 ⊢; exact h1))]
  case makeMap ty r =>
    cases r with
    | none => rfl
    | some x => simp only; rw [hx x (by simp)]
  case makeSlice ty l c => rw [hx l (by simp), hx c (by simp)]

theorem eff_congr {t t' : Tr AV} {op : Op} (hx : ∀ x ∈ op.operands, opv t x = opv t' x) : effA P t h op = effA P t' h op := by
  cases op <;> simp only [Op.operands] at hx <;> simp only [effA]
  case store ty a x => rw [hx x (by simp), hx a (by simp)]
  case mapUpdate ty m k v => rw [hx m (by simp), hx k (by simp), hx v (by simp)]
  case insert ty m k v => rw [hx m (by simp), hx k (by simp), hx v (by simp)]
  case range ty x => rw [hx x (by simp)]
  case next x b => rw [hx x (by simp)]
  case entry x => rw [hx x (by simp)]
  case call c =>
    obtain ⟨callee, args, argTypes⟩ := c
    have ha : opvs t args.toList = opvs t' args.toList := opvs_congr (fun x h1 => hx x (by simp at h1; simp [Call.operands, h1]))
    simp only
    rw [ha]

theorem actV_congr {G : Plug} {rd : Bool} {ev : Option K → Code → St → R (X × St)} {o : Oper} {t t' : Tr AV} {ds : List (AV × List AV)} (hx : ∀ x ∈ o.op.operands, opv t x = opv t' x) :
    actV P G rd ev o t h ds = actV P G rd ev o t' h ds := by
  unfold actV
  rw [eff_congr hx]
  cases effA P t' h o.op with
  | some q => rfl
  | none =>
    simp only
    cases hop : o.op <;> try rfl
    case call c =>
      rw [hop] at hx
      simp only [Op.operands] at hx
      have ha : opvs t c.args.toList = opvs t' c.args.toList := opvs_congr (fun x h1 => hx x (by simp at h1; simp [Call.operands, h1]))
      simp only
      rw [ha]
      cases hc : c.callee <;> try rfl
      simp only
      rw [hx _ (by simp [Call.operands, hc])]
    case defer c =>
      rw [hop] at hx
      simp only [Op.operands] at hx
      have ha : opvs t c.args.toList = opvs t' c.args.toList := opvs_congr (fun x h1 => hx x (by simp at h1; simp [Call.operands, h1]))
      simp only
      rw [ha]
      cases hc : c.callee <;> try rfl
      simp only
      rw [hx _ (by simp [Call.operands, hc])]

theorem opv_tmp {t t' : Tr AV} {x : Operand} (hx : ∀ i, x = .tmp i → t.get (slotK i) = t'.get (slotK i)) : opv t x = opv t' x := by
  cases x with
  | tmp i => exact hx i rfl
  | _ => rfl

theorem looks_opv {ops : Array Oper} {o : Oper} {t t' : Tr AV} (hx : ∀ i ∈ o.looksAt ops, t.get (slotK i) = t'.get (slotK i)) : ∀ x ∈ o.op.operands, opv t x = opv t' x :=
  fun x hm => opv_tmp fun i hi => hx i (by
    subst hi
    exact List.mem_append_left _ (List.mem_filterMap.2 ⟨.tmp i, by simpa using hm, rfl⟩))
theorem wantedA_congr {ops : Array Oper} {o : Oper} {t t' : Tr AV} (hx : ∀ i ∈ o.looksAt ops, t.get (slotK i) = t'.get (slotK i)) : wantedA ops o t = wantedA ops o t' := by
  unfold wantedA
  cases hg : o.guard with
  | none => rfl
  | some jw =>
    obtain ⟨j, want⟩ := jw
    simp only
    cases hq : ops[j]? with
    | none => rfl
    | some q =>
      simp only
      cases hd : q.dst with
      | none => rfl
      | some d =>
        simp only
        rw [hx d (List.mem_append_right _ (by simp [hg, hq, hd]))]

/-! ### heaps that have grown -/
/-- whatever h has, h' has -/
def More (h h' : H) : Prop := ∀ k b, h.t.get k = some b → h'.t.get k = some b
theorem More.refl (h : H) : More h h := fun _ _ e => e
theorem More.trans {a b c : H} (x : More a b) (y : More b c) : More a c := fun k d e => y k d (x k d e)

theorem getCells_more {h h' : H} (hm : More h h') {id : K} {off n : Nat} {l : List AV} (hg : getCells h id off n = some l) : getCells h' id off n = some l := by
  unfold getCells at *
  split at hg
  · rename_i cs a b c hh; rw [hm _ _ hh]; exact hg
  · simp at hg
theorem roomA_more {h h' : H} (hm : More h h') {id : K} {off beg sz len n : Nat} (hg : roomA h id off beg sz len = some n) : roomA h' id off beg sz len = some n := by
  unfold roomA at *
  split at hg
  · rename_i cs a b c hh; rw [hm _ _ hh]; exact hg
  · simp at hg

set_option maxHeartbeats 1000000 in
theorem quiet_more {h h' : H} (hm : More h h') {t : Tr AV} {op : Op} {v : AV} (hq : quietA P t h op = some v) : quietA P t h' op = some v := by
  cases op <;> simp only [quietA, reduceCtorEq] at hq ⊢ <;> try exact hq
  case slice ty x lo hi mx =>
    split at hq
    case h_2 => simp at hq
    rename_i a ha
    split at hq
    case h_2 => simp at hq
    rename_i vs hvs
    split at hq
    · simp at hq
    · rename_i hmh
      rw [if_neg hmh]
      unfold sliceA at hq ⊢
      split at hq
      · exact hq
      · exact hq
      · rename_i e id off beg len cap hd
        try simp only [hd]
        split at hq
        · simp at hq
        · rename_i sz hsz
          try rw [hsz]
          try simp only
          split at hq
          · exact hq
          · rename_i m hmx
            split at hq
            · simp at hq
            · rename_i room hr
              rw [roomA_more hm hr]
              exact hq
          · exact hq
          · split at hq
            · simp at hq
            · rename_i room hr
              rw [roomA_more hm hr]
              exact hq
      · exact hq
      · simp at hq
  case lookup ty x k ok =>
    split at hq
    case h_2 => simp at hq
    rename_i a b ha hb
    unfold lookupA at hq ⊢
    split at hq
    case h_2 => simp at hq
    rename_i kt et hd
    try rw [hd]
    try simp only
    split at hq
    case isFalse => simp at hq
    rename_i hk
    try rw [if_pos hk]
    cases a with
    | m id =>
      simp only at hq ⊢
      cases hg : h.t.get id with
      | none => rw [hg] at hq; simp at hq
      | some blk => rw [hm _ _ hg]; rw [hg] at hq; exact hq
    | _ => exact hq
  case load ty x =>
    split at hq
    case h_2 => simp at hq
    rename_i a ha
    unfold loadA at hq ⊢
    split at hq
    case h_2 => simp at hq
    rename_i id off d n hd hn
    try simp only [hd, hn]
    split at hq
    · rename_i hag
      try rw [if_pos hag]
      split at hq
      case h_2 => simp at hq
      rename_i l hl
      rw [getCells_more hm hl]
      exact hq
    · rename_i hag
      try rw [if_neg hag]
      split at hq
      case h_2 => simp at hq
      rename_i l hl
      rw [getCells_more hm hl]
      exact hq
  case call c =>
    obtain ⟨callee, args, argTypes⟩ := c
    simp only at hq ⊢
    split at hq <;> try exact hq
    try simp only
    split at hq
    case h_2 => simp at hq
    rename_i x ty l e1 e2
    split at hq
    case h_2 => simp at hq
    rename_i a ha
    try simp only [ha]
    unfold lenA at hq ⊢
    split at hq <;> try exact hq
    · rename_i id hd
      try simp only [hd]
      split at hq
      · rename_i es c hg; rw [hm _ _ hg]; exact hq
      · simp at hq

theorem new_more {h : H} (hn : h.t.get h.nx = none) (b : Blk) : More h (h.new b) := by
  intro k c hk
  rw [H.new_get, if_neg (fun e => by rw [e, hn] at hk; simp at hk)]
  exact hk

/-- what does not read the heap -/
theorem quiet_pure {h h' : H} {t : Tr AV} {op : Op} (hr : isRead op = false) : quietA P t h op = quietA P t h' op := by
  cases op <;> simp only [isRead, Bool.true_eq_false] at hr <;> rfl

end Go.Ev
