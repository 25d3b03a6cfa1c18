/-
  THE QUICK EVALUATOR's SOUNDNESS, part 2: integers, binary operations, quiet operations.
-/
import Derived.Test.YtodlhchgpmgeeaaGreatDoorFv2
import Derived.IntWalk
namespace Go.Ev
set_option linter.unusedSimpArgs false
set_option linter.unusedVariables false

theorem wrap_in (k : IntKind) (n : Int) (h1 : k.min ≤ n) (h2 : n ≤ k.max) : k.wrap n = n := by
  cases k
  · exact IntWalk.i8_in n ⟨h1, h2⟩
  · exact IntWalk.i16_in n ⟨h1, h2⟩
  · exact IntWalk.i32_in n ⟨h1, h2⟩
  · exact IntWalk.i64_in n ⟨h1, h2⟩
  · exact IntWalk.u8_in n ⟨h1, h2⟩
  · exact IntWalk.u16_in n ⟨h1, h2⟩
  · exact IntWalk.u32_in n ⟨h1, h2⟩
  · exact IntWalk.u64_in n ⟨h1, h2⟩
theorem kmin_le (k : IntKind) : k.min ≤ 0 := by cases k <;> decide
theorem kmax_ge (k : IntKind) : 0 ≤ k.max := by cases k <;> decide
theorem wrapK_ok {k : IntKind} {n : Int} {κ : Int → Bool} (h : wrapK k n κ = true) : κ (k.wrap n) = true := by
  cases n with
  | ofNat m =>
    rcases brec_ok _ h with ⟨h1, h2⟩ | ⟨h1, h2⟩
    · rw [forceN_ok] at h2
      have h1 : m ≤ k.max.toNat := Nat.le_of_ble_eq_true h1
      have h3 := kmax_ge k
      have h4 := kmin_le k
      rw [wrap_in k _ (by simp; omega) (by simp; omega)]
      exact h2
    · exact h2
  | negSucc m =>
    rcases brec_ok _ h with ⟨h1, h2⟩ | ⟨h1, h2⟩
    · rw [forceN_ok] at h2
      have h1 : m + 1 ≤ (0 - k.min).toNat := Nat.le_of_ble_eq_true h1
      have h3 := kmax_ge k
      have h4 := kmin_le k
      rw [wrap_in k _ (by omega) (by omega)]
      exact h2
    · exact h2
theorem intEqF_eq (a b : Int) : intEqF a b = (a == b) := by
  rw [Bool.eq_iff_iff]
  cases a <;> cases b <;> simp [intEqF] <;> omega
theorem intLeF_eq (a b : Int) : intLeF a b = decide (a ≤ b) := by
  rw [Bool.eq_iff_iff]
  cases a <;> cases b <;> simp [intLeF] <;> omega
theorem notF_eq (b : Bool) : notF b = !b := by cases b <;> rfl
theorem kEq_ok {a b : IntKind} (h : kEq a b = true) : a = b := by simpa [kEq] using h
theorem iArith_ok {f : Int → Int → Int} {k : IntKind} {a : Int} {k' : IntKind} {b : Int} {κ : AV → Bool} (h : iArith f k a k' b κ = true) : k = k' ∧ κ (.i k (k.wrap (f a b))) = true := by
  obtain ⟨h1, h2⟩ := band_ok h
  exact ⟨kEq_ok h1, wrapK_ok (κ := fun n => κ (.i k n)) h2⟩
theorem iCmp_ok {f : Int → Int → Bool} {k : IntKind} {a : Int} {k' : IntKind} {b : Int} {κ : AV → Bool} (h : iCmp f k a k' b κ = true) : k = k' ∧ κ (.b (f a b)) = true := by
  obtain ⟨h1, h2⟩ := band_ok h
  exact ⟨kEq_ok h1, h2⟩
theorem intBinK_ok {op : BinOp} {k : IntKind} {a : Int} {k' : IntKind} {b : Int} {κ : AV → Bool} (h : intBinK op k a k' b κ = true) : ∃ v, intBin op k a k' b = some v ∧ κ v = true := by
  cases op
  case add => obtain ⟨rfl, h2⟩ := iArith_ok (f := Int.add) h; exact ⟨_, by simp only [intBin, if_true]; rfl, h2⟩
  case sub => obtain ⟨rfl, h2⟩ := iArith_ok (f := Int.sub) h; exact ⟨_, by simp only [intBin, if_true]; rfl, h2⟩
  case mul => obtain ⟨rfl, h2⟩ := iArith_ok (f := Int.mul) h; exact ⟨_, by simp only [intBin, if_true]; rfl, h2⟩
  case eql => obtain ⟨rfl, h2⟩ := iCmp_ok (f := intEqF) h; exact ⟨_, by simp only [intBin, if_true, ← intEqF_eq], h2⟩
  case neq => obtain ⟨rfl, h2⟩ := iCmp_ok (f := fun a b => notF (intEqF a b)) h; exact ⟨_, by simp only [intBin, if_true, bne, ← intEqF_eq, ← notF_eq], h2⟩
  case lss => obtain ⟨rfl, h2⟩ := iCmp_ok (f := fun a b => notF (intLeF b a)) h; exact ⟨_, by simp only [intBin, if_true]; rw [show decide (a < b) = notF (intLeF b a) by rw [notF_eq, intLeF_eq, Bool.eq_iff_iff]; simp], h2⟩
  case leq => obtain ⟨rfl, h2⟩ := iCmp_ok (f := intLeF) h; exact ⟨_, by simp only [intBin, if_true, ← intLeF_eq], h2⟩
  case gtr => obtain ⟨rfl, h2⟩ := iCmp_ok (f := fun a b => notF (intLeF a b)) h; exact ⟨_, by simp only [intBin, if_true]; rw [show decide (a > b) = notF (intLeF a b) by rw [notF_eq, intLeF_eq, Bool.eq_iff_iff]; simp], h2⟩
  case geq => obtain ⟨rfl, h2⟩ := iCmp_ok (f := fun a b => intLeF b a) h; exact ⟨_, by simp only [intBin, if_true]; rw [show decide (a ≥ b) = intLeF b a by rw [intLeF_eq]], h2⟩
  all_goals exact oK_ok h

theorem binSlow_ok {op : BinOp} {ty : TypeId} {x y : Operand} {P : Program} {a b : AV} {κ : AV → Bool} (h : binSlow op ty x y P a b κ = true) : eqGuardOk P op ty x y a b = true ∧ ∃ v, binA P op ty a b = some v ∧ κ v = true := by
  obtain ⟨h1, h2⟩ := band_ok h
  exact ⟨h1, oK_ok h2⟩
theorem eqlOf_some {op : BinOp} {e : Bool} (h : eqlOf op = some e) : (op = .eql ∧ e = true) ∨ (op = .neq ∧ e = false) := by
  cases op <;> simp [eqlOf] at h <;> subst h <;> simp
theorem eqSame_eq (e r : Bool) : eqSame e r = (if e then r else !r) := by cases e <;> simp [eqSame, notF_eq]
theorem isPtr_ok {P : Program} {t : TypeId} (h : isPtr P t = true) : ∃ e, desc P t = some (.pointer e) := by
  unfold isPtr at h
  split at h
  · exact ⟨_, ‹_›⟩
  · simp at h
theorem nilEq_ok {P : Program} {ty : TypeId} {a b : AV} {r : Bool} (h : nilEq P ty a.nilKind b.nilKind = some r) : eqlA P 20 ty a b = some r ∧ (∀ op x y, eqGuardOk P op ty x y a b = true) ∧ (∀ k n, a ≠ .i k n) ∧ (∀ k n, a ≠ .s k n) := by
  have hp (hq : isPtr P ty = true) : ∃ e, desc P ty = some (.pointer e) := isPtr_ok hq
  cases a <;> cases b <;> simp [AV.nilKind, nilEq] at h
  all_goals first
    | (obtain ⟨hq, rfl⟩ := h
       obtain ⟨e, he⟩ := hp hq
       exact ⟨by simp [eqlA, he], fun op x y => by cases op <;> rfl, by simp, by simp⟩)
    | (split at h
       · rename_i e he
         simp at h
         subst h
         exact ⟨by simp [eqlA, he], fun op x y => by cases op <;> rfl, by simp, by simp⟩
       · simp at h)
theorem binA_eql {P : Program} {op : BinOp} {ty : TypeId} {a b : AV} {e r : Bool} (h1 : ∀ k n, a ≠ .i k n) (h2 : ∀ k n, a ≠ .s k n) (he : eqlOf op = some e) (hr : eqlA P 20 ty a b = some r) : binA P op ty a b = some (.b (eqSame e r)) := by
  unfold binA
  split
  · exact absurd rfl (h1 _ _)
  · exact absurd rfl (h2 _ _)
  · rcases eqlOf_some he with ⟨rfl, rfl⟩ | ⟨rfl, rfl⟩
    · simp only [hr]; rfl
    · simp only [hr]; rw [eqSame_eq]; rfl
theorem nilBin_ok {op : BinOp} {ty : TypeId} {x y : Operand} {P : Program} {a b : AV} {κ : AV → Bool} (h : nilBin op ty x y P a b κ = true) : eqGuardOk P op ty x y a b = true ∧ ∃ v, binA P op ty a b = some v ∧ κ v = true := by
  unfold nilBin at h
  cases he : eqlOf op with
  | none => rw [he] at h; exact binSlow_ok h
  | some e =>
    rw [he] at h
    simp only at h
    cases hn : nilEq P ty a.nilKind b.nilKind with
    | none => rw [hn] at h; exact binSlow_ok h
    | some r =>
      rw [hn] at h
      obtain ⟨q1, q2, q3, q4⟩ := nilEq_ok hn
      exact ⟨q2 _ _ _, _, binA_eql q3 q4 he q1, h⟩
theorem binK_ok {op : BinOp} {ty : TypeId} {x y : Operand} {P : Program} {a b : AV} {κ : AV → Bool} (h : binK a op ty x y P b κ = true) : eqGuardOk P op ty x y a b = true ∧ ∃ v, binA P op ty a b = some v ∧ κ v = true := by
  cases a
  case i k n =>
    obtain ⟨k', m, rfl, h2⟩ := iK_ok h
    exact ⟨by cases op <;> rfl, intBinK_ok h2⟩
  case s l c =>
    rcases sK_ok h with ⟨l', c', rfl, h2⟩ | h2
    · exact ⟨by cases op <;> rfl, oK_ok h2⟩
    · simp at h2
  case p => exact nilBin_ok h
  case pn => exact nilBin_ok h
  case sn => exact nilBin_ok h
  case sl => exact nilBin_ok h
  all_goals exact binSlow_ok h

/-! ### quiet operations -/
variable {P : Program} {t : Tr AV} {h : H} {κ : AV → Bool}
def QOk (op : Op) (q : QH) : Prop := ∀ P t h κ, q P t h κ = true → ∃ v, quietA P t h op = some v ∧ κ v = true
theorem qSlow_ok (op : Op) : QOk op (qSlow op) := fun P t h κ e => oK_ok e
theorem qMove_ok (x : Operand) : QOk (.move x) (qMove x) := fun P t h κ e => opvK_ok (x := x) e
theorem qAssign_ok (x : Operand) : QOk (.assign x) (qMove x) := fun P t h κ e => opvK_ok (x := x) e
theorem qPick_ok (c a b : Operand) : QOk (.pick c a b) (qPick c a b) := fun P t h κ e => by
  obtain ⟨v, h1, e⟩ := opvK_ok (x := c) e
  obtain ⟨z, rfl, e⟩ := bK_ok e
  cases z
  · obtain ⟨w, h2, e⟩ := opvK_ok (x := b) e
    exact ⟨w, by simp only [quietA, h1, h2], e⟩
  · obtain ⟨w, h2, e⟩ := opvK_ok (x := a) e
    exact ⟨w, by simp only [quietA, h1, h2], e⟩
theorem qNil_ok (x : Operand) : QOk (.nilCheck x) (qNil x) := fun P t h κ e => by
  obtain ⟨v, h1, e⟩ := opvK_ok (x := x) e
  obtain ⟨h2, e⟩ := band_ok e
  rcases nilOk_ok h2 with ⟨i, o, rfl⟩ | ⟨g, a, b, rfl⟩
  · exact ⟨_, by simp only [quietA, h1], e⟩
  · exact ⟨_, by simp only [quietA, h1], e⟩
theorem qBin_ok (op : BinOp) (ty : TypeId) (x y : Operand) (z : TypeId) : QOk (.binOp op ty x y z) (qBin op ty x y) := fun P t h κ e => by
  obtain ⟨a, h1, e⟩ := opvK_ok (x := x) e
  obtain ⟨b, h2, e⟩ := opvK_ok (x := y) e
  obtain ⟨h3, v, h4, e⟩ := binK_ok e
  exact ⟨v, by simp only [quietA, h1, h2, h3, h4, if_true], e⟩
theorem qUn_ok (op : UnOp) (ty : TypeId) (x : Operand) : QOk (.unOp op ty x) (qUn op ty x) := fun P t h κ e => by
  cases op
  case not =>
    obtain ⟨a, h1, e⟩ := opvK_ok (x := x) e
    obtain ⟨z, rfl, e⟩ := bK_ok e
    exact ⟨_, by simp only [quietA, h1, unA, ← notF_eq], e⟩
  all_goals exact qSlow_ok _ P t h κ e
theorem qConv_ok (s d : TypeId) (x : Operand) : QOk (.convert s d x) (qConv s d x) := fun P t h κ e => by
  unfold qConv at e
  cases hc : convInfo P s d with
  | none => rw [hc] at e; exact qSlow_ok _ P t h κ e
  | some k =>
    rw [hc] at e
    obtain ⟨a, h1, e⟩ := opvK_ok (x := x) e
    obtain ⟨k', n, rfl, e⟩ := iK_ok e
    have e : wrapK k n (fun m => κ (.i k m)) = true := e
    have e := wrapK_ok e
    unfold convInfo at hc
    split at hc
    · rename_i hs hd
      simp at hc
      subst hc
      exact ⟨_, by simp only [quietA, h1, convA, hs, hd, wrapA], e⟩
    · simp at hc
theorem qFieldAddr_ok (ty : TypeId) (x : Operand) (f : Nat) : QOk (.fieldAddr ty x f) (qFieldAddr ty x f) := fun P t h κ e => by
  obtain ⟨a, h1, e⟩ := opvK_ok (x := x) e
  obtain ⟨id, o, rfl, e⟩ := pK_ok e
  obtain ⟨d, hf, e⟩ := oK_ok e
  unfold faInfo at hf
  split at hf
  · rename_i fs hd
    split at hf
    · rename_i fl hfl
      split at hf
      · rename_i n hs
        simp at hf
        subst hf
        exact ⟨_, by simp only [quietA, h1, fieldAddrA, hd, hfl, hs]; rfl, e⟩
      · simp at hf
    · simp at hf
  · simp at hf
theorem qIndexAddr_ok (ty : TypeId) (x i : Operand) : QOk (.indexAddr ty x i) (qIndexAddr ty x i) := fun P t h κ e => by
  obtain ⟨a, h1, e⟩ := opvK_ok (x := x) e
  obtain ⟨b, h2, e⟩ := opvK_ok (x := i) e
  obtain ⟨k, n, hb, hn, e⟩ := natK_ok e
  rcases slK_ok e with ⟨id, o, bg, l, c, rfl, e⟩ | e
  · obtain ⟨sz, hs, e⟩ := oK_ok e
    obtain ⟨hl, e⟩ := band_ok e
    unfold slInfo at hs
    split at hs
    · rename_i el hd
      exact ⟨_, by simp only [quietA, h1, h2, indexAddrA, hn, hd, hs, hl, if_true]; rfl, e⟩
    · simp at hs
  · obtain ⟨v, h3, e⟩ := oK_ok e
    exact ⟨v, by simp only [quietA, h1, h2, h3], e⟩
theorem qIndex_ok (ty : TypeId) (x i : Operand) : QOk (.index ty x i) (qIndex ty x i) := fun P t h κ e => by
  obtain ⟨a, h1, e⟩ := opvK_ok (x := x) e
  obtain ⟨b, h2, e⟩ := opvK_ok (x := i) e
  obtain ⟨k, n, hb, hn, e⟩ := natK_ok e
  rcases sK_ok e with ⟨l, c, rfl, e⟩ | e
  · obtain ⟨hs, e⟩ := band_ok e
    obtain ⟨hl, e⟩ := band_ok e
    rw [forceN_ok] at e
    unfold isStr at hs
    split at hs
    · rename_i hd
      exact ⟨_, by simp only [quietA, h1, h2, indexA, hn, hd, hl, if_true]; rfl, e⟩
    · simp at hs
  · obtain ⟨v, h3, e⟩ := oK_ok e
    exact ⟨v, by simp only [quietA, h1, h2, h3], e⟩
theorem qLoad_ok (ty : TypeId) (x : Operand) : QOk (.load ty x) (qLoad ty x) := fun P t h κ e => by
  obtain ⟨a, h1, e⟩ := opvK_ok (x := x) e
  obtain ⟨v, h2, e⟩ := loadK_ok e
  exact ⟨v, by simp only [quietA, h1, h2], e⟩
theorem qExtract_ok (x : Operand) (i : Nat) : QOk (.extract x i) (qExtract x i) := fun P t h κ e => by
  obtain ⟨a, h1, e⟩ := opvK_ok (x := x) e
  obtain ⟨vs, rfl, e⟩ := tupK_ok e
  obtain ⟨v, h2, e⟩ := nthK_ok _ e
  exact ⟨v, by simp only [quietA, h1, extractA, h2], e⟩
theorem isLenB_ok {b : Builtin} (h : isLenB b = true) : b = .len := by cases b <;> simp [isLenB] at h <;> rfl
theorem qCall_ok (c : Call) : QOk (.call c) (qCall c) := fun P t h κ e => by
  obtain ⟨ce, args, tys⟩ := c
  cases ce with
  | value f => simp [qCall] at e
  | invoke r m => simp [qCall] at e
  | builtin b =>
    change (Bool.rec (motive := fun _ => QH) (qSlow (.call ⟨.builtin b, args, tys⟩)) (qLen ⟨.builtin b, args, tys⟩ args.toList tys.toList) (isLenB b)) P t h κ = true at e
    cases hb : isLenB b with
    | false => rw [hb] at e; exact qSlow_ok _ P t h κ e
    | true =>
      rw [hb] at e
      have := isLenB_ok hb
      subst this
      change qLen _ args.toList tys.toList P t h κ = true at e
      cases ha : args.toList with
      | nil => rw [ha] at e; simp [qLen] at e
      | cons x m => cases m with
        | cons y m => rw [ha] at e; simp [qLen] at e
        | nil => cases ht : tys.toList with
          | nil => rw [ha, ht] at e; simp [qLen] at e
          | cons ty r =>
            rw [ha, ht] at e
            change (Option.rec (qSlow (.call ⟨.builtin .len, args, tys⟩) P t h κ) (fun str => opvK x t fun v => Bool.rec (AV.sllenK v fun l => κ (.i .i64 (Int.ofNat l))) (AV.sK v false fun l _ => κ (.i .i64 (Int.ofNat l))) str) (isLen P ty) : Bool) = true at e
            cases hl : isLen P ty with
            | none => rw [hl] at e; exact qSlow_ok _ P t h κ e
            | some str =>
              rw [hl] at e
              obtain ⟨a, h1, e⟩ := opvK_ok (x := x) e
              have q (v : AV) (hv : lenA P h ty a = some v) : quietA P t h (.call ⟨.builtin .len, args, tys⟩) = some v := by simp only [quietA, ha, ht, h1, hv]
              unfold isLen at hl
              split at hl
              · rename_i hd
                simp at hl
                subst hl
                rcases sK_ok e with ⟨l, c, rfl, e⟩ | e
                · exact ⟨_, q _ (by simp only [lenA, hd]; rfl), e⟩
                · simp at e
              · rename_i el hd
                simp at hl
                subst hl
                obtain ⟨l, hq, e⟩ := sllenK_ok e
                refine ⟨_, q _ ?_, e⟩
                rcases hq with ⟨_, _, _, _, rfl⟩ | ⟨rfl, rfl⟩ | ⟨_, _, _, _, rfl, rfl⟩ <;> simp only [lenA, hd] <;> rfl
              · simp at hl
theorem quietK_ok (op : Op) : QOk op (quietK op) := by
  cases op
  case move x => exact qMove_ok x
  case assign x => exact qAssign_ok x
  case pick a b c => exact qPick_ok a b c
  case nilCheck x => exact qNil_ok x
  case binOp a b c d e => exact qBin_ok a b c d e
  case unOp a b c => exact qUn_ok a b c
  case convert a b c => exact qConv_ok a b c
  case fieldAddr a b c => exact qFieldAddr_ok a b c
  case indexAddr a b c => exact qIndexAddr_ok a b c
  case index a b c => exact qIndex_ok a b c
  case load a b => exact qLoad_ok a b
  case extract a b => exact qExtract_ok a b
  case call c => exact qCall_ok c
  all_goals exact qSlow_ok _
end Go.Ev
