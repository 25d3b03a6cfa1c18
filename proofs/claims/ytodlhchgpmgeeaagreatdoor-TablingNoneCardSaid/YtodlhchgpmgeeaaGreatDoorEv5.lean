/-
  THE EVALUATOR's SOUNDNESS, part 4: the operations that look at most.
-/
import Derived.Test.YtodlhchgpmgeeaaGreatDoorEv4
namespace Go.Ev
open Go.RowKit
set_option linter.unusedSimpArgs false

section inv
variable {ρ : Rho} {v : AV} {x : Value}
/-- which abstract value stands for a string, a number, .. -/
theorem conc_inv (h : conc ρ v = some x) : (∀ k n, x = .int k n → v = .i k n) ∧ (∀ s, x = .string s → ∃ l c, v = .s l c) ∧ (∀ k n, x ≠ .float k n) ∧ (∀ k n m, x ≠ .complex k n m) ∧ (∀ r, x ≠ .chan r) ∧ (∀ b, x = .bool b → v = .b b) := by
  cases v with
  | fn f a b =>
    have : ∃ g p q, x = .func g p q := by
      cases f <;> simp only [conc] at h
      case func g => split at h <;> simp at h; subst h; exact ⟨_, _, _, rfl⟩
      case yield n =>
        split at h
        · simp only [Option.map_eq_some_iff] at h; obtain ⟨_, _, rfl⟩ := h; exact ⟨_, _, _, rfl⟩
        · simp at h
      all_goals simp at h
    obtain ⟨g, p, q, rfl⟩ := this
    simp
  | _ =>
    simp only [conc, Option.map_eq_some_iff, Option.some.injEq] at h
    first
      | (subst h; simp)
      | (obtain ⟨_, _, rfl⟩ := h; first | (simp; done) | (split <;> simp))
end inv

theorem binOp_eql (t : TypeId) (x y : Value) (h1 : ∀ k n l m, ¬ (x = .int k n ∧ y = .int l m)) (h2 : ∀ s r, ¬ (x = .string s ∧ y = .string r)) (h3 : ∀ k n, x ≠ .float k n) (h4 : ∀ k n m, x ≠ .complex k n m) :
    binOp .eql t x y = (do pure (.bool (← Op.equal t x y))) ∧ binOp .neq t x y = (do pure (.bool (!(← Op.equal t x y)))) := by
  cases x <;> cases y <;> first
    | exact ⟨rfl, rfl⟩
    | exact absurd ⟨rfl, rfl⟩ (h1 _ _ _ _)
    | exact absurd ⟨rfl, rfl⟩ (h2 _ _)
    | exact absurd rfl (h3 _ _)
    | exact absurd rfl (h4 _ _ _)

theorem strOf_append {l c l' c' : Nat} (h : c < 256 ^ l) : strOf (l + l') (c + c' * 256 ^ l) = strOf l c ++ strOf l' c' := by
  apply ByteArray.ext
  simp only [strOf, ByteArray.data_append, bytesOf_append l l' c c' h]
  simp

set_option maxHeartbeats 2000000 in
theorem intBin_ok {P : Program} {ρ : Rho} (op : BinOp) (t : TypeId) (k : IntKind) (a : Int) (k' : IntKind) (b : Int) (v : AV) (h : intBin op k a k' b = some v) (w : World) :
    ∃ v', conc ρ v = some v' ∧ (binOp op t (.int k a) (.int k' b)).run P w = .ok v' w := by
  cases op <;> simp only [intBin] at h
  case shl =>
    split at h
    · simp at h
    · rename_i hb; simp at h; subst h; exact ⟨_, rfl, by simp [binOp, Op.shift, hb]⟩
  case shr =>
    split at h
    · simp at h
    · rename_i hb; simp at h; subst h; exact ⟨_, rfl, by simp [binOp, Op.shift, hb]⟩
  all_goals
    split at h
    case isFalse => simp at h
    case isTrue hk =>
      subst hk
      first
        | (simp only [Option.some.injEq] at h; subst h; exact ⟨_, rfl, by simp [binOp, Op.intArith, Op.intBits, Op.intCmp]⟩)
        | (split at h
           · simp at h
           · rename_i hb; simp at h; subst h; exact ⟨_, rfl, by simp [binOp, Op.intDiv, hb]⟩)

set_option maxHeartbeats 2000000 in
theorem strBin_ok {P : Program} {ρ : Rho} (op : BinOp) (t : TypeId) (l c l' c' : Nat) (v : AV) (h : strBin op l c l' c' = some v) (w : World) :
    ∃ v', conc ρ v = some v' ∧ (binOp op t (.string (strOf l c)) (.string (strOf l' c'))).run P w = .ok v' w := by
  have hb : ∀ op', op' ≠ .shl → op' ≠ .shr → binOp op' t (.string (strOf l c)) (.string (strOf l' c')) = Op.stringOp op' (strOf l c) (strOf l' c') := by
    intro op' _ _; cases op' <;> rfl
  have hlt : strLt l c l' c' = Op.bytesLess (strOf l c).toList (strOf l' c').toList := by rw [strOf_toList, strOf_toList]; rfl
  cases op <;> simp only [strBin, reduceCtorEq] at h
  case add =>
    split at h
    · simp at h
    · split at h
      · simp at h
      · rename_i h1 h2
        simp at h1 h2 h
        subst h
        refine ⟨_, rfl, ?_⟩
        rw [hb _ (by simp) (by simp), strOf_append h1, run_string_add_sum w]
        rw [strOf_size, strOf_size]; omega
  case lss =>
    simp at h; subst h
    exact ⟨_, rfl, by rw [hb _ (by simp) (by simp)]; simp [Op.stringOp, hlt]⟩
  case geq =>
    simp at h; subst h
    exact ⟨_, rfl, by rw [hb _ (by simp) (by simp)]; simp [Op.stringOp, hlt]⟩
  all_goals
    split at h
    · rename_i r hr
      simp at h; subst h
      exact ⟨_, rfl, by rw [hb _ (by simp) (by simp)]; simp [Op.stringOp, hlt, strOf_toList, strEq_ok hr]⟩
    · simp at h

theorem bin_ok {P : Program} {ρ : Rho} (op : BinOp) (t : TypeId) (x y v : AV) (h : binA P op t x y = some v) (x' y' : Value) (w : World)
    (hx : conc ρ x = some x') (hy : conc ρ y = some y') : ∃ v', conc ρ v = some v' ∧ (binOp op t x' y').run P w = .ok v' w := by
  unfold binA at h
  split at h
  case h_1 k a k' b => simp [conc] at hx hy; subst hx; subst hy; exact intBin_ok op t k a k' b v h w
  case h_2 l c l' c' => simp [conc] at hx hy; subst hx; subst hy; exact strBin_ok op t l c l' c' v h w
  case h_3 n1 n2 =>
    have ix := conc_inv hx
    have iy := conc_inv hy
    have he := binOp_eql t x' y' (fun k n l m e => n1 k n l m (ix.1 _ _ e.1) (iy.1 _ _ e.2)) (fun s r e => by
        obtain ⟨l, c, e1⟩ := ix.2.1 _ e.1
        obtain ⟨l', c', e2⟩ := iy.2.1 _ e.2
        exact n2 l c l' c' e1 e2) ix.2.2.1 ix.2.2.2.1
    split at h
    · split at h
      · rename_i r hr
        simp at h; subst h
        refine ⟨_, rfl, ?_⟩
        rw [he.1]
        simp [Op.equal, eql_ok 20 t x y r hr Op.maxDepth (by decide) x' y' w hx hy]
      · simp at h
    · split at h
      · rename_i r hr
        simp at h; subst h
        refine ⟨_, rfl, ?_⟩
        rw [he.2]
        simp [Op.equal, eql_ok 20 t x y r hr Op.maxDepth (by decide) x' y' w hx hy]
      · simp at h
    · simp at h

theorem un_ok {P : Program} {ρ : Rho} (op : UnOp) (x v : AV) (h : unA op x = some v) (x' : Value) (w : World) (hx : conc ρ x = some x') : ∃ v', conc ρ v = some v' ∧ (Op.unary op x').run P w = .ok v' w := by
  unfold unA at h
  split at h
  · simp [conc] at hx; subst hx; simp at h; subst h; exact ⟨_, rfl, by simp [Op.unary]⟩
  · simp [conc] at hx; subst hx; simp at h; subst h; exact ⟨_, rfl, by simp [Op.unary, Op.intArith, wrapA]⟩
  · rename_i k n
    simp [conc] at hx; subst hx; simp at h; subst h
    exact ⟨_, rfl, by simp [Op.unary, Op.intBits, wrapA]⟩
  · simp at h

theorem conc_ni {ρ : Rho} {a : AV} (ha : conc ρ a = some .nilIface) : a = .ni := by
  cases a with
  | fn f p q =>
    cases f <;> simp only [conc] at ha
    case func g => split at ha <;> simp at ha
    case yield n =>
      split at ha
      · simp only [Option.map_eq_some_iff] at ha; obtain ⟨_, _, e⟩ := ha; simp at e
      · simp at ha
    all_goals simp at ha
  | _ =>
    simp only [conc, Option.map_eq_some_iff, Option.some.injEq] at ha
    first
      | rfl
      | (simp at ha; done)
      | (obtain ⟨_, _, e⟩ := ha; first | (simp at e; done) | (split at e <;> simp at e))
theorem conc_agg {ρ : Rho} {a : AV} {xs : Array Value} (ha : conc ρ a = some (.agg xs)) : ∃ l, a = .agg l ∧ concs ρ l = some xs.toList := by
  cases a with
  | fn f p q =>
    cases f <;> simp only [conc] at ha
    case func g => split at ha <;> simp at ha
    case yield n =>
      split at ha
      · simp only [Option.map_eq_some_iff] at ha; obtain ⟨_, _, e⟩ := ha; simp at e
      · simp at ha
    all_goals simp at ha
  | agg l =>
    simp only [conc, Option.map_eq_some_iff] at ha
    obtain ⟨y, hy, e⟩ := ha
    simp at e
    subst e
    exact ⟨l, rfl, by simpa using hy⟩
  | _ =>
    simp only [conc, Option.map_eq_some_iff, Option.some.injEq] at ha
    first
      | (simp at ha; done)
      | (obtain ⟨_, _, e⟩ := ha; first | (simp at e; done) | (split at e <;> simp at e))

theorem eqGuard_ok {P : Program} {ρ : Rho} (op : BinOp) (t : TypeId) (x y : Operand) (a b : AV) (h : eqGuardOk P op t x y a b = true) (a' b' : Value) (w : World)
    (ha : conc ρ a = some a') (hb : conc ρ b = some b') : (eqGuard op t x y a' b').run P w = .ok () w := by
  have main : ∀ op', (op' = .eql ∨ op' = .neq) → eqGuardOk P op' t x y a b = true → (eqGuard op' t x y a' b').run P w = .ok () w := by
    intro op' ho h
    cases a' <;> cases b' <;> try (rcases ho with rfl | rfl <;> rfl)
    case nilIface.nilIface =>
      have ea := conc_ni ha
      have eb := conc_ni hb
      subst ea; subst eb
      rcases ho with rfl | rfl <;> cases x <;> cases y <;> first | rfl | (simp [eqGuardOk] at h)
    case agg.agg xs ys =>
      obtain ⟨la, rfl, _⟩ := conc_agg ha
      obtain ⟨lb, rfl, _⟩ := conc_agg hb
      have hg : P.eqGuardType P.depth t = false := by
        rcases ho with rfl | rfl <;> simpa [eqGuardOk] using h
      exact run_eqGuard_agg w op' t x y xs ys hg
  by_cases ho : op = .eql ∨ op = .neq
  · exact main op ho h
  · cases op <;> first | rfl | (simp at ho)
end Go.Ev
