/-
  THE QUICK EVALUATOR's SOUNDNESS, part 1: what answers true there is the elder evaluator's word: tries, lists, operands, the heap.
-/
import Derived.Test.YtodlhchgpmgeeaaGreatDoorFv1
namespace Go.Ev
set_option linter.unusedSimpArgs false
set_option linter.unusedVariables false
variable {α : Type}

theorem putF_eq (k : K) : ∀ (v : Option α) (t : Tr α), putF k v t = t.put k v := by
  induction k with
  | h => intro v t; cases t <;> rfl
  | o k ih => intro v t; cases t <;> simp [Tr.put, Tr.left, Tr.right, Tr.root, ← ih] <;> rfl
  | i k ih => intro v t; cases t <;> simp [Tr.put, Tr.left, Tr.right, Tr.root, ← ih] <;> rfl
theorem succF_eq (k : K) : succF k = k.succ := by
  induction k with
  | h => rfl
  | o k ih => rfl
  | i k ih => show K.o (succF k) = K.o k.succ; rw [ih]
theorem getK_ok (k : K) : ∀ {t : Tr α} {κ : α → Bool}, getK k t κ = true → ∃ v, t.get k = some v ∧ κ v = true := by
  induction k with
  | h => intro t κ h; cases t with
    | nil => simp [getK] at h
    | node l v r => cases v with
      | none => simp [getK] at h
      | some v => exact ⟨v, rfl, h⟩
  | o k ih => intro t κ h; cases t with
    | nil => simp [getK] at h
    | node l v r => exact ih (t := l) h
  | i k ih => intro t κ h; cases t with
    | nil => simp [getK] at h
    | node l v r => exact ih (t := r) h
theorem appF_eq (l r : List α) : appF l r = l ++ r := by
  induction l with
  | nil => rfl
  | cons a l ih => show a :: appF l r = a :: (l ++ r); rw [ih]
theorem nthK_ok : ∀ (n : Nat) {l : List α} {κ : α → Bool}, nthK n l κ = true → ∃ a, nth? l n = some a ∧ κ a = true
  | 0, [], κ, h => by simp [nthK] at h
  | 0, a :: l, κ, h => ⟨a, rfl, h⟩
  | n + 1, [], κ, h => by simp [nthK] at h
  | n + 1, a :: l, κ, h => nthK_ok n (l := l) h
theorem takeK_ok : ∀ (n : Nat) {l : List α} {κ : List α → Bool}, takeK n l κ = true → ∃ r, take? n l = some r ∧ κ r = true
  | 0, l, κ, h => ⟨[], by simp [take?], h⟩
  | n + 1, [], κ, h => by simp [takeK] at h
  | n + 1, a :: l, κ, h => by
    obtain ⟨r, h1, h2⟩ := takeK_ok n (l := l) (κ := fun r => κ (a :: r)) h
    exact ⟨a :: r, by simp [take?, h1], h2⟩
theorem dropF_eq : ∀ (n : Nat) (l : List α), dropF n l = drop n l
  | 0, l => by rw [show dropF 0 l = l from rfl]; cases l <;> rfl
  | n + 1, [] => by simp [dropF, drop]
  | n + 1, a :: l => by rw [show dropF (n + 1) (a :: l) = dropF n l from rfl, dropF_eq n l]; simp [drop]
theorem ovwK_ok : ∀ {vs cs : List AV} {κ : List AV → Bool}, ovwK vs cs κ = true → ∃ r, overwrite cs vs = some r ∧ κ r = true
  | [], cs, κ, h => ⟨cs, by cases cs <;> simp [overwrite], h⟩
  | v :: vs, [], κ, h => by simp [ovwK] at h
  | v :: vs, c :: cs, κ, h => by
    obtain ⟨r, h1, h2⟩ := ovwK_ok (vs := vs) (cs := cs) (κ := fun r => κ (v :: r)) h
    exact ⟨v :: r, by simp [overwrite, h1], h2⟩
theorem setAtK_ok : ∀ (n : Nat) {vs cs : List AV} {κ : List AV → Bool}, setAtK n vs cs κ = true → ∃ r, setAt n vs cs = some r ∧ κ r = true
  | 0, vs, cs, κ, h => by
    obtain ⟨r, h1, h2⟩ := ovwK_ok (vs := vs) (cs := cs) h
    exact ⟨r, by simp [setAt, h1], h2⟩
  | n + 1, vs, [], κ, h => by simp [setAtK] at h
  | n + 1, vs, c :: cs, κ, h => by
    obtain ⟨r, h1, h2⟩ := setAtK_ok n (vs := vs) (cs := cs) (κ := fun r => κ (c :: r)) h
    exact ⟨c :: r, by simp [setAt, h1], h2⟩
theorem lenF_eq (l : List α) : lenF l = l.length := by
  induction l with
  | nil => rfl
  | cons a l ih => show Nat.succ (lenF l) = _; rw [ih]; rfl
theorem forceN_ok {n : Nat} {κ : Nat → Bool} : forceN n κ = κ n := by cases n <;> rfl
theorem oK_ok {o : Option α} {κ : α → Bool} (h : oK o κ = true) : ∃ a, o = some a ∧ κ a = true := by
  cases o with
  | none => simp [oK] at h
  | some a => exact ⟨a, rfl, h⟩
theorem brec_ok {a b : Bool} (c : Bool) (h : (Bool.rec a b c : Bool) = true) : (c = true ∧ b = true) ∨ (c = false ∧ a = true) := by
  cases c
  · exact .inr ⟨rfl, h⟩
  · exact .inl ⟨rfl, h⟩
theorem band_ok {b : Bool} {c : Bool} (h : (Bool.rec false b c : Bool) = true) : c = true ∧ b = true := by
  cases c
  · simp at h
  · exact ⟨rfl, h⟩
theorem bnot_ok {b : Bool} {c : Bool} (h : (Bool.rec b false c : Bool) = true) : c = false ∧ b = true := by
  cases c
  · exact ⟨rfl, h⟩
  · simp at h

/-! ### values -/
theorem bK_ok {v : AV} {κ : Bool → Bool} (h : v.bK κ = true) : ∃ b, v = .b b ∧ κ b = true := by
  cases v <;> first | exact ⟨_, rfl, h⟩ | simp [AV.bK] at h
theorem iK_ok {v : AV} {κ : IntKind → Int → Bool} (h : v.iK κ = true) : ∃ k n, v = .i k n ∧ κ k n = true := by
  cases v <;> first | exact ⟨_, _, rfl, h⟩ | simp [AV.iK] at h
theorem natK_ok {v : AV} {κ : Nat → Bool} (h : v.natK κ = true) : ∃ k n, v = .i k (.ofNat n) ∧ natOf v = some n ∧ κ n = true := by
  cases v with
  | i k n => cases n with
    | ofNat n => exact ⟨k, n, rfl, rfl, h⟩
    | negSucc n => simp [AV.natK] at h
  | _ => simp [AV.natK] at h
theorem pK_ok {v : AV} {κ : K → Nat → Bool} (h : v.pK κ = true) : ∃ i o, v = .p i o ∧ κ i o = true := by
  cases v <;> first | exact ⟨_, _, rfl, h⟩ | simp [AV.pK] at h
theorem tupK_ok {v : AV} {κ : List AV → Bool} (h : v.tupK κ = true) : ∃ vs, v = .tup vs ∧ κ vs = true := by
  cases v <;> first | exact ⟨_, rfl, h⟩ | simp [AV.tupK] at h
theorem aggK_ok {v : AV} {no : Bool} {κ : List AV → Bool} (h : v.aggK no κ = true) : (∃ cs, v = .agg cs ∧ κ cs = true) ∨ ((∀ cs, v ≠ .agg cs) ∧ v.cells = [v] ∧ no = true) := by
  cases v <;> first | exact .inl ⟨_, rfl, h⟩ | exact .inr ⟨by simp, rfl, h⟩
theorem slK_ok {v : AV} {no : Bool} {κ : K → Nat → Nat → Nat → Option Nat → Bool} (h : v.slK no κ = true) : (∃ i o b l c, v = .sl i o b l c ∧ κ i o b l c = true) ∨ no = true := by
  cases v <;> first | exact .inl ⟨_, _, _, _, _, rfl, h⟩ | exact .inr h
theorem sK_ok {v : AV} {no : Bool} {κ : Nat → Nat → Bool} (h : v.sK no κ = true) : (∃ l c, v = .s l c ∧ κ l c = true) ∨ no = true := by
  cases v <;> first | exact .inl ⟨_, _, rfl, h⟩ | exact .inr h
theorem sllenK_ok {v : AV} {κ : Nat → Bool} (h : v.sllenK κ = true) : ∃ l, ((∃ i o b c, v = .sl i o b l c) ∨ (v = .sn ∧ l = 0) ∨ (∃ i a b c, v = .se i a b c ∧ l = 0)) ∧ κ l = true := by
  cases v with
  | sl i o b l c => exact ⟨l, .inl ⟨_, _, _, _, rfl⟩, h⟩
  | sn => exact ⟨0, .inr (.inl ⟨rfl, rfl⟩), h⟩
  | se i a b c => exact ⟨0, .inr (.inr ⟨_, _, _, _, rfl, rfl⟩), h⟩
  | _ => simp [AV.sllenK] at h
theorem boolK_ok {v : AV} {no : Bool} {κ : Bool → Bool} (h : v.boolK no κ = true) : (∃ b, v = .b b ∧ κ b = true) ∨ ((∀ b, v ≠ .b b) ∧ no = true) := by
  cases v <;> first | exact .inl ⟨_, rfl, h⟩ | exact .inr ⟨by simp, h⟩
theorem dK_ok {v : AV} {κ : K → Nat → Bool} {ρ : FuncId → List AV → List AV → Bool} (h : v.dK κ ρ = true) : (∃ i o, v = .p i o ∧ κ i o = true) ∨ (∃ g a b, v = .fn (.func g) a b ∧ ρ g a b = true) := by
  cases v with
  | p i o => exact .inl ⟨_, _, rfl, h⟩
  | fn f a b => cases f <;> first | exact .inr ⟨_, _, _, rfl, h⟩ | simp [AV.dK] at h
  | _ => simp [AV.dK] at h
theorem yldK_ok {fi ca : List AV} {ρ : K → Bool} (h : yldK fi ca ρ = true) : ∃ l, fi = [.p l 0] ∧ ca = [] ∧ ρ l = true := by
  cases fi with
  | nil => simp [yldK] at h
  | cons a m => cases m with
    | nil => cases ca with
      | nil =>
        obtain ⟨l, o, rfl, h2⟩ := pK_ok (v := a) h
        cases o with
        | zero => exact ⟨l, rfl, rfl, h2⟩
        | succ o => simp at h2
      | cons b n => simp [yldK] at h
    | cons b n => simp [yldK] at h
theorem fnK_ok {v : AV} {κ : FuncId → List AV → List AV → Bool} {ρ : K → Bool} (h : v.fnK κ ρ = true) : (∃ g a b, v = .fn (.func g) a b ∧ κ g a b = true) ∨ (∃ y l, v = .fn (.yield y) [.p l 0] [] ∧ ρ l = true) := by
  cases v with
  | fn f a b => cases f with
    | func g => exact .inl ⟨_, _, _, rfl, h⟩
    | yield y =>
      obtain ⟨l, rfl, rfl, h2⟩ := yldK_ok (fi := a) (ca := b) h
      exact .inr ⟨y, l, rfl, h2⟩
    | _ => simp [AV.fnK] at h
  | _ => simp [AV.fnK] at h
theorem nilOk_ok {v : AV} (h : v.nilOk = true) : (∃ i o, v = .p i o) ∨ (∃ g a b, v = .fn (.func g) a b) := by
  cases v with
  | p i o => exact .inl ⟨_, _, rfl⟩
  | fn f a b => cases f <;> first | exact .inr ⟨_, _, _, rfl⟩ | simp [AV.nilOk] at h
  | _ => simp [AV.nilOk] at h
theorem oneF_eq (v : AV) : v.oneF = oneCell v := by cases v <;> rfl
theorem allOneF_eq (l : List AV) : allOneF l = l.all oneCell := by
  induction l with
  | nil => rfl
  | cons a l ih =>
    show (Bool.rec false (allOneF l) a.oneF : Bool) = _
    rw [ih, oneF_eq, List.all_cons]
    cases oneCell a <;> rfl

/-! ### operands -/
theorem opvK_ok {x : Operand} {t : Tr AV} {κ : AV → Bool} (h : opvK x t κ = true) : ∃ v, opv t x = some v ∧ κ v = true := by
  cases x with
  | tmp x => exact getK_ok _ h
  | const v => exact oK_ok h
  | global g =>
    obtain ⟨h1, h2⟩ := band_ok h
    exact ⟨_, by simp only [opv, h1, if_true], h2⟩
  | func f => exact ⟨_, rfl, h⟩
theorem opvsK_ok : ∀ {l : List Operand} {t : Tr AV} {κ : List AV → Bool}, opvsK l t κ = true → ∃ vs, opvs t l = some vs ∧ κ vs = true
  | [], t, κ, h => ⟨[], rfl, h⟩
  | x :: l, t, κ, h => by
    obtain ⟨a, h1, h2⟩ := opvK_ok (x := x) (t := t) (κ := fun a => opvsK l t fun m => κ (a :: m)) h
    obtain ⟨b, h3, h4⟩ := opvsK_ok (l := l) h2
    exact ⟨a :: b, by simp [opvs, h1, h3], h4⟩

/-! ### the heap -/
theorem blkK_ok {id : K} {h : H} {κ : Blk → Bool} (e : blkK id h κ = true) : ∃ b, h.t.get id = some b ∧ κ b = true := by
  cases h; exact getK_ok _ e
theorem cellsK_ok {id : K} {h : H} {κ : List AV → TypeId → Nat → Bool → Bool} (e : cellsK id h κ = true) : ∃ cs el sz fz, h.t.get id = some (.cells cs el sz fz) ∧ κ cs el sz fz = true := by
  obtain ⟨b, h1, h2⟩ := blkK_ok e
  cases b <;> first | exact ⟨_, _, _, _, h1, h2⟩ | simp [blkCells] at h2
theorem blkLoop_ok {b : Blk} {κ : LoopR → Bool} (e : blkLoop b κ = true) : ∃ l, b = .loop l ∧ κ l = true := by
  cases b <;> first | exact ⟨_, rfl, e⟩ | simp [blkLoop] at e
theorem blkDefd_ok {b : Blk} {κ : Bool} (e : blkDefd b κ = true) : b = .defd ∧ κ = true := by
  cases b <;> first | exact ⟨rfl, e⟩ | simp [blkDefd] at e
theorem updF_eq (h : H) (id : K) (b : Blk) : updF h id b = h.upd id b := by cases h; simp [updF, H.upd, putF_eq]
theorem killF_eq (h : H) (id : K) : killF h id = h.kill id := by cases h; simp [killF, H.kill, putF_eq]
theorem drop_nth : ∀ (n : Nat) (l : List α), drop n l = [] ∧ nth? l n = none ∨ ∃ a m, drop n l = a :: m ∧ nth? l n = some a
  | 0, [] => .inl ⟨rfl, rfl⟩
  | 0, a :: l => .inr ⟨a, l, rfl, rfl⟩
  | n + 1, [] => .inl ⟨rfl, rfl⟩
  | n + 1, a :: l => by simpa [drop, nth?] using drop_nth n l
theorem loadK_ok {ty : TypeId} {v : AV} {P : Program} {h : H} {κ : AV → Bool} (e : loadK ty v P h κ = true) : ∃ x, loadA P h ty v = some x ∧ κ x = true := by
  obtain ⟨id, off, rfl, e⟩ := pK_ok e
  obtain ⟨cs, el, sz, fz, hg, e⟩ := cellsK_ok e
  obtain ⟨o, hi, e⟩ := oK_ok e
  unfold loadInfo at hi
  cases hd : desc P ty with
  | none => rw [hd] at hi; simp at hi
  | some d => cases hs : szOf P ty with
    | none => rw [hd, hs] at hi; simp at hi
    | some n =>
      rw [hd, hs] at hi
      simp only [Option.some.injEq] at hi
      simp only [loadA, hd, hs, getCells, hg]
      subst hi
      cases ha : isAggD d
      · rw [ha] at e
        obtain ⟨a, h1, h2⟩ := nthK_ok _ (by simpa using e)
        rcases drop_nth off cs with ⟨q1, q2⟩ | ⟨b, m, q1, q2⟩
        · rw [q2] at h1; simp at h1
        · rw [q2] at h1
          simp at h1
          subst h1
          exact ⟨b, by simp [q1, take?], h2⟩
      · rw [ha] at e
        obtain ⟨r, h1, h2⟩ := takeK_ok _ (by simpa using e)
        rw [dropF_eq] at h1
        exact ⟨.agg r, by simp [h1], h2⟩
end Go.Ev
