/-
  THE EVALUATOR's SOUNDNESS, part 3: '==', maps' keys.
-/
import Derived.Test.YtodlhchgpmgeeaaGreatDoorEv3
namespace Go.Ev
open Go.RowKit
set_option linter.unusedSimpArgs false

/-- what '==' of the parts gives, at every depth from d on -/
def EqAt (P : Program) (ρ : Rho) (d : Nat) : Prop := ∀ (t : TypeId) (x y : AV) (r : Bool), eqlA P d t x y = some r → ∀ (D : Nat), d ≤ D → ∀ (x' y' : Value) (w : World),
  conc ρ x = some x' → conc ρ y = some y' → (Op.equalIn D t x' y').run P w = .ok r w

theorem eqFields_ok {P : Program} {ρ : Rho} {d D : Nat} (ih : EqAt P ρ d) (hD : d ≤ D) (w : World) {xs ys : List AV} {xs' ys' : List Value}
    (hx : concs ρ xs = some xs') (hy : concs ρ ys = some ys') : ∀ (fs : List Field) (r : Bool), eqlFields (eqlA P d) P fs xs ys = some r →
    (Op.eqFields D xs'.toArray ys'.toArray fs).run P w = .ok r w
  | [], r, h => by simp [eqlFields] at h; subst h; simp [Op.eqFields]
  | f :: fs, r, h => by
    simp only [eqlFields] at h
    by_cases hn : f.name = "_"
    · rw [if_pos hn] at h
      simp only [Op.eqFields, hn, ne_eq, not_true_eq_false, if_false]
      exact eqFields_ok ih hD w hx hy fs r h
    · rw [if_neg hn] at h
      cases h1 : partA P f.type f.offset xs with
      | none => rw [h1] at h; simp at h
      | some a =>
        cases h2 : partA P f.type f.offset ys with
        | none => rw [h1, h2] at h; simp at h
        | some b =>
          rw [h1, h2] at h
          simp only at h
          obtain ⟨a', ha, ra⟩ := part_ok w hx h1
          obtain ⟨b', hb, rb⟩ := part_ok w hy h2
          simp only [Op.eqFields, hn, ne_eq, not_false_eq_true, if_true, Sem.run_bind, ra, rb, Result.andThen_ok]
          cases h3 : eqlA P d f.type a b with
          | none => rw [h3] at h; simp at h
          | some q =>
            rw [h3] at h
            rw [ih f.type a b q h3 D hD a' b' w ha hb]
            cases q with
            | true =>
              simp only at h
              simp only [Result.andThen_ok, Bool.not_true, Bool.false_eq_true, if_false]
              exact eqFields_ok ih hD w hx hy fs r h
            | false =>
              simp at h
              subst h
              simp

theorem eqElems_ok {P : Program} {ρ : Rho} {d D : Nat} (ih : EqAt P ρ d) (hD : d ≤ D) (w : World) {e : TypeId} {n : Nat} {xs ys : List AV} {xs' ys' : List Value}
    (hx : concs ρ xs = some xs') (hy : concs ρ ys = some ys') : ∀ (len i : Nat) (r : Bool), eqlElems (eqlA P d) P e n xs ys len i = some r →
    (do
      let b ← forIn (List.range' i len) ((none, ()) : Option Bool × Unit) (fun j _ => do
        let a ← part e xs'.toArray (j * n)
        let b ← part e ys'.toArray (j * n)
        let q ← Op.equalIn D e a b
        if (!q) = true then pure (ForInStep.done (some false, ())) else pure (ForInStep.yield (none, ())))
      match b.1 with
      | some a => pure a
      | none => pure true : Sem Bool).run P w = .ok r w
  | 0, i, r, h => by simp [eqlElems] at h; subst h; simp
  | len + 1, i, r, h => by
    simp only [eqlElems] at h
    cases h1 : partA P e (i * n) xs with
    | none => rw [h1] at h; simp at h
    | some a =>
      cases h2 : partA P e (i * n) ys with
      | none => rw [h1, h2] at h; simp at h
      | some b =>
        rw [h1, h2] at h
        simp only at h
        obtain ⟨a', ha, ra⟩ := part_ok w hx h1
        obtain ⟨b', hb, rb⟩ := part_ok w hy h2
        cases h3 : eqlA P d e a b with
        | none => rw [h3] at h; simp at h
        | some q =>
          rw [h3] at h
          simp only [List.range'_succ, List.forIn_cons, Sem.run_bind, ra, rb, Result.andThen_ok, ih e a b q h3 D hD a' b' w ha hb]
          cases q with
          | true =>
            simp only at h
            have := eqElems_ok ih hD w hx hy len (i + 1) r h
            simp only [Sem.run_bind] at this
            simpa using this
          | false =>
            simp at h
            subst h
            simp

set_option maxHeartbeats 2000000 in
theorem eql_ok {P : Program} {ρ : Rho} : ∀ d, EqAt P ρ d
  | 0 => by intro t x y r h; simp [eqlA] at h
  | d + 1 => by
    intro t x y r h D hD x' y' w hx hy
    have ih := eql_ok (P := P) (ρ := ρ) d
    obtain ⟨D, rfl⟩ : ∃ k, D = k + 1 := ⟨D - 1, by omega⟩
    have hD' : d ≤ D := by omega
    unfold eqlA at h
    split at h
    case h_1 a b hd => simp at h; subst h; simp [conc] at hx hy; subst hx; subst hy; simp [Op.equalIn, run_desc w hd]
    case h_2 k0 k a k' b hd =>
      split at h
      · rename_i hk; subst hk; simp at h; subst h; simp [conc] at hx hy; subst hx; subst hy; simp [Op.equalIn, run_desc w hd]
      · simp at h
    case h_3 l c l' c' hd =>
      simp [conc] at hx hy; subst hx; subst hy
      have := strEq_ok h
      rw [← strOf_beq] at this
      simp [Op.equalIn, run_desc w hd, this]
    case h_4 hd => simp at h; subst h; simp [conc] at hx hy; subst hx; subst hy; simp [Op.equalIn, run_desc w hd]
    case h_5 hd =>
      simp at h; subst h
      simp only [conc, Option.map_eq_some_iff, Option.some.injEq] at hx hy
      subst hx; obtain ⟨be, hb, rfl⟩ := hy
      simp [Op.equalIn, run_desc w hd]
    case h_6 hd =>
      simp at h; subst h
      simp only [conc, Option.map_eq_some_iff, Option.some.injEq] at hx hy
      subst hy; obtain ⟨be, hb, rfl⟩ := hx
      simp [Op.equalIn, run_desc w hd]
    case h_7 e i o j q hd =>
      split at h
      · rename_i n hsz
        split at h
        · rename_i hk
          rw [K.beq_iff] at hk
          subst hk
          simp at h
          subst h
          simp only [conc, Option.map_eq_some_iff, Option.some.injEq] at hx hy
          obtain ⟨be, hb, rfl⟩ := hx
          obtain ⟨be', hb', rfl⟩ := hy
          rw [hb] at hb'
          injection hb' with hb'
          subst hb'
          simp only [Op.equalIn, Sem.run_bind, run_desc w hd, Result.andThen_ok, run_sz w hsz]
          simp only [ne_eq, Nat.succ_ne_zero, not_false_eq_true, if_true, sameAddr, beq_self_eq_true, Sem.run_pure]
          congr 1
          rw [Bool.eq_iff_iff]
          simp
        · simp at h
      · simp at h
    case h_8 hd => simp at h; subst h; simp [conc] at hx hy; subst hx; subst hy; simp [Op.equalIn, run_desc w hd]
    case h_9 hd =>
      simp at h; subst h
      simp only [conc, Option.map_eq_some_iff, Option.some.injEq] at hx hy
      subst hx; obtain ⟨be, hb, rfl⟩ := hy
      simp [Op.equalIn, run_desc w hd]
    case h_10 hd =>
      simp at h; subst h
      simp only [conc, Option.map_eq_some_iff, Option.some.injEq] at hx hy
      subst hy; obtain ⟨be, hb, rfl⟩ := hx
      simp [Op.equalIn, run_desc w hd]
    case h_11 hd => simp at h; subst h; simp [conc] at hx hy; subst hx; subst hy; simp [Op.equalIn, run_desc w hd]
    case h_12 hd =>
      simp at h; subst h
      simp only [conc, Option.map_eq_some_iff, Option.some.injEq] at hx hy
      subst hx; obtain ⟨be, hb, rfl⟩ := hy
      simp [Op.equalIn, run_desc w hd]
    case h_13 hd =>
      simp at h; subst h
      simp only [conc, Option.map_eq_some_iff, Option.some.injEq] at hx hy
      subst hy; obtain ⟨be, hb, rfl⟩ := hx
      simp [Op.equalIn, run_desc w hd]
    case h_14 hd =>
      simp at h; subst h
      simp only [conc, Option.map_eq_some_iff, Option.some.injEq] at hx hy
      subst hy; obtain ⟨be, hb, rfl⟩ := hx
      split <;> simp [Op.equalIn, run_desc w hd]
    case h_15 hd => simp at h; subst h; simp [conc] at hx hy; subst hx; subst hy; simp [Op.equalIn, run_desc w hd]
    case h_16 hd =>
      simp at h; subst h
      simp only [conc, Option.map_eq_some_iff, Option.some.injEq] at hx hy
      subst hx; obtain ⟨be, hb, rfl⟩ := hy
      simp [Op.equalIn, run_desc w hd]
    case h_17 hd =>
      simp at h; subst h
      simp only [conc, Option.map_eq_some_iff, Option.some.injEq] at hx hy
      subst hy; obtain ⟨be, hb, rfl⟩ := hx
      simp [Op.equalIn, run_desc w hd]
    case h_18 hd => simp at h; subst h; simp [conc] at hx hy; subst hx; subst hy; simp [Op.equalIn, run_desc w hd]
    case h_19 f a b hd =>
      simp at h; subst h
      simp [conc] at hx; subst hx
      have : ∃ g p q, y' = .func g p q := by
        cases f <;> simp only [conc] at hy
        case func g => split at hy <;> simp at hy; subst hy; exact ⟨_, _, _, rfl⟩
        case yield n =>
          split at hy
          · simp only [Option.map_eq_some_iff] at hy; obtain ⟨_, _, rfl⟩ := hy; exact ⟨_, _, _, rfl⟩
          · simp at hy
        all_goals simp at hy
      obtain ⟨g, p, q, rfl⟩ := this
      simp [Op.equalIn, run_desc w hd]
    case h_20 f a b hd =>
      simp at h; subst h
      simp [conc] at hy; subst hy
      have : ∃ g p q, x' = .func g p q := by
        cases f <;> simp only [conc] at hx
        case func g => split at hx <;> simp at hx; subst hx; exact ⟨_, _, _, rfl⟩
        case yield n =>
          split at hx
          · simp only [Option.map_eq_some_iff] at hx; obtain ⟨_, _, rfl⟩ := hx; exact ⟨_, _, _, rfl⟩
          · simp at hx
        all_goals simp at hx
      obtain ⟨g, p, q, rfl⟩ := this
      simp [Op.equalIn, run_desc w hd]
    case h_21 fields xs ys hd =>
      split at h
      · simp at h
      · rename_i hst
        simp only [conc, Option.map_eq_some_iff] at hx hy
        obtain ⟨xs', hx, rfl⟩ := hx
        obtain ⟨ys', hy, rfl⟩ := hy
        have hf : P.fieldsOf t = fields := by
          have hd' : P.underlying t = some (.struct fields) := hd
          simp [Program.fieldsOf, hd']
        rw [run_equalIn_struct w D t xs'.toArray ys'.toArray (by rw [hf]; exact hd) (by simpa using hst), hf]
        exact eqFields_ok ih hD' w hx hy _ r h
    case h_22 len e xs ys hd =>
      split at h
      · rename_i n hn
        simp only [conc, Option.map_eq_some_iff] at hx hy
        obtain ⟨xs', hx, rfl⟩ := hx
        obtain ⟨ys', hy, rfl⟩ := hy
        have := eqElems_ok ih hD' w hx hy len 0 r h
        simp only [Op.equalIn, Sem.run_bind, run_desc w hd, Result.andThen_ok, run_sz w hn, Std.Legacy.Range.forIn_eq_forIn_range', Std.Legacy.Range.size, Nat.sub_zero, Nat.add_sub_cancel, Nat.div_one]
        simp only [Sem.run_bind] at this
        refine Eq.trans ?_ this
        congr 1
        funext a w'
        rcases a with ⟨_ | _, _⟩ <;> rfl
      · simp at h
    case h_23 => simp at h

/-! ### keys -/
def KeyAt (P : Program) (ρ : Rho) (d : Nat) : Prop := ∀ (t : TypeId) (x : AV), keyOk P d t x = true → ∀ (D : Nat), d ≤ D → ∀ (em : Bool) (x' : Value) (w : World), conc ρ x = some x' → (Instr.checkKey em D t x').run P w = .ok () w

theorem key_ok {P : Program} {ρ : Rho} : ∀ d, KeyAt P ρ d
  | 0 => by intro t x h; simp [keyOk] at h
  | d + 1 => by
    intro t x h D hD em x' w hx
    have ih := key_ok (P := P) (ρ := ρ) d
    obtain ⟨D, rfl⟩ : ∃ k, D = k + 1 := ⟨D - 1, by omega⟩
    have hD' : d ≤ D := by omega
    unfold keyOk at h
    split at h
    case h_1 hd => simp [conc] at hx; subst hx; simp [Instr.checkKey, run_desc w hd]
    case h_2 hd => simp [conc] at hx; subst hx; simp [Instr.checkKey, run_desc w hd]
    case h_3 hd => simp [conc] at hx; subst hx; simp [Instr.checkKey, run_desc w hd]
    case h_4 n e cs hd =>
      split at h
      · rename_i sz hsz
        simp only [conc, Option.map_eq_some_iff] at hx
        obtain ⟨xs', hx, rfl⟩ := hx
        simp only [Instr.checkKey, Sem.run_bind, run_desc w hd, Result.andThen_ok, Std.Legacy.Range.forIn_eq_forIn_range', Std.Legacy.Range.size, Nat.sub_zero, Nat.add_sub_cancel, Nat.div_one]
        have key : ∀ (len i : Nat), keyElems (keyOk P d) P e sz cs len i = true → Sem.run P (forIn (List.range' i len) (⟨⟩ : PUnit) fun j _ => (do
            let n ← sizeOf e
            let a ← part e xs'.toArray (j * n)
            Instr.checkKey em D e a
            pure (ForInStep.yield ⟨⟩) : Sem (ForInStep PUnit))) w = .ok ⟨⟩ w := by
          intro len
          induction len with
          | zero => intro i _; simp
          | succ len ihl =>
            intro i hk
            simp only [keyElems, Bool.and_eq_true] at hk
            obtain ⟨hk1, hk2⟩ := hk
            split at hk1
            · rename_i a ha
              obtain ⟨a', ha', ra⟩ := part_ok w hx ha
              simp only [List.range'_succ, List.forIn_cons, Sem.run_bind, run_sz w hsz, Result.andThen_ok, ra, ih e a hk1 D hD' em a' w ha', Sem.run_pure]
              exact ihl (i + 1) hk2
            · simp at hk1
        have := key n 0 h
        simp only [bind_pure_comp, Sem.run_map] at this ⊢
        rw [this]
        rfl
      · simp at h
    case h_5 fields cs hd =>
      simp only [conc, Option.map_eq_some_iff] at hx
      obtain ⟨xs', hx, rfl⟩ := hx
      simp only [Instr.checkKey, Sem.run_bind, run_desc w hd, Result.andThen_ok]
      rw [← Array.forIn_toList]
      generalize fields.toList = fs at h
      clear hd
      induction fs with
      | nil => simp
      | cons f fs ihf =>
        simp only [keyFields, Bool.and_eq_true] at h
        obtain ⟨hk1, hk2⟩ := h
        simp only [List.forIn_cons, Sem.run_bind]
        split at hk1
        · rename_i hn
          simp only [hn, ne_eq, not_true_eq_false, if_false, Sem.run_pure, Result.andThen_ok]
          exact ihf hk2
        · rename_i hn
          split at hk1
          · rename_i a ha
            obtain ⟨a', ha', ra⟩ := part_ok w hx ha
            simp only [hn, ne_eq, not_false_eq_true, if_true, Sem.run_bind, Result.andThen_ok, ra, ih f.type a hk1 D hD' em a' w ha', Sem.run_pure]
            exact ihf hk2
          · simp at hk1
    case h_6 => simp at h

set_option maxHeartbeats 1000000 in
/-- the place that a key has -/
theorem find_ok {P : Program} {ρ : Rho} {kt : TypeId} {k : AV} {k' : Value} (hk : conc ρ k = some k') (w : World) {dk : TypeDesc} (hd : desc P kt = some dk) :
    ∀ (es : List Ent) (l : List MapEntry) (r : Option (Nat × AV)), concEnts ρ es = some l → findA P kt k es = some r → ∀ (i : Nat), ∃ r' : Option (Nat × Value),
      (Instr.findAsking kt k' l i).run P w = .ok r' w ∧ (∀ q, Instr.findNow dk k' l i = some q → q = r') ∧
      (match r with | none => r' = none | some (j, v) => ∃ v', conc ρ v = some v' ∧ r' = some (i + j, v'))
  | [], l, r, hl, h, i => by
    simp [concEnts] at hl
    subst hl
    simp [findA] at h
    subst h
    exact ⟨none, by simp [Instr.findAsking], by simp [Instr.findNow], rfl⟩
  | e :: es, l, r, hl, h, i => by
    obtain ⟨x, l2, hx, hl2, rfl⟩ := concEnts_cons hl
    unfold concEnt at hx
    split at hx
    case h_2 => simp at hx
    rename_i ek ev hek hev
    simp at hx
    subst hx
    simp only [findA] at h
    cases h1 : eqlA P 20 kt k e.key with
    | none => rw [h1] at h; simp at h
    | some q =>
      rw [h1] at h
      have heq := eql_ok (P := P) (ρ := ρ) 20 kt k e.key q h1 Op.maxDepth (by decide) k' ek w hk hek
      obtain ⟨jj, hjj⟩ : ∃ jj, 20 ≤ jj := ⟨20, Nat.le_refl _⟩
      have heq2 := eql_ok (P := P) (ρ := ρ) 20 kt k e.key q h1 (jj + 1) (by omega) k' ek w hk hek
      have hnow : ∀ q', Instr.sameNow dk k' ek = some q' → q' = q := by
        intro q' hq'
        unfold Instr.sameNow at hq'
        split at hq'
        · rename_i kk a b kk' _
          split at hq'
          · rename_i hkk; subst hkk; simp at hq'; subst hq'
            simp [Op.equalIn, run_desc w hd] at heq2
            exact heq2
          · simp at hq'
        · simp at hq'; subst hq'
          simp [Op.equalIn, run_desc w hd] at heq2
          exact heq2
        · simp at hq'; subst hq'
          simp [Op.equalIn, run_desc w hd] at heq2
          exact heq2
        · simp at hq'
      cases q with
      | true =>
        simp at h
        subst h
        refine ⟨some (i, ev), by simp [Instr.findAsking, Op.equal, heq], ?_, ⟨ev, hev, by simp⟩⟩
        intro q' hq'
        unfold Instr.findNow at hq'
        split at hq'
        · simp at hq'; exact hq'.symm
        · rename_i hs; have := hnow _ hs; simp at this
        · simp at hq'
      | false =>
        simp only at h
        cases h2 : findA P kt k es with
        | none => rw [h2] at h; simp at h
        | some r2 =>
          obtain ⟨r', h3, h4, h5⟩ := find_ok hk w hd es l2 r2 hl2 h2 (i + 1)
          refine ⟨r', by simp [Instr.findAsking, Op.equal, heq, h3], ?_, ?_⟩
          · intro q' hq'
            unfold Instr.findNow at hq'
            split at hq'
            · rename_i hs; have := hnow _ hs; simp at this
            · exact h4 _ hq'
            · simp at hq'
          · rw [h2] at h
            cases r2 with
            | none => simp at h; subst h; exact h5
            | some jv =>
              obtain ⟨j, v⟩ := jv
              simp at h
              subst h
              obtain ⟨v', hv, e⟩ := h5
              exact ⟨v', hv, by rw [e]; congr 2; omega⟩

theorem findKey_ok {P : Program} {ρ : Rho} {kt : TypeId} {k : AV} {k' : Value} (hk : conc ρ k = some k') (w : World) {dk : TypeDesc} (hd : desc P kt = some dk)
    {es : List Ent} {l : List MapEntry} {r : Option (Nat × AV)} (hl : concEnts ρ es = some l) (h : findA P kt k es = some r) : ∃ r' : Option (Nat × Value),
      (Instr.findKey kt k' l).run P w = .ok r' w ∧ (match r with | none => r' = none | some (j, v) => ∃ v', conc ρ v = some v' ∧ r' = some (j, v')) := by
  obtain ⟨r', h1, h2, h3⟩ := find_ok hk w hd es l r hl h 0
  refine ⟨r', ?_, ?_⟩
  · simp only [Instr.findKey, Sem.run_bind, run_desc w hd, Result.andThen_ok]
    cases hq : Instr.findNow dk k' l 0 with
    | none => exact h1
    | some q => rw [h2 q hq]; simp
  · cases r with
    | none => exact h3
    | some jv => obtain ⟨j, v⟩ := jv; simpa using h3
end Go.Ev
