/-
  THE EVALUATOR's SOUNDNESS, part 24: what a checked plan says.
-/
import Derived.Test.YtodlhchgpmgeeaaGreatDoorEv24
namespace Go.Ev
open Go.RowKit
set_option linter.unusedSimpArgs false

theorem maskOf_bit (ms : List Nat) (b : Nat) : ∀ es : List Edge, (maskOf ms es).testBit b = true ↔ ∃ e ∈ es, Region.binds .any e = true ∧ (b = e.on ∨ ((ms[e.on]?).getD 0).testBit b = true)
  | [] => by simp [maskOf]
  | e :: es => by
    have ih := maskOf_bit ms b es
    simp only [maskOf]
    by_cases hb : Region.binds .any e = true
    · rw [if_pos hb]
      show ((2 ^ e.on ||| (nth? ms e.on).getD 0) ||| maskOf ms es).testBit b = true ↔ _
      rw [Nat.testBit_or, Nat.testBit_or, Nat.testBit_two_pow, nth?_ok, Bool.or_eq_true, Bool.or_eq_true, ih]
      constructor
      · rintro ((h | h) | ⟨e', h1, h2, h3⟩)
        · exact ⟨e, by simp, hb, .inl (Eq.symm (by simpa using h))⟩
        · exact ⟨e, by simp, hb, .inr h⟩
        · exact ⟨e', by simp [h1], h2, h3⟩
      · rintro ⟨e', h1, h2, h3⟩
        rcases List.mem_cons.1 h1 with rfl | h1
        · rcases h3 with h3 | h3
          · exact .inl (.inl (by simp [h3]))
          · exact .inl (.inr h3)
        · exact .inr ⟨e', h1, h2, h3⟩
    · rw [if_neg hb, ih]
      constructor
      · rintro ⟨e', h1, h2, h3⟩
        exact ⟨e', by simp [h1], h2, h3⟩
      · rintro ⟨e', h1, h2, h3⟩
        rcases List.mem_cons.1 h1 with rfl | h1
        · exact absurd h2 hb
        · exact ⟨e', h1, h2, h3⟩

theorem rowsOf_get : ∀ (l : List Oper) (i : Nat) (ms : List Nat) (k : Nat) (r : Row), (rowsOf i ms l)[k]? = some r →
    ∃ o, l[k]? = some o ∧ r.i = i + k ∧ r.e = isE o.op ∧ r.mask = maskOf (ms ++ ((rowsOf i ms l).take k).map (·.mask)) o.after.toList
  | [], i, ms, k, r, h => by simp [rowsOf] at h
  | o :: l, i, ms, 0, r, h => by
    simp [rowsOf] at h
    subst h
    exact ⟨o, by simp, by simp, rfl, by simp⟩
  | o :: l, i, ms, k + 1, r, h => by
    simp only [rowsOf, List.getElem?_cons_succ] at h
    obtain ⟨o', h1, h2, h3, h4⟩ := rowsOf_get l (i + 1) (ms ++ [maskOf ms o.after.toList]) k r h
    refine ⟨o', by simpa using h1, by omega, h3, ?_⟩
    rw [h4]
    simp [rowsOf]
theorem rowsOf_length : ∀ (l : List Oper) (i : Nat) (ms : List Nat), (rowsOf i ms l).length = l.length
  | [], _, _ => rfl
  | o :: l, i, ms => by simp [rowsOf, rowsOf_length l]

theorem splitQ_mem (pend : Nat) : ∀ (rs : List Row) (r : Row), (r ∈ (splitQ pend rs).1 ∨ r ∈ (splitQ pend rs).2) → r ∈ rs
  | [], r, h => by simp [splitQ] at h
  | x :: rs, r, h => by
    have ih := splitQ_mem pend rs r
    simp only [splitQ] at h
    generalize hq : splitQ pend rs = q at h ih
    obtain ⟨a, b⟩ := q
    simp only at h ih
    split at h
    · simp only [List.mem_cons] at h
      rcases h with h | h | h
      · simp [ih (.inl h)]
      · simp [h]
      · simp [ih (.inr h)]
    · split at h
      · simp only [List.mem_cons] at h
        rcases h with (h | h) | h
        · simp [h]
        · simp [ih (.inl h)]
        · simp [ih (.inr h)]
      · simp only [List.mem_cons] at h
        rcases h with h | h | h
        · simp [ih (.inl h)]
        · simp [h]
        · simp [ih (.inr h)]
theorem firstE_mem : ∀ (rs : List Row) (x : Row) (m : List Row), firstE rs = some (x, m) → x ∈ rs ∧ ∀ r ∈ m, r ∈ rs
  | [], x, m, h => by simp [firstE] at h
  | y :: rs, x, m, h => by
    simp only [firstE] at h
    split at h
    · simp at h
      obtain ⟨rfl, rfl⟩ := h
      exact ⟨by simp, fun r hr => by simp [hr]⟩
    · split at h
      · rename_i x' m' hf
        simp at h
        obtain ⟨rfl, rfl⟩ := h
        obtain ⟨h1, h2⟩ := firstE_mem rs _ _ hf
        refine ⟨by simp [h1], fun r hr => ?_⟩
        simp only [List.mem_cons] at hr
        rcases hr with hr | hr
        · simp [hr]
        · simp [h2 r hr]
      · simp at h
theorem planGo_mem : ∀ (n : Nat) (rs : List Row) (r : Row), r ∈ planGo n rs → r ∈ rs
  | 0, rs, r, h => by simp [planGo] at h
  | n + 1, rs, r, h => by
    simp only [planGo] at h
    generalize hq : splitQ (pendOf rs) rs = q at h
    obtain ⟨now, later⟩ := q
    have hs := splitQ_mem (pendOf rs) rs
    rw [hq] at hs
    simp only at h hs
    split at h
    · rename_i x rest hf
      obtain ⟨h1, h2⟩ := firstE_mem _ _ _ hf
      simp only [List.mem_append, List.mem_cons] at h
      rcases h with h | h | h
      · exact hs r (.inl h)
      · subst h; exact hs _ (.inr h1)
      · exact hs r (.inr (h2 r (planGo_mem n rest r h)))
    · exact hs r (.inl h)

theorem land_sub {m d : Nat} (h : Nat.beq (Nat.land m d) m = true) (b : Nat) (hb : m.testBit b = true) : d.testBit b = true := by
  rw [Nat.beq_eq] at h
  have : (m &&& d).testBit b = true := by
    show (Nat.land m d).testBit b = true
    rw [h]; exact hb
  rw [Nat.testBit_and] at this
  simp at this
  exact this.2

theorem planOk_spec (all : Nat) : ∀ (rs : List Row) (done acts : Nat), planOk all done acts rs = true →
    (∀ (q : Nat) (r : Row), rs[q]? = some r →
      (∀ b, r.mask.testBit b = true → done.testBit b = true ∨ ∃ p r', p < q ∧ rs[p]? = some r' ∧ r'.i = b) ∧
      (∀ b, acts.testBit b = true → r.mask.testBit b = true) ∧
      (∀ p r', p < q → rs[p]? = some r' → r'.e = true → r.mask.testBit r'.i = true) ∧
      done.testBit r.i = false ∧
      (∀ p r', p < q → rs[p]? = some r' → r'.i ≠ r.i)) ∧
    (∀ b, all.testBit b = true → done.testBit b = true ∨ ∃ (p : Nat) (r : Row), rs[p]? = some r ∧ r.i = b)
  | [], done, acts, h => by
    simp only [planOk, Nat.beq_eq] at h
    subst h
    exact ⟨fun q r hq => by simp at hq, fun b hb => .inl hb⟩
  | x :: rs, done, acts, h => by
    simp only [planOk] at h
    split at h
    case isFalse => simp at h
    rename_i hc
    simp only [Bool.and_eq_true] at hc
    obtain ⟨⟨hc1, hc2⟩, hc3⟩ := hc
    obtain ⟨ih1, ih2⟩ := planOk_spec all rs _ _ h
    have hor : ∀ b, (Nat.lor (2 ^ x.i) done).testBit b = true ↔ b = x.i ∨ done.testBit b = true := by
      intro b
      show (2 ^ x.i ||| done).testBit b = true ↔ _
      rw [Nat.testBit_or, Nat.testBit_two_pow, Bool.or_eq_true]
      simp only [decide_eq_true_eq]
      constructor
      · rintro (h | h)
        · exact .inl h.symm
        · exact .inr h
      · rintro (h | h)
        · exact .inl h.symm
        · exact .inr h
    have hxd : done.testBit x.i = false := by
      rw [Nat.beq_eq] at hc3
      cases hq : done.testBit x.i with
      | false => rfl
      | true =>
        have : (2 ^ x.i &&& done).testBit x.i = true := by rw [Nat.testBit_and, Nat.testBit_two_pow, hq]; simp
        have e : (2 ^ x.i &&& done) = 0 := hc3
        rw [e] at this
        simp at this
    refine ⟨fun q r hq => ?_, fun b hb => ?_⟩
    · cases q with
      | zero =>
        simp at hq
        subst hq
        exact ⟨fun b hb => .inl (land_sub hc1 b hb), fun b hb => land_sub hc2 b hb, fun p r' hp => by omega, hxd, fun p r' hp => by omega⟩
      | succ q =>
        simp only [List.getElem?_cons_succ] at hq
        obtain ⟨i1, i2, i3, i4, i5⟩ := ih1 q r hq
        have hri : r.i ≠ x.i ∧ done.testBit r.i = false := by
          have := i4
          constructor
          · intro e
            have : (Nat.lor (2 ^ x.i) done).testBit r.i = true := (hor _).2 (.inl e)
            rw [this] at i4; simp at i4
          · cases hq' : done.testBit r.i with
            | false => rfl
            | true =>
              have : (Nat.lor (2 ^ x.i) done).testBit r.i = true := (hor _).2 (.inr hq')
              rw [this] at i4; simp at i4
        refine ⟨fun b hb => ?_, fun b hb => ?_, fun p r' hp hr' he => ?_, hri.2, fun p r' hp hr' => ?_⟩
        · rcases i1 b hb with h1 | ⟨p, r', h1, h2, h3⟩
          · rcases (hor b).1 h1 with h1 | h1
            · exact .inr ⟨0, x, by omega, by simp, h1.symm⟩
            · exact .inl h1
          · exact .inr ⟨p + 1, r', by omega, by simpa using h2, h3⟩
        · refine i2 b ?_
          split
          · show (2 ^ x.i ||| acts).testBit b = true
            rw [Nat.testBit_or, hb]; simp
          · exact hb
        · cases p with
          | zero =>
            simp at hr'
            subst hr'
            refine i2 _ ?_
            rw [if_pos he]
            show (2 ^ x.i ||| acts).testBit x.i = true
            rw [Nat.testBit_or, Nat.testBit_two_pow]; simp
          | succ p => exact i3 p r' (by omega) (by simpa using hr') he
        · cases p with
          | zero =>
            simp at hr'
            subst hr'
            exact fun e => hri.1 e.symm
          | succ p => exact i5 p r' (by omega) (by simpa using hr')
    · rcases ih2 b hb with h1 | ⟨p, r, h1, h2⟩
      · rcases (hor b).1 h1 with h1 | h1
        · exact .inr ⟨0, x, by simp, h1.symm⟩
        · exact .inl h1
      · exact .inr ⟨p + 1, r, by simpa using h1, h2⟩

theorem apartRow_spec {ops : Array Oper} {o : Oper} {mask : Nat} : ∀ {l : List Row}, apartRow ops o mask l = true → ∀ q ∈ l, ∃ p, ops[q.i]? = some p ∧ sameDst p.dst o.dst = false ∧ (mask.testBit q.i = true ∨ p.apart ops o = true)
  | [], _, q, hq => by simp at hq
  | x :: l, h, q, hq => by
    simp only [apartRow, Bool.and_eq_true] at h
    rcases List.mem_cons.1 hq with rfl | hq
    · have h := h.1
      split at h
      · rename_i p hp
        simp only [Bool.and_eq_true, Bool.not_eq_true', Bool.or_eq_true] at h
        exact ⟨p, hp, h.1, h.2⟩
      · simp at h
    · exact apartRow_spec h.2 q hq
theorem apartOk_spec {ops : Array Oper} : ∀ (rs done : List Row), apartOk ops done rs = true → ∀ (q : Nat) (r : Row), rs[q]? = some r → ∃ o, ops[r.i]? = some o ∧
    (∀ r' ∈ done, ∃ p, ops[r'.i]? = some p ∧ sameDst p.dst o.dst = false ∧ (r.mask.testBit r'.i = true ∨ p.apart ops o = true)) ∧
    (∀ (k : Nat) (r' : Row), k < q → rs[k]? = some r' → ∃ p, ops[r'.i]? = some p ∧ sameDst p.dst o.dst = false ∧ (r.mask.testBit r'.i = true ∨ p.apart ops o = true))
  | [], done, h, q, r, hq => by simp at hq
  | x :: rs, done, h, q, r, hq => by
    simp only [apartOk] at h
    split at h
    case h_2 => simp at h
    rename_i o ho
    simp only [Bool.and_eq_true] at h
    cases q with
    | zero =>
      simp at hq
      subst hq
      exact ⟨o, ho, apartRow_spec h.1, fun k r' hk => by omega⟩
    | succ q =>
      simp only [List.getElem?_cons_succ] at hq
      obtain ⟨o', h1, h2, h3⟩ := apartOk_spec rs (x :: done) h.2 q r hq
      refine ⟨o', h1, fun r' hr' => h2 r' (by simp [hr']), fun k r' hk hr' => ?_⟩
      cases k with
      | zero =>
        simp at hr'
        subst hr'
        exact h2 x (by simp)
      | succ k => exact h3 k r' (by omega) (by simpa using hr')

/-- a plan: its rows are the region's operations, each once, in an order that keeps the edges; those that act hang on each other; what may come in another order is apart -/
structure Plan (ops : Array Oper) (rs : List Row) : Prop where
  op : ∀ (p : Nat) (r : Row), rs[p]? = some r → ∃ o, ops[r.i]? = some o ∧ r.e = isE o.op ∧ (∀ e ∈ o.after, Region.binds .any e = true → r.mask.testBit e.on = true) ∧
    (∀ b, r.mask.testBit b = true → ∃ e ∈ o.after, Region.binds .any e = true ∧ (b = e.on ∨ ∃ (q : Nat) (r' : Row), rs[q]? = some r' ∧ r'.i = e.on ∧ r'.mask.testBit b = true))
  inj : ∀ (p q : Nat) (r r' : Row), rs[p]? = some r → rs[q]? = some r' → r.i = r'.i → p = q
  all : ∀ i, i < ops.size → ∃ (p : Nat) (r : Row), rs[p]? = some r ∧ r.i = i
  sub : ∀ (q : Nat) (r : Row), rs[q]? = some r → ∀ b, r.mask.testBit b = true → ∃ p r', p < q ∧ rs[p]? = some r' ∧ r'.i = b
  acts : ∀ (p q : Nat) (r r' : Row), p < q → rs[p]? = some r → rs[q]? = some r' → r.e = true → r'.mask.testBit r.i = true
  apart : ∀ (p q : Nat) (r r' : Row) (o o' : Oper), p < q → rs[p]? = some r → rs[q]? = some r' → ops[r.i]? = some o → ops[r'.i]? = some o' →
    sameDst o.dst o'.dst = false ∧ (r'.mask.testBit r.i = true ∨ o.apart ops o' = true)

theorem plan_ok {ops : Array Oper} {rs : List Row} (h : planOf ops = some rs) : Plan ops rs := by
  unfold planOf at h
  simp only at h
  split at h
  case isFalse => simp at h
  rename_i hc
  simp only [Bool.and_eq_true] at hc
  simp only [Option.some.injEq] at h
  subst h
  obtain ⟨h1, h2⟩ := planOk_spec _ _ _ _ hc.1
  have h3 := apartOk_spec _ _ hc.2
  generalize hrs : planGo (ops.size + 1) (rowsOf 0 [] ops.toList) = rs at h1 h2 h3
  have hmem : ∀ r ∈ rs, r ∈ rowsOf 0 [] ops.toList := fun r hr => planGo_mem _ _ r (hrs ▸ hr)
  have hrow : ∀ r ∈ rs, (rowsOf 0 [] ops.toList)[r.i]? = some r := by
    intro r hr
    obtain ⟨k, hk⟩ := List.getElem?_of_mem (hmem r hr)
    obtain ⟨o, q1, q2, q3, q4⟩ := rowsOf_get _ _ _ _ _ hk
    rw [show r.i = k by omega]
    exact hk
  have hall : ∀ i, i < ops.size → ∃ (p : Nat) (r : Row), rs[p]? = some r ∧ r.i = i := by
    intro i hi
    rcases h2 i (by simp [Nat.testBit_two_pow_sub_one, hi]) with h | h
    · simp at h
    · exact h
  have hinj : ∀ (p q : Nat) (r r' : Row), rs[p]? = some r → rs[q]? = some r' → r.i = r'.i → p = q := by
    intro p q r r' hp hq e
    rcases Nat.lt_trichotomy p q with h | h | h
    · exact absurd e ((h1 q r' hq).2.2.2.2 p r h hp)
    · exact h
    · exact absurd e.symm ((h1 p r hp).2.2.2.2 q r' h hq)
  refine ⟨?_, hinj, hall, ?_, fun p q r r' hpq hp hq he => (h1 q r' hq).2.2.1 p r hpq hp he, ?_⟩
  · intro p r hp
    have hr := hrow r (List.mem_of_getElem? hp)
    obtain ⟨o, q1, q2, q3, q4⟩ := rowsOf_get _ _ _ _ _ hr
    refine ⟨o, by simpa using q1, q3, fun e he hb => ?_, fun b hb => ?_⟩
    · rw [q4, maskOf_bit]
      exact ⟨e, by simpa using he, hb, .inl rfl⟩
    · rw [q4, maskOf_bit] at hb
      obtain ⟨e, he, hbi, hb⟩ := hb
      refine ⟨e, by simpa using he, hbi, ?_⟩
      rcases hb with hb | hb
      · exact .inl hb
      · right
        simp only [List.nil_append] at hb
        cases hq : (((rowsOf 0 [] ops.toList).take r.i).map (·.mask))[e.on]? with
        | none => rw [hq] at hb; simp at hb
        | some m =>
          rw [hq] at hb
          simp only [Option.getD_some] at hb
          rw [List.getElem?_map, Option.map_eq_some_iff] at hq
          obtain ⟨r', hr', rfl⟩ := hq
          rw [List.getElem?_take] at hr'
          split at hr'
          · rename_i hlt
            obtain ⟨_, _, k2, _, _⟩ := rowsOf_get _ _ _ _ _ hr'
            have hri : r.i < ops.size := by
              have := (List.getElem?_eq_some_iff.1 q1).1
              simpa using this
            obtain ⟨q, r'', k3, k4⟩ := hall e.on (by omega)
            have := hrow r'' (List.mem_of_getElem? k3)
            rw [k4, hr'] at this
            injection this with this
            subst this
            exact ⟨q, r', k3, k4, hb⟩
          · simp at hr'
  · intro q r hq b hb
    rcases (h1 q r hq).1 b hb with h | ⟨p, r', h⟩
    · simp at h
    · exact ⟨p, r', h⟩
  · intro p q r r' o o' hpq hp hq ho ho'
    obtain ⟨o2, k1, _, k2⟩ := h3 q r' hq
    rw [ho'] at k1
    injection k1 with k1
    subst k1
    obtain ⟨o3, k3, k4, k5⟩ := k2 p r hpq hp
    rw [ho] at k3
    injection k3 with k3
    subst k3
    exact ⟨k4, k5⟩

end Go.Ev
