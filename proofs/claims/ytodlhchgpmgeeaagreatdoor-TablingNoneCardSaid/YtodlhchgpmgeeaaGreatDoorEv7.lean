/-
  THE EVALUATOR's SOUNDNESS, part 6: the operations that look at most, all together.
-/
import Derived.Test.YtodlhchgpmgeeaaGreatDoorEv6
namespace Go.Ev
open Go.RowKit
set_option linter.unusedSimpArgs false

variable {P : Program} {B : Nat} {ρ : Rho} {h : H}

theorem run_getObj (w : World) (r : Nat) {o : Obj} (ho : w.heap[r]? = some o) (hn : ∀ c e f, o ≠ .cells c e f) : (getObj r).run P w = .ok o w := by
  cases o <;> simp [getObj, Sem.run, ho]
  exact absurd rfl (hn _ _ _)

theorem concEnts_length : ∀ {es : List Ent} {l : List MapEntry}, concEnts ρ es = some l → l.length = es.length
  | [], l, h => by simp [concEnts] at h; simp [h]
  | e :: es, l, h => by
    obtain ⟨a, b, _, hb, rfl⟩ := concEnts_cons h
    simp [concEnts_length hb]

theorem len_ok {w : World} (hs : Sim B ρ h w.heap) (t ty : TypeId) (x v : AV) (hv : lenA P h t x = some v) (x' : Value) (hx : conc ρ x = some x')
    (ts : Array TypeId) (xs : Array Value) (h0 : ts[0]? = some t) (h1 : xs[0]? = some x') : ∃ v', conc ρ v = some v' ∧ (Builtin.len_ ts ty xs).run P w = .ok v' w := by
  unfold lenA at hv
  split at hv
  case h_1 l c hd =>
    simp [conc] at hx; subst hx; simp at hv; subst hv
    exact ⟨_, rfl, by simp [Builtin.len_, h0, h1, run_desc w hd, strOf_size, goInt]⟩
  case h_2 n e hd =>
    simp at hv; subst hv
    exact ⟨_, rfl, by cases x' <;> simp [Builtin.len_, h0, h1, run_desc w hd, goInt]⟩
  case h_3 e id off beg l cap hd =>
    simp only [conc, Option.map_eq_some_iff] at hx
    obtain ⟨be, hbe, rfl⟩ := hx
    simp at hv; subst hv
    exact ⟨_, rfl, by simp [Builtin.len_, h0, h1, run_desc w hd, goInt]⟩
  case h_4 e hd =>
    simp [conc] at hx; subst hx; simp at hv; subst hv
    exact ⟨_, rfl, by simp [Builtin.len_, h0, h1, run_desc w hd, goInt]⟩
  case h_5 e id a b c hd =>
    simp only [conc, Option.map_eq_some_iff] at hx
    obtain ⟨be, hbe, rfl⟩ := hx
    simp at hv; subst hv
    refine ⟨_, rfl, ?_⟩
    by_cases hc : be.2 = c
    · rw [if_pos hc] at h1; simp [Builtin.len_, h0, h1, run_desc w hd, goInt]
    · rw [if_neg hc] at h1; simp [Builtin.len_, h0, h1, run_desc w hd, goInt]
  case h_6 k e hd =>
    simp [conc] at hx; subst hx; simp at hv; subst hv
    exact ⟨_, rfl, by simp [Builtin.len_, h0, h1, run_desc w hd, goInt]⟩
  case h_7 k e id hd =>
    simp only [conc, Option.map_eq_some_iff] at hx
    obtain ⟨be, hbe, rfl⟩ := hx
    split at hv
    · rename_i es clock hg
      simp at hv; subst hv
      obtain ⟨l, h3, h2⟩ := hs.blk id _ be hg hbe
      refine ⟨_, rfl, ?_⟩
      simp [Builtin.len_, h0, h1, run_desc w hd, goInt, run_getObj w be.1 h3 (by simp), concEnts_length h2]
    · simp at hv
  case h_8 => simp at hv

theorem cap_ok (w : World) (t ty : TypeId) (x v : AV) (hv : capA P t x = some v) (x' : Value) (hx : conc ρ x = some x')
    (ts : Array TypeId) (xs : Array Value) (h0 : ts[0]? = some t) (h1 : xs[0]? = some x') : ∃ v', conc ρ v = some v' ∧ (Builtin.cap_ ts ty xs).run P w = .ok v' w := by
  unfold capA at hv
  split at hv
  case h_1 e id off beg l c hd =>
    simp only [conc, Option.map_eq_some_iff] at hx
    obtain ⟨be, hbe, rfl⟩ := hx
    simp at hv; subst hv
    exact ⟨_, rfl, by simp [Builtin.cap_, h0, h1, run_desc w hd, goInt]⟩
  case h_2 e hd =>
    simp [conc] at hx; subst hx; simp at hv; subst hv
    exact ⟨_, rfl, by simp [Builtin.cap_, h0, h1, run_desc w hd, goInt]⟩
  case h_3 => simp at hv

theorem lookup_ok {w : World} (hs : Sim B ρ h w.heap) (t : TypeId) (x k v : AV) (ok : Bool) (hv : lookupA P h t x k ok = some v) (x' k' : Value) (hx : conc ρ x = some x') (hk : conc ρ k = some k') :
    ∃ v', conc ρ v = some v' ∧ (Instr.lookup t x' k' ok).run P w = .ok v' w := by
  unfold lookupA at hv
  split at hv
  case h_2 => simp at hv
  rename_i kt et hd
  split at hv
  case isFalse => simp at hv
  rename_i hko
  have hdk : ∃ dk, desc P kt = some dk := by
    unfold keyOk at hko
    cases hq : desc P kt with
    | none => rw [hq] at hko; simp at hko
    | some dk => exact ⟨dk, rfl⟩
  obtain ⟨dk, hdk⟩ := hdk
  have hkey := fun em => key_ok (P := P) (ρ := ρ) 20 kt k hko 10000 (by omega) em k' w hk
  -- the entries, and what the machine's look among them comes to
  have ents : ∀ es, (match x with | .mn => some [] | .m id => (match h.t.get id with | some (.map es _) => some es | _ => none) | _ => none) = some es →
      ∃ l : List MapEntry, concEnts ρ es = some l ∧ ∀ r' : Option (Nat × Value), (Instr.findKey kt k' l).run P w = .ok r' w →
        (Instr.lookup t x' k' ok).run P w = ((match r' with | some (_, v) => pure (v, true) | none => do pure (← zeroValue et, false) : Sem (Value × Bool)).run P w).andThen (fun vo w' => .ok (if ok then .tuple #[vo.1, .bool vo.2] else vo.1) w') := by
    intro es he
    split at he
    · simp at he; subst he
      simp [conc] at hx; subst hx
      refine ⟨[], rfl, fun r' hr' => ?_⟩
      simp only [Instr.lookup, Sem.run_bind, run_desc w hd, Result.andThen_ok, Sem.run_pure, hkey, hr']
      cases r' with
      | none => simp only [Sem.run_bind, Sem.run_pure]; cases (zeroValue et).run P w <;> simp
      | some jv => simp
    · rename_i id
      simp only [conc, Option.map_eq_some_iff] at hx
      obtain ⟨be, hbe, rfl⟩ := hx
      split at he
      · rename_i es' clock hg
        simp at he; subst he
        obtain ⟨l, h1, h2⟩ := hs.blk id _ be hg hbe
        refine ⟨l, h2, fun r' hr' => ?_⟩
        simp only [Instr.lookup, Sem.run_bind, run_desc w hd, Result.andThen_ok, Sem.run_pure, run_getObj w be.1 h1 (by simp), hkey, hr']
        cases r' with
        | none => simp only [Sem.run_bind, Sem.run_pure]; cases (zeroValue et).run P w <;> simp
        | some jv => simp
      · simp at he
    · simp at he
  split at hv
  case h_2 => simp at hv
  rename_i es hes
  obtain ⟨l, hl, hrun⟩ := ents es hes
  have hfin : ∀ r, findA P kt k es = some r → ∃ r' : Option (Nat × Value), (Instr.lookup t x' k' ok).run P w =
      ((match r' with | some (_, v) => pure (v, true) | none => do pure (← zeroValue et, false) : Sem (Value × Bool)).run P w).andThen (fun vo w' => .ok (if ok then .tuple #[vo.1, .bool vo.2] else vo.1) w') ∧
      (match r with | none => r' = none | some (j, v) => ∃ v', conc ρ v = some v' ∧ r' = some (j, v')) := by
    intro r hr
    obtain ⟨r', h1, h2⟩ := findKey_ok hk w hdk hl hr
    refine ⟨r', hrun r' h1, ?_⟩
    cases r with
    | none => exact h2
    | some jv => exact h2
  split at hv
  · rename_i j u hr
    simp at hv; subst hv
    obtain ⟨r', h1, u', hu, rfl⟩ := hfin _ hr
    rw [h1]
    cases ok with
    | true => exact ⟨.tuple #[u', .bool true], by simp [conc, concs, hu], by simp⟩
    | false => exact ⟨u', by simpa using hu, by simp⟩
  · rename_i hr
    obtain ⟨r', h1, rfl⟩ := hfin _ hr
    rw [h1]
    split at hv
    · rename_i z hz
      obtain ⟨z', hz1, hz2⟩ := run_zero (P := P) w ρ hz
      simp at hv; subst hv
      cases ok with
      | true => exact ⟨.tuple #[z', .bool false], by simp [conc, concs, hz2], by simp [hz1]⟩
      | false => exact ⟨z', by simpa using hz2, by simp [hz1]⟩
    · simp at hv
  · simp at hv

theorem indexAddr_ok (w : World) (t : TypeId) (x ix v : AV) (hv : indexAddrA P t x ix = some v) (x' ix' : Value) (hx : conc ρ x = some x') (hi : conc ρ ix = some ix') :
    ∃ v', conc ρ v = some v' ∧ (Instr.indexAt t x' ix').run P w = .ok v' w := by
  unfold indexAddrA at hv
  split at hv
  case h_1 i n e id off hn hd =>
    obtain ⟨k, rfl⟩ := natOf_ok hn hi
    simp only [conc, Option.map_eq_some_iff] at hx
    obtain ⟨be, hbe, rfl⟩ := hx
    split at hv
    · rename_i sz hsz
      split at hv
      · rename_i hlt
        simp at hlt hv; subst hv
        refine ⟨_, by simp only [conc, hbe, Option.map_some]; rfl, ?_⟩
        have h1 : (0 : Int) ≤ (i : Int) ∧ (i : Int) < (n : Int) := by omega
        simp [Instr.indexAt, asIntOf, run_desc w hd, Instr.sureAddr, h1, run_sz w hsz, add_off]
        intro hc; omega
      · simp at hv
    · simp at hv
  case h_2 i e id off beg len cap hn hd =>
    obtain ⟨k, rfl⟩ := natOf_ok hn hi
    simp only [conc, Option.map_eq_some_iff] at hx
    obtain ⟨be, hbe, rfl⟩ := hx
    split at hv
    · rename_i sz hsz
      split at hv
      · rename_i hlt
        simp at hlt hv; subst hv
        refine ⟨_, by simp only [conc, hbe, Option.map_some]; rfl, ?_⟩
        have h1 : (0 : Int) ≤ (i : Int) ∧ (i : Int) < (len : Int) := by omega
        simp [Instr.indexAt, asIntOf, run_desc w hd, h1, run_sz w hsz, add_off]
        intro hc; omega
      · simp at hv
    · simp at hv
  case h_3 => simp at hv

theorem index_ok (w : World) (t : TypeId) (x ix v : AV) (hv : indexA P t x ix = some v) (x' ix' : Value) (hx : conc ρ x = some x') (hi : conc ρ ix = some ix') :
    ∃ v', conc ρ v = some v' ∧ (Instr.index t x' ix').run P w = .ok v' w := by
  unfold indexA at hv
  split at hv
  case h_1 i n e cs hn hd =>
    obtain ⟨k, rfl⟩ := natOf_ok hn hi
    simp only [conc, Option.map_eq_some_iff] at hx
    obtain ⟨xs, hxs, rfl⟩ := hx
    split at hv
    · rename_i sz hsz
      split at hv
      · rename_i hlt
        simp at hlt
        obtain ⟨u, hu, hr⟩ := part_ok w hxs hv
        refine ⟨u, hu, ?_⟩
        have h1 : (0 : Int) ≤ (i : Int) ∧ (i : Int) < (n : Int) := by omega
        simp [Instr.index, asIntOf, run_desc w hd, h1, run_sz w hsz, hr]
        intro hc; omega
      · simp at hv
    · simp at hv
  case h_2 i len c hn hd =>
    obtain ⟨k, rfl⟩ := natOf_ok hn hi
    simp [conc] at hx; subst hx
    split at hv
    · rename_i hlt
      simp at hlt hv; subst hv
      refine ⟨_, rfl, ?_⟩
      have h1 : (strOf len c)[i]? = some (UInt8.ofNat (c / 256 ^ i % 256)) := by
        have := bytesOf_get len c i hlt
        have hsz : i < (strOf len c).size := by rw [strOf_size]; exact hlt
        rw [getElem?_pos (strOf len c) i hsz]
        congr 1
        rw [List.getElem?_eq_getElem (by rw [bytesOf_length]; exact hlt)] at this
        simp only [Option.some.injEq] at this
        rw [← this]
        simp only [ByteArray.getElem_eq_getElem_data, strOf, List.getElem_toArray]
      simp [Instr.index, asIntOf, run_desc w hd, h1]
    · simp at hv
  case h_3 => simp at hv

theorem cells_at {w : World} {b : Nat} {c : Array Value} {el : TypeId} {fr : Nat × Nat} (hb : w.heap[b]? = some (.cells c el fr)) (off : Nat) : w.cell? ⟨b, off, none⟩ = c[off]? := by
  simp [World.cell?, hb]

/-- a piece of a row, as the machine loads it -/
theorem getCells_ok {w : World} (hs : Sim B ρ h w.heap) {id : K} {be : Nat × Nat} (hbe : ρ id = some be) {off n : Nat} {l : List AV} (hg : getCells h id off n = some l) :
    ∃ l', concs ρ l = some l' ∧ l'.length = n ∧ ∀ (j : Nat) (v : Value), l'[j]? = some v → w.cell? ⟨be.1, off + j, none⟩ = some v := by
  unfold getCells at hg
  split at hg
  · rename_i cs el sz fz hb
    obtain ⟨c, el', fr, vs, h1, h2, h3, _⟩ := hs.blk id _ be hb hbe
    obtain ⟨rfl, hle⟩ := take?_ok _ _ _ hg
    rw [drop_ok] at hle ⊢
    have hl := concs_take n _ _ (concs_drop off _ _ h2)
    refine ⟨_, hl, ?_, ?_⟩
    · have := concs_length _ _ hl
      rw [this]
      simp at hle ⊢
      omega
    · intro j v hj
      rw [cells_at h1]
      apply h3
      rw [List.getElem?_take] at hj
      split at hj
      · rw [List.getElem?_drop] at hj; exact hj
      · simp at hj
  · simp at hg

theorem loadCells_ok {w : World} {b off : Nat} {l' : List Value} (hl : ∀ (j : Nat) (v : Value), l'[j]? = some v → w.cell? ⟨b, off + j, none⟩ = some v) :
    (loadCells ⟨b, off, none⟩ l'.length).run P w = .ok l'.toArray w :=
  run_loadCells_list w _ _ (fun j v hj => by rw [add_off]; exact hl j v hj)

theorem load_ok {w : World} (hs : Sim B ρ h w.heap) (t : TypeId) (x v : AV) (hv : loadA P h t x = some v) (x' : Value) (hx : conc ρ x = some x') :
    ∃ v', conc ρ v = some v' ∧ (∃ a, x' = .pointer (some a) ∧ (loadVar t a).run P w = .ok v' w) := by
  unfold loadA at hv
  split at hv
  case h_2 => simp at hv
  rename_i id off d n hd hn
  simp only [conc, Option.map_eq_some_iff] at hx
  obtain ⟨be, hbe, rfl⟩ := hx
  split at hv
  · rename_i ha
    split at hv
    · rename_i l hg
      simp at hv; subst hv
      obtain ⟨l', h1, h2, h3⟩ := getCells_ok hs hbe hg
      refine ⟨.agg l'.toArray, by simp [conc, h1], _, rfl, ?_⟩
      have := loadCells_ok (P := P) h3
      rw [h2] at this
      simp [loadVar, run_isAgg w hd, ha, run_sz w hn, this]
    · simp at hv
  · rename_i ha
    split at hv
    · rename_i u l hg
      simp at hv; subst hv
      obtain ⟨l', h1, h2, h3⟩ := getCells_ok hs hbe hg
      obtain ⟨a, b, ha', _, rfl⟩ := concs_cons h1
      have := h3 0 a (by simp)
      simp only [Nat.add_zero] at this
      have ha2 : isAggD d = false := by simpa using ha
      refine ⟨a, ha', _, rfl, ?_⟩
      simp [loadVar, run_isAgg w hd, ha2, this]
    · simp at hv

theorem fieldAddr_ok (w : World) (t : TypeId) (x v : AV) (f : Nat) (hv : fieldAddrA P t x f = some v) (x' : Value) (hx : conc ρ x = some x') :
    ∃ v', conc ρ v = some v' ∧ (Instr.fieldAt t x' f).run P w = .ok v' w := by
  unfold fieldAddrA at hv
  split at hv
  case h_2 => simp at hv
  rename_i fs id off hd
  simp only [conc, Option.map_eq_some_iff] at hx
  obtain ⟨be, hbe, rfl⟩ := hx
  split at hv
  case h_2 => simp at hv
  rename_i fl hfl
  split at hv
  case h_2 => simp at hv
  rename_i n hsz
  simp at hv; subst hv
  refine ⟨_, by simp only [conc, hbe, Option.map_some]; rfl, ?_⟩
  simp [Instr.fieldAt, run_desc w hd, hfl, Instr.sureAddr, fieldPlace, run_sz w hsz, add_off]

theorem field_ok (w : World) (t : TypeId) (x v : AV) (f : Nat) (hv : fieldA P t x f = some v) (x' : Value) (hx : conc ρ x = some x') :
    ∃ v', conc ρ v = some v' ∧ (Instr.field t x' f).run P w = .ok v' w := by
  unfold fieldA at hv
  split at hv
  case h_2 => simp at hv
  rename_i fs cs hd
  simp only [conc, Option.map_eq_some_iff] at hx
  obtain ⟨xs, hxs, rfl⟩ := hx
  split at hv
  case h_2 => simp at hv
  rename_i fl hfl
  obtain ⟨u, hu, hr⟩ := part_ok w hxs hv
  exact ⟨u, hu, by simp [Instr.field, run_desc w hd, hfl, asAgg, hr]⟩

theorem extract_val (w : World) (x v : AV) (i : Nat) (hv : extractA x i = some v) (x' : Value) (hx : conc ρ x = some x') : ∃ v', conc ρ v = some v' ∧ (Instr.extract x' i).run P w = .ok v' w := by
  unfold extractA at hv
  split at hv
  case h_2 => simp at hv
  rename_i vs
  simp only [conc, Option.map_eq_some_iff] at hx
  obtain ⟨xs, hxs, rfl⟩ := hx
  rw [nth?_ok] at hv
  obtain ⟨a, h1, h2⟩ := concs_get vs xs i v hxs hv
  exact ⟨a, h2, by simp [Instr.extract, h1]⟩

theorem assert_ok (w : World) (x v : AV) (xt t : TypeId) (ok : Bool) (hv : assertA P x t ok = some v) (x' : Value) (hx : conc ρ x = some x') : ∃ v', conc ρ v = some v' ∧ (Instr.typeAssert x' xt t ok).run P w = .ok v' w := by
  unfold assertA at hv
  split at hv
  case h_1 => simp at hv
  case h_2 d hn hd =>
    simp [conc] at hx; subst hx
    split at hv
    · rename_i hok
      subst hok
      split at hv
      · rename_i z hz
        simp at hv; subst hv
        obtain ⟨z', h1, h2⟩ := run_zero (P := P) w ρ hz
        refine ⟨_, by simp [conc, concs, h2]; rfl, ?_⟩
        cases d <;> first | exact (hn _ rfl).elim | simp [Instr.typeAssert, run_desc w hd, h1]
      · simp at hv
    · simp at hv
  case h_3 d t' u hn hd =>
    simp only [conc, Option.map_eq_some_iff] at hx
    obtain ⟨u', hu, rfl⟩ := hx
    split at hv
    · rename_i ht
      simp at ht hv; subst ht; subst hv
      cases ok with
      | true =>
        refine ⟨.tuple #[u', .bool true], by simp [conc, concs, hu], ?_⟩
        cases d <;> first | exact (hn _ rfl).elim | simp [Instr.typeAssert, run_desc w hd]
      | false =>
        refine ⟨u', by simpa using hu, ?_⟩
        cases d <;> first | exact (hn _ rfl).elim | simp [Instr.typeAssert, run_desc w hd]
    · rename_i ht
      simp at ht
      split at hv
      · rename_i hok
        subst hok
        split at hv
        · rename_i z hz
          simp at hv; subst hv
          obtain ⟨z', h1, h2⟩ := run_zero (P := P) w ρ hz
          refine ⟨_, by simp [conc, concs, h2]; rfl, ?_⟩
          cases d <;> first | exact (hn _ rfl).elim | simp [Instr.typeAssert, run_desc w hd, h1, ht]
        · simp at hv
      · simp at hv
  case h_4 => simp at hv
end Go.Ev
