/-
  THE EVALUATOR's SOUNDNESS, part 7: building values; every operation that looks at most.
-/
import Derived.Test.YtodlhchgpmgeeaaGreatDoorEv7
namespace Go.Ev
open Go.RowKit
set_option linter.unusedSimpArgs false

variable {P : Program} {B : Nat} {ρ : Rho} {h : H}

/-! ### overwriting a piece of a row -/
def splice (off : Nat) (ys xs : List Value) : List Value := xs.take off ++ ys ++ xs.drop (off + ys.length)

theorem overwrite_ok : ∀ (cs vs r : List AV) (xs ys : List Value), overwrite cs vs = some r → concs ρ cs = some xs → concs ρ vs = some ys →
    concs ρ r = some (splice 0 ys xs) ∧ vs.length ≤ cs.length
  | cs, [], r, xs, ys, h, hc, hv => by simp [overwrite] at h; subst h; simp [concs] at hv; subst hv; simp [splice, hc]
  | [], v :: vs, r, xs, ys, h, hc, hv => by simp [overwrite] at h
  | c :: cs, v :: vs, r, xs, ys, h, hc, hv => by
    simp only [overwrite] at h
    cases h1 : overwrite cs vs with
    | none => rw [h1] at h; simp at h
    | some q =>
      rw [h1] at h
      simp at h
      subst h
      obtain ⟨a, b, ha, hb, rfl⟩ := concs_cons hc
      obtain ⟨d, e, hd, he, rfl⟩ := concs_cons hv
      obtain ⟨h2, h3⟩ := overwrite_ok cs vs q b e h1 hb he
      refine ⟨?_, by simp; omega⟩
      have := concs_cons_mk hd h2
      simpa [splice] using this
theorem setAt_ok : ∀ (off : Nat) (cs vs r : List AV) (xs ys : List Value), setAt off vs cs = some r → concs ρ cs = some xs → concs ρ vs = some ys →
    concs ρ r = some (splice off ys xs) ∧ off + vs.length ≤ cs.length
  | 0, cs, vs, r, xs, ys, h, hc, hv => by
    have := overwrite_ok (ρ := ρ) cs vs r xs ys h hc hv
    simpa using this
  | off + 1, [], vs, r, xs, ys, h, hc, hv => by simp [setAt] at h
  | off + 1, c :: cs, vs, r, xs, ys, h, hc, hv => by
    simp only [setAt] at h
    cases h1 : setAt off vs cs with
    | none => rw [h1] at h; simp at h
    | some q =>
      rw [h1] at h
      simp at h
      subst h
      obtain ⟨a, b, ha, hb, rfl⟩ := concs_cons hc
      obtain ⟨h2, h3⟩ := setAt_ok off cs vs q b ys h1 hb hv
      refine ⟨?_, by simp; omega⟩
      have := concs_cons_mk ha h2
      simpa [splice, Nat.add_right_comm] using this
theorem overwrite_length : ∀ (cs vs r : List AV), overwrite cs vs = some r → r.length = cs.length
  | cs, [], r, h => by simp [overwrite] at h; rw [h]
  | [], v :: vs, r, h => by simp [overwrite] at h
  | c :: cs, v :: vs, r, h => by
    simp only [overwrite] at h
    split at h
    · rename_i q hq; simp at h; subst h; simp [overwrite_length cs vs q hq]
    · simp at h
theorem setAt_length : ∀ (off : Nat) (cs vs r : List AV), setAt off vs cs = some r → r.length = cs.length
  | 0, cs, vs, r, h => overwrite_length cs vs r h
  | off + 1, [], vs, r, h => by simp [setAt] at h
  | off + 1, c :: cs, vs, r, h => by
    simp only [setAt] at h
    split at h
    · rename_i q hq; simp at h; subst h; simp [setAt_length off cs vs q hq]
    · simp at h

theorem splice_cons (o : Nat) (y : Value) (ys l : List Value) (h : o < l.length) : splice (o + 1) ys (l.set o y) = splice o (y :: ys) l := by
  unfold splice
  have h1 : (l.set o y).take (o + 1) = l.take o ++ [y] := by
    rw [List.take_succ_eq_append_getElem (by simpa using h), List.take_set_of_le (Nat.le_refl _)]
    simp
  have h2 : (l.set o y).drop (o + 1 + ys.length) = l.drop (o + 1 + ys.length) := List.drop_set_of_lt (by omega)
  rw [h1, h2]
  simp [Nat.add_assoc, Nat.add_comm 1]

theorem foldl_set (off : Nat) : ∀ (ys : List Value) (k : Nat) (cs : Array Value), off + k + ys.length ≤ cs.size →
    ((ys.zipIdx k).foldl (fun (cs : Array Value) (p : Value × Nat) => cs.setIfInBounds (off + p.2) p.1) cs).toList = splice (off + k) ys cs.toList
  | [], k, cs, h => by simp [splice]
  | y :: ys, k, cs, h => by
    simp at h
    simp only [List.zipIdx_cons, List.foldl_cons]
    rw [foldl_set off ys (k + 1) _ (by simp; omega), ← splice_cons (off + k) y ys cs.toList (by simp; omega)]
    simp [Nat.add_assoc]

theorem fill_ok (place : Nat → Option (Nat × Nat)) : ∀ (parts : List (Nat × AV)) (cells r : List AV) (xs : List Value) (ps : List (Nat × Value)),
    fillA place cells parts = some r → concs ρ cells = some xs → ps.map (·.1) = parts.map (·.1) → concs ρ (parts.map (·.2)) = some (ps.map (·.2)) →
    ∃ ys, concs ρ r = some ys ∧ Instr.fill place xs.toArray ps = some ys.toArray
  | [], cells, r, xs, ps, h, hc, h1, h2 => by
    simp [fillA] at h; subst h
    cases ps with
    | nil => exact ⟨xs, hc, rfl⟩
    | cons p ps => simp at h1
  | (i, v) :: parts, cells, r, xs, ps, h, hc, h1, h2 => by
    cases ps with
    | nil => simp at h1
    | cons p ps =>
      obtain ⟨j, x⟩ := p
      simp only [List.map_cons, List.cons.injEq] at h1 h2
      obtain ⟨rfl, h1⟩ := h1
      obtain ⟨a, b, ha, hb, e⟩ := concs_cons h2
      simp at e
      obtain ⟨rfl, rfl⟩ := e
      simp only [fillA] at h
      split at h
      · rename_i off size hp
        split at h
        · rename_i hsz
          split at h
          · rename_i cs hset
            simp at hsz
            have hcells := conc_cells ha
            obtain ⟨h3, h4⟩ := setAt_ok off cells v.cells cs xs _ hset hc hcells
            have hlen : x.cells.size = v.cells.length := by have := concs_length _ _ hcells; simpa using this
            have hxs : xs.length = cells.length := concs_length _ _ hc
            obtain ⟨ys, h5, h6⟩ := fill_ok place parts cs r _ ps h h3 h1 hb
            refine ⟨ys, h5, ?_⟩
            simp only [Instr.fill, hp]
            have hno : (x.cells.size ≠ size || off + x.cells.size > xs.toArray.size) = false := by
              simp [hlen, hsz]; omega
            simp only [ne_eq, decide_not] at hno
            rw [← h6]
            have hfold : (x.cells.zipIdx.foldl (fun cs (p : Value × Nat) => cs.setIfInBounds (off + p.2) p.1) xs.toArray) = (splice off x.cells.toList xs).toArray := by
              apply Array.ext'
              rw [← Array.foldl_toList, Array.toList_zipIdx, foldl_set off x.cells.toList 0 xs.toArray (by simp; omega)]
              simp
            rw [← hfold]
            rw [if_neg (by simpa using hno)]
          · simp at h
        · simp at h
      · simp at h

/-- n times the same cells -/
theorem repl_cells (zs : Array Value) (n : Nat) : ((Array.range (n * zs.size)).map fun i => zs[i % zs.size]!).toList = (List.replicate n zs.toList).flatten := by
  simp only [Array.toList_map, Array.toList_range]
  induction n with
  | zero => simp
  | succ n ih =>
    rw [Nat.succ_mul, Nat.add_comm, List.range_add, List.map_append, List.map_map, List.replicate_succ, List.flatten_cons, ← ih]
    congr 1
    · apply List.ext_getElem (by simp)
      intro i h1 h2
      simp at h1
      simp [Nat.mod_eq_of_lt h1, h1]
    · apply List.map_congr_left
      intro i _
      simp
theorem repl_ok {zs : List AV} {xs : List Value} (hz : concs ρ zs = some xs) : ∀ n, concs ρ (repl n zs) = some (List.replicate n xs).flatten
  | 0 => rfl
  | n + 1 => by
    simp only [repl, List.replicate_succ, List.flatten_cons]
    exact concs_append _ _ _ _ hz (repl_ok hz n)
theorem repl_length (zs : List AV) : ∀ n, (repl n zs).length = n * zs.length
  | 0 => by simp [repl]
  | n + 1 => by simp [repl, repl_length zs n, Nat.succ_mul, Nat.add_comm]

theorem places_ok (w : World) : ∀ (fs : List Field) (pl : List (Nat × Nat)), structPlaces P fs = some pl →
    Sem.run P (fs.mapM (m := Sem) fun f => do pure (f.offset, ← sizeOf f.type)) w = .ok pl w
  | [], pl, h => by simp [structPlaces] at h; subst h; simp
  | f :: fs, pl, h => by
    simp only [structPlaces] at h
    split at h
    · rename_i n l hn hl
      simp at h; subst h
      have ih := places_ok w fs l hl
      simp only [List.mapM_cons, Sem.run_bind, run_sz w hn, Result.andThen_ok, ih, Sem.run_pure]
    · simp at h

theorem build_ok (w : World) (t : TypeId) (parts : List (Nat × AV)) (v : AV) (hv : buildA P t parts = some v) (ps : Array (Nat × Value))
    (h1 : ps.toList.map (·.1) = parts.map (·.1)) (h2 : concs ρ (parts.map (·.2)) = some (ps.toList.map (·.2))) : ∃ v', conc ρ v = some v' ∧ (Instr.build t ps).run P w = .ok v' w := by
  unfold buildA at hv
  split at hv
  case h_1 z fs hz hd =>
    obtain ⟨z', hz1, hz2⟩ := run_zero (P := P) w ρ hz
    have hzc := conc_cells hz2
    split at hv
    · rename_i pl hpl
      split at hv
      · rename_i cs hcs
        simp at hv; subst hv
        obtain ⟨ys, h3, h4⟩ := fill_ok _ parts z.cells cs _ ps.toList hcs hzc h1 h2
        refine ⟨.agg ys.toArray, by simp [conc, h3], ?_⟩
        have hm := places_ok w fs.toList pl hpl
        have hf : (fun i => pl.toArray[i]?) = nth? pl := by funext i; simp [nth?_ok]
        have hm2 : Sem.run P (fs.mapM (m := Sem) fun f => do pure (f.offset, ← sizeOf f.type)) w = .ok pl.toArray w := by
          rw [Array.mapM_eq_mapM_toList]
          simp only [Sem.run_map, hm, Result.andThen_ok]
        rw [← hf] at h4
        simp only [Array.toArray_toList] at h4
        simp only [Instr.build, Sem.run_bind, hz1, Result.andThen_ok, run_desc w hd, hm2, h4, Sem.run_pure]
      · simp at hv
    · simp at hv
  case h_2 z n e hz hd =>
    obtain ⟨z', hz1, hz2⟩ := run_zero (P := P) w ρ hz
    have hzc := conc_cells hz2
    split at hv
    · rename_i sz hsz
      split at hv
      · rename_i cs hcs
        simp at hv; subst hv
        obtain ⟨ys, h3, h4⟩ := fill_ok _ parts z.cells cs _ ps.toList hcs hzc h1 h2
        refine ⟨.agg ys.toArray, by simp [conc, h3], ?_⟩
        simp only [Array.toArray_toList] at h4
        simp only [Instr.build, Sem.run_bind, hz1, Result.andThen_ok, run_desc w hd, run_sz w hsz, h4, Sem.run_pure]
      · simp at hv
    · simp at hv
  case h_3 => simp at hv

theorem fold_ok (w : World) (f : AV → AV → Option AV) (g : Value → Value → Sem Value) (hfg : ∀ a b c a' b', f a b = some c → conc ρ a = some a' → conc ρ b = some b' → ∃ c', conc ρ c = some c' ∧ (g a' b').run P w = .ok c' w) :
    ∀ (l : List AV) (l' : List Value) (a v : AV) (a' : Value), concs ρ l = some l' → conc ρ a = some a' → foldA f a l = some v → ∃ v', conc ρ v = some v' ∧ Sem.run P (l'.foldlM (m := Sem) g a') w = .ok v' w
  | [], l', a, v, a', hl, ha, h => by simp [concs] at hl; subst hl; simp [foldA] at h; subst h; exact ⟨a', ha, by simp⟩
  | b :: l, l', a, v, a', hl, ha, h => by
    obtain ⟨b', m, hb, hm, rfl⟩ := concs_cons hl
    simp only [foldA] at h
    split at h
    · rename_i c hc
      obtain ⟨c', h1, h2⟩ := hfg a b c a' b' hc ha hb
      obtain ⟨v', h3, h4⟩ := fold_ok w f g hfg l m c v c' hm h1 h
      exact ⟨v', h3, by simp only [List.foldlM_cons, Sem.run_bind, h2, Result.andThen_ok, h4]⟩
    · simp at h
theorem max2_ok (w : World) (a b c : AV) (a' b' : Value) (h : max2A a b = some c) (ha : conc ρ a = some a') (hb : conc ρ b = some b') : ∃ c', conc ρ c = some c' ∧ (Builtin.max2 a' b').run P w = .ok c' w := by
  unfold max2A at h
  split at h
  · simp [conc] at ha hb; subst ha; subst hb; simp at h; subst h; exact ⟨_, rfl, by simp [Builtin.max2]⟩
  · simp at h
theorem min2_ok (w : World) (a b c : AV) (a' b' : Value) (h : min2A a b = some c) (ha : conc ρ a = some a') (hb : conc ρ b = some b') : ∃ c', conc ρ c = some c' ∧ (Builtin.min2 a' b').run P w = .ok c' w := by
  unfold min2A at h
  split at h
  · simp [conc] at ha hb; subst ha; subst hb; simp at h; subst h; exact ⟨_, rfl, by simp [Builtin.min2]⟩
  · simp at h
end Go.Ev
