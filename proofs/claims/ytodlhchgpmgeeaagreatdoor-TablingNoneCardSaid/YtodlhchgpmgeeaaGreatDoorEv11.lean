/-
  THE EVALUATOR's SOUNDNESS, part 10: what writes, but calls no code.
-/
import Derived.Test.YtodlhchgpmgeeaaGreatDoorEv10
namespace Go.Ev
open Go.RowKit
set_option linter.unusedSimpArgs false

variable {P : Program} {B : Nat} {ρ : Rho} {h : H}

theorem frozen_at {w : World} {b : Nat} {c : Array Value} {el : TypeId} {fr : Nat × Nat} (hb : w.heap[b]? = some (.cells c el fr)) (off : Nat) (hf : ¬ (fr.1 ≤ off ∧ off < fr.2)) : w.frozen? ⟨b, off, none⟩ = false := by
  obtain ⟨lo, hi⟩ := fr
  simp only [World.frozen?, hb]
  simp only at hf
  simp only [Bool.and_eq_false_iff, decide_eq_false_iff_not]
  omega

theorem setCell_but (w : World) (b off : Nat) (v : Value) : SameBut b w (w.setCell ⟨b, off, none⟩ v) := by
  refine ⟨rfl, rfl, rfl, by simp [World.setCell], fun k hk => ?_⟩
  simp only [World.setCell, Array.getElem?_modify]
  rw [if_neg (by omega)]
theorem setCell_get {w : World} {b : Nat} {c : Array Value} {el : TypeId} {fr : Nat × Nat} (hb : w.heap[b]? = some (.cells c el fr)) (off : Nat) (v : Value) :
    (w.setCell ⟨b, off, none⟩ v).heap[b]? = some (.cells (c.setIfInBounds off v) el fr) := by
  simp [World.setCell, Array.getElem?_modify, hb]

/-- a piece of a row, written cell by cell -/
theorem storeCells_ok {b off : Nat} {el : TypeId} {fr : Nat × Nat} : ∀ (ys : List Value) (i : Nat) (w : World) (c : Array Value), w.heap[b]? = some (.cells c el fr) →
    (∀ j, j < c.size → ¬ (fr.1 ≤ j ∧ j < fr.2)) → off + i + ys.length ≤ c.size → (∀ y ∈ ys, y.oneCell' = true) →
    ∃ (w' : World) (c' : Array Value), (storeCells ⟨b, off, none⟩ ys i).run P w = .ok () w' ∧ SameBut b w w' ∧ w'.heap[b]? = some (.cells c' el fr) ∧ c'.toList = splice (off + i) ys c.toList
  | [], i, w, c, hb, hf, hl, ho => ⟨w, c, by simp [storeCells], SameBut.refl _ _, hb, by simp [splice]⟩
  | y :: ys, i, w, c, hb, hf, hl, ho => by
    simp at hl
    have hcell : w.cell? ⟨b, off + i, none⟩ = some (c[off + i]'(by omega)) := by
      rw [cells_at hb, Array.getElem?_eq_getElem (by omega)]
    have hfr := frozen_at hb (off + i) (hf _ (by omega))
    obtain ⟨w', c', h1, h2, h3, h4⟩ := storeCells_ok (off := off) ys (i + 1) (w.setCell ⟨b, off + i, none⟩ y) (c.setIfInBounds (off + i) y) (setCell_get hb _ _) (fun j hj => hf j (by simpa using hj))
      (by simp; omega) (fun z hz => ho z (by simp [hz]))
    refine ⟨w', c', ?_, (setCell_but w b (off + i) y).trans h2, h3, ?_⟩
    · simp only [storeCells, Sem.run_bind, add_off]
      rw [run_store P w _ y _ (ho y (by simp)), hcell]
      simp only [hfr, Bool.false_eq_true, if_false, Result.andThen_ok]
      exact h1
    · rw [h4, ← splice_cons (off + i) y ys c.toList (by simp; omega)]
      simp [Nat.add_assoc]

theorem oneCells {vs : List AV} {ys : List Value} (hv : concs ρ vs = some ys) (ho : vs.all oneCell = true) : ∀ y ∈ ys, y.oneCell' = true := by
  induction vs generalizing ys with
  | nil => simp [concs] at hv; subst hv; simp
  | cons v vs ih =>
    obtain ⟨a, b, ha, hb, rfl⟩ := concs_cons hv
    simp at ho
    intro y hy
    cases hy with
    | head => exact conc_oneCell ha ho.1
    | tail _ hm => exact ih hb (by simp; exact ho.2) y hm

theorem splice_prefix {vs ys : List Value} {off : Nat} {c c' : Array Value} (hp : ∀ (i : Nat) (v : Value), vs[i]? = some v → c[i]? = some v) (hl : off + ys.length ≤ vs.length) (hc : c'.toList = splice off ys c.toList) :
    ∀ (i : Nat) (v : Value), (splice off ys vs)[i]? = some v → c'[i]? = some v := by
  intro i v hi
  have hvc : vs.length ≤ c.size := by
    rcases Nat.lt_or_ge c.size vs.length with hlt | hge
    · have := hp c.size _ (List.getElem?_eq_getElem hlt)
      simp at this
    · exact hge
  rw [← Array.getElem?_toList, hc]
  have tk : (vs.take off).length = off := by simp; omega
  have tk' : (c.toList.take off).length = off := by simp; omega
  unfold splice at hi ⊢
  rw [List.append_assoc] at hi ⊢
  rcases Nat.lt_or_ge i off with h1 | h1
  · rw [List.getElem?_append_left (by omega)] at hi ⊢
    rw [List.getElem?_take, if_pos h1] at hi ⊢
    rw [Array.getElem?_toList]; exact hp i v hi
  · rw [List.getElem?_append_right (by omega), tk] at hi
    rw [List.getElem?_append_right (by omega), tk']
    rcases Nat.lt_or_ge (i - off) ys.length with h2 | h2
    · rw [List.getElem?_append_left h2] at hi ⊢
      exact hi
    · rw [List.getElem?_append_right h2] at hi ⊢
      rw [List.getElem?_drop] at hi ⊢
      rw [Array.getElem?_toList]; exact hp _ v hi

/-- a piece of a row is written, in the abstract heap and in the world -/
theorem setCells_ok {w : World} (hs : Sim B ρ h w.heap) {id : K} {be : Nat × Nat} (hbe : ρ id = some be) {off : Nat} {vs : List AV} {ys : List Value} {h' : H} (hset : setCells h id off vs = some h')
    (hv : concs ρ vs = some ys) : ∃ w', (storeCells ⟨be.1, off, none⟩ ys).run P w = .ok () w' ∧ Ext B ρ h w ρ h' w' := by
  unfold setCells at hset
  split at hset
  case h_2 => simp at hset
  rename_i cs el sz hg
  split at hset
  case isFalse => simp at hset
  rename_i ho
  split at hset
  case h_2 => simp at hset
  rename_i cs' hcs'
  simp at hset
  subst hset
  obtain ⟨c, el', fr, xs, h1, h2, h3, h4, h5, h6⟩ := hs.blk id _ be hg hbe
  obtain ⟨rfl, hfr⟩ := h6 rfl
  obtain ⟨g1, g2⟩ := setAt_ok off cs vs cs' xs ys hcs' h2 hv
  have hxl := concs_length _ _ h2
  have hyl := concs_length _ _ hv
  have hcl := setAt_length _ _ _ _ hcs'
  obtain ⟨w', c', r1, r2, r3, r4⟩ := storeCells_ok (P := P) (off := off) ys 0 w c h1 (fun j _ => hfr j) (by omega) (oneCells hv ho)
  have hsz : c'.size = c.size := by
    have := congrArg List.length r4
    simp [splice] at this
    omega
  refine ⟨w', r1, Ext.upd hs hg hbe rfl r2 ⟨c', el', fr, _, r3, g1, splice_prefix h3 (by omega) (by simpa using r4), by omega, by omega, fun _ => ⟨rfl, fun i => hfr i⟩⟩⟩

theorem store_ok {w : World} (hs : Sim B ρ h w.heap) (t : TypeId) {id : K} {off n : Nat} {v : AV} {x' v' : Value} (hx : conc ρ (.p id off) = some x') (hv : conc ρ v = some v') (hn : szOf P t = some n) (hl : v.cells.length = n)
    {h' : H} (hset : setCells h id off v.cells = some h') : ∃ w', (Instr.storeAt t x' v').run P w = .ok () w' ∧ Ext B ρ h w ρ h' w' := by
  simp only [conc, Option.map_eq_some_iff] at hx
  obtain ⟨be, hbe, rfl⟩ := hx
  have hc := conc_cells hv
  obtain ⟨w', h1, h2⟩ := setCells_ok (P := P) hs hbe hset hc
  refine ⟨w', ?_, h2⟩
  have hlen := concs_length _ _ hc
  simp at hlen
  have hne : ¬ (v'.cells.size ≠ n) := by omega
  simp only [Instr.storeAt, Instr.sureAddr, storeVar, Sem.run_bind, Sem.run_pure, Result.andThen_ok, run_sz w hn, hne, if_false, h1]

/-! ### maps -/
theorem run_setObj (w : World) (r : Nat) {o o' : Obj} (ho : w.heap[r]? = some o) (hn : ∀ c e f, o ≠ .cells c e f) : (setObj r o').run P w = .ok () { w with heap := w.heap.setIfInBounds r o' } := by
  cases o <;> simp [setObj, Sem.run, ho]
  exact absurd rfl (hn _ _ _)
theorem setObj_but (w : World) (r : Nat) (o : Obj) : SameBut r w { w with heap := w.heap.setIfInBounds r o } := by
  refine ⟨rfl, rfl, rfl, by simp, fun k hk => ?_⟩
  simp [Array.getElem?_setIfInBounds_ne (Ne.symm hk)]
theorem setObj_get {w : World} {r : Nat} {o : Obj} (ho : w.heap[r]? = some o) (o' : Obj) : ({ w with heap := w.heap.setIfInBounds r o' } : World).heap[r]? = some o' := by
  have : r < w.heap.size := (Array.getElem?_eq_some_iff.1 ho).1
  simp [Array.getElem?_setIfInBounds, this]

theorem concEnts_append {ρ : Rho} : ∀ {a b : List Ent} {x y : List MapEntry}, concEnts ρ a = some x → concEnts ρ b = some y → concEnts ρ (a ++ b) = some (x ++ y)
  | [], b, x, y, h, k => by simp [concEnts] at h; subst h; simpa using k
  | e :: a, b, x, y, h, k => by
    obtain ⟨p, q, hp, hq, rfl⟩ := concEnts_cons h
    exact concEnts_cons_mk hp (concEnts_append hq k)

theorem concEnts_get {ρ : Rho} : ∀ {a : List Ent} {x : List MapEntry} (i : Nat) {e : Ent}, concEnts ρ a = some x → a[i]? = some e → ∃ m, x[i]? = some m ∧ concEnt ρ e = some m
  | [], x, i, e, h, k => by simp at k
  | f :: a, x, i, e, h, k => by
    obtain ⟨p, q, hp, hq, rfl⟩ := concEnts_cons h
    cases i with
    | zero => simp at k; subst k; exact ⟨p, by simp, hp⟩
    | succ i => simp at k; simpa using concEnts_get i hq k

theorem find_lt {kt : TypeId} {k : AV} : ∀ {es : List Ent} {i : Nat} {v : AV}, findA P kt k es = some (some (i, v)) → i < es.length
  | [], i, v, h => by simp [findA] at h
  | e :: es, i, v, h => by
    simp only [findA] at h
    split at h
    · simp at h; obtain ⟨rfl, _⟩ := h; simp
    · split at h
      · rename_i j u hj
        simp at h
        obtain ⟨rfl, _⟩ := h
        have := find_lt hj
        simp; omega
      · simp at h
      · simp at h
    · simp at h

theorem modE_ok {ρ : Rho} {v : AV} {v' : Value} (hv : conc ρ v = some v') : ∀ {es : List Ent} {l : List MapEntry} (i : Nat), concEnts ρ es = some l → i < es.length →
    concEnts ρ (mapPutA.modE es i v) = some (l.modify i fun e => { e with val := v' })
  | [], l, i, h, hi => by simp at hi
  | e :: es, l, 0, h, hi => by
    obtain ⟨p, q, hp, hq, rfl⟩ := concEnts_cons h
    unfold concEnt at hp
    split at hp
    · rename_i k0 v0 hk0 hv0
      simp at hp
      subst hp
      simp only [mapPutA.modE, List.modify_zero_cons]
      exact concEnts_cons_mk (by simp [concEnt, hk0, hv]) hq
    · simp at hp
  | e :: es, l, i + 1, h, hi => by
    obtain ⟨p, q, hp, hq, rfl⟩ := concEnts_cons h
    simp only [mapPutA.modE, List.modify_succ_cons]
    exact concEnts_cons_mk hp (modE_ok hv i hq (by simp at hi; omega))

mutual
theorem avEq_ok : ∀ a b : AV, avEq a b = true → a = b
  | .b x, b, h => by cases b <;> simp_all [avEq]
  | .i k n, b, h => by cases b <;> simp_all [avEq]
  | .s x y, b, h => by cases b <;> simp_all [avEq]
  | .p x y, b, h => by cases b <;> simp_all [avEq, K.beq_iff]
  | .pn, b, h => by cases b <;> simp_all [avEq]
  | .sl x y z u none, b, h => by
    cases b with
    | sl x' y' z' u' c => cases c <;> simp_all [avEq, K.beq_iff]
    | _ => simp [avEq] at h
  | .sl x y z u (some q), b, h => by
    cases b with
    | sl x' y' z' u' c => cases c <;> simp_all [avEq, K.beq_iff]
    | _ => simp [avEq] at h
  | .sn, b, h => by cases b <;> simp_all [avEq]
  | .se x y z u, b, h => by cases b <;> simp_all [avEq, K.beq_iff]
  | .m x, b, h => by cases b <;> simp_all [avEq, K.beq_iff]
  | .mn, b, h => by cases b <;> simp_all [avEq]
  | .fn f x y, b, h => by
    cases f with
    | func g =>
      cases b with
      | fn f' x' y' =>
        cases f' with
        | func g' =>
          simp only [avEq, Bool.and_eq_true, Nat.beq_eq] at h
          rw [h.1.1, avEqs_ok x x' h.1.2, avEqs_ok y y' h.2]
        | _ => simp [avEq] at h
      | _ => simp [avEq] at h
    | _ => cases b <;> simp [avEq] at h
  | .nf, b, h => by cases b <;> simp_all [avEq]
  | .ifc t v, b, h => by
    cases b with
    | ifc t' v' =>
      simp only [avEq, Bool.and_eq_true, Nat.beq_eq] at h
      rw [h.1, avEq_ok v v' h.2]
    | _ => simp [avEq] at h
  | .ni, b, h => by cases b <;> simp_all [avEq]
  | .agg x, b, h => by
    cases b with
    | agg x' =>
      simp only [avEq] at h
      rw [avEqs_ok x x' h]
    | _ => simp [avEq] at h
  | .tup x, b, h => by
    cases b with
    | tup x' =>
      simp only [avEq] at h
      rw [avEqs_ok x x' h]
    | _ => simp [avEq] at h
theorem avEqs_ok : ∀ a b : List AV, avEqs a b = true → a = b
  | [], [], _ => rfl
  | [], b :: l, h => by simp [avEqs] at h
  | a :: l, [], h => by simp [avEqs] at h
  | a :: l, b :: m, h => by
    simp only [avEqs, Bool.and_eq_true] at h
    rw [avEq_ok a b h.1, avEqs_ok l m h.2]
end

def plain1 : AV → Bool
  | .i _ _ => true
  | .s _ _ => true
  | .b _ => true
  | _ => false
theorem plain_one {ρ : Rho} {a : AV} {x : Value} (n : Nat) (h : conc ρ a = some x) (hp : plain1 a = true) : Instr.sameBits n x x = true := by
  cases a <;> simp [plain1] at hp <;> (simp [conc] at h; subst h; cases n <;> simp [Instr.sameBits])
  all_goals (rw [beq_toListBytes]; simp)
theorem plain_all {ρ : Rho} (n : Nat) : ∀ (l : List AV) (x : List Value), plainKey.plainKeys l = true → concs ρ l = some x → (x.zip x).all (fun p => Instr.sameBits n p.1 p.2) = true
  | [], x, h, hx => by simp [concs] at hx; subst hx; rfl
  | a :: l, x, h, hx => by
    obtain ⟨p, q, hp, hq, rfl⟩ := concs_cons hx
    have hl : plainKey.plainKeys l = true ∧ plain1 a = true := by
      cases a <;> simp [plainKey.plainKeys] at h <;> exact ⟨h, rfl⟩
    simp only [List.zip_cons_cons, List.all_cons, Bool.and_eq_true]
    exact ⟨plain_one n hp hl.2, plain_all n l q hl.1 hq⟩
/-- a plain key is its own spelling -/
theorem plain_ok {ρ : Rho} {k : AV} {k' : Value} (h : plainKey k = true) (hk : conc ρ k = some k') : Instr.sameBits 10000 k' k' = true := by
  cases k with
  | i a b => exact plain_one _ hk rfl
  | s a b => exact plain_one _ hk rfl
  | b a => exact plain_one _ hk rfl
  | agg cs =>
    simp only [conc, Option.map_eq_some_iff] at hk
    obtain ⟨l, hl, rfl⟩ := hk
    have := plain_all 9999 cs l (by simpa [plainKey] using h) hl
    show ((l.toArray.size == l.toArray.size) && (l.toArray.toList.zip l.toArray.toList).all fun (x, y) => Instr.sameBits 9999 x y) = true
    simpa using this
  | _ => simp [plainKey] at h

set_option maxHeartbeats 1000000 in
theorem mapUpdate_ok {w : World} (hs : Sim B ρ h w.heap) (t : TypeId) {m k v : AV} {m' k' v' : Value} (hm : conc ρ m = some m') (hk : conc ρ k = some k') (hv : conc ρ v = some v') {h' : H} (hu : mapUpdateA P h t m k v = some h') :
    ∃ w', (Instr.mapUpdate t m' k' v').run P w = .ok () w' ∧ Ext B ρ h w ρ h' w' := by
  unfold mapUpdateA at hu
  split at hu
  case h_2 => simp at hu
  rename_i kt et id hd
  simp only [conc, Option.map_eq_some_iff] at hm
  obtain ⟨be, hbe, rfl⟩ := hm
  split at hu
  case h_2 => simp at hu
  rename_i es clock hg
  split at hu
  case isFalse => simp at hu
  rename_i hc
  simp at hc
  obtain ⟨hko, hpl⟩ := hc
  split at hu
  case h_2 => simp at hu
  rename_i es' c' hput
  simp at hu
  subst hu
  obtain ⟨l, h1, h2⟩ := hs.blk id _ be hg hbe
  have hdk : ∃ dk, desc P kt = some dk := by
    unfold keyOk at hko
    cases hq : desc P kt with
    | none => rw [hq] at hko; simp at hko
    | some dk => exact ⟨dk, rfl⟩
  obtain ⟨dk, hdk⟩ := hdk
  have hkey := key_ok (P := P) (ρ := ρ) 20 kt k hko 10000 (by omega) false k' w hk
  unfold mapPutA at hput
  split at hput
  case h_3 => simp at hput
  case h_1 i u hf =>
    split at hput
    case h_2 => simp at hput
    rename_i e he
    split at hput
    case isFalse => simp at hput
    rename_i hav
    simp at hput
    obtain ⟨rfl, rfl⟩ := hput
    have hek := avEq_ok _ _ hav
    obtain ⟨r', g1, u', g2, rfl⟩ := findKey_ok hk w hdk h2 hf
    rw [nth?_ok] at he
    obtain ⟨me, g3, g4⟩ := concEnts_get i h2 he
    have g5 : me.key = k' := by
      unfold concEnt at g4
      rw [hek, hk] at g4
      split at g4
      · rename_i a b ha hb; simp at ha g4; subst ha; subst g4; rfl
      · simp at g4
    refine ⟨{ w with heap := w.heap.setIfInBounds be.1 (.map (l.modify i fun e => { e with val := v' }).toArray clock) }, ?_, ?_⟩
    · have hkk : (((l.toArray[i]?).map (·.key)).getD k') = k' := by simp [g3, g5]
      have hmod : (l.toArray.modify i fun e => ({ e with key := k', val := v' } : MapEntry)) = (l.modify i fun e => { e with val := v' }).toArray := by
        apply Array.ext'
        simp only [List.modify_toArray]
        apply List.ext_getElem?
        intro j
        simp only [List.getElem?_modify]
        by_cases hj : i = j
        · subst hj; simp [g3, g5]
        · simp [hj]
      simp only [Instr.mapUpdate, Sem.run_bind, run_desc w hd, Result.andThen_ok, run_getObj w be.1 h1 (by simp), hkey, g1, Instr.keyThatStays, hkk, plain_ok hpl hk, if_true, Sem.run_pure, hmod]
      exact run_setObj w be.1 h1 (by simp)
    · refine Ext.upd hs hg hbe rfl (setObj_but w be.1 _) ⟨_, setObj_get h1 _, modE_ok hv i h2 (find_lt hf)⟩
  case h_2 hf =>
    simp at hput
    obtain ⟨rfl, rfl⟩ := hput
    obtain ⟨r', g1, rfl⟩ := findKey_ok hk w hdk h2 hf
    refine ⟨{ w with heap := w.heap.setIfInBounds be.1 (.map (l ++ [({ key := k', val := v', born := clock } : MapEntry)]).toArray (clock + 1)) }, ?_, ?_⟩
    · simp only [Instr.mapUpdate, Sem.run_bind, run_desc w hd, Result.andThen_ok, run_getObj w be.1 h1 (by simp), hkey, g1, List.push_toArray]
      exact run_setObj w be.1 h1 (by simp)
    · refine Ext.upd hs hg hbe rfl (setObj_but w be.1 _) ⟨_, setObj_get h1 _, concEnts_append h2 (concEnts_cons_mk (by simp [concEnt, hk, hv]) rfl)⟩
end Go.Ev
