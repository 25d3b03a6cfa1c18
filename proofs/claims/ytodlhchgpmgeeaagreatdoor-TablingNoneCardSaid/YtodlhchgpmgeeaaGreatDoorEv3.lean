/-
  THE EVALUATOR's SOUNDNESS, part 2: heaps against worlds; operations that look at most.
-/
import Derived.Test.YtodlhchgpmgeeaaGreatDoorEv2
import Derived.Laws.Strings
import Derived.Laws.Slices
import Derived.Laws.Concat
import Derived.Laws.StructEq
namespace Go.Ev
open Go.RowKit

theorem ofValue_string (s : ByteArray) : strOf s.size (enc s.data.toList) = s := by
  have : s.size = s.data.toList.length := by rw [Array.length_toList]; rfl
  unfold strOf
  rw [this, bytesOf_enc]
mutual
theorem ofValue_ok (ρ : Rho) : ∀ (v : Value) (a : AV), ofValue v = some a → conc ρ a = some v
  | .bool x, a, h => by simp [ofValue] at h; subst h; rfl
  | .int k n, a, h => by simp [ofValue] at h; subst h; rfl
  | .float k n, a, h => by simp [ofValue] at h
  | .complex k n m, a, h => by simp [ofValue] at h
  | .string s, a, h => by simp [ofValue] at h; subst h; simp [conc, ofValue_string]
  | .pointer none, a, h => by simp [ofValue] at h; subst h; rfl
  | .pointer (some p), a, h => by simp [ofValue] at h
  | .slice none 0 0, a, h => by simp [ofValue] at h; subst h; rfl
  | .slice none 0 (n + 1), a, h => by simp [ofValue] at h
  | .slice none (n + 1) m, a, h => by simp [ofValue] at h
  | .slice (some p) n m, a, h => by simp [ofValue] at h
  | .map none, a, h => by simp [ofValue] at h; subst h; rfl
  | .map (some r), a, h => by simp [ofValue] at h
  | .chan r, a, h => by simp [ofValue] at h
  | .func f ⟨x⟩ ⟨y⟩, a, h => by
    cases f with
    | func g =>
      cases x <;> cases y <;> simp [ofValue] at h
      subst h
      rfl
    | _ => simp [ofValue] at h
  | .nilFunc, a, h => by simp [ofValue] at h; subst h; rfl
  | .iface t v, a, h => by simp [ofValue] at h
  | .nilIface, a, h => by simp [ofValue] at h; subst h; rfl
  | .agg ⟨cs⟩, a, h => by
    simp only [ofValue] at h
    cases hc : ofValues cs with
    | none => rw [hc] at h; simp at h
    | some l => rw [hc] at h; simp at h; subst h; simp [conc, ofValues_ok ρ cs l hc]
  | .tuple vs, a, h => by simp [ofValue] at h
theorem ofValues_ok (ρ : Rho) : ∀ (l : List Value) (a : List AV), ofValues l = some a → concs ρ a = some l
  | [], a, h => by simp [ofValues] at h; subst h; rfl
  | v :: l, a, h => by
    simp only [ofValues] at h
    cases h1 : ofValue v with
    | none => rw [h1] at h; simp at h
    | some x =>
      cases h2 : ofValues l with
      | none => rw [h1, h2] at h; simp at h
      | some y => rw [h1, h2] at h; simp at h; subst h; exact concs_cons_mk (ofValue_ok ρ v x h1) (ofValues_ok ρ l y h2)
end

/-! ### heaps against worlds -/
/-- the temporaries -/
def TOk (ρ : Rho) (t : Tr AV) (nt : Nat) (tmps : Array Value) : Prop :=
  tmps.size = nt ∧ ∀ i v, t.get (slotK i) = some v → ∃ x, tmps[i]? = some x ∧ conc ρ v = some x

def concEnt (ρ : Rho) (e : Ent) : Option MapEntry := match conc ρ e.key, conc ρ e.val with
  | some k, some v => some ⟨k, v, e.born⟩
  | _, _ => none
def concEnts (ρ : Rho) : List Ent → Option (List MapEntry)
  | [] => some []
  | e :: l => (match concEnt ρ e, concEnts ρ l with | some x, some y => some (x :: y) | _, _ => none)

def BlkOk (ρ : Rho) (hp : Array Obj) (b e : Nat) : Blk → Prop
  | .cells cs elem sz fz => ∃ (c : Array Value) (el : TypeId) (fr : Nat × Nat) (vs : List Value), hp[b]? = some (.cells c el fr) ∧ concs ρ cs = some vs ∧ (∀ (i : Nat) (v : Value), vs[i]? = some v → c[i]? = some v) ∧ cs.length ≤ e * sz ∧ e * sz ≤ c.size ∧
      (fz = false → el = elem ∧ ∀ i, ¬ (fr.1 ≤ i ∧ i < fr.2))
  | .map es clock => ∃ l, hp[b]? = some (.map l.toArray clock) ∧ concEnts ρ es = some l
  | .strIter len c pos => hp[b]? = some (.stringIter (strOf len c) pos)
  | .mapIter m since seen stepped => ∃ mb, hp[b]? = some (.mapIter mb since seen.toArray stepped) ∧ (match m with | none => mb = none | some id => ∃ be, ρ id = some be ∧ mb = some be.1)
  | .loop r => ∃ fn tmps be, ρ r.dblock = some be ∧ TOk ρ r.tmps r.nt tmps ∧
      hp[b]? = some (.loop { state := r.state, pending := r.pending, fn := fn, tmps := tmps, params := r.params.toArray, assign := r.asg, body := r.body, defers := be.1 })
  | .defd => hp[b]? = some (.deferred (some []))

def Blk.ro : Blk → Bool
  | .cells _ _ _ fz => fz
  | _ => false

structure Sim (B : Nat) (ρ : Rho) (h : H) (hp : Array Obj) : Prop where
  blk : ∀ id blk be, h.t.get id = some blk → ρ id = some be → BlkOk ρ hp be.1 be.2 blk
  inj : ∀ i j bi bj x y, h.t.get i = some bi → h.t.get j = some bj → ρ i = some x → ρ j = some y → x.1 = y.1 → i = j
  lt : ∀ id be, ρ id = some be → id.toNat < h.nx.toNat
  live : ∀ id blk, h.t.get id = some blk → id.toNat < h.nx.toNat
  own : ∀ id blk be, h.t.get id = some blk → ρ id = some be → blk.ro = false → B ≤ be.1
  base : B ≤ hp.size
  glob : ∀ g, g < 64 → ∃ e, ρ (gid g) = some (g, e)

theorem TOk.mono {ρ ρ' : Rho} (hl : Le ρ ρ') {t : Tr AV} {nt : Nat} {tmps : Array Value} (h : TOk ρ t nt tmps) : TOk ρ' t nt tmps :=
  ⟨h.1, fun i v hv => let ⟨x, a, b⟩ := h.2 i v hv; ⟨x, a, conc_mono hl v x b⟩⟩
theorem concEnt_mono {ρ ρ' : Rho} (hl : Le ρ ρ') {e : Ent} {x : MapEntry} (h : concEnt ρ e = some x) : concEnt ρ' e = some x := by
  unfold concEnt at *
  cases h1 : conc ρ e.key with
  | none => rw [h1] at h; simp at h
  | some a =>
    cases h2 : conc ρ e.val with
    | none => rw [h1, h2] at h; simp at h
    | some b => rw [h1, h2] at h; rw [conc_mono hl _ _ h1, conc_mono hl _ _ h2]; exact h
theorem concEnts_cons {ρ : Rho} {e : Ent} {l : List Ent} {x : List MapEntry} (h : concEnts ρ (e :: l) = some x) : ∃ a b, concEnt ρ e = some a ∧ concEnts ρ l = some b ∧ x = a :: b := by
  simp only [concEnts] at h
  cases h1 : concEnt ρ e with
  | none => rw [h1] at h; simp at h
  | some a =>
    cases h2 : concEnts ρ l with
    | none => rw [h1, h2] at h; simp at h
    | some b => rw [h1, h2] at h; simp at h; exact ⟨a, b, rfl, rfl, h.symm⟩
theorem concEnts_cons_mk {ρ : Rho} {e : Ent} {l : List Ent} {a : MapEntry} {b : List MapEntry} (h1 : concEnt ρ e = some a) (h2 : concEnts ρ l = some b) : concEnts ρ (e :: l) = some (a :: b) := by
  simp [concEnts, h1, h2]
theorem concEnts_mono {ρ ρ' : Rho} (hl : Le ρ ρ') : ∀ {l : List Ent} {x : List MapEntry}, concEnts ρ l = some x → concEnts ρ' l = some x
  | [], x, h => by simpa [concEnts] using h
  | e :: l, x, h => by
    obtain ⟨a, b, ha, hb, rfl⟩ := concEnts_cons h
    exact concEnts_cons_mk (concEnt_mono hl ha) (concEnts_mono hl hb)

theorem BlkOk.mono {ρ ρ' : Rho} (hl : Le ρ ρ') {hp : Array Obj} {b e : Nat} {blk : Blk} (h : BlkOk ρ hp b e blk) : BlkOk ρ' hp b e blk := by
  cases blk with
  | cells cs elem sz fz =>
    obtain ⟨c, el, fr, vs, h1, h2, h3⟩ := h
    exact ⟨c, el, fr, vs, h1, concs_mono hl _ _ h2, h3⟩
  | map es clock =>
    obtain ⟨l, h1, h2⟩ := h
    exact ⟨l, h1, concEnts_mono hl h2⟩
  | strIter len c pos => exact h
  | mapIter m since seen stepped =>
    obtain ⟨mb, h1, h2⟩ := h
    refine ⟨mb, h1, ?_⟩
    cases m with
    | none => exact h2
    | some id => obtain ⟨be, hb, e⟩ := h2; exact ⟨be, hl _ _ hb, e⟩
  | loop r =>
    obtain ⟨fn, tmps, be, h1, h2, h3⟩ := h
    exact ⟨fn, tmps, be, hl _ _ h1, h2.mono hl, h3⟩
  | defd => exact h
theorem BlkOk.congr {ρ : Rho} {hp hp' : Array Obj} {b e : Nat} {blk : Blk} (hb : hp'[b]? = hp[b]?) (h : BlkOk ρ hp b e blk) : BlkOk ρ hp' b e blk := by
  cases blk <;> simp only [BlkOk, hb] at h ⊢ <;> exact h
theorem BlkOk.lt {ρ : Rho} {hp : Array Obj} {b e : Nat} {blk : Blk} (h : BlkOk ρ hp b e blk) : b < hp.size := by
  have : ∃ o, hp[b]? = some o := by
    cases blk with
    | cells cs elem sz fz => obtain ⟨c, el, fr, vs, h1, _⟩ := h; exact ⟨_, h1⟩
    | map es clock => obtain ⟨l, h1, _⟩ := h; exact ⟨_, h1⟩
    | strIter len c pos => exact ⟨_, h⟩
    | mapIter m since seen stepped => obtain ⟨mb, h1, _⟩ := h; exact ⟨_, h1⟩
    | loop r => obtain ⟨fn, tmps, be, _, _, h1⟩ := h; exact ⟨_, h1⟩
    | defd => exact ⟨_, h⟩
  obtain ⟨o, ho⟩ := this
  exact (Array.getElem?_eq_some_iff.1 ho).1

/-! ### operands -/
theorem opv_ok {B : Nat} {ρ : Rho} {h : H} {hp : Array Obj} {t : Tr AV} {nt : Nat} {a : Act} (hs : Sim B ρ h hp) (ht : TOk ρ t nt a.tmps) {x : Operand} {v : AV}
    (hv : opv t x = some v) : conc ρ v = some (a.eval x) := by
  cases x with
  | tmp i =>
    obtain ⟨y, hy, hc⟩ := ht.2 i v hv
    simp [Act.eval, Array.getD_eq_getD_getElem?, hy, hc]
  | const c => exact ofValue_ok ρ c v hv
  | global g =>
    simp only [opv] at hv
    split at hv
    · rename_i hg
      simp at hv
      subst hv
      obtain ⟨e, he⟩ := hs.glob g (by simpa using hg)
      simp [conc, he, Act.eval]
    · simp at hv
  | func f => simp [opv] at hv; subst hv; rfl

theorem opvs_ok {B : Nat} {ρ : Rho} {h : H} {hp : Array Obj} {t : Tr AV} {nt : Nat} {a : Act} (hs : Sim B ρ h hp) (ht : TOk ρ t nt a.tmps) : ∀ {l : List Operand} {vs : List AV},
    opvs t l = some vs → concs ρ vs = some (l.map a.eval)
  | [], vs, h => by simp [opvs] at h; subst h; rfl
  | x :: l, vs, h => by
    simp only [opvs] at h
    cases h1 : opv t x with
    | none => rw [h1] at h; simp at h
    | some v =>
      cases h2 : opvs t l with
      | none => rw [h1, h2] at h; simp at h
      | some r => rw [h1, h2] at h; simp at h; subst h; exact concs_cons_mk (opv_ok hs ht h1) (opvs_ok hs ht h2)

/-! ### types -/
section
variable {P : Program} (w : World)
theorem run_desc {t : TypeId} {d : TypeDesc} (h : desc P t = some d) : (underlying t).run P w = .ok d w := run_underlying h w
theorem run_info {t : TypeId} {i : TypeInfo} (h : P.info? t = some i) : (typeInfo t).run P w = .ok i w := by
  simp [typeInfo, h]
theorem szOf_info {t : TypeId} {n : Nat} (h : szOf P t = some n) : ∃ i, P.info? t = some i ∧ i.size = n := by
  simpa [szOf, Option.map_eq_some_iff] using h
theorem run_sz {t : TypeId} {n : Nat} (h : szOf P t = some n) : (sizeOf t).run P w = .ok n w := by
  obtain ⟨i, hi, rfl⟩ := szOf_info h
  simp [sizeOf, run_info w hi]
theorem run_zero {t : TypeId} {z : AV} (ρ : Rho) (h : zeroOf P t = some z) : ∃ x, (zeroValue t).run P w = .ok x w ∧ conc ρ z = some x := by
  unfold zeroOf at h
  cases hi : P.info? t with
  | none => rw [hi] at h; simp at h
  | some i =>
    rw [hi] at h
    simp only at h
    cases hz : i.zero with
    | none => rw [hz] at h; simp at h
    | some v =>
      rw [hz] at h
      exact ⟨v, by simp [zeroValue, run_info w hi, hz], ofValue_ok ρ v z h⟩
theorem run_isAgg {t : TypeId} {d : TypeDesc} (h : desc P t = some d) : (isAgg t).run P w = .ok (isAggD d) w := by
  cases d <;> simp [isAgg, run_desc w h, isAggD]
end

/-! ### rows of cells -/
theorem take?_ok {α : Type} : ∀ (n : Nat) (l r : List α), take? n l = some r → r = l.take n ∧ n ≤ l.length
  | 0, l, r, h => by simp [take?] at h; simp [h]
  | n + 1, [], r, h => by simp [take?] at h
  | n + 1, a :: l, r, h => by
    simp only [take?] at h
    cases h1 : take? n l with
    | none => rw [h1] at h; simp at h
    | some q => rw [h1] at h; simp at h; subst h; obtain ⟨rfl, hle⟩ := take?_ok n l q h1; simp [hle]
theorem drop_ok {α : Type} : ∀ (n : Nat) (l : List α), drop n l = l.drop n
  | 0, _ => rfl
  | n + 1, [] => by simp [drop]
  | n + 1, _ :: l => by simp [drop, drop_ok n l]
theorem nth?_ok {α : Type} : ∀ (l : List α) (n : Nat), nth? l n = l[n]?
  | [], n => by simp [nth?]
  | a :: l, 0 => by simp [nth?]
  | a :: l, n + 1 => by simp [nth?, nth?_ok l n]
theorem concs_take {ρ : Rho} : ∀ (n : Nat) (l : List AV) (x : List Value), concs ρ l = some x → concs ρ (l.take n) = some (x.take n)
  | 0, l, x, _ => by simp [concs]
  | n + 1, [], x, h => by simp [concs] at h; subst h; simp [concs]
  | n + 1, v :: l, x, h => by
    obtain ⟨a, b, ha, hb, rfl⟩ := concs_cons h
    exact concs_cons_mk ha (concs_take n l b hb)
theorem concs_drop {ρ : Rho} : ∀ (n : Nat) (l : List AV) (x : List Value), concs ρ l = some x → concs ρ (l.drop n) = some (x.drop n)
  | 0, l, x, h => by simpa using h
  | n + 1, [], x, h => by simp [concs] at h; subst h; simp [concs]
  | n + 1, v :: l, x, h => by
    obtain ⟨a, b, ha, hb, rfl⟩ := concs_cons h
    simpa using concs_drop n l b hb

/-- what 'partA' cuts out of a value's cells, 'part' cuts out -/
theorem part_ok {P : Program} {ρ : Rho} {t : TypeId} {off : Nat} {xs : List AV} {ys : List Value} {v : AV} (w : World) (hx : concs ρ xs = some ys) (h : partA P t off xs = some v) :
    ∃ x, conc ρ v = some x ∧ (part t ys.toArray off).run P w = .ok x w := by
  unfold partA at h
  cases hd : desc P t with
  | none => rw [hd] at h; simp at h
  | some d =>
    cases hn : szOf P t with
    | none => rw [hd, hn] at h; simp at h
    | some n =>
      rw [hd, hn] at h
      simp only at h
      cases ha : isAggD d with
      | true =>
        rw [ha, if_pos rfl] at h
        cases h1 : take? n (drop off xs) with
        | none => rw [h1] at h; simp at h
        | some l =>
          rw [h1] at h
          simp at h
          subst h
          obtain ⟨rfl, hle⟩ := take?_ok _ _ _ h1
          rw [drop_ok] at *
          refine ⟨.agg ((ys.drop off).take n).toArray, by simp [conc, concs_take n _ _ (concs_drop off _ _ hx)], ?_⟩
          simp only [part, Sem.run_bind, run_isAgg w hd, ha, Result.andThen_ok, if_true, run_sz w hn, Sem.run_pure]
          congr 2
          apply Array.ext'
          simp [List.extract_eq_take_drop]
      | false =>
        rw [ha] at h
        simp only [Bool.false_eq_true, if_false] at h
        rw [drop_ok] at h
        cases h1 : xs.drop off with
        | nil => rw [h1] at h; simp at h
        | cons u l =>
          rw [h1] at h
          simp at h
          subst h
          have hu : xs[off]? = some u := by
            have := List.getElem?_drop (xs := xs) (i := off) (j := 0)
            rw [h1] at this
            simpa using this.symm
          obtain ⟨x, hx1, hx2⟩ := concs_get xs ys off u hx hu
          refine ⟨x, hx2, ?_⟩
          simp only [part, Sem.run_bind, run_isAgg w hd, ha, Result.andThen_ok, Bool.false_eq_true, if_false]
          simp [hx1]

/-! ### '==' -/
theorem strOf_toList (l c : Nat) : (strOf l c).toList = bytesOf l c := by rw [ByteArray.toList_eq]; simp [strOf]
theorem strOf_beq (l c l' c' : Nat) : (strOf l c == strOf l' c') = (bytesOf l c == bytesOf l' c') := by
  rw [beq_toListBytes, strOf_toList, strOf_toList]
theorem strEq_ok {l c l' c' : Nat} {r : Bool} (h : strEq l c l' c' = some r) : (bytesOf l c == bytesOf l' c') = r := by
  unfold strEq at h
  split at h
  · simp at h
  · split at h
    · simp at h
    · rename_i h1 h2
      simp at h1 h2 h
      subst h
      rw [Bool.eq_iff_iff]
      simp only [beq_iff_eq, Bool.and_eq_true, Nat.beq_eq]
      constructor
      · intro e
        have hl : l = l' := by have := congrArg List.length e; rwa [bytesOf_length, bytesOf_length] at this
        subst hl
        exact ⟨rfl, bytesOf_inj h1 h2 e⟩
      · rintro ⟨rfl, rfl⟩; rfl
end Go.Ev
