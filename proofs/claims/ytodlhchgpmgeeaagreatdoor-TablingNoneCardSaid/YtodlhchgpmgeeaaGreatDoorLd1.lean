/-
  THE START of the evaluator: a world in which package-level variables hold known cells.
-/
import Derived.Test.YtodlhchgpmgeeaaGreatDoorEv31
import Derived.OpenShut
import Derived.FnData
namespace Go.Ev
open Go.RowKit
set_option linter.unusedSimpArgs false
set_option linter.unusedVariables false
variable {P : Program}

/-- the keys of the package-level variables: each stands for its own block -/
def rho0 : Rho := fun k => if k.toNat - 1 < 64 then some (k.toNat - 1, 1) else none
theorem rho0_gid {g : Nat} (hg : g < 64) : rho0 (gid g) = some (g, 1) := by
  unfold rho0 gid
  rw [K.toNat_ofNat]
  simp [hg]
theorem rho0_some {k : K} {x : Nat × Nat} (h : rho0 k = some x) : k = gid x.1 ∧ x.1 < 64 ∧ x.2 = 1 := by
  unfold rho0 at h
  split at h
  · rename_i hk
    simp at h
    subst h
    refine ⟨K.toNat_inj _ _ ?_, hk, rfl⟩
    unfold gid
    rw [K.toNat_ofNat]
    have := K.toNat_pos k
    simp only
    omega
  · simp at h

/-- a package-level variable: number, element type, cells -/
structure GV where
  g : Nat
  el : TypeId
  cs : List AV
def heap0T : List GV → Tr Blk
  | [] => .nil
  | v :: l => (heap0T l).put (gid v.g) (some (.cells v.cs v.el v.cs.length true))
def heap0 (l : List GV) : H := { t := heap0T l, nx := K.ofNat 100 }
def GVOk (W : World) (v : GV) : Prop := v.g < 64 ∧ ∃ (c : Array Value) (el : TypeId) (fr : Nat × Nat) (vs : List Value), W.heap[v.g]? = some (.cells c el fr) ∧ concs rho0 v.cs = some vs ∧ (∀ (i : Nat) (x : Value), vs[i]? = some x → c[i]? = some x) ∧ v.cs.length ≤ c.size
theorem heap0_get {W : World} : ∀ {l : List GV}, (∀ v ∈ l, GVOk W v) → ∀ {k : K} {b : Blk}, (heap0T l).get k = some b → ∃ v ∈ l, k = gid v.g ∧ b = .cells v.cs v.el v.cs.length true
  | [], _, k, b, h => by simp [heap0T, Tr.get_nil] at h
  | v :: l, hl, k, b, h => by
    simp only [heap0T, Tr.get_put] at h
    split at h
    · rename_i e
      simp at h
      exact ⟨v, by simp, e, h.symm⟩
    · obtain ⟨u, h1, h2⟩ := heap0_get (fun u hu => hl u (by simp [hu])) h
      exact ⟨u, by simp [h1], h2⟩
theorem sim_start {W : World} {l : List GV} (hl : ∀ v ∈ l, GVOk W v) : Sim W.heap.size rho0 (heap0 l) W.heap := by
  refine ⟨?_, ?_, ?_, ?_, ?_, Nat.le_refl _, fun g hg => ⟨1, rho0_gid hg⟩⟩
  · intro k b be hk hb
    obtain ⟨v, h1, rfl, rfl⟩ := heap0_get hl hk
    obtain ⟨hg, c, el, fr, vs, q1, q2, q3, q4⟩ := hl v h1
    rw [rho0_gid hg] at hb
    simp at hb
    subst hb
    exact ⟨c, el, fr, vs, q1, q2, q3, by simp, by simpa using q4, by simp⟩
  · intro i j bi bj x y hi hj hx hy hxy
    obtain ⟨q1, _, _⟩ := rho0_some hx
    obtain ⟨q2, _, _⟩ := rho0_some hy
    rw [q1, q2, hxy]
  · intro k x hk
    obtain ⟨q1, q2, _⟩ := rho0_some hk
    rw [q1]
    unfold gid heap0
    simp only
    rw [K.toNat_ofNat, K.toNat_ofNat]
    omega
  · intro k b hk
    obtain ⟨v, h1, rfl, rfl⟩ := heap0_get hl hk
    have := (hl v h1).1
    unfold gid heap0
    simp only
    rw [K.toNat_ofNat, K.toNat_ofNat]
    omega
  · intro k b be hk hb hro
    obtain ⟨v, h1, rfl, rfl⟩ := heap0_get hl hk
    simp [Blk.ro] at hro

/-- a key that stands for a block of which nothing is known -/
theorem Sim.ghost {B : Nat} {ρ : Rho} {h : H} {hp : Array Obj} (hs : Sim B ρ h hp) {k : K} (be : Nat × Nat) (hn : ρ k = none) (hg : h.t.get k = none) (hk : k.toNat < h.nx.toNat) : Sim B (up ρ k be) h hp := by
  have hne : ∀ j b, h.t.get j = some b → j ≠ k := fun j b hj e => by rw [e, hg] at hj; simp at hj
  refine ⟨?_, ?_, ?_, hs.live, ?_, hs.base, ?_⟩
  · intro j b x h1 h2
    rw [up_ne ρ _ (hne j b h1)] at h2
    exact (hs.blk j b x h1 h2).mono (Le.up hn be)
  · intro i j bi bj x y hi hj hx hy
    rw [up_ne ρ _ (hne i bi hi)] at hx
    rw [up_ne ρ _ (hne j bj hj)] at hy
    exact hs.inj i j bi bj x y hi hj hx hy
  · intro j x hj
    by_cases e : j = k
    · rw [e]; exact hk
    · rw [up_ne ρ _ e] at hj; exact hs.lt j x hj
  · intro j b x h1 h2
    rw [up_ne ρ _ (hne j b h1)] at h2
    exact hs.own j b x h1 h2
  · intro g hg'
    obtain ⟨e, he⟩ := hs.glob g hg'
    exact ⟨e, Le.up hn be _ _ he⟩
theorem heap0_high {W : World} {l : List GV} (hl : ∀ v ∈ l, GVOk W v) {n : Nat} (hn : 64 ≤ n) : (heap0 l).t.get (K.ofNat n) = none := by
  cases hg : (heap0 l).t.get (K.ofNat n) with
  | none => rfl
  | some b =>
    obtain ⟨v, h1, h2, _⟩ := heap0_get hl hg
    have := congrArg K.toNat h2
    unfold gid at this
    rw [K.toNat_ofNat, K.toNat_ofNat] at this
    have := (hl v h1).1
    omega
theorem rho0_high {n : Nat} (hn : 64 ≤ n) : rho0 (K.ofNat n) = none := by
  unfold rho0
  rw [K.toNat_ofNat, if_neg (by omega)]
/-- .. and one key for an argument's block -/
theorem sim_start1 {W : World} {l : List GV} (hl : ∀ v ∈ l, GVOk W v) (b : Nat) : Sim W.heap.size (up rho0 (K.ofNat 64) (b, 0)) (heap0 l) W.heap :=
  (sim_start hl).ghost _ (rho0_high (Nat.le_refl _)) (heap0_high hl (Nat.le_refl _)) (by unfold heap0; simp only; rw [K.toNat_ofNat, K.toNat_ofNat]; omega)

/-! ### what a laid variable holds -/
section
variable {H : Type} {enc : TypeId × Value → H} {w : World} {base : Nat} {sp : Nat → Bool} {held : Bool} {fuel : Nat}
theorem cells_ints {t e : TypeId} {k : IntKind} {n : Nat} {cs : List Value} {p : List MemPlace} (ns : List Int) (ht : P.underlying t = some (.array n e)) (he : P.underlying e = some (.int k)) (hc : P.cellsOf e = 1) (hct : P.cellsOf t = n)
    (hd : DataW.trod enc P w base sp held fuel t cs = some (.agg (ns.map fun n => .lit (.int k n)), p)) : cs = ns.map (Value.int k) := by
  obtain ⟨xs, m, rfl, hx, hl, hn, hel⟩ := DataW.trod_array ht hd
  simp only [Prod.mk.injEq, DataW.agg.injEq] at hx
  have hlen : ns.length = n := by
    have := congrArg List.length hx.1
    simp at this
    omega
  apply List.ext_getElem?
  intro i
  rcases Nat.lt_or_ge i n with hi | hi
  · have h1 := hel i hi
    rw [hc, Nat.mul_one] at h1
    have hxi : i < xs.length := by omega
    rw [List.getElem?_eq_getElem hxi] at h1
    obtain ⟨z, e1, e2, _⟩ := DataW.trod_int he h1
    have h2 : (ns.map fun n => (DataW.lit (.int k n) : DataW H))[i]? = (xs.map (·.1))[i]? := by rw [hx.1]
    rw [List.getElem?_map, List.getElem?_map, List.getElem?_eq_getElem hxi, e2] at h2
    rw [List.getElem?_eq_getElem (show i < ns.length by omega)] at h2
    simp only [Option.map_some, Option.some.injEq, DataW.lit.injEq, Lit.int.injEq, true_and] at h2
    have h3 := congrArg (·[0]?) e1
    simp only [List.getElem?_take, List.getElem?_drop] at h3
    simp at h3
    rw [h3, List.getElem?_map, List.getElem?_eq_getElem (show i < ns.length by omega), h2]
    rfl
  · rw [List.getElem?_eq_none (by omega), List.getElem?_eq_none (by simp; omega)]
theorem cells_strs {t e : TypeId} {n : Nat} {cs : List Value} {p : List MemPlace} (ss : List (List UInt8)) (ht : P.underlying t = some (.array n e)) (he : P.underlying e = some .string) (hc : P.cellsOf e = 1) (hct : P.cellsOf t = n)
    (hd : DataW.trod enc P w base sp held fuel t cs = some (.agg (ss.map fun s => .lit (.string s)), p)) : cs = ss.map fun s => Value.string ⟨s.toArray⟩ := by
  obtain ⟨xs, m, rfl, hx, hl, hn, hel⟩ := DataW.trod_array ht hd
  simp only [Prod.mk.injEq, DataW.agg.injEq] at hx
  have hlen : ss.length = n := by
    have := congrArg List.length hx.1
    simp at this
    omega
  apply List.ext_getElem?
  intro i
  rcases Nat.lt_or_ge i n with hi | hi
  · have h1 := hel i hi
    rw [hc, Nat.mul_one] at h1
    have hxi : i < xs.length := by omega
    rw [List.getElem?_eq_getElem hxi] at h1
    obtain ⟨z, e1, e2, _⟩ := DataW.trod_string he h1
    have h2 : (ss.map fun s => (DataW.lit (.string s) : DataW H))[i]? = (xs.map (·.1))[i]? := by rw [hx.1]
    rw [List.getElem?_map, List.getElem?_map, List.getElem?_eq_getElem hxi, e2] at h2
    rw [List.getElem?_eq_getElem (show i < ss.length by omega)] at h2
    simp only [Option.map_some, Option.some.injEq, DataW.lit.injEq, Lit.string.injEq] at h2
    have h3 := congrArg (·[0]?) e1
    simp only [List.getElem?_take, List.getElem?_drop] at h3
    simp at h3
    rw [h3, List.getElem?_map, List.getElem?_eq_getElem (show i < ss.length by omega), h2]
    simp
  · rw [List.getElem?_eq_none (by omega), List.getElem?_eq_none (by simp; omega)]
end
end Go.Ev
