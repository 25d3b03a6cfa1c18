/-
  THE EVALUATOR's SOUNDNESS, part 12: append.
-/
import Derived.Test.YtodlhchgpmgeeaaGreatDoorEv12
namespace Go.Ev
open Go.RowKit
set_option linter.unusedSimpArgs false

variable {P : Program} {B : Nat} {ρ : Rho} {h : H}

theorem bytesA_ok {ρ : Rho} : ∀ (n c : Nat), concs ρ (bytesA n c) = some ((bytesOf n c).map fun b => Value.int .u8 b.toNat)
  | 0, c => rfl
  | n + 1, c => by
    simp only [bytesA, bytesOf, List.map_cons]
    refine concs_cons_mk ?_ (bytesA_ok n (c / 256))
    simp [conc]

/-- the first cells of what is appended or copied -/
theorem first_ok {w : World} (hs : Sim B ρ h w.heap) {sz n : Nat} {x : AV} {x' : Value} (hx : conc ρ x = some x') {xs : List AV} (hf : firstA h sz n x = some xs) (hn : ∀ l c, x = .s l c → n ≤ l) :
    ∃ ys, concs ρ xs = some ys ∧ (Builtin.firstCells sz n x').run P w = .ok ys.toArray w := by
  cases x with
  | sl id off beg len cap =>
    simp only [conc, Option.map_eq_some_iff] at hx
    obtain ⟨be, hbe, rfl⟩ := hx
    obtain ⟨l', h1, h2, h3⟩ := getCells_ok hs hbe hf
    refine ⟨l', h1, ?_⟩
    have := loadCells_ok (P := P) h3
    rw [h2] at this
    simpa [Builtin.firstCells] using this
  | sn =>
    simp [conc] at hx; subst hx
    simp [firstA] at hf; subst hf
    exact ⟨[], rfl, by simp [Builtin.firstCells]⟩
  | se id a b c =>
    simp only [conc, Option.map_eq_some_iff] at hx
    obtain ⟨be, hbe, rfl⟩ := hx
    simp only [firstA] at hf
    split at hf
    · simp at hf; subst hf
      refine ⟨[], rfl, ?_⟩
      split <;> simp [Builtin.firstCells, loadCells, loadCellsFrom]
    · simp at hf
  | s l c =>
    simp [conc] at hx; subst hx
    simp [firstA] at hf; subst hf
    refine ⟨_, bytesA_ok n c, ?_⟩
    have hle := hn l c rfl
    simp only [Builtin.firstCells, Sem.run_pure]
    congr 1
    apply Array.ext'
    have : ((strOf l c).extract 0 n).data.toList = bytesOf n c := by
      rw [ByteArray.data_extract]
      simp only [strOf, Array.toList_extract, List.extract_eq_take_drop, List.drop_zero, Nat.sub_zero]
      obtain ⟨r, rfl⟩ : ∃ r, l = n + r := ⟨l - n, by omega⟩
      rw [bytesOf_take]
    rw [Array.toList_map, this]
  | _ => simp [firstA] at hf

theorem lenOf_ok {x : AV} {x' : Value} (hx : conc ρ x = some x') {n : Nat} (hl : lenOfA x = some n) (w : World) : (Builtin.lenOf x').run P w = .ok n w := by
  cases x with
  | sl id off beg len cap =>
    simp only [conc, Option.map_eq_some_iff] at hx
    obtain ⟨be, hbe, rfl⟩ := hx
    simp [lenOfA] at hl; subst hl
    simp [Builtin.lenOf]
  | sn => simp [conc] at hx; subst hx; simp [lenOfA] at hl; subst hl; simp [Builtin.lenOf]
  | se id a b c =>
    simp only [conc, Option.map_eq_some_iff] at hx
    obtain ⟨be, hbe, rfl⟩ := hx
    simp [lenOfA] at hl; subst hl
    split <;> simp [Builtin.lenOf]
  | s l c => simp [conc] at hx; subst hx; simp [lenOfA] at hl; subst hl; simp [Builtin.lenOf, strOf_size]
  | _ => simp [lenOfA] at hl

theorem growBy_le (need : Nat) : ∀ (rounds c : Nat), c < need → Builtin.growBy need rounds c ≤ 2 * need + 768
  | 0, c, h => by simp only [Builtin.growBy]; omega
  | r + 1, c, h => by
    simp only [Builtin.growBy]
    split
    · omega
    · rcases Nat.lt_or_ge (c + (c + 768) / 4) need with h1 | h1
      · exact growBy_le need r _ h1
      · have : Builtin.growBy need r (c + (c + 768) / 4) = c + (c + 768) / 4 := by
          cases r with
          | zero => rfl
          | succ r => simp only [Builtin.growBy]; rw [if_pos h1]
        rw [this]; omega
theorem nextcap_le {need cap : Nat} (h : cap < need) : Builtin.nextslicecap need cap ≤ 2 * need + 768 := by
  unfold Builtin.nextslicecap
  split
  · omega
  · split
    · omega
    · exact growBy_le need 4 cap h

/-- what is asked of the appended cells: how many elements, and that they can be read in a world with this heap -/
structure AppIn (P : Program) (ts : Array TypeId) (as : Array Value) (e : TypeId) (sz : Nat) (bytes : Nat) (base : Option Addr) (sLen sCap n : Nat) (ys : List Value) (w : World) : Prop where
  stay : sLen + n ≤ sCap → (Builtin.append_ ts 0 as).run P w = ((match base with | some a => storeCells (a.add (sLen * sz)) ys | none => pure () : Sem Unit).run P w).andThen fun _ w' => .ok (.slice base (sLen + n) sCap) w'
  go : sCap < sLen + n → ∀ old, (Builtin.firstCells sz sLen (.slice base sLen sCap)).run P w.drew = .ok old w.drew → ∃ newCap z, sLen + n ≤ newCap ∧ (zeroValue e).run P w.drew = .ok z w.drew ∧
    (Builtin.append_ ts 0 as).run P w = .ok (.slice (some ⟨w.heap.size, 0, none⟩) (sLen + n) newCap) (w.drew.alloc (.cells (old ++ ys.toArray ++ Builtin.zeroCells z.cells (newCap - (sLen + n))) e))

theorem append_type (ts : Array TypeId) (ty : TypeId) (as : Array Value) : Builtin.append_ ts ty as = Builtin.append_ ts 0 as := rfl

theorem notInt (xd : TypeDesc) (h : ∀ k, xd ≠ .int k) : (xd matches .int _) = false := by
  cases xd <;> first | rfl | exact absurd rfl (h _)

set_option maxHeartbeats 2000000 in
theorem appIn_plain (ρ : Rho) {w : World} {ts : Array TypeId} {as : Array Value} {sT xT e : TypeId} {xd : TypeDesc} {sz : Nat} {inf : TypeInfo} {base : Option Addr} {sLen sCap n : Nat} {x' : Value} {ys : List Value} {z : AV}
    (t0 : ts[0]? = some sT) (t1 : ts[1]? = some xT) (a0 : as[0]? = some (.slice base sLen sCap)) (a1 : as[1]? = some x') (hd : desc P sT = some (.slice e)) (hxd : desc P xT = some xd) (hni : ∀ k, xd ≠ .int k)
    (hsz : szOf P e = some sz) (hinf : P.info? e = some inf) (hz : zeroOf P e = some z) (hb1 : (sLen + n) * inf.bytes ≤ 1073741824) (hb2 : sLen + n ≤ 1073741824)
    (hlen : ∀ w : World, (Builtin.lenOf x').run P w = .ok n w) (hfirst : ∀ w' : World, w'.heap = w.heap → (Builtin.firstCells sz n x').run P w' = .ok ys.toArray w') :
    AppIn P ts as e sz inf.bytes base sLen sCap n ys w := by
  have hm := notInt xd hni
  refine ⟨fun hle => ?_, fun hlt old hold => ?_⟩
  · simp only [Builtin.append_, t0, t1, a0, a1, Sem.run_bind, run_desc w hd, Result.andThen_ok, run_sz w hsz, run_desc w hxd, Sem.run_pure, hm, Bool.false_eq_true, if_false, hlen w, hle, if_true, Bool.not_false, hfirst w rfl]
    cases base <;> simp
  · obtain ⟨z', hz1, _⟩ := run_zero (P := P) w.drew ρ hz
    have hle : ¬ sLen + n ≤ sCap := by omega
    have hbig : ¬ Builtin.nextslicecap (sLen + n) sCap * inf.bytes > 2 ^ 48 := by
      have h1 := nextcap_le hlt
      have h2 : Builtin.nextslicecap (sLen + n) sCap * inf.bytes ≤ (2 * (sLen + n) + 768) * inf.bytes := Nat.mul_le_mul_right _ h1
      have h3 : (2 * (sLen + n) + 768) * inf.bytes = 2 * ((sLen + n) * inf.bytes) + 768 * inf.bytes := by rw [Nat.add_mul, Nat.mul_assoc]
      have h4 : inf.bytes ≤ (sLen + n) * inf.bytes := Nat.le_mul_of_pos_left _ (by omega)
      omega
    have hi64 : ¬ (((sLen + n : Nat) : Int) > IntKind.i64.max ∧ (False ∨ inf.bytes = 0)) := by
      intro hc
      have : IntKind.i64.max = 9223372036854775807 := by decide
      rw [this] at hc
      omega
    obtain ⟨t, ht⟩ : ∃ t, w.tape w.drawn (.appendCap (sLen + n) sCap e) = t := ⟨_, rfl⟩
    refine ⟨(Question.appendCap (sLen + n) sCap e).cut t, z', ?_, hz1, ?_⟩
    · simp only [Question.cut]; omega
    · simp only [Builtin.append_, t0, t1, a0, a1, Sem.run_bind, run_desc w hd, Result.andThen_ok, run_sz w hsz, run_desc w hxd, Sem.run_pure, hm, Bool.false_eq_true, if_false, hlen w, hle, run_info w hinf, hi64, hbig]
      have hi64' : ¬ (((sLen + n : Nat) : Int) > IntKind.i64.max ∧ inf.bytes = 0) := fun hc => hi64 ⟨hc.1, .inr hc.2⟩
      simp only [false_or, hi64', if_false, run_choose, Question.forced, Bool.false_eq_true, Result.andThen_ok, ht, World.drew_eq, run_askRoom, run_info w.drew hinf, hold, Bool.not_false, if_true, hfirst w.drew rfl, hz1, newRow, Sem.run_bind, run_newObj, World.alloc_eq, Sem.run_pure]
      rfl
theorem zeroCells_ok (zs : Array Value) (n : Nat) : (Builtin.zeroCells zs n).toList = (List.replicate n zs.toList).flatten := repl_cells zs n

set_option maxHeartbeats 2000000 in
theorem appIn_zeros (ρ : Rho) {w : World} {ts : Array TypeId} {as : Array Value} {sT xT e : TypeId} {k0 k : IntKind} {sz : Nat} {inf : TypeInfo} {base : Option Addr} {sLen sCap n : Nat} {z : AV}
    (t0 : ts[0]? = some sT) (t1 : ts[1]? = some xT) (a0 : as[0]? = some (.slice base sLen sCap)) (a1 : as[1]? = some (.int k n)) (hd : desc P sT = some (.slice e)) (hxd : desc P xT = some (.int k0))
    (hsz : szOf P e = some sz) (hpos : 0 < sz) (hinf : P.info? e = some inf) (hz : zeroOf P e = some z) (hb1 : (sLen + n) * inf.bytes ≤ 1073741824) (hb2 : sLen + n ≤ 1073741824) :
    ∃ ys, concs ρ (repl n z.cells) = some ys ∧ AppIn P ts as e sz inf.bytes base sLen sCap n ys w := by
  obtain ⟨z0, _, hz2⟩ := run_zero (P := P) w ρ hz
  have hc := conc_cells hz2
  have hz1 : ∀ w : World, (zeroValue e).run P w = .ok z0 w := by
    intro w
    obtain ⟨z', q1, q2⟩ := run_zero (P := P) w ρ hz
    rw [hz2] at q2
    simp at q2
    rw [q1, q2]
  refine ⟨_, repl_ok hc n, ?_⟩
  have hw := wrap_small n (by omega)
  have hneg : ¬ ((n : Int) < 0) := by omega
  have hmul : ¬ ((n : Int) * (inf.bytes : Int) > 2 ^ 48) := by
    have e1 : (n : Int) * (inf.bytes : Int) = ((n * inf.bytes : Nat) : Int) := by simp
    have e2 : n * inf.bytes ≤ (sLen + n) * inf.bytes := Nat.mul_le_mul_right _ (by omega)
    rw [e1]; omega
  -- the appended zero cells
  have happ : ∀ w : World, (if n * sz = 0 then pure #[] else do pure (Builtin.zeroCells (← zeroValue e).cells n) : Sem (Array Value)).run P w = .ok (List.replicate n z0.cells.toList).flatten.toArray w := by
    intro w
    by_cases h0 : n * sz = 0
    · have n0 : n = 0 := by rcases Nat.mul_eq_zero.1 h0 with e | e <;> omega
      subst n0
      simp
    · rw [if_neg h0]
      simp only [Sem.run_bind, hz1, Result.andThen_ok, Sem.run_pure]
      congr 1
      apply Array.ext'
      rw [zeroCells_ok]
  refine ⟨fun hle => ?_, fun hlt old hold => ?_⟩
  · simp only [Builtin.append_, t0, t1, a0, a1, Sem.run_bind, run_desc w hd, Result.andThen_ok, run_sz w hsz, run_desc w hxd, Sem.run_pure, if_true, asInt, asIntOf, hw, hneg, if_false, run_info w hinf, hmul, Int.toNat_natCast, hle, Bool.not_true, Bool.false_eq_true]
    by_cases h0 : n * sz = 0
    · have := happ w
      rw [if_pos h0] at this
      simp only [Sem.run_pure] at this
      injection this with this
      rw [if_pos h0]
      have e0 : (List.replicate n z0.cells.toList).flatten = [] := by
        have := congrArg Array.toList this
        simpa using this.symm
      rw [e0]
      cases base <;> simp
    · have := happ w
      rw [if_neg h0] at this
      simp only [Sem.run_bind] at this
      rw [if_neg h0]
      simp only [Sem.run_bind, hz1, Result.andThen_ok, Sem.run_pure] at this ⊢
      injection this with this
      rw [this]
      cases base <;> simp
  · have hle : ¬ sLen + n ≤ sCap := by omega
    have hbig : ¬ Builtin.nextslicecap (sLen + n) sCap * inf.bytes > 2 ^ 48 := by
      have h1 := nextcap_le hlt
      have h2 : Builtin.nextslicecap (sLen + n) sCap * inf.bytes ≤ (2 * (sLen + n) + 768) * inf.bytes := Nat.mul_le_mul_right _ h1
      have h3 : (2 * (sLen + n) + 768) * inf.bytes = 2 * ((sLen + n) * inf.bytes) + 768 * inf.bytes := by rw [Nat.add_mul, Nat.mul_assoc]
      have h4 : inf.bytes ≤ (sLen + n) * inf.bytes := Nat.le_mul_of_pos_left _ (by omega)
      omega
    have hi64 : ¬ (((sLen + n : Nat) : Int) > IntKind.i64.max) := by
      have : IntKind.i64.max = 9223372036854775807 := by decide
      rw [this]
      omega
    obtain ⟨t, ht⟩ : ∃ t, w.tape w.drawn (.appendCap (sLen + n) sCap e) = t := ⟨_, rfl⟩
    refine ⟨(Question.appendCap (sLen + n) sCap e).cut t, z0, ?_, hz1 _, ?_⟩
    · simp only [Question.cut]; omega
    · simp only [Builtin.append_, t0, t1, a0, a1, Sem.run_bind, run_desc w hd, Result.andThen_ok, run_sz w hsz, run_desc w hxd, Sem.run_pure, if_true, asInt, asIntOf, hw, hneg, if_false, run_info w hinf, hmul, Int.toNat_natCast, hle, Bool.not_true, Bool.false_eq_true, hbig, hi64, false_and, run_choose, Question.forced, ht, World.drew_eq, run_askRoom, run_info w.drew hinf, hold]
      have := happ w.drew
      by_cases h0 : n * sz = 0
      · rw [if_pos h0] at this ⊢
        simp only [Sem.run_pure] at this
        injection this with this
        simp only [Sem.run_pure, Result.andThen_ok, hz1, newRow, Sem.run_bind, run_newObj, World.alloc_eq, this]
        rfl
      · rw [if_neg h0] at this ⊢
        simp only [Sem.run_bind, hz1, Result.andThen_ok, Sem.run_pure] at this ⊢
        injection this with this
        simp only [newRow, Sem.run_bind, run_newObj, World.alloc_eq, this, Result.andThen_ok, Sem.run_pure]
        rfl

/-- a block that is known under a new key: nothing else of the abstract heap is known to lie there -/
theorem Sim.adopt {hp hp' : Array Obj} (hs : Sim B ρ h hp) {id : K} {blk : Blk} {be : Nat × Nat} (hn : ρ id = none) (hg : h.t.get id = some blk) (hfree : ∀ k c x, h.t.get k = some c → ρ k = some x → x.1 ≠ be.1)
    (hsz : hp'.size = hp.size) (hoth : ∀ k, k ≠ be.1 → hp'[k]? = hp[k]?) (hok : BlkOk (up ρ id be) hp' be.1 be.2 blk) (hB : B ≤ be.1) : Sim B (up ρ id be) h hp' := by
  have hle := Le.up hn be
  refine ⟨?_, ?_, ?_, hs.live, ?_, by rw [hsz]; exact hs.base, ?_⟩
  · intro k c x h1 h2
    by_cases e : k = id
    · subst e; rw [up_same] at h2; simp at h2; subst h2; rw [hg] at h1; simp at h1; subst h1; exact hok
    · rw [up_ne ρ _ e] at h2
      exact ((hs.blk k c x h1 h2).congr (hoth _ (hfree k c x h1 h2))).mono hle
  · intro i j bi bj x y hi hj hx hy hxy
    by_cases e : i = id
    · subst e
      rw [up_same] at hx; simp at hx; subst hx
      by_cases e' : j = i
      · exact e'.symm
      · rw [up_ne ρ _ e'] at hy; exact absurd hxy.symm (hfree j bj y hj hy)
    · rw [up_ne ρ _ e] at hx
      by_cases e' : j = id
      · subst e'; rw [up_same] at hy; simp at hy; subst hy; exact absurd hxy (hfree i bi x hi hx)
      · rw [up_ne ρ _ e'] at hy; exact hs.inj i j bi bj x y hi hj hx hy hxy
  · intro k x hk
    by_cases e : k = id
    · subst e; exact hs.live _ _ hg
    · rw [up_ne ρ _ e] at hk; exact hs.lt k x hk
  · intro k c x h1 h2 hro
    by_cases e : k = id
    · subst e; rw [up_same] at h2; simp at h2; subst h2; exact hB
    · rw [up_ne ρ _ e] at h2; exact hs.own k c x h1 h2 hro
  · intro g hg'
    obtain ⟨e', he⟩ := hs.glob g hg'
    exact ⟨e', hle _ _ he⟩
end Go.Ev
