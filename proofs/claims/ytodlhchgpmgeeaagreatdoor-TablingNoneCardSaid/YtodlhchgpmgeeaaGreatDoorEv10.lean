/-
  THE EVALUATOR's SOUNDNESS, part 9: how heaps and worlds go on together; every operation that makes one block; stores.
-/
import Derived.Test.YtodlhchgpmgeeaaGreatDoorEv9
import Derived.IntWalk
namespace Go.Ev
open Go.RowKit
set_option linter.unusedSimpArgs false

variable {P : Program} {B : Nat} {ρ : Rho} {h : H}

def up (ρ : Rho) (id : K) (be : Nat × Nat) : Rho := fun k => if k = id then some be else ρ k
theorem up_same (ρ : Rho) (id : K) (be : Nat × Nat) : up ρ id be id = some be := by simp [up]
theorem up_ne (ρ : Rho) {id k : K} (be : Nat × Nat) (hk : k ≠ id) : up ρ id be k = ρ k := by simp [up, hk]
theorem Le.up {ρ : Rho} {id : K} (hn : ρ id = none) (be : Nat × Nat) : Le ρ (up ρ id be) := by
  intro k x hk
  have : k ≠ id := fun e => by rw [e, hn] at hk; simp at hk
  rw [up_ne ρ be this]; exact hk

/-- one step of the run: the abstract heap and the world, before and after -/
structure Ext (B : Nat) (ρ : Rho) (h : H) (w : World) (ρ' : Rho) (h' : H) (w' : World) : Prop where
  le : Le ρ ρ'
  sim : Sim B ρ' h' w'.heap
  below : Below B w w'
  frame : ∀ id, id.toNat < h.nx.toNat → ρ id = none → ρ' id = none ∧ h'.t.get id = h.t.get id
  nx : h.nx.toNat ≤ h'.nx.toNat
theorem Ext.refl {w : World} (hs : Sim B ρ h w.heap) : Ext B ρ h w ρ h w :=
  ⟨Le.refl _, hs, Below.refl _ _, fun _ _ hn => ⟨hn, rfl⟩, Nat.le_refl _⟩
theorem Ext.trans {ρ' ρ'' : Rho} {h' h'' : H} {w w' w'' : World} (a : Ext B ρ h w ρ' h' w') (b : Ext B ρ' h' w' ρ'' h'' w'') : Ext B ρ h w ρ'' h'' w'' :=
  ⟨a.le.trans b.le, b.sim, a.below.trans b.below, fun id hl hn => by
    obtain ⟨h1, h2⟩ := a.frame id hl hn
    obtain ⟨h3, h4⟩ := b.frame id (Nat.lt_of_lt_of_le hl a.nx) h1
    exact ⟨h3, h4.trans h2⟩, Nat.le_trans a.nx b.nx⟩

theorem Sim.nx_none {hp : Array Obj} (hs : Sim B ρ h hp) : ρ h.nx = none := by
  cases hq : ρ h.nx with
  | none => rfl
  | some be => have := hs.lt _ _ hq; omega
theorem Sim.nx_free {hp : Array Obj} (hs : Sim B ρ h hp) : h.t.get h.nx = none := by
  cases hq : h.t.get h.nx with
  | none => rfl
  | some be => have := hs.live _ _ hq; omega

theorem H.new_get (h : H) (b : Blk) (k : K) : (h.new b).t.get k = if k = h.nx then some b else h.t.get k := by
  simp [H.new, Tr.get_put]
theorem H.upd_get (h : H) (id : K) (b : Blk) (k : K) : (h.upd id b).t.get k = if k = id then some b else h.t.get k := by
  simp [H.upd, Tr.get_put]
theorem H.kill_get (h : H) (id : K) (k : K) : (h.kill id).t.get k = if k = id then none else h.t.get k := by
  simp [H.kill, Tr.get_put]

/-- a new block, known to the abstract heap already (under id) or from now on -/
theorem Sim.push {hp : Array Obj} (hs : Sim B ρ h hp) {id : K} (hn : ρ id = none) (hlt : id.toNat < h.nx.toNat) {o : Obj} {e : Nat} {blk : Blk} (hg : h.t.get id = some blk)
    (hok : BlkOk (up ρ id (hp.size, e)) (hp.push o) hp.size e blk) : Sim B (up ρ id (hp.size, e)) h (hp.push o) := by
  have hle := Le.up hn (hp.size, e)
  have old : ∀ k, k < hp.size → (hp.push o)[k]? = hp[k]? := fun k hk => by rw [Array.getElem?_push, if_neg (by omega)]
  have blk' : ∀ k b be, h.t.get k = some b → ρ k = some be → BlkOk (up ρ id (hp.size, e)) (hp.push o) be.1 be.2 b := by
    intro k b be h1 h2
    have := hs.blk k b be h1 h2
    exact (this.congr (old _ this.lt)).mono hle
  refine ⟨?_, ?_, ?_, hs.live, ?_, ?_, ?_⟩
  · intro k b be h1 h2
    by_cases hk : k = id
    · subst hk
      rw [up_same] at h2; simp at h2; subst h2
      rw [hg] at h1; simp at h1; subst h1
      exact hok
    · rw [up_ne ρ _ hk] at h2
      exact blk' k b be h1 h2
  · intro i j bi bj x y hi hj hx hy hxy
    by_cases hii : i = id
    · subst hii
      rw [up_same] at hx; simp at hx; subst hx
      by_cases hjj : j = i
      · exact hjj.symm
      · rw [up_ne ρ _ hjj] at hy
        have := (hs.blk j bj y hj hy).lt
        simp at hxy; omega
    · rw [up_ne ρ _ hii] at hx
      by_cases hjj : j = id
      · subst hjj
        rw [up_same] at hy; simp at hy; subst hy
        have := (hs.blk i bi x hi hx).lt
        simp at hxy; omega
      · rw [up_ne ρ _ hjj] at hy
        exact hs.inj i j bi bj x y hi hj hx hy hxy
  · intro k be hk
    by_cases hki : k = id
    · subst hki; exact hlt
    · rw [up_ne ρ _ hki] at hk; exact hs.lt k be hk
  · intro k b be h1 h2 hro
    by_cases hki : k = id
    · subst hki; rw [up_same] at h2; simp at h2; subst h2; exact hs.base
    · rw [up_ne ρ _ hki] at h2; exact hs.own k b be h1 h2 hro
  · have := hs.base; simp; omega
  · intro g hg'
    obtain ⟨e', he⟩ := hs.glob g hg'
    exact ⟨e', hle _ _ he⟩

/-- the abstract heap alone goes on: a block that the world has not made yet -/
theorem Sim.grow {hp : Array Obj} (hs : Sim B ρ h hp) (b : Blk) : Sim B ρ (h.new b) hp := by
  have hn := hs.nx_none
  have hne : ∀ k be, ρ k = some be → k ≠ h.nx := fun k be hk e => by rw [e, hn] at hk; simp at hk
  have hnx : (h.new b).nx.toNat = h.nx.toNat + 1 := by simp [H.new, K.toNat_succ]
  refine ⟨?_, ?_, ?_, ?_, ?_, hs.base, hs.glob⟩
  · intro k c be h1 h2
    rw [H.new_get, if_neg (hne k be h2)] at h1
    exact hs.blk k c be h1 h2
  · intro i j bi bj x y hi hj hx hy hxy
    rw [H.new_get, if_neg (hne i x hx)] at hi
    rw [H.new_get, if_neg (hne j y hy)] at hj
    exact hs.inj i j bi bj x y hi hj hx hy hxy
  · intro k be hk; have := hs.lt k be hk; omega
  · intro k c hk
    rw [H.new_get] at hk
    by_cases e : k = h.nx
    · subst e; omega
    · rw [if_neg e] at hk; have := hs.live k c hk; omega
  · intro k c be h1 h2 hro
    rw [H.new_get, if_neg (hne k be h2)] at h1
    exact hs.own k c be h1 h2 hro

/-- a new block on both sides -/
theorem Sim.alloc {hp : Array Obj} (hs : Sim B ρ h hp) {o : Obj} {e : Nat} {blk : Blk}
    (hok : BlkOk (up ρ h.nx (hp.size, e)) (hp.push o) hp.size e blk) : Sim B (up ρ h.nx (hp.size, e)) (h.new blk) (hp.push o) :=
  (hs.grow blk).push hs.nx_none (by simp [H.new, K.toNat_succ]) (by rw [H.new_get, if_pos rfl]) hok

/-- a block that is written -/
theorem Sim.upd {hp : Array Obj} (hs : Sim B ρ h hp) {id : K} {blk blk' : Blk} {be : Nat × Nat} (hg : h.t.get id = some blk) (hb : ρ id = some be) {hp' : Array Obj}
    (hsz : hp'.size = hp.size) (hoth : ∀ k, k ≠ be.1 → hp'[k]? = hp[k]?) (hok : BlkOk ρ hp' be.1 be.2 blk') (hro : blk'.ro = false → B ≤ be.1) : Sim B ρ (h.upd id blk') hp' := by
  have hne : ∀ k c x, h.t.get k = some c → ρ k = some x → k ≠ id → x.1 ≠ be.1 := fun k c x h1 h2 hk e => hk (hs.inj k id c blk x be h1 hg h2 hb e)
  refine ⟨?_, ?_, hs.lt, ?_, ?_, by rw [hsz]; exact hs.base, hs.glob⟩
  · intro k c x h1 h2
    rw [H.upd_get] at h1
    by_cases e : k = id
    · subst e; rw [if_pos rfl] at h1; simp at h1; subst h1; rw [hb] at h2; simp at h2; subst h2; exact hok
    · rw [if_neg e] at h1
      exact (hs.blk k c x h1 h2).congr (hoth _ (hne k c x h1 h2 e))
  · intro i j bi bj x y hi hj hx hy hxy
    have gi : ∃ c, h.t.get i = some c := by
      rw [H.upd_get] at hi
      by_cases e : i = id
      · subst e; exact ⟨_, hg⟩
      · rw [if_neg e] at hi; exact ⟨_, hi⟩
    have gj : ∃ c, h.t.get j = some c := by
      rw [H.upd_get] at hj
      by_cases e : j = id
      · subst e; exact ⟨_, hg⟩
      · rw [if_neg e] at hj; exact ⟨_, hj⟩
    obtain ⟨ci, gi⟩ := gi
    obtain ⟨cj, gj⟩ := gj
    exact hs.inj i j ci cj x y gi gj hx hy hxy
  · intro k c hk
    rw [H.upd_get] at hk
    by_cases e : k = id
    · subst e; exact hs.live _ _ hg
    · rw [if_neg e] at hk; exact hs.live k c hk
  · intro k c x h1 h2 hro'
    rw [H.upd_get] at h1
    by_cases e : k = id
    · subst e; rw [if_pos rfl] at h1; simp at h1; subst h1; rw [hb] at h2; simp at h2; subst h2; exact hro hro'
    · rw [if_neg e] at h1; exact hs.own k c x h1 h2 hro'

/-- a block that is forgotten -/
theorem Sim.kill {hp : Array Obj} (hs : Sim B ρ h hp) (id : K) : Sim B ρ (h.kill id) hp := by
  have sub : ∀ k c, (h.kill id).t.get k = some c → h.t.get k = some c := by
    intro k c hk
    rw [H.kill_get] at hk
    split at hk
    · simp at hk
    · exact hk
  exact ⟨fun k c x h1 h2 => hs.blk k c x (sub k c h1) h2, fun i j bi bj x y hi hj => hs.inj i j bi bj x y (sub _ _ hi) (sub _ _ hj), hs.lt, fun k c hk => hs.live k c (sub k c hk),
    fun k c x h1 => hs.own k c x (sub k c h1), hs.base, hs.glob⟩

/-- worlds that differ in one block -/
structure SameBut (b : Nat) (w w' : World) : Prop where
  os : w'.os = w.os
  tape : w'.tape = w.tape
  output : w'.output = w.output
  size : w'.heap.size = w.heap.size
  block : ∀ k, k ≠ b → w'.heap[k]? = w.heap[k]?
theorem SameBut.refl (b : Nat) (w : World) : SameBut b w w := ⟨rfl, rfl, rfl, rfl, fun _ _ => rfl⟩
theorem SameBut.trans {b : Nat} {w w' w'' : World} (h : SameBut b w w') (k : SameBut b w' w'') : SameBut b w w'' :=
  ⟨k.os.trans h.os, k.tape.trans h.tape, k.output.trans h.output, k.size.trans h.size, fun i hi => (k.block i hi).trans (h.block i hi)⟩
theorem SameBut.below {b : Nat} {w w' : World} (h : SameBut b w w') (hb : B ≤ b) : Below B w w' :=
  ⟨h.os, h.tape, h.output, by rw [h.size]; exact Nat.le_refl _, fun k hk => h.block k (by omega)⟩

/-- a block written, as one step -/
theorem Ext.upd {w w' : World} (hs : Sim B ρ h w.heap) {id : K} {blk blk' : Blk} {be : Nat × Nat} (hg : h.t.get id = some blk) (hb : ρ id = some be) (hro : blk.ro = false)
    (hsb : SameBut be.1 w w') (hok : BlkOk ρ w'.heap be.1 be.2 blk') : Ext B ρ h w ρ (h.upd id blk') w' := by
  have hB := hs.own id blk be hg hb hro
  refine ⟨Le.refl _, hs.upd hg hb hsb.size hsb.block hok (fun _ => hB), hsb.below hB, ?_, Nat.le_refl _⟩
  intro k _ hn
  refine ⟨hn, ?_⟩
  have hk : k ≠ id := fun e => by rw [e, hb] at hn; simp at hn
  rw [H.upd_get, if_neg hk]

/-- a block made, as one step -/
theorem Ext.alloc {w : World} (hs : Sim B ρ h w.heap) {o : Obj} {e : Nat} {blk : Blk}
    (hok : BlkOk (up ρ h.nx (w.heap.size, e)) (w.heap.push o) w.heap.size e blk) : Ext B ρ h w (up ρ h.nx (w.heap.size, e)) (h.new blk) (w.alloc o) := by
  refine ⟨Le.up hs.nx_none _, hs.alloc hok, (Below.refl _ _).alloc hs.base o, ?_, by simp [H.new, K.toNat_succ]⟩
  intro k hk hn
  have hne : k ≠ h.nx := fun e => by rw [e] at hk; omega
  exact ⟨by rw [up_ne ρ _ hne]; exact hn, by rw [H.new_get, if_neg hne]⟩
theorem Ext.drew {ρ' : Rho} {h' : H} {w w' : World} (e : Ext B ρ h w.drew ρ' h' w') : Ext B ρ h w ρ' h' w' :=
  ⟨e.le, e.sim, (Below.drew (Below.refl B w)).trans e.below, e.frame, e.nx⟩

theorem push_get (hp : Array Obj) (o : Obj) : (hp.push o)[hp.size]? = some o := by simp

/-- a row that has just been made -/
theorem BlkOk.fresh {ρ' : Rho} {hp : Array Obj} {cs : List AV} {c : Array Value} {elem sz e : Nat} {fz : Bool} (hc : ∃ vs, concs ρ' cs = some vs ∧ vs <+: c.toList) (h1 : cs.length ≤ e * sz) (h2 : e * sz ≤ c.size) :
    BlkOk ρ' (hp.push (.cells c elem)) hp.size e (.cells cs elem sz fz) := by
  obtain ⟨vs, hv, t, ht⟩ := hc
  refine ⟨c, elem, (0, 0), vs, push_get _ _, hv, ?_, h1, h2, fun _ => ⟨rfl, fun i => by simp⟩⟩
  intro i v hi
  rw [← Array.getElem?_toList, ← ht]
  rw [List.getElem?_append_left (List.getElem?_eq_some_iff.1 hi).1]
  exact hi

theorem wrap_small (n : Nat) (hn : n < 9223372036854775808) : IntKind.i64.wrap (n : Int) = n := IntWalk.i64_in _ (by omega)

/-- the zero cells of n elements, on both sides -/
theorem zeros_ok (w : World) {el : TypeId} {n sz : Nat} {cs : List AV}
    (h : (if Nat.beq (n * sz) 0 then some [] else (match zeroOf P el with | some z => if Nat.beq z.cells.length sz then some (repl n z.cells) else none | none => none)) = some cs) (ρ : Rho) :
    ∃ xs : List Value, concs ρ cs = some xs ∧ xs.length = n * sz ∧ ((n * sz = 0 ∧ xs = []) ∨ (¬ n * sz = 0 ∧ ∃ z : Value, (zeroValue el).run P w = .ok z w ∧
      (Array.range (n * sz)).map (fun i => z.cells[i % z.cells.size]!) = xs.toArray)) := by
  split at h
  · rename_i h0
    rw [Nat.beq_eq] at h0
    simp at h
    subst h
    exact ⟨[], rfl, by simp [h0], .inl ⟨h0, rfl⟩⟩
  · rename_i h0
    rw [Nat.beq_eq] at h0
    split at h
    · rename_i z hz
      split at h
      · rename_i hzl
        rw [Nat.beq_eq] at hzl
        simp at h
        subst h
        obtain ⟨z', hz1, hz2⟩ := run_zero (P := P) w ρ hz
        have hc := conc_cells hz2
        have hzs : z'.cells.size = sz := by have := concs_length _ _ hc; simp at this; omega
        refine ⟨_, repl_ok hc n, ?_, .inr ⟨h0, z', hz1, ?_⟩⟩
        · have := concs_length _ _ (repl_ok hc n)
          rw [this, repl_length, hzl]
        · have hr := repl_cells z'.cells n
          rw [hzs] at hr ⊢
          apply Array.ext'
          simp only [hr]
      · simp at h
    · simp at h

theorem fillA_length (place : Nat → Option (Nat × Nat)) : ∀ (parts : List (Nat × AV)) (c r : List AV), fillA place c parts = some r → r.length = c.length
  | [], c, r, hr => by simp [fillA] at hr; rw [hr]
  | (i, v) :: parts, c, r, hr => by
    simp only [fillA] at hr
    split at hr
    · split at hr
      · split at hr
        · rename_i c' hc'
          rw [fillA_length place parts c' r hr, setAt_length _ _ _ _ hc']
        · simp at hr
      · simp at hr
    · simp at hr

set_option maxHeartbeats 1000000 in
theorem alloc_ok {w : World} (hs : Sim B ρ h w.heap) {t : Tr AV} {nt : Nat} {a : Act} (ht : TOk ρ t nt a.tmps) (o : Oper) {blk : Blk} {f : K → AV} (ha : allocA P t o.op = some (blk, f)) :
    ∃ (ob : Obj) (e : Nat) (x : Value), (execOp a.eval o).run P w = .ok (.value x) (w.alloc ob) ∧
      ∀ id, ρ id = none → BlkOk (up ρ id (w.heap.size, e)) (w.heap.push ob) w.heap.size e blk ∧ conc (up ρ id (w.heap.size, e)) (f id) = some x := by
  obtain ⟨dst, op, ty, pos, after, guard⟩ := o
  simp only at ha
  cases op <;> simp only [allocA, reduceCtorEq] at ha
  case alloc el =>
    split at ha
    · rename_i z hz
      simp at ha
      obtain ⟨rfl, rfl⟩ := ha
      obtain ⟨z', hz1, hz2⟩ := run_zero (P := P) w ρ hz
      have hc := conc_cells hz2
      refine ⟨.cells z'.cells el, 1, .pointer (some ⟨w.heap.size, 0, none⟩), ?_, ?_⟩
      · simp [execOp, Instr.alloc, hz1, newVar, newRow]
      · intro id hid
        refine ⟨BlkOk.fresh ⟨_, concs_mono (Le.up hid _) _ _ hc, List.prefix_refl _⟩ (by omega) ?_, by simp [conc, up_same]⟩
        have := concs_length _ _ hc
        simp at this
        omega
    · simp at ha
  case box el x =>
    split at ha
    · rename_i v hv
      simp at ha
      obtain ⟨rfl, rfl⟩ := ha
      have hc := conc_cells (opv_ok hs ht hv)
      refine ⟨.cells (a.eval x).cells el, 1, .pointer (some ⟨w.heap.size, 0, none⟩), ?_, ?_⟩
      · simp [execOp, Instr.box, newVar, newRow]
      · intro id hid
        refine ⟨BlkOk.fresh ⟨_, concs_mono (Le.up hid _) _ _ hc, List.prefix_refl _⟩ (by omega) ?_, by simp [conc, up_same]⟩
        have := concs_length _ _ hc
        simp at this
        omega
    · simp at ha
  case buildSlice xt len parts =>
    split at ha
    case h_2 => simp at ha
    rename_i el hd
    split at ha
    case h_2 => simp at ha
    rename_i sz vs hsz hvs
    split at ha
    case isFalse => simp at ha
    rename_i hle
    simp at hle
    split at ha
    case h_2 => simp at ha
    rename_i cs0 hcs0
    split at ha
    case h_2 => simp at ha
    rename_i cs hcs
    simp at ha
    obtain ⟨rfl, rfl⟩ := ha
    obtain ⟨p1, p2⟩ := zip_parts hs ht parts hvs
    obtain ⟨xs, hxs, hxl, hz⟩ := zeros_ok w hcs0 ρ
    obtain ⟨ys, q1, q2⟩ := fill_ok _ _ cs0 cs xs _ hcs hxs p1 p2
    have hyl : ys.length = len * sz := by
      have h1 := concs_length _ _ q1
      have h2 := fillA_length _ _ _ _ hcs
      have h3 := concs_length _ _ hxs
      omega
    refine ⟨.cells ys.toArray el, len, .slice (some ⟨w.heap.size, 0, none⟩) len len, ?_, ?_⟩
    · have hgt : ¬ len * sz > 2 ^ 24 := by omega
      simp only [execOp, Instr.buildSlice]
      simp only [Sem.run_bind, run_desc w hd, Result.andThen_ok, run_sz w hsz, hgt, if_false, Sem.run_pure]
      rcases hz with ⟨h0, rfl⟩ | ⟨h0, z, hz1, hz2⟩
      · have e0 : ∀ f : Nat → Value, (Array.range (len * sz)).map f = ([] : List Value).toArray := fun f => by simp [h0]
        rw [if_pos h0]
        simp only [Sem.run_bind, Sem.run_pure, Result.andThen_ok, e0, q2]
        simp [newRow]
      · rw [if_neg h0]
        simp only [Sem.run_bind, Sem.run_pure, Result.andThen_ok, hz1, hz2, q2]
        simp [newRow]
    · intro id hid
      have hl := concs_length _ _ q1
      refine ⟨BlkOk.fresh ⟨_, concs_mono (Le.up hid _) _ _ q1, by simp⟩ (by omega) (by simp; omega), by simp [conc, up_same]⟩
  case makeMap xt r =>
    have fin : ∀ id, ρ id = none → BlkOk (up ρ id (w.heap.size, 0)) (w.heap.push (.map #[] 0)) w.heap.size 0 (.map [] 0) ∧ conc (up ρ id (w.heap.size, 0)) (.m id) = some (.map (some w.heap.size)) :=
      fun id hid => ⟨⟨[], by simp, rfl⟩, by simp [conc, up_same]⟩
    cases r with
    | none =>
      simp at ha
      obtain ⟨rfl, rfl⟩ := ha
      exact ⟨.map #[] 0, 0, .map (some w.heap.size), by simp [execOp, Instr.makeMap], fin⟩
    | some x =>
      simp only at ha
      split at ha
      · rename_i k n kt et hx hd
        simp at ha
        obtain ⟨rfl, rfl⟩ := ha
        have hv := opv_ok hs ht hx
        simp [conc] at hv
        exact ⟨.map #[] 0, 0, .map (some w.heap.size), by simp [execOp, Instr.makeMap, run_desc w hd, ← hv, asInt, asIntOf], fin⟩
      · simp at ha
  case makeSlice xt l c =>
    split at ha
    case h_2 => simp at ha
    rename_i el _ ln _ cn hd hl hc
    split at ha
    case h_2 => simp at ha
    rename_i inf sz hinf hsz
    split at ha
    case isFalse => simp at ha
    rename_i hcond
    simp at hcond
    obtain ⟨⟨hlc, hbc⟩, hcc⟩ := hcond
    split at ha
    case h_2 => simp at ha
    rename_i cs hcs
    simp at ha
    obtain ⟨rfl, rfl⟩ := ha
    have vl := opv_ok hs ht hl
    have vc := opv_ok hs ht hc
    simp [conc] at vl vc
    have wl := wrap_small ln (by omega)
    have wc := wrap_small cn (by omega)
    obtain ⟨xs, hxs, hxl, hz⟩ := zeros_ok w hcs ρ
    refine ⟨.cells xs.toArray el, cn, .slice (some ⟨w.heap.size, 0, none⟩) ln cn, ?_, ?_⟩
    · simp only [execOp, Instr.makeSlice]
      have hb : ¬ ((inf.bytes : Int) * (cn : Int) > 2 ^ 48) := by
        have : (inf.bytes : Int) * (cn : Int) = ((inf.bytes * cn : Nat) : Int) := by simp
        rw [this]; omega
      have hb2 : (decide ((cn : Int) < 0) || decide ((inf.bytes : Int) * (cn : Int) > 2 ^ 48) || decide ((ln : Int) < 0) || decide ((ln : Int) > (cn : Int))) = false := by
        simp only [Bool.or_eq_false_iff, decide_eq_false_iff_not]
        exact ⟨⟨⟨by omega, hb⟩, by omega⟩, by omega⟩
      simp only [Sem.run_bind, run_desc w hd, Result.andThen_ok, ← vl, ← vc, asInt, asIntOf, Sem.run_pure, run_info w hinf, wl, wc, hb2, Bool.false_eq_true, if_false, run_askRoom, run_sz w hsz, Int.toNat_natCast]
      rcases hz with ⟨h0, rfl⟩ | ⟨h0, z, hz1, hz2⟩
      · have e0 : ∀ f : Nat → Value, (Array.range (cn * sz)).map f = ([] : List Value).toArray := fun f => by simp [h0]
        rw [if_pos h0]
        simp only [Sem.run_bind, Sem.run_pure, Result.andThen_ok, e0]
        simp [newRow]
      · rw [if_neg h0]
        simp only [Sem.run_bind, Sem.run_pure, Result.andThen_ok, hz1, hz2]
        simp [newRow]
    · intro id hid
      have hl := concs_length _ _ hxs
      refine ⟨BlkOk.fresh ⟨_, concs_mono (Le.up hid _) _ _ hxs, by simp⟩ (by omega) (by simp; omega), by simp [conc, up_same]⟩
end Go.Ev
