/-
  THE EVALUATOR's SOUNDNESS, part 8: every operation that looks at most; every operation that makes one block.
-/
import Derived.Test.YtodlhchgpmgeeaaGreatDoorEv8
namespace Go.Ev
open Go.RowKit
set_option linter.unusedSimpArgs false

variable {P : Program} {B : Nat} {ρ : Rho} {h : H}

theorem opt_ok {hp : Array Obj} (hs : Sim B ρ h hp) {t : Tr AV} {nt : Nat} {a : Act} (ht : TOk ρ t nt a.tmps) (x : Option Operand) (hx : ∀ y, x = some y → ∃ v, opv t y = some v) :
    OptOk ρ (x.bind (opv t)) (x.map a.eval) := by
  cases x with
  | none => trivial
  | some y =>
    obtain ⟨v, hv⟩ := hx y rfl
    simp only [Option.bind_some, hv, Option.map_some]
    exact opv_ok hs ht hv

theorem opvs_mem {t : Tr AV} : ∀ {l : List Operand} {vs : List AV}, opvs t l = some vs → ∀ y ∈ l, ∃ v, opv t y = some v
  | [], _, _, y, hy => by simp at hy
  | x :: l, vs, h, y, hy => by
    simp only [opvs] at h
    cases h1 : opv t x with
    | none => rw [h1] at h; simp at h
    | some v =>
      cases h2 : opvs t l with
      | none => rw [h1, h2] at h; simp at h
      | some r =>
        cases hy with
        | head => exact ⟨v, h1⟩
        | tail _ hm => exact opvs_mem h2 y hm

theorem opvs_length {t : Tr AV} : ∀ {l : List Operand} {vs : List AV}, opvs t l = some vs → vs.length = l.length
  | [], vs, h => by simp [opvs] at h; subst h; rfl
  | x :: l, vs, h => by
    simp only [opvs] at h
    cases h1 : opv t x with
    | none => rw [h1] at h; simp at h
    | some v =>
      cases h2 : opvs t l with
      | none => rw [h1, h2] at h; simp at h
      | some r => rw [h1, h2] at h; simp at h; subst h; simp [opvs_length h2]

theorem zip_parts {t : Tr AV} {a : Act} {hp : Array Obj} (hs : Sim B ρ h hp) {nt : Nat} (ht : TOk ρ t nt a.tmps) (parts : Array (Nat × Operand)) {vs : List AV}
    (hv : opvs t (parts.toList.map (·.2)) = some vs) : ((parts.map fun (i, x) => (i, a.eval x)).toList.map (·.1)) = ((parts.toList.map (·.1)).zip vs).map (·.1) ∧
      concs ρ (((parts.toList.map (·.1)).zip vs).map (·.2)) = some ((parts.map fun (i, x) => (i, a.eval x)).toList.map (·.2)) := by
  have hl := opvs_length hv
  have hc := opvs_ok hs ht hv
  refine ⟨?_, ?_⟩
  · rw [List.map_fst_zip (by simp at hl ⊢; omega)]
    simp
  · rw [List.map_snd_zip (by simp at hl ⊢; omega), hc]
    simp

set_option maxHeartbeats 4000000 in
theorem quiet_ok {w : World} (hs : Sim B ρ h w.heap) {t : Tr AV} {nt : Nat} {a : Act} (ht : TOk ρ t nt a.tmps) (o : Oper) {v : AV} (hq : quietA P t h o.op = some v) :
    ∃ x, conc ρ v = some x ∧ (execOp a.eval o).run P w = .ok (.value x) w := by
  obtain ⟨dst, op, ty, pos, after, guard⟩ := o
  simp only at hq
  cases op <;> simp only [quietA, reduceCtorEq] at hq
  case move x => exact ⟨_, opv_ok hs ht hq, by simp [execOp]⟩
  case assign x => exact ⟨_, opv_ok hs ht hq, by simp [execOp]⟩
  case pick c x y =>
    split at hq
    · rename_i hc
      have := opv_ok hs ht hc
      simp [conc] at this
      exact ⟨_, opv_ok hs ht hq, by simp [execOp, ← this, asBool]⟩
    · rename_i hc
      have := opv_ok hs ht hc
      simp [conc] at this
      exact ⟨_, opv_ok hs ht hq, by simp [execOp, ← this, asBool]⟩
    · simp at hq
  case nilCheck x =>
    split at hq
    · rename_i id off hx
      have := opv_ok hs ht hx
      simp at hq; subst hq
      refine ⟨_, this, ?_⟩
      simp only [conc, Option.map_eq_some_iff] at this
      obtain ⟨be, _, e⟩ := this
      simp [execOp, ← e]
    · rename_i f p q hx
      have := opv_ok hs ht hx
      split at hq
      · simp at hq; subst hq
        refine ⟨_, this, ?_⟩
        simp only [conc] at this
        split at this
        · simp at this; simp [execOp, ← this]
        · simp at this
      · simp at hq
    · simp at hq
  case binOp op xt x y yt =>
    split at hq
    · rename_i p q hx hy
      split at hq
      · rename_i hg
        obtain ⟨v', h1, h2⟩ := bin_ok op xt p q v hq _ _ w (opv_ok hs ht hx) (opv_ok hs ht hy)
        have h3 := eqGuard_ok op xt x y p q hg _ _ w (opv_ok hs ht hx) (opv_ok hs ht hy)
        exact ⟨v', h1, by simp [execOp, h2, h3]⟩
      · simp at hq
    · simp at hq
  case unOp op xt x =>
    split at hq
    · rename_i p hx
      obtain ⟨v', h1, h2⟩ := un_ok (P := P) op p v hq _ w (opv_ok hs ht hx)
      exact ⟨v', h1, by simp [execOp, h2]⟩
    · simp at hq
  case convert s d x =>
    split at hq
    · rename_i p hx
      obtain ⟨v', h1, h2⟩ := conv_ok s d p v hq _ w (opv_ok hs ht hx)
      exact ⟨v', h1, by simp [execOp, h2]⟩
    · simp at hq
  case makeInterface xt x =>
    split at hq
    · simp at hq
    · rename_i p d hn hx hd
      simp at hq; subst hq
      have := opv_ok hs ht hx
      refine ⟨_, by simp only [conc, this, Option.map_some]; rfl, ?_⟩
      simp [execOp, mkIface_ok xt hd (fun ms e => hn ms e) (a.eval x) w]
    · simp at hq
  case makeFunc fn first captured =>
    split at hq
    · rename_i g p q hp hq'
      simp at hq; subst hq
      have h1 := opvs_ok hs ht hp
      have h2 := opvs_ok hs ht hq'
      refine ⟨.func (.func g) (first.map a.eval) (captured.map a.eval), ?_, by simp [execOp, Instr.makeFunc]⟩
      simp only [conc, h1, h2]
      congr 2
      · apply Array.ext'; simp
      · apply Array.ext'; simp
    · simp at hq
  case slice xt x lo hi mx =>
    split at hq
    · rename_i p hx
      split at hq
      · rename_i vs hvs
        split at hq
        · simp at hq
        · rename_i hno
          have hm := opvs_mem hvs
          obtain ⟨v', h1, h2⟩ := slice_ok hs xt p v _ _ _ hq _ (lo.map a.eval) (hi.map a.eval) (mx.map a.eval) w (opv_ok hs ht hx)
            (opt_ok hs ht lo (fun y e => hm y (by subst e; simp))) (opt_ok hs ht hi (fun y e => hm y (by subst e; simp))) (opt_ok hs ht mx (fun y e => hm y (by subst e; simp)))
            (by
              intro hc
              apply hno
              cases mx with
              | none => simp at hc
              | some m =>
                cases hi with
                | none => simp
                | some y =>
                  obtain ⟨u, hu⟩ := hm y (by simp)
                  simp [hu] at hc)
          exact ⟨v', h1, by simp [execOp, h2]⟩
      · simp at hq
    · simp at hq
  case fieldAddr xt x f =>
    split at hq
    · rename_i p hx
      obtain ⟨v', h1, h2⟩ := fieldAddr_ok w xt p v f hq _ (opv_ok hs ht hx)
      exact ⟨v', h1, by simp [execOp, h2]⟩
    · simp at hq
  case field xt x f =>
    split at hq
    · rename_i p hx
      obtain ⟨v', h1, h2⟩ := field_ok w xt p v f hq _ (opv_ok hs ht hx)
      exact ⟨v', h1, by simp [execOp, h2]⟩
    · simp at hq
  case indexAddr xt x i =>
    split at hq
    · rename_i p q hx hi
      obtain ⟨v', h1, h2⟩ := indexAddr_ok w xt p q v hq _ _ (opv_ok hs ht hx) (opv_ok hs ht hi)
      exact ⟨v', h1, by simp [execOp, h2]⟩
    · simp at hq
  case index xt x i =>
    split at hq
    · rename_i p q hx hi
      obtain ⟨v', h1, h2⟩ := index_ok w xt p q v hq _ _ (opv_ok hs ht hx) (opv_ok hs ht hi)
      exact ⟨v', h1, by simp [execOp, h2]⟩
    · simp at hq
  case lookup xt x k ok =>
    split at hq
    · rename_i p q hx hi
      obtain ⟨v', h1, h2⟩ := lookup_ok hs xt p q v ok hq _ _ (opv_ok hs ht hx) (opv_ok hs ht hi)
      exact ⟨v', h1, by simp [execOp, h2]⟩
    · simp at hq
  case load xt x =>
    split at hq
    · rename_i p hx
      obtain ⟨v', h1, ad, e, h2⟩ := load_ok hs xt p v hq _ (opv_ok hs ht hx)
      exact ⟨v', h1, by simp [execOp, Instr.loadAt, e, Instr.sureAddr, h2]⟩
    · simp at hq
  case extract x i =>
    split at hq
    · rename_i p hx
      obtain ⟨v', h1, h2⟩ := extract_val (P := P) w p v i hq _ (opv_ok hs ht hx)
      exact ⟨v', h1, by simp [execOp, h2]⟩
    · simp at hq
  case typeAssert x xt at' ok =>
    split at hq
    · rename_i p hx
      obtain ⟨v', h1, h2⟩ := assert_ok w p v xt at' ok hq _ (opv_ok hs ht hx)
      exact ⟨v', h1, by simp [execOp, h2]⟩
    · simp at hq
  case build xt parts =>
    split at hq
    · rename_i vs hvs
      obtain ⟨h1, h2⟩ := zip_parts hs ht parts hvs
      obtain ⟨v', h3, h4⟩ := build_ok w xt _ v hq _ h1 h2
      exact ⟨v', h3, by simp only [execOp]; simp [h4]⟩
    · simp at hq
  case call c =>
    obtain ⟨callee, args, argTypes⟩ := c
    simp only at hq
    split at hq
    case h_1 =>
      split at hq
      · rename_i x xt l hx hxt
        split at hq
        · rename_i p hp
          obtain ⟨v', h1, h2⟩ := len_ok hs xt ty p v hq _ (opv_ok hs ht hp) argTypes (args.map a.eval) (by rw [← Array.getElem?_toList, hxt]; rfl) (by rw [← Array.getElem?_toList, Array.toList_map, hx]; rfl)
          exact ⟨v', h1, by simp [execOp, resolve, invoke, builtin, h2]⟩
        · simp at hq
      · simp at hq
    case h_2 =>
      split at hq
      · rename_i x xt l hx hxt
        split at hq
        · rename_i p hp
          obtain ⟨v', h1, h2⟩ := cap_ok w xt ty p v hq _ (opv_ok hs ht hp) argTypes (args.map a.eval) (by rw [← Array.getElem?_toList, hxt]; rfl) (by rw [← Array.getElem?_toList, Array.toList_map, hx]; rfl)
          exact ⟨v', h1, by simp [execOp, resolve, invoke, builtin, h2]⟩
        · simp at hq
      · simp at hq
    case h_3 =>
      split at hq
      · rename_i p l hl
        have hc := opvs_ok hs ht hl
        obtain ⟨a', m, ha, hm, e⟩ := concs_cons hc
        obtain ⟨v', h1, h2⟩ := fold_ok (P := P) w max2A Builtin.max2 (fun _ _ _ _ _ => max2_ok w _ _ _ _ _) l m p v a' hm ha hq
        exact ⟨v', h1, by simp [execOp, resolve, invoke, builtin, Builtin.max_, e, h2]⟩
      · simp at hq
    case h_4 =>
      split at hq
      · rename_i p l hl
        have hc := opvs_ok hs ht hl
        obtain ⟨a', m, ha, hm, e⟩ := concs_cons hc
        obtain ⟨v', h1, h2⟩ := fold_ok (P := P) w min2A Builtin.min2 (fun _ _ _ _ _ => min2_ok w _ _ _ _ _) l m p v a' hm ha hq
        exact ⟨v', h1, by simp [execOp, resolve, invoke, builtin, Builtin.min_, e, h2]⟩
      · simp at hq
    case h_5 => simp at hq
end Go.Ev
