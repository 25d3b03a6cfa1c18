/-
  THE EVALUATOR's SOUNDNESS, part 25: the run of a plan, as a row of states.
-/
import Derived.Test.YtodlhchgpmgeeaaGreatDoorEv25
namespace Go.Ev
open Go.RowKit
set_option linter.unusedSimpArgs false

section
variable (P : Program) (G : Plug) (rd : Bool) (ev : Option K → Code → St → R (X × St)) (ops : Array Oper)

/-- one row of the plan -/
inductive RowStep (r : Row) (o : Oper) (s s' : St) : Prop where
  | skip (hw : wantedA ops o s.t = some false) (e : s' = s.set o.dst undefA)
  | act (v : AV) (h2 : H) (ds2 : List (AV × List AV)) (hw : wantedA ops o s.t = some true) (hr : r.e = true) (ha : actV P G rd ev o s.t s.h s.ds = .ok (v, h2, ds2)) (e : s' = ({ s with h := h2, ds := ds2 } : St).set o.dst v)
  | quiet (v : AV) (hw : wantedA ops o s.t = some true) (hr : r.e = false) (hq : quietA P s.t s.h o.op = some v) (e : s' = s.set o.dst v)
  | alloc (b : Blk) (f : K → AV) (hw : wantedA ops o s.t = some true) (hr : r.e = false) (hn : quietA P s.t s.h o.op = none) (hq : allocA P s.t o.op = some (b, f)) (e : s' = ({ s with h := s.h.new b } : St).set o.dst (f s.h.nx))

/-- the states of a plan's run -/
structure Canon (rs : List Row) (S : Nat → St) (s s' : St) : Prop where
  zero : S 0 = s
  last : S rs.length = s'
  step : ∀ (p : Nat) (r : Row), rs[p]? = some r → ∃ o, ops[r.i]? = some o ∧ dstOk (S p).nt o.dst = true ∧ RowStep P G rd ev ops r o (S p) (S (p + 1))
  again : ∀ (p q : Nat) (r r' : Row) (o o' : Oper) (v : AV), p < q → rs[p]? = some r → rs[q]? = some r' → ops[r.i]? = some o → ops[r'.i]? = some o' → wantedA ops o (S p).t = some true → r.e = false → isRead o.op = true →
    quietA P (S p).t (S p).h o.op = some v → wantedA ops o' (S q).t = some true → r'.e = true → r'.mask.testBit r.i = false → quietA P (S p).t (S (q + 1)).h o.op = some v
end

variable {P : Program} {G : Plug} {rd : Bool} {ev : Option K → Code → St → R (X × St)} {ops : Array Oper}

theorem recheck_ok {mask : Nat} {h : H} : ∀ {l : List Seen}, recheck P mask h l = true → ∀ z ∈ l, mask.testBit z.i = false → quietA P z.t h z.op = some z.v
  | [], _, z, hz, _ => by simp at hz
  | y :: l, hr, z, hz, hm => by
    simp only [recheck, Bool.and_eq_true] at hr
    rcases List.mem_cons.1 hz with rfl | hz
    · have h1 := hr.1
      rw [if_neg (by rw [hm]; simp)] at h1
      split at h1
      · rename_i v hv
        rw [hv, avEq_ok _ _ h1]
      · simp at h1
    · exact recheck_ok hr.2 z hz hm

theorem canon_ok : ∀ (rs : List Row) (seen : List Seen) (s s' : St), drawA P G rd ev ops rs seen s = .ok s' → ∃ S, Canon P G rd ev ops rs S s s' ∧
    ∀ z ∈ seen, ∀ (q : Nat) (r' : Row) (o' : Oper), rs[q]? = some r' → ops[r'.i]? = some o' → wantedA ops o' (S q).t = some true → r'.e = true → r'.mask.testBit z.i = false → quietA P z.t (S (q + 1)).h z.op = some z.v
  | [], seen, s, s', h => by
    simp [drawA] at h
    subst h
    exact ⟨fun _ => s, ⟨rfl, rfl, fun p r hp => by simp at hp, fun p q r r' _ _ _ _ hp => by simp at hp⟩, fun z _ q r' _ hq => by simp at hq⟩
  | r :: rs, seen, s, s', h => by
    simp only [drawA] at h
    split at h
    case h_1 => simp at h
    rename_i o ho
    split at h
    case isFalse => simp at h
    rename_i hdst
    -- the first row, and the rest's run
    have key : ∀ (s1 : St) (seen' : List Seen), RowStep P G rd ev ops r o s s1 → drawA P G rd ev ops rs seen' s1 = .ok s' → (∀ z ∈ seen, z ∈ seen') →
        (∀ v, wantedA ops o s.t = some true → r.e = false → isRead o.op = true → quietA P s.t s.h o.op = some v → (⟨r.i, o.op, s.t, v⟩ : Seen) ∈ seen') →
        (wantedA ops o s.t = some true → r.e = true → ∀ z ∈ seen, r.mask.testBit z.i = false → quietA P z.t s1.h z.op = some z.v) →
        ∃ S, Canon P G rd ev ops (r :: rs) S s s' ∧ ∀ z ∈ seen, ∀ (q : Nat) (r' : Row) (o' : Oper), (r :: rs)[q]? = some r' → ops[r'.i]? = some o' → wantedA ops o' (S q).t = some true → r'.e = true →
          r'.mask.testBit z.i = false → quietA P z.t (S (q + 1)).h z.op = some z.v := by
      intro s1 seen' hstep hrest hsub hnew hact
      obtain ⟨S, hc, hz⟩ := canon_ok rs seen' s1 s' hrest
      refine ⟨fun p => match p with | 0 => s | p + 1 => S p, ⟨rfl, hc.last, ?_, ?_⟩, ?_⟩
      · intro p r0 hp
        cases p with
        | zero =>
          simp at hp
          subst hp
          exact ⟨o, ho, hdst, by simpa only [hc.zero] using hstep⟩
        | succ p => exact hc.step p r0 (by simpa using hp)
      · intro p q r0 r' o0 o' v hpq hp hq ho0 ho' hw hre hrd hqv hw' hre' hm
        cases q with
        | zero => omega
        | succ q =>
          cases p with
          | zero =>
            simp at hp
            subst hp
            rw [ho] at ho0
            simp at ho0
            subst ho0
            exact hz _ (hnew v hw hre hrd hqv) q r' o' (by simpa using hq) ho' hw' hre' hm
          | succ p => exact hc.again p q r0 r' o0 o' v (by omega) (by simpa using hp) (by simpa using hq) ho0 ho' hw hre hrd hqv hw' hre' hm
      · intro z hzs q r' o' hq ho' hw' hre' hm
        cases q with
        | zero =>
          simp at hq
          subst hq
          rw [ho] at ho'
          simp at ho'
          subst ho'
          simp only [hc.zero]
          exact hact hw' hre' z hzs hm
        | succ q => exact hz z (hsub z hzs) q r' o' (by simpa using hq) ho' hw' hre' hm
    split at h
    · rename_i hw
      split at h
      · rename_i hre
        rw [actA_eq] at h
        cases hact : actV P G rd ev o s.t s.h s.ds with
        | er n => rw [hact] at h; simp at h
        | ok q =>
          obtain ⟨v, h2, ds2⟩ := q
          rw [hact] at h
          simp only at h
          split at h
          case isFalse => simp at h
          rename_i hrc
          exact key _ seen (.act v h2 ds2 hw hre hact rfl) h (fun z hz => hz) (fun v _ hf => by rw [hre] at hf; simp at hf) (fun _ _ z hz hm => recheck_ok hrc z hz hm)
      · rename_i hre
        have hre : r.e = false := by simpa using hre
        split at h
        · rename_i v hq
          refine key _ _ (.quiet v hw hre hq rfl) h (fun z hz => ?_) (fun v' _ _ hrd hq' => ?_) (fun _ hf => by rw [hre] at hf; simp at hf)
          · split <;> simp [hz]
          · rw [hq] at hq'
            simp at hq'
            subst hq'
            rw [if_pos hrd]
            simp
        · rename_i hq
          split at h
          case h_2 => simp at h
          rename_i b f hal
          exact key _ seen (.alloc b f hw hre hq hal rfl) h (fun z hz => hz) (fun v' _ _ _ hq' => by rw [hq] at hq'; simp at hq') (fun _ hf => by rw [hre] at hf; simp at hf)
    · rename_i hw
      exact key _ seen (.skip hw rfl) h (fun z hz => hz) (fun v' hw' => by rw [hw] at hw'; simp at hw') (fun hw' => by rw [hw] at hw'; simp at hw')
    · simp at h

end Go.Ev
