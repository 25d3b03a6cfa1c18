/-
  THE QUICK EVALUATOR's SOUNDNESS, part 4: regions, control, all of it.
-/
import Derived.Test.YtodlhchgpmgeeaaGreatDoorFv4
namespace Go.Ev
set_option linter.unusedSimpArgs false
set_option linter.unusedVariables false
variable {E : Env} {rd : Bool} {evk : EvT} {ev : Ev} {ops : Array Oper}

theorem eqSame_beq (w z : Bool) : eqSame w z = (z == w) := by cases w <;> cases z <;> rfl
theorem wantK_ok {o : Oper} {t : Tr AV} {yes no : Bool} (e : wantK ops o.guard t yes no = true) : (wantedA ops o t = some true ∧ yes = true) ∨ (wantedA ops o t = some false ∧ no = true) := by
  unfold wantedA
  cases hg : o.guard with
  | none => rw [hg] at e; exact .inl ⟨rfl, e⟩
  | some jw =>
    obtain ⟨j, want⟩ := jw
    rw [hg] at e
    obtain ⟨d, h1, e⟩ := oK_ok (show oK (guardDst ops j) (fun d => getK (slotK d) t fun v => AV.boolK v no fun z => Bool.rec no yes (eqSame want z)) = true from e)
    obtain ⟨v, h2, e⟩ := getK_ok _ e
    unfold guardDst at h1
    split at h1
    · rename_i q hq
      simp only [hq, h1, h2]
      rcases boolK_ok e with ⟨b, rfl, e9⟩ | ⟨hb, e9⟩
      · rw [eqSame_beq] at e9
        rcases brec_ok _ e9 with ⟨q1, q2⟩ | ⟨q1, q2⟩
        · exact .inl ⟨by simp only [q1], q2⟩
        · exact .inr ⟨by simp only [q1], q2⟩
      · refine .inr ⟨?_, e9⟩
        cases v <;> first | rfl | exact absurd rfl (hb _)
    · simp at h1
theorem opsK_ok (hE : EnvOk E) (hev : EvOk evk ev) : ∀ {l : List Oper} {s : St} {κ : St → Bool}, opsK E rd evk ops l s κ = true → ∃ s', opsA E.P E.G rd ev ops l s = .ok s' ∧ κ s' = true
  | [], s, κ, e => ⟨s, rfl, e⟩
  | o :: l, s, κ, e => by
    obtain ⟨d, op, ty, pos, af, g⟩ := o
    obtain ⟨t, nt, h, ds⟩ := s
    rcases wantK_ok (o := ⟨d, op, ty, pos, af, g⟩) (show wantK ops g t (opK op E rd evk d ⟨t, nt, h, ds⟩ fun s => opsK E rd evk ops l s κ) (putS d undefA t nt h ds fun s => opsK E rd evk ops l s κ) = true from e) with ⟨hw, e9⟩ | ⟨hw, e9⟩
    · obtain ⟨s1, h1, e⟩ := opK_ok hE hev op d ty pos af g _ _ e9
      obtain ⟨s2, h2, e⟩ := opsK_ok hE hev e
      exact ⟨s2, by simp only [opsA, hw, h1, h2], e⟩
    · obtain ⟨s2, h2, e⟩ := opsK_ok hE hev (putS_ok e9)
      exact ⟨s2, by simp only [opsA, hw, h2], e⟩
theorem recheckK_ok {P : Program} {mask : Nat} {h : H} : ∀ {l : List Seen} {κ : Bool}, recheckK P mask h l κ = true → recheck P mask h l = true ∧ κ = true
  | [], κ, e => ⟨rfl, e⟩
  | q :: l, κ, e => by
    rcases brec_ok _ (show (Bool.rec (quietK q.op P q.t h fun v => Bool.rec false (recheckK P mask h l κ) (avEq v q.v)) (recheckK P mask h l κ) (Nat.testBit mask q.i) : Bool) = true from e) with ⟨h1, e9⟩ | ⟨h1, e9⟩
    · obtain ⟨h2, h3⟩ := recheckK_ok e9
      exact ⟨by simp only [recheck, h1, if_true, h2, Bool.and_self], h3⟩
    · obtain ⟨v, h4, e⟩ := quietK_ok q.op P q.t h _ e9
      obtain ⟨h5, e⟩ := band_ok e
      obtain ⟨h2, h3⟩ := recheckK_ok e
      exact ⟨by simp [recheck, h1, h4, h5, h2], h3⟩
theorem dstOkF_eq (nt : Nat) (d : Option Tmp) : dstOkF nt d = dstOk nt d := by cases d <;> rfl
theorem calm_draw {P : Program} {G : Plug} {r : Row} {l : List Row} {done : List Seen} {s s' : St} {o : Oper} (ho : ops[r.i]? = some o) (hd : dstOk s.nt o.dst = true) (hw : wantedA ops o s.t = some true) (hr : r.e = false) (hi : isRead o.op = false) (h : calmA P o s = .ok s') :
    drawA P G rd ev ops (r :: l) done s = drawA P G rd ev ops l done s' := by
  unfold calmA at h
  simp only [drawA, ho, hd, hw, hr, hi, if_true, Bool.false_eq_true, if_false]
  split at h
  · rename_i v hv
    simp at h
    subst h
    simp only [hv]
  · rename_i hv
    split at h
    · rename_i b f hb
      simp at h
      subst h
      simp only [hv, hb]
    · simp at h
theorem rowKind_cases (e : Bool) (op : Op) : (rowKind e op = 0 ∧ e = true ∧ isE op = true) ∨ (rowKind e op = 1 ∧ e = false ∧ isE op = false ∧ isRead op = true) ∨ (rowKind e op = 2 ∧ e = false ∧ isE op = false ∧ isRead op = false) ∨ rowKind e op = 3 := by
  unfold rowKind
  cases e <;> cases isE op <;> cases isRead op <;> simp
theorem drawK_ok (hE : EnvOk E) (hev : EvOk evk ev) : ∀ {rs : List Row} {seen : List Seen} {s : St} {κ : St → Bool}, drawK E rd evk ops rs seen s κ = true → ∃ s', drawA E.P E.G rd ev ops rs seen s = .ok s' ∧ κ s' = true
  | [], seen, s, κ, e => ⟨s, rfl, e⟩
  | r :: l, seen, s, κ, e => by
    obtain ⟨o, ho, e⟩ := oK_ok (show oK ops[r.i]? (fun o => Bool.rec false (wantK ops o.guard s.t
      (Nat.rec (opK o.op E rd evk o.dst s fun s' => recheckK E.P r.mask s'.h seen (drawK E rd evk ops l seen s' κ))
        (fun k _ => Nat.rec (St.rec (fun t nt h ds => quietK o.op E.P t h fun v => putS o.dst v t nt h ds fun s => drawK E rd evk ops l (⟨r.i, o.op, t, v⟩ :: seen) s κ) s) (fun k _ => Nat.rec (opK o.op E rd evk o.dst s fun s => drawK E rd evk ops l seen s κ) (fun _ _ => false) k) k) (rowKind r.e o.op))
      (St.rec (fun t nt h ds => putS o.dst undefA t nt h ds fun s => drawK E rd evk ops l seen s κ) s)) (dstOkF s.nt o.dst)) = true from e)
    obtain ⟨hd, e⟩ := band_ok e
    rw [dstOkF_eq] at hd
    obtain ⟨d, op, ty, pos, af, g⟩ := o
    obtain ⟨t, nt, h, ds⟩ := s
    rcases wantK_ok (o := ⟨d, op, ty, pos, af, g⟩) e with ⟨hw, e9⟩ | ⟨hw, e9⟩
    · rcases rowKind_cases r.e op with ⟨hk, hre, hie⟩ | ⟨hk, hre, hie, hir⟩ | ⟨hk, hre, hie, hir⟩ | hk
      · simp only [hk] at e9
        obtain ⟨s1, h1, e⟩ := opK_ok hE hev op d ty pos af g _ _ e9
        obtain ⟨h2, e⟩ := recheckK_ok e
        obtain ⟨s2, h3, e⟩ := drawK_ok hE hev e
        simp only [operA, hie, if_true] at h1
        exact ⟨s2, by simp only [drawA, ho, hd, hw, hre, if_true, h1, h2, h3], e⟩
      · simp only [hk] at e9
        obtain ⟨v, h1, e⟩ := quietK_ok op _ _ _ _ e9
        obtain ⟨s2, h3, e⟩ := drawK_ok hE hev (putS_ok e)
        exact ⟨s2, by simp only [drawA, ho, hd, hw, hre, if_true, Bool.false_eq_true, if_false, h1, hir, h3], e⟩
      · simp only [hk] at e9
        obtain ⟨s1, h1, e⟩ := opK_ok hE hev op d ty pos af g _ _ e9
        obtain ⟨s2, h3, e⟩ := drawK_ok hE hev e
        simp only [operA, hie, Bool.false_eq_true, if_false] at h1
        exact ⟨s2, by rw [calm_draw ho hd hw hre hir h1, h3], e⟩
      · simp only [hk] at e9
        exact ff e9
    · obtain ⟨s2, h3, e⟩ := drawK_ok hE hev (putS_ok e9)
      exact ⟨s2, by simp only [drawA, ho, hd, hw, if_true, h3], e⟩
theorem regionK_ok (hE : EnvOk E) (hev : EvOk evk ev) {draw : Bool} {s : St} {κ : St → Bool} (e : regionK E rd evk ops draw s κ = true) : ∃ s', regionA E.P E.G rd ev ops draw s = .ok s' ∧ κ s' = true := by
  rcases brec_ok _ e with ⟨rfl, e9⟩ | ⟨rfl, e9⟩
  · obtain ⟨rs, h1, e⟩ := oK_ok e9
    obtain ⟨s', h2, e⟩ := drawK_ok hE hev e
    exact ⟨s', by simp only [regionA, if_true, h1, h2], e⟩
  · obtain ⟨s', h2, e⟩ := opsK_ok hE hev e9
    exact ⟨s', by simp only [regionA, Bool.false_eq_true, if_false, h2], e⟩

/-! ### control -/
theorem enterK_ok {ctx : Option K} {s : St} {κ : K → H → List (AV × List AV) → Bool} (e : enterK ctx s κ = true) : ∃ dk h m, enterA ctx s = some (dk, h, m) ∧ κ dk h m = true := by
  cases ctx with
  | none =>
    obtain ⟨t, nt, h, ds⟩ := s
    obtain ⟨ht, nx⟩ := h
    refine ⟨_, _, _, rfl, ?_⟩
    have e : κ nx ⟨putF nx (some .defd) ht, succF nx⟩ [(.p nx 0, [])] = true := e
    rw [putF_eq, succF_eq] at e
    exact e
  | some l =>
    obtain ⟨b, h1, e⟩ := blkK_ok (show blkK l s.h (fun b => blkLoop b fun r => κ r.dblock s.h []) = true from e)
    obtain ⟨r, rfl, e9⟩ := blkLoop_ok e
    exact ⟨_, _, _, by simp only [enterA, h1], e9⟩
theorem scopeK_ok (hev : EvOk evk ev) {ctx : Option K} {c : Code} {κn : St → Bool} {κx : X → St → Bool} : ∀ (n : Nat) {x : X} {s : St}, scopeK evk ctx c κn κx n x s = true → ∃ x' s', scopeA ev ctx c n (x, s) = .ok (x', s') ∧ Fin κn κx x' s'
  | 0, x, s, e => ff e
  | n + 1, x, s, e => by
    cases x with
    | normal => exact ⟨.normal, s, rfl, e⟩
    | ret => exact ⟨.ret, s, rfl, e⟩
    | exit id => exact ⟨.exit id, s, rfl, e⟩
    | goto l =>
      have e : (Option.rec (κx (.goto l) s) (fun rest => evk ctx rest s (scopeK evk ctx c κn κx n .normal) (scopeK evk ctx c κn κx n)) (findLabel c l) : Bool) = true := e
      cases hf : findLabel c l with
      | none => rw [hf] at e; exact ⟨.goto l, s, by simp only [scopeA, hf], e⟩
      | some rest =>
        rw [hf] at e
        obtain ⟨x1, s1, h1, h2⟩ := hev _ _ _ _ _ e
        have h2 : scopeK evk ctx c κn κx n x1 s1 = true := by cases x1 <;> exact h2
        obtain ⟨x', s', h3, h4⟩ := scopeK_ok hev n h2
        exact ⟨x', s', by simp only [scopeA, hf, h1, h3], h4⟩
theorem isSome?_eq (o : Option K) : isSome? o = o.isSome := by cases o <;> rfl
theorem stepC_ok (hE : EnvOk E) (hev : EvOk evk ev) : EvOk (fun ctx c s κn κx => stepC c E evk ctx s κn κx) (stepA E.P E.G ev) := by
  intro ctx c s κn κx e
  cases c with
  | skip => exact ⟨.normal, s, rfl, e⟩
  | label l => exact ⟨.normal, s, rfl, e⟩
  | exit id => exact ⟨.exit id, s, rfl, e⟩
  | goto l => exact ⟨.goto l, s, rfl, e⟩
  | ret => exact ⟨.ret, s, rfl, e⟩
  | refuse m => exact ff e
  | region id ops draw =>
    obtain ⟨s', h1, e⟩ := regionK_ok hE hev (show regionK E (isSome? ctx) evk ops draw s κn = true from e)
    rw [isSome?_eq] at h1
    exact ⟨.normal, s', by simp only [stepA, h1], e⟩
  | seq a b =>
    obtain ⟨x, s1, h1, h2⟩ := hev _ _ _ _ _ (show evk ctx a s (fun s => evk ctx b s κn κx) κx = true from e)
    cases x with
    | normal =>
      obtain ⟨x', s', h3, h4⟩ := hev _ _ _ _ _ h2
      exact ⟨x', s', by simp only [stepA, h1, h3], h4⟩
    | ret => exact ⟨.ret, s1, by simp only [stepA, h1], h2⟩
    | exit id => exact ⟨.exit id, s1, by simp only [stepA, h1], h2⟩
    | goto l => exact ⟨.goto l, s1, by simp only [stepA, h1], h2⟩
  | cond cv a b =>
    obtain ⟨v, h1, e⟩ := opvK_ok (x := cv) (t := s.t) e
    obtain ⟨z, rfl, e9⟩ := bK_ok e
    cases z with
    | false =>
      obtain ⟨x', s', h3, h4⟩ := hev _ _ _ _ _ e9
      exact ⟨x', s', by simp only [stepA, h1, h3], h4⟩
    | true =>
      obtain ⟨x', s', h3, h4⟩ := hev _ _ _ _ _ e9
      exact ⟨x', s', by simp only [stepA, h1, h3], h4⟩
  | block id c =>
    obtain ⟨x, s1, h1, h2⟩ := hev _ _ _ _ _ (show evk ctx c s κn (fun x s => X.rec false (fun j => Bool.rec (κx (.exit j) s) (κn s) (Nat.beq j id)) (fun l => κx (.goto l) s) (κx .ret s) x) = true from e)
    cases x with
    | normal => exact ⟨.normal, s1, by simp only [stepA, h1], h2⟩
    | ret => exact ⟨.ret, s1, by simp only [stepA, h1], h2⟩
    | goto l => exact ⟨.goto l, s1, by simp only [stepA, h1], h2⟩
    | exit j =>
      rcases brec_ok _ (show (Bool.rec (κx (.exit j) s1) (κn s1) (Nat.beq j id) : Bool) = true from h2) with ⟨q1, q2⟩ | ⟨q1, q2⟩
      · exact ⟨.normal, s1, by simp only [stepA, h1, q1, if_true], q2⟩
      · exact ⟨.exit j, s1, by simp only [stepA, h1, q1, Bool.false_eq_true, if_false], q2⟩
  | loop c =>
    obtain ⟨x, s1, h1, h2⟩ := hev _ _ _ _ _ (show evk ctx c s (fun s => evk ctx (.loop c) s κn κx) κx = true from e)
    cases x with
    | normal =>
      obtain ⟨x', s', h3, h4⟩ := hev _ _ _ _ _ h2
      exact ⟨x', s', by simp only [stepA, h1, h3], h4⟩
    | ret => exact ⟨.ret, s1, by simp only [stepA, h1], h2⟩
    | exit id => exact ⟨.exit id, s1, by simp only [stepA, h1], h2⟩
    | goto l => exact ⟨.goto l, s1, by simp only [stepA, h1], h2⟩
  | scope c =>
    obtain ⟨x, s1, h1, h2⟩ := hev _ _ _ _ _ (show evk ctx c s (scopeK evk ctx c κn κx 100000 .normal) (scopeK evk ctx c κn κx 100000) = true from e)
    have h2 : scopeK evk ctx c κn κx 100000 x s1 = true := by cases x <;> exact h2
    obtain ⟨x', s', h3, h4⟩ := scopeK_ok hev _ h2
    exact ⟨x', s', by simp only [stepA, h1, h3], h4⟩
  | rangeFunc f ps asg body =>
    obtain ⟨fv, h1, e⟩ := opvK_ok (x := f) (t := s.t) e
    rcases fnK_ok e with ⟨g, fi, ca, rfl, e9⟩ | ⟨y, l, rfl, e9⟩
    · obtain ⟨dk, hh, mark, h2, e⟩ := enterK_ok e9
      obtain ⟨ht, nx⟩ := hh
      obtain ⟨v, h', h3, e⟩ := bodyK_ok hE hev e
      rw [appF_eq, appF_eq] at h3
      have h3 : bodyA E.P E.G ev g (fi ++ [.fn (.yield 0) [.p nx 0] []] ++ ca) ⟨putF nx (some (.loop { state := .ready, pending := none, tmps := s.t, nt := s.nt, params := ps.toList, asg, body, dblock := dk })) ht, succF nx⟩ = .ok (v, h') := h3
      rw [putF_eq, succF_eq] at h3
      obtain ⟨b, h4, e⟩ := blkK_ok e
      obtain ⟨r, rfl, e8⟩ := blkLoop_ok e
      obtain ⟨h5, e⟩ := bnot_ok e8
      have h5 := busyF_not h5
      have h3' : bodyA E.P E.G ev g (fi ++ [.fn (.yield 0) [.p (H.mk ht nx).nx 0] []] ++ ca) ((H.mk ht nx).new (.loop { state := .ready, pending := none, tmps := s.t, nt := s.nt, params := ps.toList, asg, body, dblock := dk })) = .ok (v, h') := h3
      have h4' : h'.t.get (H.mk ht nx).nx = some (.loop r) := h4
      cases hp : r.pending with
      | none =>
        rw [hp] at e
        refine ⟨.normal, _, ?_, e⟩
        simp only [stepA, h1, h2, h3', h4', hp, updF_eq, appF_eq]
      | some c =>
        rw [hp] at e
        obtain ⟨x', s', h6, h7⟩ := hev _ _ _ _ _ e
        refine ⟨x', s', ?_, h7⟩
        rw [updF_eq, appF_eq] at h6
        simp only [stepA, h1, h2, h3', h4', hp, h6]
    · exact ff e9
theorem evK_ok (hE : EnvOk E) : ∀ n, EvOk (evK E n) (Go.Ev.ev E.P E.G n)
  | 0 => fun ctx c s κn κx e => ff e
  | n + 1 => fun ctx c s κn κx e => stepC_ok hE (evK_ok hE n) ctx c s κn κx e
/-- **what answers true there, the elder evaluator returns** -/
theorem goK_ok (hE : EnvOk E) {n : Nat} {f : FuncId} {args : List AV} {h : H} {κ : AV → H → Bool} (e : goK E n f args h κ = true) : ∃ v h', run E.P E.G n f args h = .ok (v, h') ∧ κ v h' = true :=
  callK_ok hE (evK_ok hE n) e
end Go.Ev
