/-
  THE QUICK EVALUATOR's SOUNDNESS, part 3: operations, calls.
-/
import Derived.Test.YtodlhchgpmgeeaaGreatDoorFv3
namespace Go.Ev
set_option linter.unusedSimpArgs false
set_option linter.unusedVariables false

theorem ff {p : Prop} (h : false = true) : p := absurd h (by decide)
structure EnvOk (E : Env) : Prop where
  pl : ∀ f args h, E.pl f = false → E.G.call f args h = none
  pd : ∀ g args h, E.pd g = false → E.G.dfr g args h = false
/-- what holds where code is left -/
def Fin (κn : St → Bool) (κx : X → St → Bool) (x : X) (s : St) : Prop :=
  match x with
  | .normal => κn s = true
  | x => κx x s = true
abbrev Ev := Option K → Code → St → R (X × St)
def EvOk (evk : EvT) (ev : Ev) : Prop := ∀ ctx c s κn κx, evk ctx c s κn κx = true → ∃ x s', ev ctx c s = .ok (x, s') ∧ Fin κn κx x s'

theorem putS_ok {d : Option Tmp} {v : AV} {t : Tr AV} {nt : Nat} {h : H} {ds : List (AV × List AV)} {κ : St → Bool} (e : putS d v t nt h ds κ = true) : κ (St.set ⟨t, nt, h, ds⟩ d v) = true := by
  cases d with
  | none => exact e
  | some d =>
    obtain ⟨h1, e⟩ := band_ok e
    rw [putF_eq] at e
    simp only [St.set, h1, if_true]
    exact e
theorem newS_ok {b : Blk} {f : K → AV} {d : Option Tmp} {t : Tr AV} {nt : Nat} {h : H} {ds : List (AV × List AV)} {κ : St → Bool} (e : newS b f d t nt h ds κ = true) : κ (St.set ⟨t, nt, h.new b, ds⟩ d (f h.nx)) = true := by
  cases h with
  | mk ht nx =>
    have e := putS_ok e
    rw [putF_eq, succF_eq] at e
    exact e

variable {E : Env} {rd : Bool} {evk : EvT} {ev : Ev}
def OOk (E : Env) (rd : Bool) (evk : EvT) (ev : Ev) (op : Op) (q : OH) : Prop :=
  ∀ d ty pos af g s κ, q E rd evk d s κ = true → ∃ s', operA E.P E.G rd ev ⟨d, op, ty, pos, af, g⟩ s = .ok s' ∧ κ s' = true
theorem quietH_ok {op : Op} {q : QH} (hq : QOk op q) (he : isE op = false) : OOk E rd evk ev op (quietH q) := by
  intro d ty pos af g s κ e
  obtain ⟨t, nt, h, ds⟩ := s
  obtain ⟨v, h1, e⟩ := hq _ _ _ _ (show q E.P t h (fun v => putS d v t nt h ds κ) = true from e)
  exact ⟨_, by simp only [operA, he, calmA, h1]; rfl, putS_ok e⟩
theorem alloc_none {P : Program} {t : Tr AV} {h : H} {op : Op} (hi : isAlloc op = true) : quietA P t h op = none := by
  cases op <;> simp [isAlloc] at hi <;> rfl
theorem calm_alloc {op : Op} {d : Option Tmp} {ty : TypeId} {pos : String} {af : Array Edge} {g : Option (Nat × Bool)} {s : St} {b : Blk} {f : K → AV} (hi : isAlloc op = true) (h1 : allocA E.P s.t op = some (b, f)) :
    operA E.P E.G rd ev ⟨d, op, ty, pos, af, g⟩ s = .ok (({ s with h := s.h.new b } : St).set d (f s.h.nx)) := by
  have he : isE op = false := by cases op <;> simp [isAlloc] at hi <;> rfl
  simp only [operA, he, calmA, alloc_none hi, h1]
  rfl
theorem allocH_ok {op : Op} (hi : isAlloc op = true) : OOk E rd evk ev op (allocH op) := by
  intro d ty pos af g s κ e
  obtain ⟨t, nt, h, ds⟩ := s
  obtain ⟨⟨b, f⟩, h1, e⟩ := oK_ok (show oK (allocA E.P t op) (fun p => newS p.1 p.2 d t nt h ds κ) = true from e)
  exact ⟨_, calm_alloc hi h1, newS_ok e⟩
theorem allocZ_ok (el : TypeId) : OOk E rd evk ev (.alloc el) (allocZ el) := by
  intro d ty pos af g s κ e
  obtain ⟨t, nt, h, ds⟩ := s
  obtain ⟨b, h1, e⟩ := oK_ok (show oK (zeroBlk E.P el) (fun b => newS b (fun id => .p id 0) d t nt h ds κ) = true from e)
  unfold zeroBlk at h1
  split at h1
  · rename_i z hz
    simp at h1
    subst h1
    exact ⟨_, calm_alloc rfl (by simp only [allocA, hz]), newS_ok e⟩
  · simp at h1
theorem boxH_ok (el : TypeId) (x : Operand) : OOk E rd evk ev (.box el x) (boxH el x) := by
  intro d ty pos af g s κ e
  obtain ⟨t, nt, h, ds⟩ := s
  obtain ⟨v, h1, e⟩ := opvK_ok (x := x) (t := t) e
  rcases aggK_ok e with ⟨cs, rfl, e2⟩ | ⟨_, hc, e⟩
  · rw [lenF_eq] at e2
    have e := e2
    exact ⟨_, calm_alloc rfl (by simp only [allocA, h1]; rfl), newS_ok e⟩
  · exact ⟨_, calm_alloc rfl (by simp only [allocA, h1, hc]; rfl), newS_ok e⟩
theorem act_eff {op : Op} {d : Option Tmp} {ty : TypeId} {pos : String} {af : Array Edge} {g : Option (Nat × Bool)} {s : St} {v : AV} {h' : H} (he : isE op = true) (h1 : effA E.P s.t s.h op = some (v, h')) :
    operA E.P E.G rd ev ⟨d, op, ty, pos, af, g⟩ s = .ok (({ s with h := h' } : St).set d v) := by
  simp only [operA, he, if_true, actA, h1]
theorem effH_ok {op : Op} (he : isE op = true) : OOk E rd evk ev op (effH op) := by
  intro d ty pos af g s κ e
  obtain ⟨t, nt, h, ds⟩ := s
  obtain ⟨⟨v, h'⟩, h1, e⟩ := oK_ok (show oK (effA E.P t h op) (fun p => putS d p.1 t nt p.2 ds κ) = true from e)
  exact ⟨_, act_eff he h1, putS_ok e⟩
theorem storeH_ok (st : TypeId) (a x : Operand) : OOk E rd evk ev (.store st a x) (storeH st a x) := by
  intro d ty pos af g s κ e
  obtain ⟨t, nt, h, ds⟩ := s
  obtain ⟨av, h1, e⟩ := opvK_ok (x := a) (t := t) e
  obtain ⟨id, off, rfl, e⟩ := pK_ok e
  obtain ⟨v, h2, e⟩ := opvK_ok (x := x) e
  obtain ⟨n, hn, e⟩ := oK_ok e
  obtain ⟨cs, el, sz, fz, hg, e⟩ := cellsK_ok e
  obtain ⟨rfl, e⟩ := bnot_ok e
  rcases aggK_ok e with ⟨vs, rfl, e⟩ | ⟨_, hc, e⟩
  · obtain ⟨ho, e⟩ := band_ok e
    obtain ⟨hl, e⟩ := band_ok e
    obtain ⟨r, hr, e⟩ := setAtK_ok _ e
    rw [lenF_eq] at hl
    rw [allOneF_eq] at ho
    rw [updF_eq] at e
    refine ⟨_, act_eff rfl (v := undefA) (h' := h.upd id (.cells r el sz false)) ?_, putS_ok e⟩
    simp only [effA, h1, h2, hn, AV.cells, hl, if_true, setCells, hg, ho, hr]
  · obtain ⟨ho, e⟩ := band_ok e
    obtain ⟨hl, e⟩ := band_ok e
    obtain ⟨r, hr, e⟩ := setAtK_ok _ e
    rw [oneF_eq] at ho
    rw [updF_eq] at e
    refine ⟨_, act_eff rfl (v := undefA) (h' := h.upd id (.cells r el sz false)) ?_, putS_ok e⟩
    have hl : Nat.beq [v].length n = true := hl
    simp only [effA, h1, h2, hn, hc, hl, if_true, setCells, hg, List.all_cons, List.all_nil, ho, Bool.and_self, hr]
theorem two {β : Type} (l : List β) (h : l.length = 2) : ∃ a b, l = [a, b] := by
  match l, h with
  | [a, b], _ => exact ⟨a, b, rfl⟩
theorem appendH_ok (args : Array Operand) (tys : Array TypeId) : OOk E rd evk ev (.call ⟨.builtin .append, args, tys⟩) (appendH ⟨.builtin .append, args, tys⟩ args.toList tys.toList) := by
  intro d ty pos af g s κ e
  obtain ⟨t, nt, h, ds⟩ := s
  obtain ⟨vs, h1, e⟩ := opvsK_ok (l := args.toList) (t := t) e
  obtain ⟨a, h2, e⟩ := nthK_ok _ e
  obtain ⟨x, h3, e⟩ := nthK_ok _ e
  obtain ⟨sty, h4, e⟩ := nthK_ok _ e
  obtain ⟨xty, h5, e⟩ := nthK_ok _ e
  obtain ⟨h6, e6⟩ := band_ok e
  obtain ⟨h7, h9⟩ := band_ok (b := Nat.beq (lenF tys.toList) 2) (c := Nat.beq (lenF vs) 2) h6
  obtain ⟨⟨v, h'⟩, h8, e8⟩ := oK_ok e6
  rw [lenF_eq, Nat.beq_eq] at h9 h7
  obtain ⟨a', x', rfl⟩ := two _ h7
  obtain ⟨y, z, q⟩ := two _ h9
  rw [q] at h4 h5
  simp [nth?] at h2 h3 h4 h5
  subst h2 h3 h4 h5
  exact ⟨_, act_eff rfl (by simp only [effA, h1, q, h8]), putS_ok e8⟩

/-! ### calls -/
theorem resVF_eq (l : List AV) : resVF l = resultV l := by
  match l with
  | [] => rfl
  | [v] => rfl
  | a :: b :: m => rfl
theorem resultsK_ok {P : Program} {t : Tr AV} {h : H} : ∀ {rs : List ResultVar} {κ : List AV → Bool}, resultsK P rs t h κ = true → ∃ l, resultsA P t h rs = some l ∧ κ l = true
  | [], κ, e => ⟨[], rfl, e⟩
  | .tmp x :: rs, κ, e => by
    obtain ⟨v, h1, e⟩ := getK_ok _ (show getK (slotK x) t (fun v => resultsK P rs t h fun l => κ (v :: l)) = true from e)
    obtain ⟨l, h2, e⟩ := resultsK_ok (rs := rs) e
    exact ⟨v :: l, by simp only [resultsA, h1, h2], e⟩
  | .cell a ty :: rs, κ, e => by
    obtain ⟨p, h1, e⟩ := getK_ok _ (show getK (slotK a) t (fun p => loadK ty p P h fun v => resultsK P rs t h fun l => κ (v :: l)) = true from e)
    obtain ⟨v, h3, e⟩ := loadK_ok e
    obtain ⟨l, h2, e⟩ := resultsK_ok (rs := rs) e
    exact ⟨v :: l, by simp only [resultsA, h1, h3, h2], e⟩
theorem initF_eq : ∀ (l : List AV) (n : Nat) (t : Tr AV), initF l n t = initT n l t
  | [], n, t => rfl
  | v :: l, n, t => by
    show initF l (n + 1) (putF (slotK n) (some v) t) = _
    rw [initF_eq l, putF_eq]; rfl
theorem bodyOf_ok {P : Program} {f : FuncId} {nt : Nat} {c : Code} {rs : List ResultVar} (h : bodyOf P f = some (nt, c, rs)) : ∃ fn, P.funcs[f]? = some fn ∧ (fn.name == "runtime.NumGoroutine") = false ∧ fn.body = some c ∧ fn.ntmps = nt ∧ fn.results.toList = rs := by
  unfold bodyOf at h
  split at h
  · simp at h
  · rename_i fn hf
    split at h
    · simp at h
    · rename_i hn
      split at h
      · simp at h
      · rename_i c' hc
        simp at h
        obtain ⟨rfl, rfl, rfl⟩ := h
        exact ⟨fn, hf, by simpa using hn, hc, rfl, rfl⟩
theorem runK_ok (hev : EvOk evk ev) {g : FuncId} {args : List AV} {h : H} {κ : List ResultVar → St → Bool} (e : runK E evk g args h κ = true) :
    ∃ fn c x s, E.P.funcs[g]? = some fn ∧ (fn.name == "runtime.NumGoroutine") = false ∧ fn.body = some c ∧ Nat.blt fn.ntmps args.length = false ∧ ev none c { t := initT 0 args .nil, nt := fn.ntmps, h, ds := [] } = .ok (x, s) ∧ (x = .normal ∨ x = .ret) ∧ κ fn.results.toList s = true := by
  obtain ⟨⟨nt, c, rs⟩, h1, e⟩ := oK_ok e
  obtain ⟨h2, e⟩ := bnot_ok e
  obtain ⟨fn, q1, q2, q3, rfl, rfl⟩ := bodyOf_ok h1
  obtain ⟨x, s, h3, h4⟩ := hev _ _ _ _ _ e
  rw [initF_eq] at h3
  rw [lenF_eq] at h2
  cases x with
  | normal => exact ⟨fn, c, _, s, q1, q2, q3, h2, h3, .inl rfl, h4⟩
  | ret => exact ⟨fn, c, _, s, q1, q2, q3, h2, h3, .inr rfl, h4⟩
  | exit id => exact ff h4
  | goto l => exact ff h4
theorem defersK_ok (hE : EnvOk E) (hev : EvOk evk ev) : ∀ {ds : List (AV × List AV)} {h : H} {κ : H → Bool}, defersK E evk ds h κ = true → ∃ h', defersA E.P E.G ev ds h = .ok h' ∧ κ h' = true
  | [], h, κ, e => ⟨h, rfl, e⟩
  | (d, as) :: ds, h, κ, e => by
    rcases dK_ok (v := d) e with ⟨dk, o, rfl, e⟩ | ⟨g, fi, ca, rfl, e⟩
    · cases o with
      | succ o => exact ff e
      | zero =>
        cases as with
        | cons a as => exact ff e
        | nil =>
          obtain ⟨b, h1, e⟩ := blkK_ok (show blkK dk h (fun b => blkDefd b (defersK E evk ds (killF h dk) κ)) = true from e)
          obtain ⟨rfl, e⟩ := blkDefd_ok e
          rw [killF_eq] at e
          obtain ⟨h', h2, e⟩ := defersK_ok hE hev e
          exact ⟨h', by simp only [defersA, h1, h2], e⟩
    · change (Bool.rec (runK E evk g (appF (appF fi as) ca) h fun rs s => St.rec (fun t _ h ds' => List.rec (resultsK E.P rs t h fun _ => defersK E evk ds h κ) (fun _ _ _ => false) ds') s)
        (Bool.rec false (defersK E evk ds h κ) (E.G.dfr g (appF (appF fi as) ca) h)) (E.pd g) : Bool) = true at e
      rw [appF_eq, appF_eq] at e
      rcases brec_ok _ e with ⟨hp, e⟩ | ⟨hp, e⟩
      · obtain ⟨h1, e⟩ := band_ok e
        obtain ⟨h', h2, e⟩ := defersK_ok hE hev e
        exact ⟨h', by simp only [defersA, h1, if_true, h2], e⟩
      · obtain ⟨fn, c, x, s, q1, q2, q3, q4, q5, q6, e⟩ := runK_ok hev e
        obtain ⟨t, nt, hh, ds'⟩ := s
        cases ds' with
        | cons a m => exact ff e
        | nil =>
          obtain ⟨l, h3, e⟩ := resultsK_ok e
          obtain ⟨h', h2, e⟩ := defersK_ok hE hev e
          refine ⟨h', ?_, e⟩
          rcases q6 with rfl | rfl <;> simp only [defersA, hE.pd g _ _ hp, q1, q2, q3, q4, q5, h3, h2, Bool.false_eq_true, if_false]
theorem bodyK_ok (hE : EnvOk E) (hev : EvOk evk ev) {g : FuncId} {args : List AV} {h : H} {κ : AV → H → Bool} (e : bodyK E evk g args h κ = true) : ∃ v h', bodyA E.P E.G ev g args h = .ok (v, h') ∧ κ v h' = true := by
  obtain ⟨fn, c, x, s, q1, q2, q3, q4, q5, q6, e⟩ := runK_ok hev e
  obtain ⟨t, nt, hh, ds'⟩ := s
  obtain ⟨h', h1, e⟩ := defersK_ok hE hev (show defersK E evk ds' hh (fun h => resultsK E.P fn.results.toList t h fun l => κ (resVF l) h) = true from e)
  obtain ⟨l, h2, e⟩ := resultsK_ok e
  rw [resVF_eq] at e
  refine ⟨_, h', ?_, e⟩
  rcases q6 with rfl | rfl <;> simp only [bodyA, q1, q2, q3, q4, q5, h1, h2, Bool.false_eq_true, if_false]
theorem plugK_ok {r : Option (R (AV × H))} {no : Bool} {κ : AV → H → Bool} (e : plugK r no κ = true) : (∃ v h', r = some (.ok (v, h')) ∧ κ v h' = true) ∨ (r = none ∧ no = true) := by
  cases r with
  | none => exact .inr ⟨rfl, e⟩
  | some r => cases r with
    | ok p => exact .inl ⟨p.1, p.2, rfl, e⟩
    | er n => exact ff e
theorem callK_ok (hE : EnvOk E) (hev : EvOk evk ev) {g : FuncId} {args : List AV} {h : H} {κ : AV → H → Bool} (e : callK E evk g args h κ = true) : ∃ v h', callA E.P E.G ev g args h = .ok (v, h') ∧ κ v h' = true := by
  rcases brec_ok _ e with ⟨hp, e⟩ | ⟨hp, e⟩
  · rcases plugK_ok e with ⟨v, h', h1, e9⟩ | ⟨h0, e9⟩
    · exact ⟨v, h', by simp only [callA, h1], e9⟩
    · obtain ⟨v, h', h1, e⟩ := bodyK_ok hE hev e9
      exact ⟨v, h', by simp only [callA, h0, h1], e⟩
  · obtain ⟨v, h', h1, e⟩ := bodyK_ok hE hev e
    exact ⟨v, h', by simp only [callA, hE.pl _ _ _ hp, h1], e⟩
theorem setParamsK_ok {nt : Nat} : ∀ {ps : List Tmp} {vs : List AV} {t : Tr AV} {κ : Tr AV → Bool}, setParamsK nt ps vs t κ = true → ∃ t', setParams nt ps vs t = some t' ∧ κ t' = true
  | [], [], t, κ, e => ⟨t, rfl, e⟩
  | [], _ :: _, t, κ, e => ff e
  | p :: ps, [], t, κ, e => ff e
  | p :: ps, v :: vs, t, κ, e => by
    obtain ⟨h1, e⟩ := band_ok (show (Bool.rec false (setParamsK nt ps vs (putF (slotK p) (some v) t) κ) (Nat.blt p nt) : Bool) = true from e)
    rw [putF_eq] at e
    obtain ⟨t', h2, e⟩ := setParamsK_ok e
    exact ⟨t', by simp only [setParams, h1, if_true, h2], e⟩
theorem readyF_ok {s : LoopState} (h : readyF s = true) : s = .ready := by cases s <;> simp [readyF] at h <;> rfl
theorem busyF_not {s : LoopState} (h : busyF s = false) : s ≠ .busy := by cases s <;> simp [busyF] at h <;> simp
theorem roundK_ok (hev : EvOk evk ev) {l : K} {args : List AV} {h : H} {κ : AV → H → Bool} (e : roundK evk l args h κ = true) : ∃ v h', roundA ev l args h = .ok (v, h') ∧ κ v h' = true := by
  obtain ⟨b, h1, e⟩ := blkK_ok e
  obtain ⟨r, rfl, e⟩ := blkLoop_ok e
  obtain ⟨t, h2, e⟩ := setParamsK_ok e
  obtain ⟨x, s, h3, e⟩ := hev _ _ _ _ _ e
  cases x with
  | ret => exact ff e
  | exit id => exact ff e
  | goto l => exact ff e
  | normal =>
    obtain ⟨b, h4, e⟩ := blkK_ok (show blkK l s.h _ = true from e)
    obtain ⟨r', rfl, e8⟩ := blkLoop_ok e
    obtain ⟨h5, e7⟩ := band_ok e8
    have h5 := readyF_ok h5
    rw [updF_eq] at e7
    obtain ⟨x, s2, h6, e⟩ := hev _ _ _ _ _ e7
    cases x with
    | normal =>
      obtain ⟨b, h7, e⟩ := blkK_ok (show blkK l s2.h _ = true from e)
      obtain ⟨r'', rfl, e9⟩ := blkLoop_ok e
      cases hds : s2.ds with
      | cons a m => rw [hds] at e9; exact ff e9
      | nil =>
        rw [hds] at e9
        simp only [updF_eq] at e9
        exact ⟨_, _, by simp only [roundA, h1, h2, h3, h4, h5, h6, h7, hds], e9⟩
    | exit id =>
      obtain ⟨b, h7, e⟩ := blkK_ok (show blkK l s2.h _ = true from e)
      obtain ⟨r'', rfl, e9⟩ := blkLoop_ok e
      cases hds : s2.ds with
      | cons a m => rw [hds] at e9; exact ff e9
      | nil =>
        rw [hds] at e9
        simp only [updF_eq] at e9
        exact ⟨_, _, by simp only [roundA, h1, h2, h3, h4, h5, h6, h7, hds, jumpOf], e9⟩
    | goto id =>
      obtain ⟨b, h7, e⟩ := blkK_ok (show blkK l s2.h _ = true from e)
      obtain ⟨r'', rfl, e9⟩ := blkLoop_ok e
      cases hds : s2.ds with
      | cons a m => rw [hds] at e9; exact ff e9
      | nil =>
        rw [hds] at e9
        simp only [updF_eq] at e9
        exact ⟨_, _, by simp only [roundA, h1, h2, h3, h4, h5, h6, h7, hds, jumpOf], e9⟩
    | ret =>
      obtain ⟨b, h7, e⟩ := blkK_ok (show blkK l s2.h _ = true from e)
      obtain ⟨r'', rfl, e9⟩ := blkLoop_ok e
      cases hds : s2.ds with
      | cons a m => rw [hds] at e9; exact ff e9
      | nil =>
        rw [hds] at e9
        simp only [updF_eq] at e9
        exact ⟨_, _, by simp only [roundA, h1, h2, h3, h4, h5, h6, h7, hds, jumpOf], e9⟩
theorem callVK_ok (hE : EnvOk E) (hev : EvOk evk ev) {f : AV} {args : List AV} {h : H} {κ : AV → H → Bool} (e : callVK E evk f args h κ = true) : ∃ v h', callV E.P E.G ev f args h = .ok (v, h') ∧ κ v h' = true := by
  rcases fnK_ok e with ⟨g, a, b, rfl, e9⟩ | ⟨y, l, rfl, e9⟩
  · rw [appF_eq, appF_eq] at e9
    obtain ⟨v, h', h1, e⟩ := callK_ok hE hev e9
    exact ⟨v, h', by simp only [callV, h1], e⟩
  · obtain ⟨v, h', h1, e⟩ := roundK_ok hev e9
    exact ⟨v, h', by simp only [callV, h1], e⟩
theorem callH_ok (hE : EnvOk E) (hev : EvOk evk ev) (c : Call) : OOk E rd evk ev (.call c) (callH c) := by
  obtain ⟨ce, args, tys⟩ := c
  cases ce with
  | invoke r m => intro d ty pos af g s κ e; exact ff e
  | value f =>
    intro d ty pos af g s κ e
    obtain ⟨t, nt, h, ds⟩ := s
    obtain ⟨fv, h1, e⟩ := opvK_ok (x := f) (t := t) e
    obtain ⟨as, h2, e⟩ := opvsK_ok e
    obtain ⟨v, h', h3, e⟩ := callVK_ok hE hev e
    refine ⟨_, ?_, putS_ok e⟩
    simp only [operA, isE, if_true, actA, effA, h1, h2, h3]
  | builtin b =>
    have key : bKind b = 0 ∧ isE (.call ⟨.builtin b, args, tys⟩) = true ∨ b = .append ∨ isE (.call ⟨.builtin b, args, tys⟩) = false ∧ bKind b = 2 := by
      cases b <;> first | exact .inr (.inl rfl) | exact .inl ⟨rfl, rfl⟩ | exact .inr (.inr ⟨rfl, rfl⟩)
    have hb : callH ⟨.builtin b, args, tys⟩ = builtH ⟨.builtin b, args, tys⟩ b := rfl
    rw [hb]
    rcases key with ⟨k, he⟩ | rfl | ⟨he, k⟩
    · have : builtH ⟨.builtin b, args, tys⟩ b = effH (.call ⟨.builtin b, args, tys⟩) := by unfold builtH; rw [k]; rfl
      rw [this]
      exact effH_ok he
    · exact appendH_ok args tys
    · have : builtH ⟨.builtin b, args, tys⟩ b = quietH (qCall ⟨.builtin b, args, tys⟩) := by unfold builtH; rw [k]; rfl
      rw [this]
      exact quietH_ok (qCall_ok _) he
theorem deferH_ok (c : Call) : OOk E rd evk ev (.defer c) (deferH c) := by
  obtain ⟨ce, args, tys⟩ := c
  cases ce with
  | invoke r m => intro d ty pos af g s κ e; exact ff e
  | builtin b => intro d ty pos af g s κ e; exact ff e
  | value f =>
    intro d ty pos af g s κ e
    obtain ⟨t, nt, h, ds⟩ := s
    obtain ⟨hr, e⟩ := bnot_ok (c := rd) (show (Bool.rec (opvK f t fun fv => opvsK args.toList t fun as => AV.dK fv (fun _ _ => false) fun g a b => putS d undefA t nt h ((.fn (.func g) a b, as) :: ds) κ) false rd : Bool) = true from e)
    obtain ⟨fv, h1, e⟩ := opvK_ok (x := f) (t := t) e
    obtain ⟨as, h2, e⟩ := opvsK_ok e
    rcases dK_ok e with ⟨_, _, _, e9⟩ | ⟨g, a, b, rfl, e9⟩
    · exact ff e9
    · refine ⟨_, ?_, putS_ok e9⟩
      simp only [operA, isE, if_true, actA, effA, h1, h2, hr, Bool.false_eq_true, if_false]
theorem opK_ok (hE : EnvOk E) (hev : EvOk evk ev) (op : Op) : OOk E rd evk ev op (opK op) := by
  cases op
  case move x => exact quietH_ok (qMove_ok x) rfl
  case assign x => exact quietH_ok (qAssign_ok x) rfl
  case pick a b c => exact quietH_ok (qPick_ok a b c) rfl
  case nilCheck x => exact quietH_ok (qNil_ok x) rfl
  case binOp a b c d e => exact quietH_ok (qBin_ok a b c d e) rfl
  case unOp a b c => exact quietH_ok (qUn_ok a b c) rfl
  case convert a b c => exact quietH_ok (qConv_ok a b c) rfl
  case fieldAddr a b c => exact quietH_ok (qFieldAddr_ok a b c) rfl
  case indexAddr a b c => exact quietH_ok (qIndexAddr_ok a b c) rfl
  case index a b c => exact quietH_ok (qIndex_ok a b c) rfl
  case load a b => exact quietH_ok (qLoad_ok a b) rfl
  case extract a b => exact quietH_ok (qExtract_ok a b) rfl
  case makeInterface => exact quietH_ok (qSlow_ok _) rfl
  case makeFunc => exact quietH_ok (qSlow_ok _) rfl
  case slice => exact quietH_ok (qSlow_ok _) rfl
  case field => exact quietH_ok (qSlow_ok _) rfl
  case lookup => exact quietH_ok (qSlow_ok _) rfl
  case typeAssert => exact quietH_ok (qSlow_ok _) rfl
  case build => exact quietH_ok (qSlow_ok _) rfl
  case alloc e => exact allocZ_ok e
  case box e x => exact boxH_ok e x
  case buildSlice => exact allocH_ok rfl
  case makeMap => exact allocH_ok rfl
  case makeSlice => exact allocH_ok rfl
  case store a b c => exact storeH_ok a b c
  case mapUpdate => exact effH_ok rfl
  case insert => exact effH_ok rfl
  case range => exact effH_ok rfl
  case next => exact effH_ok rfl
  case entry => exact effH_ok rfl
  case call c => exact callH_ok hE hev c
  case defer c => exact deferH_ok c
  all_goals (intro d ty pos af g s κ e; exact ff e)
end Go.Ev
