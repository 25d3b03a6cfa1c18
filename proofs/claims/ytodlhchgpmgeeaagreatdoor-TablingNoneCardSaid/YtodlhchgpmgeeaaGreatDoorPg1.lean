/-
  PLUG-INS for the evaluator: what they answer, and that they are right wherever the walks of the functions are: (*strings.Builder).copyCheck, String; slices.Insert at []string.
-/
import Derived.Test.YtodlhchgpmgeeaaGreatDoorEv31
import Derived.Laws.IdiomCopy
import Derived.Lib.Builder
namespace Go.Ev
open Go.RowKit
set_option linter.unusedSimpArgs false
set_option linter.unusedVariables false

variable {P : Program} {B : Nat} {ρ : Rho} {h : H}

theorem nth_get {α : Type} : ∀ (l : List α) (n : Nat), nth? l n = l[n]?
  | [], n => by simp [nth?]
  | a :: l, 0 => rfl
  | a :: l, n + 1 => by simp [nth?, nth_get l n]
theorem take_list {α : Type} : ∀ (n : Nat) (l r : List α), take? n l = some r → r = l.take n ∧ n ≤ l.length
  | 0, l, r, h => by simp [take?] at h; simp [h]
  | n + 1, [], r, h => by simp [take?] at h
  | n + 1, a :: l, r, h => by
    simp only [take?] at h
    split at h
    · rename_i r' hr
      simp at h
      obtain ⟨h1, h2⟩ := take_list n l r' hr
      subst h
      exact ⟨by simp [h1], by simp; omega⟩
    · simp at h
theorem drop_list {α : Type} : ∀ (n : Nat) (l : List α), drop n l = l.drop n
  | 0, l => by cases l <;> rfl
  | n + 1, [] => rfl
  | n + 1, a :: l => by simp [drop, drop_list n l]
theorem concs_get' {ρ : Rho} {vs : List AV} {ys : List Value} (hv : concs ρ vs = some ys) {i : Nat} {v : AV} (hi : vs[i]? = some v) : ∃ y, ys[i]? = some y ∧ conc ρ v = some y := by
  induction vs generalizing ys i with
  | nil => simp at hi
  | cons a l ih =>
    obtain ⟨x, y, hx, hy, rfl⟩ := concs_cons hv
    cases i with
    | zero => simp at hi; subst hi; exact ⟨x, rfl, hx⟩
    | succ i => exact ih hy (by simpa using hi)
theorem concs_take' {ρ : Rho} {vs : List AV} {ys : List Value} (hv : concs ρ vs = some ys) (n : Nat) : concs ρ (vs.take n) = some (ys.take n) := by
  induction vs generalizing ys n with
  | nil => simp [concs] at hv; subst hv; simp [concs]
  | cons a l ih =>
    obtain ⟨x, y, hx, hy, rfl⟩ := concs_cons hv
    cases n with
    | zero => simp [concs]
    | succ n => exact concs_cons_mk hx (ih hy n)
theorem concs_drop' {ρ : Rho} {vs : List AV} {ys : List Value} (hv : concs ρ vs = some ys) (n : Nat) : concs ρ (vs.drop n) = some (ys.drop n) := by
  induction vs generalizing ys n with
  | nil => simp [concs] at hv; subst hv; simp [concs]
  | cons a l ih =>
    obtain ⟨x, y, hx, hy, rfl⟩ := concs_cons hv
    cases n with
    | zero => simpa using hv
    | succ n => exact ih hy n
theorem Tr.put_put {α : Type} (k : K) : ∀ (a b : Option α) (t : Tr α), (t.put k a).put k b = t.put k b := by
  induction k with
  | h => intro a b t; rfl
  | o k ih => intro a b t; simp [Tr.put, Tr.left, Tr.right, Tr.root, ih]
  | i k ih => intro a b t; simp [Tr.put, Tr.left, Tr.right, Tr.root, ih]

/-! ### copyCheck -/
def okLie (P : Program) (bt el : TypeId) (o : Nat) : Bool := Nat.blt o (P.cellsOf el) && liesAt P P.depth el 1 o bt 1
def ccA (P : Program) (bt : TypeId) (args : List AV) (h : H) : Option (R (AV × H)) :=
  match args with
  | [.p id o] => (match h.t.get id with
    | some (.cells cs el sz false) => (match nth? cs o with
      | some (.p id' o') => if K.beq id id' && Nat.beq o o' then some (.ok (.tup [], h)) else some (.er 201)
      | some .pn => if okLie P bt el o && Nat.ble (P.cellsOf el) cs.length then (match setCells h id o [.p id o] with | some h' => some (.ok (.tup [], h')) | none => some (.er 202)) else some (.er 203)
      | _ => some (.er 204))
    | _ => some (.er 205))
  | _ => some (.er 206)
theorem rowAt_count {f : TypeId → Bool} {d : Nat} {el : TypeId} {off n c : Nat} (hc : 1 ≤ c) (h : rowAt P f d el 1 off n = true) : rowAt P f d el c off n = true := by
  cases d with
  | zero => simp [rowAt] at h
  | succ d =>
    simp only [rowAt] at h ⊢
    split at h
    · simp at h
    · rename_i hs
      rw [if_neg hs]
      simp only [Bool.or_eq_true, Bool.and_eq_true, decide_eq_true_eq] at h ⊢
      rcases h with ⟨⟨h1, h2⟩, h3⟩ | ⟨h1, h2⟩
      · exact .inl ⟨⟨h1, by omega⟩, h3⟩
      · exact .inr ⟨by omega, h2⟩
theorem liesAt_count {el : TypeId} {off c : Nat} (hc : 1 ≤ c) : ∀ {d n : Nat} {u : TypeId}, liesAt P d el 1 off u n = true → liesAt P d el c off u n = true
  | 0, n, u, h => by simp [liesAt] at h
  | d + 1, n, u, h => by
    simp only [liesAt, Bool.or_eq_true] at h ⊢
    rcases h with h | h
    · exact .inl (rowAt_count hc h)
    · right
      split at h
      · exact liesAt_count hc h
      · simp at h
theorem storeOne {w : World} {b off : Nat} {c : Array Value} {el : TypeId} {fr : Nat × Nat} (hb : w.heap[b]? = some (.cells c el fr)) (hf : ¬ (fr.1 ≤ off ∧ off < fr.2)) (hl : off < c.size) {y : Value} (hy : y.oneCell' = true) :
    (storeCells ⟨b, off, none⟩ [y]).run P w = .ok () (w.setCell ⟨b, off, none⟩ y) := by
  have hcell : w.cell? ⟨b, off, none⟩ = some (c[off]'hl) := by rw [cells_at hb, Array.getElem?_eq_getElem hl]
  have hfr := frozen_at hb off hf
  simp only [storeCells, Sem.run_bind, add_off, Nat.add_zero]
  rw [run_store P w _ y _ hy, hcell]
  simp only [hfr, Bool.false_eq_true, if_false, Result.andThen_ok, Sem.run_pure]
theorem cc_good {f : FuncId} {bt : TypeId} (enter : ∀ args w, (callFunc f args).run P w = .ok (.enter f args) w)
    (used : ∀ b o w, w.cell? ⟨b, o, none⟩ = some (.pointer (some ⟨b, o, none⟩)) → Calls P f #[.pointer (some ⟨b, o, none⟩)] w fun e w' => e = .returned (.tuple #[]) ∧ w' = w)
    (fresh : ∀ b o el n w, w.cell? ⟨b, o, none⟩ = some (.pointer none) → w.shape? b = some (el, n) → o < n → liesAt P P.depth el (n / P.cellsOf el) o bt 1 = true → w.frozen? ⟨b, o, none⟩ = false →
      Calls P f #[.pointer (some ⟨b, o, none⟩)] w fun e w' => e = .returned (.tuple #[]) ∧ w' = w.setCell ⟨b, o, none⟩ (.pointer (some ⟨b, o, none⟩)))
    {args : List AV} {v : AV} {h' : H} (ha : ccA P bt args h = some (.ok (v, h'))) {w : World} {as : List Value} (hs : Sim B ρ h w.heap) (hc : concs ρ args = some as) : CalleeOk P f as.toArray w (Ret B ρ h w v h') := by
  refine .inr ⟨enter _ _, callsIn_wide.2 ?_⟩
  unfold ccA at ha
  split at ha
  case h_2 => simp at ha
  rename_i id o
  split at ha
  case h_2 => simp at ha
  rename_i cs el sz hg
  simp only [concs, conc] at hc
  cases hbe : ρ id with
  | none => rw [hbe] at hc; simp at hc
  | some be =>
    rw [hbe] at hc
    simp at hc
    subst hc
    obtain ⟨c, el', fr, vs, h1, h2, h3, h4, h5, h6⟩ := hs.blk id _ be hg hbe
    obtain ⟨rfl, hfr⟩ := h6 rfl
    have cell (y : AV) (hy : nth? cs o = some y) : ∃ x, conc ρ y = some x ∧ w.cell? ⟨be.1, o, none⟩ = some x ∧ o < cs.length := by
      rw [nth_get] at hy
      obtain ⟨x, q1, q2⟩ := concs_get' h2 hy
      exact ⟨x, q2, by rw [cells_at h1]; exact h3 _ _ q1, (List.getElem?_eq_some_iff.1 hy).1⟩
    split at ha
    · rename_i id' o' hn
      split at ha
      case isFalse => simp at ha
      rename_i hq
      simp only [Bool.and_eq_true, Nat.beq_eq, K.beq_iff] at hq
      obtain ⟨rfl, rfl⟩ := hq
      simp at ha
      obtain ⟨rfl, rfl⟩ := ha
      obtain ⟨x, q1, q2, _⟩ := cell _ hn
      simp only [conc, hbe, Option.map_some, Option.some.injEq] at q1
      subst q1
      refine (used be.1 o w q2).mono ?_
      rintro e w' ⟨rfl, rfl⟩
      exact ⟨ρ, _, rfl, by simp [conc, concs], Ext.refl hs⟩
    · rename_i hn
      split at ha
      case isFalse => simp at ha
      rename_i hq
      simp only [Bool.and_eq_true, okLie] at hq
      obtain ⟨⟨q1, q2⟩, q3⟩ := hq
      have q1 : o < P.cellsOf el' := Nat.le_of_ble_eq_true q1
      have q3 : P.cellsOf el' ≤ cs.length := Nat.le_of_ble_eq_true q3
      split at ha
      case h_2 => simp at ha
      rename_i h2' hset
      simp at ha
      obtain ⟨rfl, rfl⟩ := ha
      obtain ⟨x, p1, p2, p3⟩ := cell _ hn
      simp only [conc, Option.some.injEq] at p1
      subst p1
      have hv : concs ρ [.p id o] = some [.pointer (some ⟨be.1, o, none⟩)] := by simp [concs, conc, hbe]
      obtain ⟨w', r1, r2⟩ := setCells_ok (P := P) hs hbe hset hv
      rw [storeOne h1 (hfr o) (by omega) rfl] at r1
      injection r1 with _ r1
      refine (fresh be.1 o el' c.size w p2 (by simp [World.shape?, h1]) (by omega) (liesAt_count (el := el') (by
        rw [Nat.one_le_div_iff (by omega)]; omega) q2) (frozen_at h1 o (hfr o))).mono ?_
      rintro e w' ⟨rfl, rfl⟩
      rw [r1]
      exact ⟨ρ, _, rfl, by simp [conc, concs], r2⟩
    · simp at ha

/-! ### String -/
def codeA : List AV → Option Nat
  | [] => some 0
  | .i .u8 (.ofNat n) :: l => if Nat.blt n 256 then (match codeA l with | some c => some (n + 256 * c) | none => none) else none
  | _ => none
def strA (byte : TypeId) (args : List AV) (h : H) : Option (R (AV × H)) :=
  match args with
  | [.p id o] => (match h.t.get id with
    | some (.cells cs _ _ _) => (match nth? cs (o + 1) with
      | some (.sl g 0 0 l none) => (match h.t.get g with
        | some (.cells ds el 1 false) => if Nat.beq el byte && Nat.blt 0 l && Nat.ble l 1000000000 then (match take? l ds with
            | some bs => (match codeA bs with | some c => some (.ok (.s l c, h.upd g (.cells ds el 1 true))) | none => some (.er 210))
            | none => some (.er 211)) else some (.er 212)
        | _ => some (.er 213))
      | _ => some (.er 214))
    | _ => some (.er 215))
  | _ => some (.er 216)
theorem codeA_ok : ∀ {cs : List AV} {c : Nat}, codeA cs = some c → ∃ l : List UInt8, l.length = cs.length ∧ enc l = c ∧ ∀ (j : Nat) (x : UInt8), l[j]? = some x → cs[j]? = some (.i .u8 (x.toNat : Int))
  | [], c, h => by simp [codeA] at h; subst h; exact ⟨[], rfl, rfl, by simp⟩
  | a :: cs, c, h => by
    unfold codeA at h
    split at h
    · simp_all
    · rename_i n l heq
      simp only [List.cons.injEq] at heq
      obtain ⟨rfl, rfl⟩ := heq
      split at h
      case isFalse => simp at h
      rename_i hn
      split at h
      case h_2 => simp at h
      rename_i c' hc'
      simp at h
      subst h
      obtain ⟨l, h1, h2, h3⟩ := codeA_ok hc'
      have hn : n < 256 := Nat.le_of_ble_eq_true hn
      have hm : (UInt8.ofNat n).toNat = n := by simp [UInt8.toNat_ofNat']; omega
      refine ⟨UInt8.ofNat n :: l, by simp [h1], by simp [enc, h2, hm], ?_⟩
      intro j x hj
      cases j with
      | zero => simp only [List.getElem?_cons_zero, Option.some.injEq] at hj; subst hj; rw [hm]; rfl
      | succ j => simpa using h3 j x (by simpa using hj)
    · simp at h
theorem freeze_but (w : World) (b n : Nat) : SameBut b w (w.freeze ⟨b, 0, none⟩ n) := by
  unfold World.freeze
  split
  · exact SameBut.refl _ _
  · refine ⟨rfl, rfl, rfl, by simp, fun k hk => ?_⟩
    simp only [Array.getElem?_modify]
    rw [if_neg (by omega)]
theorem freeze_get {w : World} {b : Nat} {c : Array Value} {el : TypeId} {fr : Nat × Nat} (hb : w.heap[b]? = some (.cells c el fr)) (n : Nat) : ∃ fr', (w.freeze ⟨b, 0, none⟩ n).heap[b]? = some (.cells c el fr') := by
  unfold World.freeze
  split
  · exact ⟨fr, hb⟩
  · exact ⟨_, by simp only [Array.getElem?_modify, if_true, hb, Option.map_some]; rfl⟩
theorem str_good {f : FuncId} {byte : TypeId} (enter : ∀ args w, (callFunc f args).run P w = .ok (.enter f args) w)
    (any : ∀ (b o g n cap : Nat) (l : List UInt8) (w : World), w.cell? ⟨b, o + 1, none⟩ = some (.slice (some ⟨g, 0, none⟩) l.length cap) → l ≠ [] → cap ≠ 0 → w.shape? g = some (byte, n) → l.length ≤ n → l.length ≤ 9223372036854775807 →
      (∀ j x, l[j]? = some x → w.cell? ⟨g, j, none⟩ = some (.int .u8 x.toNat)) →
      Calls P f #[.pointer (some ⟨b, o, none⟩)] w fun e w' => e = .returned (.string ⟨l.toArray⟩) ∧ w' = w.drew.freeze ⟨g, 0, none⟩ l.length)
    {args : List AV} {v : AV} {h' : H} (ha : strA byte args h = some (.ok (v, h'))) {w : World} {as : List Value} (hs : Sim B ρ h w.heap) (hc : concs ρ args = some as) : CalleeOk P f as.toArray w (Ret B ρ h w v h') := by
  refine .inr ⟨enter _ _, callsIn_wide.2 ?_⟩
  unfold strA at ha
  split at ha
  case h_2 => simp at ha
  rename_i id o
  split at ha
  case h_2 => simp at ha
  rename_i cs el0 sz0 fz0 hg
  simp only [concs, conc] at hc
  cases hbe : ρ id with
  | none => rw [hbe] at hc; simp at hc
  | some be =>
    rw [hbe] at hc
    simp at hc
    subst hc
    obtain ⟨c, el', fr, vs, h1, h2, h3, h4, h5, h6⟩ := hs.blk id _ be hg hbe
    split at ha
    case h_2 => simp at ha
    rename_i g l hn
    rw [nth_get] at hn
    obtain ⟨x, q2, q1⟩ := concs_get' h2 hn
    simp only [conc] at q1
    cases hge : ρ g with
    | none => rw [hge] at q1; simp at q1
    | some ge =>
      rw [hge] at q1
      simp at q1
      subst q1
      split at ha
      case h_2 => simp at ha
      rename_i ds el hg2
      obtain ⟨c2, el2, fr2, vs2, b1, b2, b3, b4, b5, b6⟩ := hs.blk g _ ge hg2 hge
      obtain ⟨rfl, hfr⟩ := b6 rfl
      split at ha
      case isFalse => simp at ha
      rename_i hq
      simp only [Bool.and_eq_true, Nat.beq_eq] at hq
      obtain ⟨⟨rfl, p1⟩, p2⟩ := hq
      have p1 : 0 < l := Nat.le_of_ble_eq_true p1
      have p2 : l ≤ 1000000000 := Nat.le_of_ble_eq_true p2
      split at ha
      case h_2 => simp at ha
      rename_i bs hbs
      split at ha
      case h_2 => simp at ha
      rename_i code hcode
      simp at ha
      obtain ⟨rfl, rfl⟩ := ha
      obtain ⟨rfl, hl⟩ := take_list _ _ _ hbs
      obtain ⟨bl, k1, k2, k3⟩ := codeA_ok hcode
      have k1 : bl.length = l := by rw [k1, List.length_take]; omega
      have hvl := concs_length _ _ b2
      have cells : ∀ j x, bl[j]? = some x → w.cell? ⟨ge.1, j, none⟩ = some (.int .u8 x.toNat) := by
        intro j x hj
        have hk := k3 j x hj
        have hjl : j < l := by have := (List.getElem?_eq_some_iff.1 hj).1; omega
        rw [List.getElem?_take, if_pos hjl] at hk
        obtain ⟨y, q3, q4⟩ := concs_get' b2 hk
        simp only [conc, Option.some.injEq] at q4
        subst q4
        rw [cells_at b1]
        exact b3 _ _ q3
      have hstr : strOf l code = ⟨bl.toArray⟩ := by unfold strOf; rw [← k2, ← k1, bytesOf_enc]
      refine (any be.1 o ge.1 c2.size ge.2 bl w (by rw [cells_at h1, k1]; exact h3 _ _ q2) (by intro e; rw [e] at k1; simp at k1; omega) (by omega) (by simp [World.shape?, b1]) (by omega) (by omega) cells).mono ?_
      rintro e w' ⟨rfl, rfl⟩
      obtain ⟨fr', hf'⟩ := freeze_get (w := w.drew) (b := ge.1) (c := c2) (fr := fr2) b1 bl.length
      refine ⟨ρ, _, rfl, by simp only [conc, hstr], Ext.drew (Ext.upd (w := w.drew) hs hg2 hge rfl (freeze_but _ _ _) ⟨c2, _, fr', vs2, hf', b2, b3, b4, b5, by simp⟩)⟩

/-! ### slices.Insert at []string -/
def insA (str : TypeId) (args : List AV) (h : H) : Option (R (AV × H)) :=
  match args with
  | [.sl id 0 0 n none, .i .i64 (.ofNat i), .sl vid voff _ m _] => (match h.t.get id, h.t.get vid with
    | some (.cells cs el 1 false), some (.cells ds _ _ false) =>
      if Nat.beq el str && !(K.beq id vid) && Nat.blt i n && Nat.blt 0 m && Nat.ble (n + m) 100000 then
        (match take? n cs, take? m (drop voff ds) with
        | some xs, some ys => if xs.all oneCell && ys.all oneCell then some (.ok (.sl h.nx 0 0 (n + m) none, (h.kill id).new (.cells (xs.take i ++ ys ++ xs.drop i) el 1 false))) else some (.er 220)
        | _, _ => none)
      else none
    | _, _ => none)
  | _ => none
theorem setCells_get {b : Nat} {el : TypeId} {fr : Nat × Nat} : ∀ (ys : List Value) (off : Nat) (w : World) (c : Array Value), w.heap[b]? = some (.cells c el fr) → off + ys.length ≤ c.size →
    ∃ c', (w.setCells b off ys).heap[b]? = some (.cells c' el fr) ∧ c'.toList = splice off ys c.toList ∧ SameBut b w (w.setCells b off ys)
  | [], off, w, c, hb, hl => ⟨c, hb, by simp [splice], SameBut.refl _ _⟩
  | y :: ys, off, w, c, hb, hl => by
    simp at hl
    obtain ⟨c', h1, h2, h3⟩ := setCells_get ys (off + 1) (w.setCell ⟨b, off, none⟩ y) (c.setIfInBounds off y) (setCell_get hb _ _) (by simp; omega)
    refine ⟨c', h1, ?_, (setCell_but w b off y).trans h3⟩
    rw [h2, ← splice_cons off y ys c.toList (by simp; omega)]
    simp
theorem ins_splice {A xs ys : List Value} {n m i : Nat} (hx : A.take n = xs) (hn : n ≤ A.length) (hy : ys.length = m) (hi : i < n) (hr : n + m ≤ A.length) :
    splice i ys (splice (i + m) (xs.drop i) A) = (xs.take i ++ ys ++ xs.drop i) ++ A.drop (n + m) := by
  have hxl : xs.length = n := by rw [← hx, List.length_take]; omega
  have e1 : (A.take (i + m) ++ xs.drop i ++ A.drop (i + m + (xs.drop i).length)).take i = xs.take i := by
    rw [List.append_assoc, List.take_append_of_le_length (by simp; omega), List.take_take, ← hx, List.take_take]
    congr 1
    omega
  have e2 : (A.take (i + m) ++ xs.drop i ++ A.drop (i + m + (xs.drop i).length)).drop (i + m) = xs.drop i ++ A.drop (n + m) := by
    rw [List.append_assoc, List.drop_left' (by simp; omega)]
    congr 2
    simp
    omega
  simp only [splice]
  rw [e1, hy, e2]
  simp [List.append_assoc]
theorem prefix_get {l c : List Value} {t : List Value} (h : c = l ++ t) : ∀ (i : Nat) (v : Value), l[i]? = some v → c[i]? = some v := by
  intro i v hi
  rw [h, List.getElem?_append_left (List.getElem?_eq_some_iff.1 hi).1]
  exact hi
theorem prefix_arr {l : List Value} {c : Array Value} {t : List Value} (h : c.toList = l ++ t) : ∀ (i : Nat) (v : Value), l[i]? = some v → c[i]? = some v := by
  intro i v hi
  rw [← Array.getElem?_toList]
  exact prefix_get h i v hi
end Go.Ev
