/-
  THE EVALUATOR's SOUNDNESS, part 5: the operations that look at most: the rest of them.
-/
import Derived.Test.YtodlhchgpmgeeaaGreatDoorEv5
namespace Go.Ev
open Go.RowKit
set_option linter.unusedSimpArgs false

variable {P : Program} {B : Nat} {ρ : Rho} {h : H}

theorem conv_ok (src dst : TypeId) (x v : AV) (hv : convA P src dst x = some v) (x' : Value) (w : World) (hx : conc ρ x = some x') : ∃ v', conc ρ v = some v' ∧ (convert src dst x').run P w = .ok v' w := by
  unfold convA at hv
  split at hv
  case h_1 d k k' n hs hd =>
    simp [conc] at hx; subst hx; simp at hv; subst hv
    exact ⟨_, rfl, by simp [convert, run_desc w hs, run_desc w hd, Conv.intToInt]⟩
  case h_2 d l c hs hd =>
    simp [conc] at hx; subst hx; simp at hv; subst hv
    refine ⟨_, rfl, ?_⟩
    cases d <;> simp [convert, run_desc w hs, run_desc w hd]
  case h_3 e hs hd =>
    simp [conc] at hx; subst hx; simp at hv; subst hv
    exact ⟨_, rfl, by simp [convert, Conv.unsafePointer, run_desc w hs, run_desc w hd]⟩
  case h_4 e hs hd =>
    simp [conc] at hx; subst hx; simp at hv; subst hv
    exact ⟨_, rfl, by simp [convert, Conv.unsafePointer, run_desc w hs, run_desc w hd]⟩
  case h_5 => simp at hv

theorem mkIface_ok (t : TypeId) {d : TypeDesc} (hd : desc P t = some d) (hn : ∀ ms, d ≠ .interface ms) (x : Value) (w : World) : (Instr.makeInterface t x).run P w = .ok (.iface t x) w := by
  cases d <;> simp [Instr.makeInterface, run_desc w hd]
  exact absurd rfl (hn _)

theorem natOf_ok {x : AV} {n : Nat} {x' : Value} (h : natOf x = some n) (hx : conc ρ x = some x') : ∃ k, x' = .int k n := by
  unfold natOf at h
  split at h
  · simp at h; subst h; simp [conc] at hx; subst hx; exact ⟨_, rfl⟩
  · simp at h

/-- a bound that is given -/
theorem bound_ok {a : AV} {d y n Y : Nat} {a' : Value} (code : BoundsCode) (w : World) (h : boundA (some a) d y = some n) (ha : conc ρ a = some a') (hy : y ≤ Y) :
    (Instr.sliceBound a' Y code).run P w = .ok n w ∧ n ≤ y := by
  simp only [boundA] at h
  cases h1 : natOf a with
  | none => rw [h1] at h; simp at h
  | some m =>
    rw [h1] at h
    simp only at h
    split at h
    · rename_i hle
      simp at hle h
      subst h
      obtain ⟨k, rfl⟩ := natOf_ok h1 ha
      refine ⟨?_, hle⟩
      rw [run_sliceBound w k m Y code (by omega) (by omega)]
      simp
    · simp at h

/-- a bound, given or not: the abstract one and the real one -/
def OptOk (ρ : Rho) : Option AV → Option Value → Prop
  | none, none => True
  | some a, some a' => conc ρ a = some a'
  | _, _ => False

theorem bounds_ok {lo hi mx : Option AV} {lo' hi' mx' : Option Value} {isSlice : Bool} {len cap capY l h m : Nat} (w : World)
    (hlo : OptOk ρ lo lo') (hhi : OptOk ρ hi hi') (hmx : OptOk ρ mx mx') (hno : ¬ (mx.isSome = true ∧ hi.isNone = true))
    (h1 : mx = none ∧ m = cap ∨ mx.isSome = true ∧ boundA mx 0 capY = some m ∧ capY ≤ cap)
    (h2 : ∃ y, boundA hi len y = some h ∧ (y ≤ m)) (h3 : boundA lo 0 h = some l) :
    (Instr.sliceBounds isSlice len cap lo' hi' mx').run P w = .ok (l, h, m) w := by
  obtain ⟨y, h2, hy⟩ := h2
  have r3 : ∀ code, ∃ X : Sem Nat, (match lo' with | some v => Instr.sliceBound v h code | none => pure 0) = X ∧ X.run P w = .ok l w := by
    intro code
    cases lo with
    | none => cases lo' with
      | none => simp [boundA] at h3; subst h3; exact ⟨_, rfl, rfl⟩
      | some v => exact hlo.elim
    | some a => cases lo' with
      | none => exact hlo.elim
      | some v => exact ⟨_, rfl, (bound_ok code w h3 hlo (Nat.le_refl _)).1⟩
  cases mx with
  | none =>
    obtain rfl : m = cap := by rcases h1 with ⟨_, e⟩ | ⟨e, _⟩ <;> simp_all
    cases mx' with
    | some v => exact hmx.elim
    | none =>
      cases hi with
      | none =>
        cases hi' with
        | some v => exact hhi.elim
        | none =>
          simp [boundA] at h2
          subst h2
          obtain ⟨X, e1, e2⟩ := r3 .sliceB
          cases lo' <;> simp only at e1 <;> subst e1 <;> first | (simpa [Instr.sliceBounds] using e2) | simp [Instr.sliceBounds, e2]
      | some a =>
        cases hi' with
        | none => exact hhi.elim
        | some v =>
          obtain ⟨X, e1, e2⟩ := r3 .sliceB
          have e3 := fun code => (bound_ok (P := P) code w h2 hhi hy).1
          cases lo' <;> simp only at e1 <;> subst e1 <;> first | (simpa [Instr.sliceBounds, e3] using e2) | simp [Instr.sliceBounds, e3, e2]
  | some am =>
    obtain ⟨h1, hc⟩ : boundA (some am) 0 capY = some m ∧ capY ≤ cap := by rcases h1 with ⟨e, _⟩ | ⟨_, e⟩ <;> simp_all
    cases mx' with
    | none => exact hmx.elim
    | some vm =>
      have e4 := fun code => (bound_ok (P := P) code w h1 hmx hc).1
      cases hi with
      | none => simp at hno
      | some a =>
        cases hi' with
        | none => exact hhi.elim
        | some v =>
          obtain ⟨X, e1, e2⟩ := r3 .slice3C
          have e3 := fun code => (bound_ok (P := P) code w h2 hhi hy).1
          cases lo' <;> simp only at e1 <;> subst e1 <;> first | (simpa [Instr.sliceBounds, e3, e4] using e2) | simp [Instr.sliceBounds, e3, e4, e2]

theorem boundA_le {v : Option AV} {d y n : Nat} (h : boundA v d y = some n) (hd : d ≤ y) : n ≤ y := by
  cases v with
  | none => simp [boundA] at h; omega
  | some a =>
    simp only [boundA] at h
    split at h
    · split at h
      · rename_i hle; simp at hle h; omega
      · simp at h
    · simp at h

theorem room_ok {hp : Array Obj} (hs : Sim B ρ h hp) {id : K} {off beg sz len r : Nat} {be : Nat × Nat} (hb : ρ id = some be) (hr : roomA h id off beg sz len = some r) :
    len ≤ r ∧ r ≤ be.2 - beg ∧ 0 < sz := by
  unfold roomA at hr
  split at hr
  · rename_i cs el sz' fz hg
    split at hr
    · rename_i hc
      simp at hr hc
      subst hr
      obtain ⟨⟨⟨⟨rfl, rfl⟩, h0⟩, hl⟩, ho⟩ := hc
      obtain ⟨c, el', fr, vs, _, _, _, h4, _⟩ := hs.blk id _ be hg hb
      refine ⟨hl, ?_, h0⟩
      have : (cs.length - beg * sz') / sz' ≤ (be.2 * sz' - beg * sz') / sz' := Nat.div_le_div_right (by omega)
      rw [← Nat.sub_mul, Nat.mul_div_cancel _ h0] at this
      exact this
    · simp at hr
  · simp at hr

theorem extract_ok (len c l h : Nat) (h1 : l ≤ h) (h2 : h ≤ len) : (strOf len c).extract l h = strOf (h - l) (c / 256 ^ l % 256 ^ (h - l)) := by
  apply ByteArray.ext
  rw [ByteArray.data_extract]
  apply Array.ext'
  simp only [strOf, bytesOf_mod, Array.toList_extract, List.extract_eq_take_drop]
  obtain ⟨r, rfl⟩ : ∃ r, len = l + ((h - l) + r) := ⟨len - h, by omega⟩
  rw [bytesOf_drop, bytesOf_take]

theorem add_off (b off n : Nat) : (Addr.add ⟨b, off, none⟩ n) = ⟨b, off + n, none⟩ := by
  unfold Addr.add
  split
  · rename_i e; subst e; rfl
  · rfl

set_option maxHeartbeats 4000000 in
theorem slice_ok {hp : Array Obj} (hs : Sim B ρ h hp) (t : TypeId) (x v : AV) (lo hi mx : Option AV) (hv : sliceA P h t x lo hi mx = some v) (x' : Value) (lo' hi' mx' : Option Value) (w : World)
    (hx : conc ρ x = some x') (hlo : OptOk ρ lo lo') (hhi : OptOk ρ hi hi') (hmx : OptOk ρ mx mx') (hno : ¬ (mx.isSome = true ∧ hi.isNone = true)) :
    ∃ v', conc ρ v = some v' ∧ (Instr.sliceAt t x' lo' hi' mx').run P w = .ok v' w := by
  unfold sliceA at hv
  split at hv
  case h_1 len c hd =>
    simp [conc] at hx; subst hx
    split at hv
    · simp at hv
    · cases mx' with
      | some _ => exact hmx.elim
      | none =>
        split at hv
        · rename_i hh h1
          split at hv
          · rename_i l h2
            simp at hv; subst hv
            have hle := boundA_le h1 (Nat.le_refl _)
            have hb := bounds_ok (P := P) (isSlice := false) (cap := len) (capY := len) (m := len) w hlo hhi (mx := none) (mx' := none) trivial (by simp) (.inl ⟨rfl, rfl⟩) ⟨len, h1, Nat.le_refl _⟩ h2
            refine ⟨_, rfl, ?_⟩
            simp only [Instr.sliceAt, Sem.run_bind, run_desc w hd, Result.andThen_ok, Instr.slice, strOf_size, hb, Option.isSome_none, Bool.false_eq_true, if_false, Sem.run_pure]
            rw [extract_ok _ _ _ _ (boundA_le h2 (Nat.zero_le _)) hle]
          · simp at hv
        · simp at hv
  case h_2 e hd =>
    simp [conc] at hx; subst hx
    split at hv
    · simp at hv
    rename_i sz hsz
    split at hv
    · rename_i m h1
      split at hv
      · rename_i hh h2
        split at hv
        · rename_i l h3
          simp at hv; subst hv
          have m0 : m = 0 := by have := boundA_le h1 (Nat.le_refl _); omega
          subst m0
          have hh0 : hh = 0 := by have := boundA_le h2 (Nat.le_refl _); omega
          subst hh0
          have l0 : l = 0 := by have := boundA_le h3 (Nat.le_refl _); omega
          subst l0
          have hb := bounds_ok (P := P) (isSlice := true) (len := 0) (cap := 0) (capY := 0) (m := 0) w hlo hhi hmx hno (by
            cases mx with
            | none => exact .inl ⟨rfl, rfl⟩
            | some a => exact .inr ⟨rfl, h1, Nat.le_refl _⟩) ⟨0, h2, Nat.le_refl _⟩ h3
          refine ⟨_, rfl, ?_⟩
          simp [Instr.sliceAt, run_desc w hd, Instr.slice, hb, run_sz w hsz]
        · simp at hv
      · simp at hv
    · simp at hv
  case h_3 e id off beg len cap hd =>
    simp only [conc, Option.map_eq_some_iff] at hx
    obtain ⟨be, hbe, rfl⟩ := hx
    split at hv
    · simp at hv
    rename_i sz hsz
    -- what the machine's slice comes to, once its bounds are known
    have fin : ∀ (C l hh m : Nat), (Instr.sliceBounds true len C lo' hi' mx').run P w = .ok (l, hh, m) w →
        (Instr.sliceAt t (.slice (some ⟨be.1, off, none⟩) len C) lo' hi' mx').run P w = .ok (.slice (some (if m = l then ⟨be.1, off, none⟩ else ⟨be.1, off + l * sz, none⟩)) (hh - l) (m - l)) w := by
      intro C l hh m hb
      simp only [Instr.sliceAt, Sem.run_bind, run_desc w hd, Result.andThen_ok, Instr.slice, hb, run_sz w hsz, Sem.run_pure, Option.map_some, add_off]
      split <;> rfl
    split at hv
    · -- max, cap known
      rename_i m c
      split at hv
      · rename_i m' h1
        split at hv
        · rename_i hh h2
          split at hv
          · rename_i l h3
            simp at hv; subst hv
            have hm := boundA_le h1 (Nat.zero_le _)
            have hb := bounds_ok (P := P) (isSlice := true) (len := len) (cap := c) (capY := c) (m := m') w hlo hhi hmx hno (.inr ⟨rfl, h1, Nat.le_refl _⟩) ⟨m', h2, Nat.le_refl _⟩ h3
            refine ⟨_, by simp only [conc, hbe, Option.map_some]; rfl, ?_⟩
            rw [fin _ _ _ _ hb]
            congr 2
            by_cases e : m' = l <;> simp [e]
          · simp at hv
        · simp at hv
      · simp at hv
    · -- max, cap unknown
      rename_i m
      split at hv
      · simp at hv
      rename_i room hroom
      obtain ⟨hr1, hr2, hr3⟩ := room_ok hs hbe hroom
      split at hv
      · rename_i m' h1
        split at hv
        · rename_i hh h2
          split at hv
          · rename_i l h3
            simp at hv; subst hv
            have hb := bounds_ok (P := P) (isSlice := true) (len := len) (cap := be.2 - beg) (capY := room) (m := m') w hlo hhi hmx hno (.inr ⟨rfl, h1, hr2⟩) ⟨m', h2, Nat.le_refl _⟩ h3
            refine ⟨_, by simp only [conc, hbe, Option.map_some]; rfl, ?_⟩
            rw [fin _ _ _ _ hb]
            congr 2
            by_cases e : m' = l <;> simp [e]
          · simp at hv
        · simp at hv
      · simp at hv
    · -- no max, cap known
      rename_i c
      split at hv
      · rename_i hh h2
        split at hv
        · rename_i l h3
          simp at hv; subst hv
          have hb := bounds_ok (P := P) (isSlice := true) (len := len) (cap := c) (capY := c) (m := c) w hlo hhi hmx hno (.inl ⟨rfl, rfl⟩) ⟨c, h2, Nat.le_refl _⟩ h3
          refine ⟨_, by simp only [conc, hbe, Option.map_some]; rfl, ?_⟩
          rw [fin _ _ _ _ hb]
          congr 2
          by_cases e : c = l <;> simp [e]
        · simp at hv
      · simp at hv
    · -- neither
      split at hv
      · simp at hv
      rename_i room hroom
      obtain ⟨hr1, hr2, hr3⟩ := room_ok hs hbe hroom
      split at hv
      · rename_i hh h2
        split at hv
        · rename_i l h3
          have hle := boundA_le h2 hr1
          have hl2 := boundA_le h3 (Nat.zero_le _)
          have hb := bounds_ok (P := P) (isSlice := true) (len := len) (cap := be.2 - beg) (capY := be.2 - beg) (m := be.2 - beg) w hlo hhi hmx hno (.inl ⟨rfl, rfl⟩) ⟨room, h2, hr2⟩ h3
          have hf := fin _ _ _ _ hb
          split at hv
          · rename_i l0
            simp at l0 hv
            subst l0; subst hv
            refine ⟨_, by simp only [conc, hbe, Option.map_some]; rfl, ?_⟩
            rw [hf]
            simp
          · rename_i l0
            simp at l0
            split at hv
            · rename_i hlr
              simp at hlr hv
              subst hv
              refine ⟨_, by simp only [conc, hbe, Option.map_some]; rfl, ?_⟩
              rw [hf, if_neg (by omega)]
              congr 2
              omega
            · rename_i hlr
              simp at hlr hv
              subst hv
              refine ⟨_, by simp only [conc, hbe, Option.map_some]; rfl, ?_⟩
              rw [hf]
              have e1 : hh - l = 0 := by omega
              rw [e1]
              by_cases e : be.2 = beg + l
              · rw [if_pos e, if_pos (by omega)]
                congr 2
                omega
              · rw [if_neg e, if_neg (by omega)]
                congr 2
                omega
        · simp at hv
      · simp at hv
  case h_4 n e id off hd =>
    simp only [conc, Option.map_eq_some_iff] at hx
    obtain ⟨be, hbe, rfl⟩ := hx
    split at hv
    · simp at hv
    rename_i sz hsz
    split at hv
    · rename_i m h1
      split at hv
      · rename_i hh h2
        split at hv
        · rename_i l h3
          simp at hv; subst hv
          have hm := boundA_le h1 (Nat.le_refl _)
          have hb : (Instr.sliceBounds false n n lo' hi' mx').run P w = .ok (l, hh, m) w := by
            cases hmx' : mx with
            | none =>
              subst hmx'
              simp [boundA] at h1
              subst h1
              exact bounds_ok (P := P) (capY := n) w hlo hhi hmx hno (.inl ⟨rfl, rfl⟩) ⟨n, h2, Nat.le_refl _⟩ h3
            | some a =>
              subst hmx'
              refine bounds_ok (P := P) (capY := n) w hlo hhi hmx hno (.inr ⟨rfl, ?_, Nat.le_refl _⟩) ⟨m, h2, Nat.le_refl _⟩ h3
              simpa [boundA] using h1
          refine ⟨_, by simp only [conc, hbe, Option.map_some]; rfl, ?_⟩
          simp only [Instr.sliceAt, Sem.run_bind, run_desc w hd, Result.andThen_ok, Instr.sureAddr, Sem.run_pure, hb, run_sz w hsz, add_off]
          congr 2
          by_cases e : m = l <;> simp [e]
        · simp at hv
      · simp at hv
    · simp at hv
  case h_5 => simp at hv
end Go.Ev
