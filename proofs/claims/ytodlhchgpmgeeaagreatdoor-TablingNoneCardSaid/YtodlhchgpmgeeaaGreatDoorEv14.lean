/-
  THE EVALUATOR's SOUNDNESS, part 13: append, the rest; copy, delete, clear.
-/
import Derived.Test.YtodlhchgpmgeeaaGreatDoorEv13
namespace Go.Ev
open Go.RowKit
set_option linter.unusedSimpArgs false

variable {P : Program} {B : Nat} {ρ : Rho} {h : H}

theorem Ext.ofKill {w w' : World} {id : K} {ρ' : Rho} {h' : H} {be : Nat × Nat} (hb : ρ id = some be) (e : Ext B ρ (h.kill id) w ρ' h' w') : Ext B ρ h w ρ' h' w' :=
  ⟨e.le, e.sim, e.below, fun k hk hn => by
    obtain ⟨h1, h2⟩ := e.frame k hk hn
    have hne : k ≠ id := fun e => by rw [e, hb] at hn; simp at hn
    exact ⟨h1, by rw [h2, H.kill_get, if_neg hne]⟩, e.nx⟩

theorem splice_end (ys xs : List Value) : splice xs.length ys xs = xs ++ ys := by
  simp [splice]

/-- a row grown: the block that is made -/
theorem grown_ok {w : World} (hs : Sim B ρ h w.heap) {e sz need newCap : Nat} {z : Value} {old ys : List AV} {old' ys' : List Value} (ho : concs ρ old = some old') (hy : concs ρ ys = some ys')
    (hl : old.length + ys.length = need * sz) (hz : z.cells.size = sz) (hc : need ≤ newCap) :
    Ext B ρ h w (up ρ h.nx (w.heap.size, newCap)) (h.new (.cells (old ++ ys) e sz false)) (w.drew.alloc (.cells (old'.toArray ++ ys'.toArray ++ Builtin.zeroCells z.cells (newCap - need)) e)) := by
  refine Ext.drew (w := w) (Ext.alloc (w := w.drew) hs ?_)
  refine BlkOk.fresh ⟨old' ++ ys', concs_mono (Le.up hs.nx_none _) _ _ (concs_append _ _ _ _ ho hy), ?_⟩ ?_ ?_
  · refine ⟨(Builtin.zeroCells z.cells (newCap - need)).toList, by simp⟩
  · simp only [List.length_append, hl]
    exact Nat.mul_le_mul_right _ hc
  · have h1 := concs_length _ _ ho
    have h2 := concs_length _ _ hy
    have h3 : (Builtin.zeroCells z.cells (newCap - need)).size = (newCap - need) * sz := by simp [Builtin.zeroCells, hz]
    simp only [Array.size_append, List.size_toArray, h1, h2, hl, h3]
    rw [← Nat.add_mul]
    exact Nat.mul_le_mul_right _ (by omega)

set_option maxHeartbeats 2000000 in
theorem appendCells_ok {w : World} (hs : Sim B ρ h w.heap) {ts : Array TypeId} {as : Array Value} {e sz bytes n : Nat} {s v : AV} {s' : Value} {xs : List AV} {ys : List Value} {z : AV} (hsv : conc ρ s = some s')
    (hxs : concs ρ xs = some ys) (hz : zeroOf P e = some z) (hzl : z.cells.length = sz) (hpos : 0 < sz)
    (hin : ∀ base sLen sCap, s' = .slice base sLen sCap → sLen = lenD s → AppIn P ts as e sz bytes base sLen sCap n ys w) {h' : H} (ha : appendCells h e sz s n xs = some (v, h')) :
    ∃ v' w' ρ', (Builtin.append_ ts 0 as).run P w = .ok v' w' ∧ conc ρ' v = some v' ∧ Ext B ρ h w ρ' h' w' := by
  unfold appendCells at ha
  split at ha
  case isFalse => simp at ha
  rename_i hone
  simp only [Bool.and_eq_true, Nat.beq_eq] at hone
  obtain ⟨hone, hxl⟩ := hone
  have hyl := concs_length _ _ hxs
  -- the zero value's cells
  have zlen : ∀ z', (zeroValue e).run P w.drew = .ok z' w.drew → z'.cells.size = sz := by
    intro z' hz'
    obtain ⟨z0, q1, q2⟩ := run_zero (P := P) w.drew ρ hz
    rw [q1] at hz'
    injection hz' with hz'
    subst hz'
    have := concs_length _ _ (conc_cells q2)
    simp at this
    omega
  split at ha
  case h_1 =>
    -- a nil slice
    simp [conc] at hsv; subst hsv
    have hI := hin none 0 0 rfl rfl
    split at ha
    · rename_i n0
      rw [Nat.beq_eq] at n0
      subst n0
      simp at ha
      obtain ⟨rfl, rfl⟩ := ha
      refine ⟨.slice none 0 0, w, ρ, ?_, rfl, Ext.refl hs⟩
      rw [hI.stay (by omega)]
      simp
    · rename_i n0
      rw [Nat.beq_eq] at n0
      simp at ha
      obtain ⟨rfl, rfl⟩ := ha
      obtain ⟨newCap, z', g1, g2, g3⟩ := hI.go (by omega) #[] (by simp [Builtin.firstCells])
      have hg := grown_ok (e := e) (sz := sz) (need := n) (newCap := newCap) (z := z') (old := []) (ys := xs) (old' := []) hs rfl hxs (by simp; omega) (zlen z' g2) (by omega)
      refine ⟨.slice (some ⟨w.heap.size, 0, none⟩) n newCap, _, _, ?_, ?_, hg⟩
      · rw [g3]
        simp
      · simp [conc, up_same]
  case h_2 id off beg len cap =>
    simp only [conc, Option.map_eq_some_iff] at hsv
    obtain ⟨be, hbe, rfl⟩ := hsv
    split at ha
    case h_2 => simp at ha
    rename_i cs e' sz' fz hg
    split at ha
    case isFalse => simp at ha
    rename_i hszz
    rw [Nat.beq_eq] at hszz
    subst hszz
    simp only at ha
    obtain ⟨c, el', fr, vs, b1, b2, b3, b4, b5, b6⟩ := hs.blk id _ be hg hbe
    have hvl := concs_length _ _ b2
    -- written in place, within what is known
    have inplace : ∀ (C : Nat) (cs' : List AV), fz = false → setAt (off + len * sz') xs cs = some cs' → len + n ≤ C →
        AppIn P ts as e sz' bytes (some ⟨be.1, off, none⟩) len C n ys w → ∃ w', (Builtin.append_ ts 0 as).run P w = .ok (.slice (some ⟨be.1, off, none⟩) (len + n) C) w' ∧ Ext B ρ h w ρ (h.upd id (.cells cs' e' sz' fz)) w' := by
      intro C cs' hfz hset hC hI
      subst hfz
      have hsc : setCells h id (off + len * sz') xs = some (h.upd id (.cells cs' e' sz' false)) := by
        simp only [setCells, hg, hone, if_true, hset]
      obtain ⟨w', r1, r2⟩ := setCells_ok (P := P) hs hbe hsc hxs
      refine ⟨w', ?_, r2⟩
      rw [hI.stay hC]
      simp only [add_off, r1, Result.andThen_ok]
    -- nothing appended
    have nothing : ∀ (C : Nat), n = 0 → len ≤ C → AppIn P ts as e sz' bytes (some ⟨be.1, off, none⟩) len C n ys w → (Builtin.append_ ts 0 as).run P w = .ok (.slice (some ⟨be.1, off, none⟩) (len + n) C) w := by
      intro C hn hC hI
      subst hn
      have hy0 : ys = [] := by
        have : ys.length = 0 := by simp at hxl; rw [hyl]; simp [hxl]
        exact List.length_eq_zero_iff.1 this
      rw [hI.stay (by omega), hy0]
      simp [storeCells]
    split at ha
    · -- the cap is known
      rename_i C
      have hI := hin (some ⟨be.1, off, none⟩) len C rfl rfl
      split at ha
      · rename_i hle
        rw [Nat.ble_eq] at hle
        split at ha
        · rename_i n0
          rw [Nat.beq_eq] at n0
          simp at ha
          obtain ⟨rfl, rfl⟩ := ha
          exact ⟨_, w, ρ, nothing C n0 (by omega) hI, by simp [conc, hbe], Ext.refl hs⟩
        · split at ha
          · simp at ha
          · rename_i hfz
            split at ha
            · rename_i cs' hset
              simp at ha
              obtain ⟨rfl, rfl⟩ := ha
              obtain ⟨w', r1, r2⟩ := inplace C cs' (by simpa using hfz) hset hle hI
              exact ⟨_, w', ρ, r1, by simp [conc, hbe], r2⟩
            · simp at ha
      · rename_i hle
        rw [Nat.ble_eq] at hle
        split at ha
        · rename_i old hold
          split at ha
          · simp at ha
            obtain ⟨rfl, rfl⟩ := ha
            obtain ⟨l', k1, k2, k3⟩ := getCells_ok (w := w) hs hbe (off := off) (n := len * sz') (l := old) (by simp only [getCells, hg]; exact hold)
            have hrd : (Builtin.firstCells sz' len (.slice (some ⟨be.1, off, none⟩) len C)).run P w.drew = .ok l'.toArray w.drew := by
              have := loadCells_ok (P := P) (w := w.drew) (b := be.1) (off := off) (l' := l') k3
              rw [k2] at this
              simpa [Builtin.firstCells] using this
            obtain ⟨newCap, z', g1, g2, g3⟩ := hI.go (by omega) _ hrd
            have hol := concs_length _ _ k1
            have hgr := grown_ok (e := e) (sz := sz') (need := len + n) (newCap := newCap) (z := z') (old := old) (ys := xs) hs k1 hxs (by rw [← hol, k2, hxl, Nat.add_mul]) (zlen z' g2) g1
            exact ⟨_, _, _, g3, by simp [conc, up_same], hgr⟩
          · simp at ha
        · simp at ha
    · -- the cap is not known
      have hI := hin (some ⟨be.1, off, none⟩) len (be.2 - beg) rfl rfl
      split at ha
      · rename_i n0
        rw [Nat.beq_eq] at n0
        split at ha
        case isFalse => simp at ha
        rename_i hc0
        simp only [Bool.and_eq_true, Nat.beq_eq, Nat.ble_eq] at hc0
        simp at ha
        obtain ⟨rfl, rfl⟩ := ha
        have hle : len ≤ be.2 - beg := by
          have h2 : beg * sz' + len * sz' ≤ be.2 * sz' := by omega
          rw [← Nat.add_mul] at h2
          have := Nat.le_of_mul_le_mul_right h2 hpos
          omega
        exact ⟨_, w, ρ, nothing (be.2 - beg) n0 hle hI, by simp [conc, hbe], Ext.refl hs⟩
      · rename_i n0
        rw [Nat.beq_eq] at n0
        split at ha
        · simp at ha
        · rename_i hfz
          have hfz' : fz = false := by simpa using hfz
          split at ha
          case isFalse => simp at ha
          rename_i hoff
          rw [Nat.beq_eq] at hoff
          split at ha
          · rename_i cs' hset
            simp at ha
            obtain ⟨rfl, rfl⟩ := ha
            have hle : len + n ≤ be.2 - beg := by
              have h1 := (setAt_ok (off + len * sz') cs xs cs' vs ys hset b2 hxs).2
              rw [hxl] at h1
              have h2 : beg * sz' + len * sz' + n * sz' ≤ be.2 * sz' := by omega
              rw [← Nat.add_mul, ← Nat.add_mul] at h2
              have := Nat.le_of_mul_le_mul_right h2 hpos
              omega
            obtain ⟨w', r1, r2⟩ := inplace (be.2 - beg) cs' hfz' hset hle hI
            exact ⟨_, w', ρ, r1, by simp [conc, hbe], r2⟩
          · split at ha
            case isFalse => simp at ha
            rename_i hend
            simp only [Bool.and_eq_true, Nat.beq_eq] at hend
            obtain ⟨⟨⟨ho0, hle0⟩, hcs1⟩, hee⟩ := hend
            subst hee
            simp at ha
            obtain ⟨rfl, rfl⟩ := ha
            subst ho0
            have hbeg : beg = 0 := by
              rcases Nat.mul_eq_zero.1 hoff.symm with e | e <;> omega
            subst hbeg
            subst hfz'
            obtain ⟨rfl, hfr⟩ := b6 rfl
            have hB := hs.own id _ be hg hbe rfl
            rw [Nat.sub_zero] at hI
            rcases Nat.lt_or_ge be.2 (len + n) with hlt | hge
            · -- there is no room: a new row
              obtain ⟨l', k1, k2, k3⟩ := getCells_ok (w := w) hs hbe (off := 0) (n := len * sz') (l := cs) (by
                simp only [getCells, hg, drop]
                rw [hle0]
                have : ∀ l : List AV, take? l.length l = some l := by
                  intro l
                  induction l with
                  | nil => rfl
                  | cons a l ih => simp [take?, ih]
                exact this cs)
              have hrd : (Builtin.firstCells sz' len (.slice (some ⟨be.1, 0, none⟩) len be.2)).run P w.drew = .ok l'.toArray w.drew := by
                have := loadCells_ok (P := P) (w := w.drew) (b := be.1) (off := 0) (l' := l') k3
                rw [k2] at this
                simpa [Builtin.firstCells] using this
              obtain ⟨newCap, z', g1, g2, g3⟩ := hI.go hlt _ hrd
              have hgr := grown_ok (h := h.kill id) (e := el') (sz := sz') (need := len + n) (newCap := newCap) (z := z') (old := cs) (ys := xs) (hs.kill id) k1 hxs (by rw [hxl, ← hle0, Nat.add_mul]) (zlen z' g2) g1
              exact ⟨_, _, _, g3, by simp [conc, H.kill, up_same], Ext.ofKill hbe hgr⟩
            · -- there is room behind the row's known cells
              obtain ⟨w', c', r1, r2, r3, r4⟩ := storeCells_ok (P := P) (off := len * sz') ys 0 w c b1 (fun j _ => hfr j) (by
                have : (len + n) * sz' ≤ be.2 * sz' := Nat.mul_le_mul_right _ hge
                rw [Nat.add_mul] at this
                omega) (oneCells hxs hone)
              have hsz : c'.size = c.size := by
                have := congrArg List.length r4
                simp [splice] at this
                have h1 : (len + n) * sz' ≤ be.2 * sz' := Nat.mul_le_mul_right _ hge
                rw [Nat.add_mul] at h1
                omega
              have hn := hs.nx_none
              have hok : BlkOk (up ρ h.nx be) w'.heap be.1 be.2 (.cells (cs ++ xs) el' sz' false) := by
                refine ⟨c', el', fr, vs ++ ys, r3, concs_mono (Le.up hn be) _ _ (concs_append _ _ _ _ b2 hxs), ?_, ?_, by omega, fun _ => ⟨rfl, fun i => hfr i⟩⟩
                · intro i v hi
                  rw [← Array.getElem?_toList, r4, Nat.add_zero]
                  have hcl : len * sz' = vs.length := by omega
                  have hvc : vs.length ≤ c.size := by omega
                  unfold splice
                  rw [List.append_assoc]
                  rcases Nat.lt_or_ge i vs.length with q | q
                  · rw [List.getElem?_append_left q] at hi
                    rw [List.getElem?_append_left (by simp; omega), List.getElem?_take, if_pos (by omega), Array.getElem?_toList]
                    exact b3 i v hi
                  · rw [List.getElem?_append_right q] at hi
                    rw [List.getElem?_append_right (by simp; omega)]
                    have e1 : (c.toList.take (len * sz')).length = vs.length := by simp; omega
                    rw [e1, List.getElem?_append_left (List.getElem?_eq_some_iff.1 hi).1]
                    exact hi
                · rw [List.length_append, hxl, ← hle0, ← Nat.add_mul]
                  exact Nat.mul_le_mul_right _ hge
              have hsim : Sim B (up ρ h.nx be) ((h.kill id).new (.cells (cs ++ xs) el' sz' false)) w'.heap := by
                refine ((hs.kill id).grow _).adopt hn (by simp [H.new, H.kill, Tr.get_put]) ?_ r2.size r2.block hok hB
                intro k d x h1 h2 e1
                have hkn : k ≠ h.nx := fun e => by rw [e, hn] at h2; simp at h2
                rw [H.new_get, if_neg (show ¬ k = (h.kill id).nx from hkn), H.kill_get] at h1
                split at h1
                · simp at h1
                · rename_i hki
                  exact hki (hs.inj k id d _ x be h1 hg h2 hbe e1)
              refine ⟨.slice (some ⟨be.1, 0, none⟩) (len + n) be.2, w', up ρ h.nx be, ?_, ?_, ⟨Le.up hn be, hsim, r2.below hB, ?_, by simp [H.new, H.kill, K.toNat_succ]⟩⟩
              · rw [hI.stay hge]
                simp only [add_off, Nat.zero_add, r1, Result.andThen_ok]
              · simp [conc, up_same]
              · intro k hk hkn
                have e1 : k ≠ h.nx := fun e => by rw [e] at hk; omega
                have e2 : k ≠ id := fun e => by rw [e, hbe] at hkn; simp at hkn
                exact ⟨by rw [up_ne ρ _ e1]; exact hkn, by rw [H.new_get, if_neg (show ¬ k = (h.kill id).nx from e1), H.kill_get, if_neg e2]⟩
  case h_3 => simp at ha
end Go.Ev
