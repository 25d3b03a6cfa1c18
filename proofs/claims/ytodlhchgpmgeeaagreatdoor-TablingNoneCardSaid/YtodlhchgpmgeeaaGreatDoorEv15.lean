/-
  THE EVALUATOR's SOUNDNESS, part 14: everything that writes, but calls no code.
-/
import Derived.Test.YtodlhchgpmgeeaaGreatDoorEv14
namespace Go.Ev
open Go.RowKit
set_option linter.unusedSimpArgs false

variable {P : Program} {B : Nat} {ρ : Rho} {h : H}

/-- what kinds of abstract values a slice may have been -/
theorem appendCells_slice {e sz n : Nat} {s v : AV} {xs : List AV} {h' : H} (ha : appendCells h e sz s n xs = some (v, h')) : s = .sn ∨ ∃ id off beg len cap, s = .sl id off beg len cap := by
  unfold appendCells at ha
  split at ha
  · split at ha
    · exact .inl rfl
    · exact .inr ⟨_, _, _, _, _, rfl⟩
    · simp at ha
  · simp at ha

set_option maxHeartbeats 1000000 in
theorem append_ok {w : World} (hs : Sim B ρ h w.heap) {ts : Array TypeId} {as : Array Value} {sT xT : TypeId} {s x v : AV} {s' x' : Value} (t0 : ts[0]? = some sT) (t1 : ts[1]? = some xT) (a0 : as[0]? = some s') (a1 : as[1]? = some x')
    (hsv : conc ρ s = some s') (hxv : conc ρ x = some x') {h' : H} (ha : appendA P h sT xT s x = some (v, h')) :
    ∃ v' w' ρ', (Builtin.append_ ts 0 as).run P w = .ok v' w' ∧ conc ρ' v = some v' ∧ Ext B ρ h w ρ' h' w' := by
  unfold appendA at ha
  split at ha
  case h_2 => simp at ha
  rename_i e xd hd hxd
  split at ha
  case h_2 => simp at ha
  rename_i sz z inf hsz hz hinf
  split at ha
  case isFalse => simp at ha
  rename_i hc
  simp only [Bool.and_eq_true, Nat.beq_eq, Nat.blt_eq] at hc
  obtain ⟨hzl, hpos⟩ := hc
  split at ha
  case h_2 => simp at ha
  rename_i n xs hsel
  split at ha
  case isFalse => simp at ha
  rename_i hb
  simp only [Bool.and_eq_true, Nat.ble_eq] at hb
  obtain ⟨hb1, hb2⟩ := hb
  split at hsel
  · -- zeros
    rename_i k0
    split at hsel
    · rename_i n' hn
      simp at hsel
      obtain ⟨rfl, rfl⟩ := hsel
      obtain ⟨k, rfl⟩ := natOf_ok hn hxv
      have key : ∃ ys, concs ρ (repl n' z.cells) = some ys ∧ ∀ base sLen sCap, s' = .slice base sLen sCap → sLen = lenD s → AppIn P ts as e sz inf.bytes base sLen sCap n' ys w := by
        obtain ⟨z0, _, hz2⟩ := run_zero (P := P) w ρ hz
        refine ⟨_, repl_ok (conc_cells hz2) n', ?_⟩
        intro base sLen sCap e1 e2
        subst e1 e2
        obtain ⟨ys, q1, q2⟩ := appIn_zeros ρ (w := w) t0 t1 a0 a1 hd hxd hsz hpos hinf hz hb1 hb2
        rw [repl_ok (conc_cells hz2) n'] at q1
        simp at q1
        rw [q1]
        exact q2
      obtain ⟨ys, q1, q2⟩ := key
      exact appendCells_ok hs hsv q1 hz hzl hpos q2 ha
    · simp at hsel
  · -- a slice or a string
    rename_i hni
    split at hsel
    · rename_i n' hn
      simp at hsel
      obtain ⟨rfl, hfa⟩ := hsel
      obtain ⟨ys, q1, _⟩ := first_ok (P := P) hs hxv hfa (fun l c e => by subst e; simp [lenOfA] at hn; omega)
      have hfirst : ∀ w' : World, w'.heap = w.heap → (Builtin.firstCells sz n' x').run P w' = .ok ys.toArray w' := by
        intro w' hw'
        obtain ⟨ys', r1, r2⟩ := first_ok (P := P) (w := w') (by rw [hw']; exact hs) hxv hfa (fun l c e => by subst e; simp [lenOfA] at hn; omega)
        rw [q1] at r1
        simp at r1
        rw [r1]
        exact r2
      refine appendCells_ok hs hsv q1 hz hzl hpos (bytes := inf.bytes) (fun base sLen sCap e1 e2 => ?_) ha
      subst e1 e2
      exact appIn_plain ρ t0 t1 a0 a1 hd hxd (fun k hk => hni k hk) hsz hinf hz hb1 hb2 (fun w => lenOf_ok hxv hn w) hfirst
    · simp at hsel

theorem lastN_ok : ∀ l : List Nat, lastN l = l.getLast?
  | [] => rfl
  | [a] => rfl
  | a :: b :: l => by simp [lastN, lastN_ok (b :: l), List.getLast?_cons_cons]

theorem concEnts_find (p : Ent → Bool) (q : MapEntry → Bool) (hpq : ∀ e m, concEnt ρ e = some m → p e = q m) : ∀ {es : List Ent} {l : List MapEntry} {e : Ent}, concEnts ρ es = some l → es.find? p = some e →
    ∃ m, l.find? q = some m ∧ concEnt ρ e = some m
  | [], l, e, h, hf => by simp at hf
  | x :: es, l, e, h, hf => by
    obtain ⟨a, b, ha, hb, rfl⟩ := concEnts_cons h
    simp only [List.find?_cons, ← hpq x a ha]
    simp only [List.find?_cons] at hf
    split at hf
    · simp at hf; subst hf; exact ⟨a, rfl, ha⟩
    · exact concEnts_find p q hpq hb hf

theorem entry_ok {w : World} (hs : Sim B ρ h w.heap) {it v : AV} {it' : Value} (hi : conc ρ it = some it') (he : entryA h it = some v) : ∃ v', (Instr.entry it').run P w = .ok v' w ∧ conc ρ v = some v' := by
  unfold entryA at he
  split at he
  case h_2 => simp at he
  rename_i r
  simp only [conc, Option.map_eq_some_iff] at hi
  obtain ⟨be, hbe, rfl⟩ := hi
  split at he
  case h_2 => simp at he
  rename_i m since seen stepped hg
  split at he
  case h_2 => simp at he
  rename_i st es clock hl hm
  split at he
  case isFalse => simp at he
  rename_i hck
  rw [Nat.beq_eq] at hck
  subst hck
  split at he
  case h_2 => simp at he
  rename_i e hf
  simp at he
  subst he
  obtain ⟨mb, h1, bm, hbm, rfl⟩ := hs.blk r _ be hg hbe
  obtain ⟨l, h2, h3⟩ := hs.blk m _ bm hm hbm
  obtain ⟨me, h4, h5⟩ := concEnts_find _ (fun m => m.born == st) (fun e m hem => by rw [concEnt_born hem, Bool.eq_iff_iff]; simp) h3 hf
  obtain ⟨k1, k2⟩ := concEnt_parts h5
  refine ⟨.tuple #[me.key, me.val], ?_, by simp [conc, concs, k1, k2]⟩
  rw [lastN_ok] at hl
  simp [Instr.entry, run_getObj w be.1 h1 (by simp), run_getObj w bm.1 h2 (by simp), hl, h4]

theorem eraseE_ok : ∀ {es : List Ent} {l : List MapEntry} (i : Nat), concEnts ρ es = some l → concEnts ρ (eraseE es i) = some (l.eraseIdx i)
  | [], l, i, h => by simp [concEnts] at h; subst h; simp [eraseE, concEnts]
  | e :: es, l, 0, h => by
    obtain ⟨a, b, ha, hb, rfl⟩ := concEnts_cons h
    simpa [eraseE] using hb
  | e :: es, l, i + 1, h => by
    obtain ⟨a, b, ha, hb, rfl⟩ := concEnts_cons h
    simp only [eraseE, List.eraseIdx_cons_succ]
    exact concEnts_cons_mk ha (eraseE_ok i hb)

theorem setObj_same {w : World} {r : Nat} {o : Obj} (ho : w.heap[r]? = some o) : ({ w with heap := w.heap.setIfInBounds r o } : World) = w := by
  have : w.heap.setIfInBounds r o = w.heap := by
    apply Array.ext (by simp)
    intro i h1 h2
    rw [Array.getElem_setIfInBounds]
    split
    · rename_i e; subst e
      have := (Array.getElem?_eq_some_iff.1 ho).2
      exact this.symm
    · rfl
  rw [this]

theorem delete_ok {w : World} (hs : Sim B ρ h w.heap) {ts : Array TypeId} {as : Array Value} {t : TypeId} {ty : TypeId} {kt et : TypeId} {m k v : AV} {m' k' : Value} (t0 : ts[0]? = some t) (a0 : as[0]? = some m') (a1 : as[1]? = some k')
    (hk : conc ρ k = some k') (hd : desc P t = some (.map kt et)) (hko : keyOk P 20 kt k = true) {h' : H}
    (he : (match m with
      | .mn => some (undefA, h)
      | .m id => (match h.t.get id with
        | some (.map es clock) => (match findA P kt k es with
          | some (some (i, _)) => some (undefA, h.upd id (.map (eraseE es i) clock))
          | some none => some (undefA, h)
          | none => none)
        | _ => none)
      | _ => (none : Option (AV × H))) = some (v, h')) (hm : conc ρ m = some m') : ∃ v' w', (Builtin.delete_ ts ty as).run P w = .ok v' w' ∧ conc ρ v = some v' ∧ Ext B ρ h w ρ h' w' := by
  have hdk : ∃ dk, desc P kt = some dk := by
    unfold keyOk at hko
    cases hq : desc P kt with
    | none => rw [hq] at hko; simp at hko
    | some dk => exact ⟨dk, rfl⟩
  obtain ⟨dk, hdk⟩ := hdk
  have hkey := fun em => key_ok (P := P) (ρ := ρ) 20 kt k hko 10000 (by omega) em k' w hk
  cases m with
  | mn =>
    simp at he
    obtain ⟨rfl, rfl⟩ := he
    simp [conc] at hm; subst hm
    exact ⟨.tuple #[], w, by simp [Builtin.delete_, t0, a0, a1, run_desc w hd, hkey], by simp [undefA, conc, concs], Ext.refl hs⟩
  | m id =>
    simp only [conc, Option.map_eq_some_iff] at hm
    obtain ⟨be, hbe, rfl⟩ := hm
    simp only at he
    split at he
    case h_2 => simp at he
    rename_i es clock hg
    obtain ⟨l, h1, h2⟩ := hs.blk id _ be hg hbe
    split at he
    · rename_i i u hf
      simp at he
      obtain ⟨rfl, rfl⟩ := he
      obtain ⟨r', g1, u', g2, rfl⟩ := findKey_ok hk w hdk h2 hf
      have hi := find_lt hf
      have hll := concEnts_length h2
      refine ⟨.tuple #[], { w with heap := w.heap.setIfInBounds be.1 (.map (l.eraseIdx i).toArray clock) }, ?_, by simp [undefA, conc, concs], Ext.upd hs hg hbe rfl (setObj_but w be.1 _) ⟨_, setObj_get h1 _, eraseE_ok i h2⟩⟩
      have herase : l.toArray.eraseIdxIfInBounds i = (l.eraseIdx i).toArray := by
        simp [Array.eraseIdxIfInBounds, hll, hi]
      simp only [Builtin.delete_, t0, a0, a1, Sem.run_bind, run_desc w hd, Result.andThen_ok, run_getObj w be.1 h1 (by simp), hkey, g1, herase, run_setObj w be.1 h1 (by simp), Sem.run_pure]
    · rename_i hf
      simp at he
      obtain ⟨rfl, rfl⟩ := he
      obtain ⟨r', g1, rfl⟩ := findKey_ok hk w hdk h2 hf
      refine ⟨.tuple #[], w, ?_, by simp [undefA, conc, concs], Ext.refl hs⟩
      simp only [Builtin.delete_, t0, a0, a1, Sem.run_bind, run_desc w hd, Result.andThen_ok, run_getObj w be.1 h1 (by simp), hkey, g1, run_setObj w be.1 h1 (by simp), Sem.run_pure]
      rw [setObj_same h1]
    · simp at he
  | _ => simp at he
end Go.Ev
