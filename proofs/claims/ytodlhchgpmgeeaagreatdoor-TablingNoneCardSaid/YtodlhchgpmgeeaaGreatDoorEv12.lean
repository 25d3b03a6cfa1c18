/-
  THE EVALUATOR's SOUNDNESS, part 11: iterators; append, copy, delete, clear.
-/
import Derived.Test.YtodlhchgpmgeeaaGreatDoorEv11
namespace Go.Ev
open Go.RowKit
set_option linter.unusedSimpArgs false

variable {P : Program} {B : Nat} {ρ : Rho} {h : H}

theorem range_ok {w : World} (hs : Sim B ρ h w.heap) (t : TypeId) {x : AV} {v : AV} {h' : H}
    (hr : (match x, desc P t with
      | .s len c, some .string => some (.p h.nx 0, h.new (.strIter len c 0))
      | .mn, some (.map _ _) => some (.p h.nx 0, h.new (.mapIter none 0 [] 0))
      | .m id, some (.map _ _) => (match h.t.get id with | some (.map _ clock) => some (.p h.nx 0, h.new (.mapIter (some id) clock [] clock)) | _ => none)
      | _, _ => (none : Option (AV × H))) = some (v, h')) (x' : Value) (hx : conc ρ x = some x') : ∃ v' w' ρ', (Instr.range t x').run P w = .ok v' w' ∧ conc ρ' v = some v' ∧ Ext B ρ h w ρ' h' w' := by
  split at hr
  case h_1 len c hd =>
    simp at hr
    obtain ⟨rfl, rfl⟩ := hr
    simp [conc] at hx; subst hx
    refine ⟨.pointer (some ⟨w.heap.size, 0, none⟩), w.alloc (.stringIter (strOf len c) 0), _, by simp [Instr.range, run_desc w hd], ?_, Ext.alloc (e := 0) hs ?_⟩
    · simp [conc, up_same]
    · simp [BlkOk]
  case h_2 k e hd =>
    simp at hr
    obtain ⟨rfl, rfl⟩ := hr
    simp [conc] at hx; subst hx
    refine ⟨.pointer (some ⟨w.heap.size, 0, none⟩), w.alloc (.mapIter none 0 #[] 0), _, by simp [Instr.range, run_desc w hd], ?_, Ext.alloc (e := 0) hs ?_⟩
    · simp [conc, up_same]
    · simp [BlkOk]
  case h_3 id k e hd =>
    simp only [conc, Option.map_eq_some_iff] at hx
    obtain ⟨be, hbe, rfl⟩ := hx
    split at hr
    · rename_i es clock hg
      simp at hr
      obtain ⟨rfl, rfl⟩ := hr
      obtain ⟨l, h1, h2⟩ := hs.blk id _ be hg hbe
      refine ⟨.pointer (some ⟨w.heap.size, 0, none⟩), w.alloc (.mapIter (some be.1) clock #[] clock), _, by simp [Instr.range, run_desc w hd, run_getObj w be.1 h1 (by simp)], ?_, Ext.alloc (e := 0) hs ?_⟩
      · simp [conc, up_same]
      · simp only [BlkOk]
        exact ⟨some be.1, by simp, be, (Le.up hs.nx_none _) _ _ hbe, rfl⟩
    · simp at hr
  case h_4 => simp at hr

theorem natMem_iff (n : Nat) : ∀ l : List Nat, natMem n l = l.contains n
  | [] => by simp [natMem]
  | a :: l => by
    simp only [natMem, natMem_iff n l, List.contains_cons]
    congr 1
    rw [Bool.eq_iff_iff]; simp

theorem concEnts_filter (p : Ent → Bool) (q : MapEntry → Bool) (hpq : ∀ e m, concEnt ρ e = some m → p e = q m) : ∀ {es : List Ent} {l : List MapEntry}, concEnts ρ es = some l → concEnts ρ (es.filter p) = some (l.filter q)
  | [], l, h => by simp [concEnts] at h; subst h; simp [concEnts]
  | e :: es, l, h => by
    obtain ⟨a, b, ha, hb, rfl⟩ := concEnts_cons h
    have ih := concEnts_filter p q hpq hb
    simp only [List.filter_cons, hpq e a ha]
    split
    · exact concEnts_cons_mk ha ih
    · exact ih
theorem concEnts_all (p : Ent → Bool) (q : MapEntry → Bool) (hpq : ∀ e m, concEnt ρ e = some m → p e = q m) : ∀ {es : List Ent} {l : List MapEntry}, concEnts ρ es = some l → es.all p = l.all q
  | [], l, h => by simp [concEnts] at h; subst h; rfl
  | e :: es, l, h => by
    obtain ⟨a, b, ha, hb, rfl⟩ := concEnts_cons h
    simp only [List.all_cons, hpq e a ha, concEnts_all p q hpq hb]
theorem concEnt_born {e : Ent} {m : MapEntry} (h : concEnt ρ e = some m) : m.born = e.born := by
  unfold concEnt at h
  split at h
  · simp at h; subst h; rfl
  · simp at h
theorem concEnt_parts {e : Ent} {m : MapEntry} (h : concEnt ρ e = some m) : conc ρ e.key = some m.key ∧ conc ρ e.val = some m.val := by
  unfold concEnt at h
  split at h
  · rename_i a b ha hb; simp at h; subst h; exact ⟨ha, hb⟩
  · simp at h

theorem strOf_get (len c pos : Nat) (hp : pos < len) : (strOf len c)[pos]? = some (UInt8.ofNat (c / 256 ^ pos % 256)) := by
  have hsz : pos < (strOf len c).size := by rw [strOf_size]; exact hp
  have := bytesOf_get len c pos hp
  rw [getElem?_pos (strOf len c) pos hsz]
  congr 1
  rw [List.getElem?_eq_getElem (by rw [bytesOf_length]; exact hp)] at this
  simp only [Option.some.injEq] at this
  rw [← this]
  simp only [ByteArray.getElem_eq_getElem_data, strOf, List.getElem_toArray]
theorem decode_ascii (len c pos : Nat) (hp : pos < len) (hb : c / 256 ^ pos % 256 < 128) : Utf8.decode (strOf len c) pos = (c / 256 ^ pos % 256, 1) := by
  have hg : ((strOf len c).get! pos).toNat = c / 256 ^ pos % 256 := by
    have h1 := bytesOf_get len c pos hp
    have h2 : (strOf len c).get! pos = UInt8.ofNat (c / 256 ^ pos % 256) := by
      show (strOf len c).data[pos]! = _
      simp [strOf, getElem!_def, h1]
    rw [h2]
    simp
  unfold Utf8.decode
  simp only [Nat.add_zero, hg]
  rw [if_pos (by omega)]

theorem run_mapNext1 (w : World) : (choose (.mapNext 1)).run P w = .ok 0 w := by simp [Question.forced]

set_option maxHeartbeats 1000000 in
theorem next_ok {w : World} (hs : Sim B ρ h w.heap) (ty : TypeId) {it v : AV} {it' : Value} (hi : conc ρ it = some it') (isStr : Bool) {h' : H} (hn : nextA h it isStr = some (v, h')) :
    ∃ v' w', (Instr.next it' isStr ty).run P w = .ok v' w' ∧ conc ρ v = some v' ∧ Ext B ρ h w ρ h' w' := by
  unfold nextA at hn
  split at hn
  case h_2 => simp at hn
  rename_i r
  simp only [conc, Option.map_eq_some_iff] at hi
  obtain ⟨be, hbe, rfl⟩ := hi
  split at hn
  case h_1 len c pos hg =>
    have hb : w.heap[be.1]? = some (.stringIter (strOf len c) pos) := hs.blk r _ be hg hbe
    split at hn
    · rename_i hlt
      simp at hlt
      simp only at hn
      split at hn
      · rename_i h128
        simp at h128
        simp at hn
        obtain ⟨rfl, rfl⟩ := hn
        refine ⟨.tuple #[.bool true, goInt pos, .int .i32 ((c / 256 ^ pos % 256 : Nat) : Int)], _, ?_, by simp [conc, concs, goInt], Ext.upd hs hg hbe rfl (setObj_but w be.1 (.stringIter (strOf len c) (pos + 1))) ?_⟩
        · simp only [Instr.next, Sem.run_bind, run_getObj w be.1 hb (by simp), Result.andThen_ok, strOf_size, hlt, if_true, decode_ascii len c pos hlt h128, run_setObj w be.1 hb (by simp), Sem.run_pure]
        · exact setObj_get hb _
      · simp at hn
    · rename_i hlt
      simp at hlt
      simp at hn
      obtain ⟨rfl, rfl⟩ := hn
      refine ⟨.tuple #[.bool false], w, ?_, by simp [conc, concs], Ext.refl hs⟩
      have : ¬ pos < len := by omega
      simp only [Instr.next, Sem.run_bind, run_getObj w be.1 hb (by simp), Result.andThen_ok, strOf_size, this, if_false, Sem.run_pure]
  case h_2 a b c hg =>
    simp at hn
    obtain ⟨rfl, rfl⟩ := hn
    obtain ⟨mb, h1, h2⟩ := hs.blk r _ be hg hbe
    simp only at h2
    subst h2
    refine ⟨.tuple #[.bool false], w, ?_, by simp [conc, concs], Ext.refl hs⟩
    simp only [Instr.next, Sem.run_bind, run_getObj w be.1 h1 (by simp), Result.andThen_ok, Sem.run_pure]
  case h_3 m since seen last hg =>
    obtain ⟨mb, h1, bm, hbm, rfl⟩ := hs.blk r _ be hg hbe
    split at hn
    case h_2 => simp at hn
    rename_i es clock hm
    obtain ⟨l, h2, h3⟩ := hs.blk m _ bm hm hbm
    split at hn
    · simp at hn
    rename_i hcond
    have hall : (es.all fun e => Nat.ble last e.born) = l.all fun e => decide (e.born ≥ last) := concEnts_all _ _ (fun e m hem => by
      rw [concEnt_born hem, Bool.eq_iff_iff]; simp) h3
    have hemp : es.isEmpty = l.isEmpty := by
      have := concEnts_length h3
      cases es <;> cases l <;> simp_all
    have hcond' : (!seen.toArray.isEmpty && !l.toArray.isEmpty && l.toArray.all fun x => decide (x.born ≥ last)) = false := by
      rw [Bool.not_eq_true] at hcond
      rw [hall, hemp] at hcond
      simpa using hcond
    have hleft : concEnts ρ (es.filter fun e => !natMem e.born seen) = some (l.filter fun e => !seen.toArray.contains e.born) := concEnts_filter _ _ (fun e m hem => by
      rw [concEnt_born hem, natMem_iff]; simp) h3
    have hbase : ∀ (K : Array (Option MapEntry) → Sem Value), (K = fun candidates => do
          match candidates[← choose (.mapNext candidates.size)]? with
          | some (some e) =>
            setObj be.1 (.mapIter (some bm.1) since (seen.toArray.push e.born) clock)
            pure (.tuple #[.bool true, e.key, e.val])
          | some none => pure (.tuple #[.bool false])
          | none => stuck "Next: no such candidate") →
        (Instr.next (.pointer (some ⟨be.1, 0, none⟩)) false ty).run P w = (K ((if ((l.filter fun e => !seen.toArray.contains e.born).filter (fun e => decide (e.born < since))).toArray.isEmpty then #[none] else #[]) ++
          (((l.filter fun e => !seen.toArray.contains e.born).filter (fun e => decide (e.born < since))).toArray ++ ((l.filter fun e => !seen.toArray.contains e.born).filter (fun e => decide (e.born ≥ since))).toArray).map some)).run P w := by
      intro K hK
      subst hK
      simp only [Instr.next, Sem.run_bind, run_getObj w be.1 h1 (by simp), Result.andThen_ok, run_getObj w bm.1 h2 (by simp), hcond', Bool.false_eq_true, if_false, List.filter_toArray]
      rfl
    have hb := hbase _ rfl
    split at hn
    · rename_i he
      simp at hn
      obtain ⟨rfl, rfl⟩ := hn
      rw [he] at hleft
      simp [concEnts] at hleft
      have hleft' : (l.filter fun e => !seen.toArray.contains e.born) = [] := by simpa using hleft
      refine ⟨.tuple #[.bool false], w, ?_, by simp [conc, concs], Ext.refl hs⟩
      rw [hb, hleft']
      simp [Question.forced]
    · rename_i e he
      split at hn
      · rename_i hbs
        simp at hn hbs
        obtain ⟨rfl, rfl⟩ := hn
        rw [he] at hleft
        obtain ⟨me, q, hme, hq, hl2⟩ := concEnts_cons hleft
        simp [concEnts] at hq
        subst hq
        obtain ⟨k1, k2⟩ := concEnt_parts hme
        have kb := concEnt_born hme
        refine ⟨.tuple #[.bool true, me.key, me.val], _, ?_, by simp [conc, concs, k1, k2], Ext.upd hs hg hbe rfl (setObj_but w be.1 (.mapIter (some bm.1) since (seen.toArray.push me.born) clock)) ?_⟩
        · rw [hb, hl2]
          have c1 : me.born < since := by omega
          have c2 : ¬ since ≤ me.born := by omega
          simp [c1, c2, Question.forced, run_setObj w be.1 h1]
        · refine ⟨some bm.1, ?_, bm, hbm, rfl⟩
          rw [setObj_get h1]
          simp [kb]
      · simp at hn
    · simp at hn
  case h_4 => simp at hn
end Go.Ev
