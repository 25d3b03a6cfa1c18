/-
  PLUG-INS, part 2: slices.Insert is right.
-/
import Derived.Test.YtodlhchgpmgeeaaGreatDoorPg1
import Derived.Shelf.Spec.SlicesInsertGrow
namespace Go.Ev
open Go.RowKit
set_option linter.unusedSimpArgs false
set_option linter.unusedVariables false

variable {P : Program} {B : Nat} {ρ : Rho} {h : H}

theorem concs_len {ρ : Rho} {vs : List AV} {ys : List Value} (hv : concs ρ vs = some ys) : ys.length = vs.length := concs_length _ _ hv

set_option maxHeartbeats 1000000 in
theorem ins_good {f : FuncId} {str : TypeId} {z : Value} (hz : z.cells.size = 1) (enter : ∀ args w, (callFunc f args).run P w = .ok (.enter f args) w)
    (shift : ∀ (b off n c i vb voff m vc : Nat) (cs vs : List Value) (w : World), i < n → 0 < m → n + m ≤ c → n + m ≤ 1000000 → vb ≠ b → cs.length = n → vs.length = m →
      (∀ (j : Nat) (v : Value), cs[j]? = some v → w.cell? ⟨b, off + j, none⟩ = some v) → (∀ j, j < n + m → (w.cell? ⟨b, off + j, none⟩).isSome = true) → (∀ j, j < n + m → w.frozen? ⟨b, off + j, none⟩ = false) →
      (∀ (j : Nat) (v : Value), vs[j]? = some v → w.cell? ⟨vb, voff + j, none⟩ = some v) → (∀ v ∈ cs, v.oneCell' = true) → (∀ v ∈ vs, v.oneCell' = true) →
      ∀ (tA tB : TypeId) (kA kB : Nat), w.shape? vb = some (tA, kA) → w.shape? b = some (tB, kB) → kB ≠ 0 → w.frozen? ⟨vb, voff, none⟩ = false → w.frozen? ⟨vb, kA, none⟩ = false →
      Calls P f #[.slice (some ⟨b, off, none⟩) n c, .int .i64 i, .slice (some ⟨vb, voff, none⟩) m vc] w fun e w' =>
        e = .returned (.slice (some ⟨b, off, none⟩) (n + m) c) ∧ w' = (w.drew.setCells b (off + (i + m)) (cs.drop i)).setCells b (off + i) vs)
    (grow : ∀ (b off n c i vb voff m vc : Nat) (cs vs : List Value) (w : World), i < n → 0 < m → n ≤ c → c < n + m → (n + m) * 16 ≤ 140737488355328 → cs.length = n → vs.length = m →
      (∀ (j : Nat) (v : Value), cs[j]? = some v → w.cell? ⟨b, off + j, none⟩ = some v) → (∀ (j : Nat) (v : Value), vs[j]? = some v → w.cell? ⟨vb, voff + j, none⟩ = some v) → (∀ v ∈ cs, v.oneCell' = true) → (∀ v ∈ vs, v.oneCell' = true) →
      Calls P f #[.slice (some ⟨b, off, none⟩) n c, .int .i64 i, .slice (some ⟨vb, voff, none⟩) m vc] w fun e w' =>
        e = .returned (.slice (some ⟨w.heap.size, 0, none⟩) (n + m) (grownCap w (n + m) c str)) ∧
        w' = (((w.alloc (.cells ((cs.take i).toArray ++ Builtin.zeroCells z.cells (n + m - i) ++ Builtin.zeroCells z.cells (grownCap w (n + m) c str - (n + m))) str)).drew.setCells w.heap.size i vs).drew).setCells w.heap.size (i + m) (cs.drop i))
    {args : List AV} {v : AV} {h' : H} (ha : insA str args h = some (.ok (v, h'))) {w : World} {az : List Value} (hs : Sim B ρ h w.heap) (hc : concs ρ args = some az) : CalleeOk P f az.toArray w (Ret B ρ h w v h') := by
  refine .inr ⟨enter _ _, callsIn_wide.2 ?_⟩
  unfold insA at ha
  split at ha
  case h_2 => simp at ha
  rename_i id n i vid voff vbg m vcp
  split at ha
  case h_2 => simp at ha
  rename_i cs el ds vel vsz hg hvg
  split at ha
  case isFalse => simp at ha
  rename_i hq
  simp only [Bool.and_eq_true, Nat.beq_eq, Bool.not_eq_true'] at hq
  obtain ⟨⟨⟨⟨rfl, hne⟩, hi⟩, hm⟩, hnm⟩ := hq
  have hi : i < n := Nat.le_of_ble_eq_true hi
  have hm : 0 < m := Nat.le_of_ble_eq_true hm
  have hnm : n + m ≤ 100000 := Nat.le_of_ble_eq_true hnm
  have hne : id ≠ vid := by
    intro e
    rw [(K.beq_iff _ _).2 e] at hne
    simp at hne
  split at ha
  case h_2 => simp at ha
  rename_i xs ys hxs hys
  split at ha
  case isFalse => simp at ha
  rename_i hone
  simp only [Bool.and_eq_true] at hone
  obtain ⟨hox, hoy⟩ := hone
  simp only [Option.some.injEq, R.ok.injEq, Prod.mk.injEq] at ha
  obtain ⟨rfl, rfl⟩ := ha
  simp only [concs, conc] at hc
  cases hbe : ρ id with
  | none => rw [hbe] at hc; simp at hc
  | some be =>
    cases hve : ρ vid with
    | none => rw [hbe, hve] at hc; simp at hc
    | some ve =>
      rw [hbe, hve] at hc
      simp only [Option.map_some, Option.some.injEq] at hc
      subst hc
      obtain ⟨c, el', fr, vs, h1, h2, h3, h4, h5, h6⟩ := hs.blk id _ be hg hbe
      obtain ⟨rfl, hfr⟩ := h6 rfl
      obtain ⟨c2, el2, fr2, vs2, b1, b2, b3, b4, b5, b6⟩ := hs.blk vid _ ve hvg hve
      obtain ⟨rfl, hfr2⟩ := b6 rfl
      have hB := hs.own id _ be hg hbe rfl
      obtain ⟨rfl, hxl⟩ := take_list _ _ _ hxs
      obtain ⟨rfl, hyl⟩ := take_list _ _ _ hys
      rw [drop_list] at hoy hyl
      rw [drop_list]
      have hbne : ve.1 ≠ be.1 := fun e => hne (hs.inj id vid _ _ be ve hg hvg hbe hve e.symm)
      have hX := concs_take' h2 n
      have hY := concs_take' (concs_drop' b2 voff) m
      have hvl := concs_len h2
      have hvl2 := concs_len b2
      have eX : (vs.take n).length = n := by rw [List.length_take]; omega
      have eY : ((vs2.drop voff).take m).length = m := by
        rw [List.length_take, List.length_drop]
        rw [List.length_drop] at hyl
        omega
      have cX : ∀ (j : Nat) (v : Value), (vs.take n)[j]? = some v → w.cell? ⟨be.1, 0 + j, none⟩ = some v := by
        intro j v hj
        have hjl : j < n := by have := (List.getElem?_eq_some_iff.1 hj).1; omega
        rw [List.getElem?_take, if_pos hjl] at hj
        rw [Nat.zero_add, cells_at h1]
        exact h3 _ _ hj
      have cY : ∀ (j : Nat) (v : Value), ((vs2.drop voff).take m)[j]? = some v → w.cell? ⟨ve.1, voff + j, none⟩ = some v := by
        intro j v hj
        have hjl : j < m := by have := (List.getElem?_eq_some_iff.1 hj).1; omega
        rw [List.getElem?_take, if_pos hjl, List.getElem?_drop] at hj
        rw [cells_at b1]
        exact b3 _ _ hj
      have oX := oneCells hX hox
      have oY := oneCells hY hoy
      have hn := hs.nx_none
      have hnew : concs ρ ((cs.take n).take i ++ (ds.drop voff).take m ++ (cs.take n).drop i) = some ((vs.take n).take i ++ (vs2.drop voff).take m ++ (vs.take n).drop i) :=
        concs_append _ _ _ _ (concs_append _ _ _ _ (concs_take' hX i) hY) (concs_drop' hX i)
      have hnewl : ((cs.take n).take i ++ (ds.drop voff).take m ++ (cs.take n).drop i).length = n + m := by
        rw [← concs_len hnew]
        simp only [List.length_append, List.length_take, List.length_drop] at eX eY ⊢
        omega
      rw [Nat.sub_zero]
      rcases Nat.lt_or_ge be.2 (n + m) with hlt | hge
      · -- no room
        have hnc : n ≤ be.2 := by omega
        refine (grow be.1 0 n be.2 i ve.1 voff m _ (vs.take n) ((vs2.drop voff).take m) w hi hm hnc hlt (by omega) eX eY cX cY oX oY).mono ?_
        rintro e w' ⟨rfl, rfl⟩
        have hG := grownCap_ge w (n + m) be.2 el'
        generalize grownCap w (n + m) be.2 el' = G at hG ⊢
        generalize hrow : ((vs.take n).take i).toArray ++ Builtin.zeroCells z.cells (n + m - i) ++ Builtin.zeroCells z.cells (G - (n + m)) = row
        have hrl : row.size = G := by
          rw [← hrow]
          simp only [Array.size_append, List.size_toArray, Builtin.zeroCells, Array.size_map, Array.size_range, hz, Nat.mul_one, List.length_take]
          rw [List.length_take] at eX
          omega
        have hrt : row.toList.take i = (vs.take n).take i := by
          rw [← hrow]
          simp only [Array.toList_append]
          rw [List.append_assoc, List.take_append_of_le_length (by simp only [List.length_take]; rw [List.length_take] at eX; omega)]
          rw [List.take_of_length_le (by simp only [List.length_take]; omega)]
        have a0 : ((w.alloc (.cells row el')).drew).heap[w.heap.size]? = some (.cells row el' (0, 0)) := by
          show (w.heap.push _)[w.heap.size]? = _
          exact push_get _ _
        obtain ⟨c1, s1, s2, s3⟩ := setCells_get ((vs2.drop voff).take m) i (w.alloc (.cells row el')).drew row a0 (by rw [eY]; omega)
        have hdl : ((vs.take n).drop i).length = n - i := by rw [List.length_drop, eX]
        have hc1 : c1.size = G := by
          have := congrArg List.length s2
          simp only [splice, List.length_append, List.length_take, List.length_drop, Array.length_toList, eY] at this
          omega
        obtain ⟨c3, s4, s5, s6⟩ := setCells_get ((vs.take n).drop i) (i + m) (((w.alloc (.cells row el')).drew.setCells w.heap.size i ((vs2.drop voff).take m)).drew) c1 s1 (by rw [hdl]; omega)
        have hfin : c3.toList = ((vs.take n).take i ++ (vs2.drop voff).take m ++ (vs.take n).drop i) ++ row.toList.drop (n + m) := by
          rw [s5, s2]
          simp only [splice, eY, hdl]
          have t1 : (row.toList.take i ++ (vs2.drop voff).take m ++ row.toList.drop (i + m)).take (i + m) = row.toList.take i ++ (vs2.drop voff).take m := by
            rw [List.take_left' (by simp only [List.length_append, List.length_take, Array.length_toList]; rw [List.length_take, List.length_drop] at eY; rw [List.length_drop]; omega)]
          have t2 : (row.toList.take i ++ (vs2.drop voff).take m ++ row.toList.drop (i + m)).drop (i + m + (n - i)) = row.toList.drop (n + m) := by
            rw [← List.drop_drop, List.drop_left' (by simp only [List.length_append, List.length_take, Array.length_toList]; rw [List.length_take, List.length_drop] at eY; rw [List.length_drop]; omega), List.drop_drop]
            congr 1
            omega
          rw [t1, t2, hrt]
        have e0 : Ext B ρ (h.kill id) w (up ρ h.nx (w.heap.size, G)) ((h.kill id).new (.cells [] el' 1 false)) (w.alloc (.cells row el')) :=
          Ext.alloc (hs.kill id) (BlkOk.fresh ⟨[], rfl, List.nil_prefix⟩ (by simp) (by omega))
        have hsb : SameBut w.heap.size (w.alloc (.cells row el')) ((((w.alloc (.cells row el')).drew.setCells w.heap.size i ((vs2.drop voff).take m)).drew).setCells w.heap.size (i + m) ((vs.take n).drop i)) :=
          ⟨s6.os.trans s3.os, s6.tape.trans s3.tape, s6.output.trans s3.output, s6.size.trans s3.size, fun k hk => (s6.block k hk).trans (s3.block k hk)⟩
        have e1 := Ext.upd (blk' := .cells ((cs.take n).take i ++ (ds.drop voff).take m ++ (cs.take n).drop i) el' 1 false) e0.sim (id := h.nx) (be := (w.heap.size, G)) (by rw [H.new_get]; exact if_pos rfl) (up_same _ _ _) rfl hsb
          ⟨c3, el', (0, 0), _, s4, concs_mono (Le.up hn _) _ _ hnew, prefix_arr hfin, by rw [hnewl]; omega, by
            have := congrArg List.length s5
            simp only [splice, List.length_append, List.length_take, List.length_drop, Array.length_toList, hdl] at this
            omega, fun _ => ⟨rfl, fun j => by simp⟩⟩
        have e2 := Ext.ofKill hbe (e0.trans e1)
        have hput : ((h.kill id).new (.cells [] el' 1 false)).upd h.nx (.cells ((cs.take n).take i ++ (ds.drop voff).take m ++ (cs.take n).drop i) el' 1 false) = (h.kill id).new (.cells ((cs.take n).take i ++ (ds.drop voff).take m ++ (cs.take n).drop i) el' 1 false) := by
          simp only [H.upd, H.new]
          congr 1
          exact Tr.put_put _ _ _ _
        rw [hput] at e2
        exact ⟨up ρ h.nx (w.heap.size, G), _, rfl, by simp [conc, up_same], e2⟩
      · -- room
        have hcs : n + m ≤ c.size := by omega
        refine (shift be.1 0 n be.2 i ve.1 voff m _ (vs.take n) ((vs2.drop voff).take m) w hi hm hge (by omega) hbne eX eY cX (fun j hj => by rw [Nat.zero_add, cells_at h1, Array.getElem?_eq_getElem (by omega)]; rfl) (fun j hj => by rw [Nat.zero_add]; exact frozen_at h1 _ (hfr _)) cY oX oY
          el2 el' c2.size c.size (by simp [World.shape?, b1]) (by simp [World.shape?, h1]) (by omega) (frozen_at b1 _ (hfr2 _)) (frozen_at b1 _ (hfr2 _))).mono ?_
        rintro e w' ⟨rfl, rfl⟩
        simp only [Nat.zero_add]
        have hdl : ((vs.take n).drop i).length = n - i := by rw [List.length_drop, eX]
        obtain ⟨c1, s1, s2, s3⟩ := setCells_get ((vs.take n).drop i) (i + m) w.drew c h1 (by rw [hdl]; omega)
        have hc1 : c1.size = c.size := by
          have := congrArg List.length s2
          simp only [splice, List.length_append, List.length_take, List.length_drop, Array.length_toList, hdl] at this
          omega
        obtain ⟨c3, s4, s5, s6⟩ := setCells_get ((vs2.drop voff).take m) i (w.drew.setCells be.1 (i + m) ((vs.take n).drop i)) c1 s1 (by rw [eY]; omega)
        have hA : c.toList.take n = vs.take n := by
          apply List.ext_getElem?
          intro j
          rw [List.getElem?_take, List.getElem?_take]
          split
          · rename_i hj
            have : j < vs.length := by omega
            rw [Array.getElem?_toList, List.getElem?_eq_getElem this, h3 j _ (List.getElem?_eq_getElem this)]
          · rfl
        have hfin : c3.toList = ((vs.take n).take i ++ (vs2.drop voff).take m ++ (vs.take n).drop i) ++ c.toList.drop (n + m) := by
          rw [s5, s2]
          exact ins_splice hA (by simp; omega) eY hi (by simp; omega)
        have hsb := s3.trans s6
        have hok : BlkOk (up ρ h.nx be) ((w.drew.setCells be.1 (i + m) ((vs.take n).drop i)).setCells be.1 i ((vs2.drop voff).take m)).heap be.1 be.2 (.cells ((cs.take n).take i ++ (ds.drop voff).take m ++ (cs.take n).drop i) el' 1 false) :=
          ⟨c3, el', fr, _, s4, concs_mono (Le.up hn _) _ _ hnew, prefix_arr hfin, by rw [hnewl]; omega, by
            have := congrArg List.length s5
            simp only [splice, List.length_append, List.length_take, List.length_drop, Array.length_toList, eY] at this
            omega, fun _ => ⟨rfl, hfr⟩⟩
        have hsim : Sim B (up ρ h.nx be) ((h.kill id).new (.cells ((cs.take n).take i ++ (ds.drop voff).take m ++ (cs.take n).drop i) el' 1 false)) ((w.drew.setCells be.1 (i + m) ((vs.take n).drop i)).setCells be.1 i ((vs2.drop voff).take m)).heap := by
          refine ((hs.kill id).grow _).adopt hn (by simp [H.new, H.kill, Tr.get_put]) ?_ hsb.size hsb.block hok hB
          intro k d x q1 q2 e1
          have hkn : k ≠ h.nx := fun e => by rw [e, hn] at q2; simp at q2
          rw [H.new_get, if_neg (show ¬ k = (h.kill id).nx from hkn), H.kill_get] at q1
          split at q1
          · simp at q1
          · rename_i hki
            exact hki (hs.inj k id d _ x be q1 hg q2 hbe e1)
        refine ⟨up ρ h.nx be, _, rfl, by simp [conc, up_same], Le.up hn be, hsim, (Below.drew (Below.refl B w)).trans (hsb.below hB), ?_, by simp [H.new, H.kill, K.toNat_succ]⟩
        intro k hk hkn
        have e1 : k ≠ h.nx := fun e => by rw [e] at hk; omega
        have e2 : k ≠ id := fun e => by rw [e, hbe] at hkn; simp at hkn
        exact ⟨by rw [up_ne ρ _ e1]; exact hkn, by rw [H.new_get, if_neg (show ¬ k = (h.kill id).nx from e1), H.kill_get, if_neg e2]⟩
end Go.Ev
