/-
  For every goals and vars, TablingNone returns true, and its arguments read as before. Condition: the listed package-level variables hold what the program's text lays.
-/
import Derived.Test.YtodlhchgpmgeeaaGreatDoorCards
import Derived.Test.YtodlhchgpmgeeaaGreatDoorTie
import Derived.Test.YtodlhchgpmgeeaaGreatDoorTn2
import Derived.Test.YtodlhchgpmgeeaaGreatDoorTn3
import Derived.Test.YtodlhchgpmgeeaaGreatDoorTn4
import Derived.Test.YtodlhchgpmgeeaaGreatDoorTn6
import Derived.Test.YtodlhchgpmgeeaaGreatDoorTn7
import Derived.ProofKit
import Derived.LaidMore
import Derived.OpenShut
import Derived.Stop.Joined
import Derived.SevenTiedAt
import Derived.Carry
namespace Go.Proofs.YtodlhchgpmgeeaaGreatDoor
open Go.ChangeShapes Go.WideShapes Go.ChangeAt Go.WideMaps Go.WideElems Go.RowKit Go.Ev


/-- an argument that is a slice -/
theorem open_slice_any {P : Program} {W : World} {base : Nat} {t e : TypeId} {v : Value} (ht : P.underlying t = some (.slice e)) (h : Value.okWide P W .any base t v) :
    v = .slice none 0 0 ∨ ∃ b off len cap, v = .slice (some ⟨b, off, none⟩) len cap := by
  unfold Value.okWide at h
  rw [ht] at h
  simp only at h
  unfold Cell.okWide at h
  rw [ht] at h
  cases v <;> simp only [Cell.ok, ht] at h
  rename_i a len cap
  cases a with
  | none => left; cases len <;> cases cap <;> simp_all
  | some a =>
    right
    obtain ⟨b, off, sp⟩ := a
    obtain ⟨_, _, h3⟩ := h
    have h3 : World.has P W .any base ⟨b, off, sp⟩ e cap := h3
    have : sp = none := h3.2.1
    subst this
    exact ⟨b, off, len, cap, rfl⟩
theorem open_int_any {P : Program} {W : World} {base : Nat} {t : TypeId} {k : IntKind} {v : Value} (ht : P.underlying t = some (.int k)) (h : Value.okWide P W .any base t v) : ∃ n, v = .int k n := by
  unfold Value.okWide at h
  rw [ht] at h
  simp only at h
  unfold Cell.okWide at h
  rw [ht] at h
  cases v <;> simp only [Cell.ok, ht] at h
  exact ⟨_, by rw [h.1]⟩

def ns0 : List Int := [1, 10, 100, 1000, 10000, 100000, 1000000, 10000000, 100000000, 1000000000, 10000000000, 100000000000, 1000000000000, 10000000000000, 100000000000000, 1000000000000000, 10000000000000000, 100000000000000000, 1000000000000000000, 10000000000000000000]
def ns1 : List Int := [0, 1, 28, 2, 29, 14, 24, 3, 30, 22, 20, 15, 25, 17, 4, 8, 31, 27, 13, 23, 21, 19, 16, 7, 26, 12, 18, 6, 11, 5, 10, 9]
def ns2 : List Int := [0, 1, 56, 2, 57, 49, 28, 3, 61, 58, 42, 50, 38, 29, 17, 4, 62, 47, 59, 36, 45, 43, 51, 22, 53, 39, 33, 30, 24, 18, 12, 5, 63, 55, 48, 27, 60, 41, 37, 16, 46, 35, 44, 21, 52, 32, 23, 11, 54, 26, 40, 15, 34, 20, 31, 10, 25, 14, 19, 9, 13, 8, 7, 6]
theorem conc0 : concs rho0 Tryz.gl0 = some (ns0.map (Value.int .u64)) := by kernel_rfl
theorem conc1 : concs rho0 Tryz.gl1 = some (ns1.map (Value.int .u8)) := by kernel_rfl
theorem conc2 : concs rho0 Tryz.gl2 = some (ns2.map (Value.int .u8)) := by kernel_rfl
theorem gv_ok {W : World} {n : String} {g : Nat} {el : TypeId} {cs : Array Value} {k : IntKind} {ns : List Int} {gl : List AV} (hg : Tryz.prog.globalNamed n = some g) (h64 : g < 64) (hv : W.var? Tryz.prog n = some cs) (hc : cs.toList = ns.map (Value.int k))
    (hgl : concs rho0 gl = some (ns.map (Value.int k))) : GVOk W ⟨g, el, gl⟩ := by
  refine ⟨h64, ?_⟩
  simp only [World.var?, hg, Option.bind_some] at hv
  split at hv
  · rename_i c el' fr hh
    simp at hv
    subst hv
    refine ⟨c, el', fr, _, hh, hgl, ?_, ?_⟩
    · intro i x hx
      rw [← hc] at hx
      rwa [Array.getElem?_toList] at hx
    · have h1 := concs_length _ _ hgl
      rw [← hc] at h1
      simp at h1
      show gl.length ≤ c.size
      omega
  · simp at hv
/-- WHAT THE CONDITION GIVES THE EVALUATOR: the tables' cells. -/
theorem of_laid {W : World} (h : laidMetH Tryz.prog Rows.tablingNoneRow.laid W) : ∀ v ∈ Tryz.gvs, GVOk W v := by
  rw [MakeChecks.laidMetH_plain _ _ _ (by kernel_rfl)] at h
  obtain ⟨ps, ⟨g1, t1, cs1, f1, p1, q1, hg1, ht1, hv1, hd1, ⟨g2, t2, cs2, f2, p2, q2, hg2, ht2, hv2, hd2, ⟨g0, t0, cs0, f0, p0, q0, hg0, ht0, hv0, hd0, _, _⟩, _⟩, _⟩, _, _⟩ := h
  obtain rfl := Option.some.inj ((show Tryz.prog.globalNamed "math/bits.deBruijn32tab" = some 1 by kernel_rfl).symm.trans hg1)
  obtain rfl := Option.some.inj ((show Tryz.prog.globalNamed "math/bits.deBruijn64tab" = some 2 by kernel_rfl).symm.trans hg2)
  obtain rfl := Option.some.inj ((show Tryz.prog.globalNamed "internal/strconv.uint64pow10" = some 0 by kernel_rfl).symm.trans hg0)
  obtain rfl := Option.some.inj ((show (Tryz.prog.globals[1]?).map (·.type) = some 525 by kernel_rfl).symm.trans ht1)
  obtain rfl := Option.some.inj ((show (Tryz.prog.globals[2]?).map (·.type) = some 526 by kernel_rfl).symm.trans ht2)
  obtain rfl := Option.some.inj ((show (Tryz.prog.globals[0]?).map (·.type) = some 406 by kernel_rfl).symm.trans ht0)
  have e1 := cells_ints ns1 Tryz.underlying525 Tryz.underlying5 (by kernel_rfl) (by kernel_rfl) hd1
  have e2 := cells_ints ns2 Tryz.underlying526 Tryz.underlying5 (by kernel_rfl) (by kernel_rfl) hd2
  have e0 := cells_ints ns0 Tryz.underlying406 Tryz.underlying310 (by kernel_rfl) (by kernel_rfl) hd0
  intro v hv
  simp only [Tryz.gvs, List.mem_cons, List.not_mem_nil, or_false] at hv
  rcases hv with rfl | rfl | rfl
  · exact gv_ok hg0 (by decide) hv0 e0 conc0
  · exact gv_ok hg1 (by decide) hv1 e1 conc1
  · exact gv_ok hg2 (by decide) hv2 e2 conc2

/-- THE LAW's CALL. -/
theorem law_any {W : World} (hl : ∀ v ∈ Tryz.gvs, GVOk W v) {v0 : Value} (h0 : v0 = .slice none 0 0 ∨ ∃ b off len cap, v0 = .slice (some ⟨b, off, none⟩) len cap) (n : Int) :
    Calls Tryz.prog 4 #[v0, .int .i64 n] W fun e w' => e = .returned (.bool true) ∧ Below W.heap.size W w' := by
  have key : ∀ (ρ : Rho) (x : AV), Sim W.heap.size ρ (heap0 Tryz.gvs) W.heap → conc ρ x = some v0 → Calls Tryz.prog 4 #[v0, .int .i64 n] W fun e w' => e = .returned (.bool true) ∧ Below W.heap.size W w' := by
    intro ρ x hs hx
    obtain ⟨v, h', hr, hk⟩ := goK_ok Tryz.envOk (Tryz.run4 x (.i .i64 n))
    obtain ⟨b, rfl, hb⟩ := bK_ok hk
    have hc : concs ρ [x, .i .i64 n] = some [v0, .int .i64 n] := by simp [concs, conc, hx]
    rcases run_sound (Tryz.good W.heap.size) hr hs hc with ⟨y, w', q1, _⟩ | ⟨_, q⟩
    · have := (Tryz.call4 #[v0, .int .i64 n] W).symm.trans q1
      simp at this
    · refine (callsIn_wide.1 q).mono ?_
      rintro e w' ⟨ρ', y, rfl, hy, hx⟩
      simp only [conc, Option.some.injEq] at hy
      have hb : b = true := hb
      subst hb
      subst hy
      exact ⟨rfl, hx.below⟩
  rcases h0 with rfl | ⟨b, off, len, cap, rfl⟩
  · exact key rho0 .sn (sim_start hl) rfl
  · exact key _ (.sl (K.ofNat 64) off 0 len (some cap)) (sim_start1 hl b) (by simp only [conc, up_same]; rfl)

section
variable {H : Type} {enc : TypeId × Value → H} {P : Program}
theorem post_of_below {f : Func} {s : ChangeSpec} {apart fresh handsOn again : Bool} {W W' : World} {args : Array Value} {v : Value} {ds gs : List (DataW H)} {before pa pv : List MemPlace}
    (hW : DataW.Whole enc P f.params.toList s.vars apart W args.toList ds gs before)
    (hres : ∀ (b : Nat) (sp : Nat → Bool) (hd : Bool), DataW.TrodAll enc P W' b sp hd f.resultTypes.toList (v.resultList f.resultTypes.size) (s.fn H (ds ++ gs)).results [])
    (hargs : ∀ sp : Nat → Bool, (∀ p ∈ before, sp p.block = true) → DataW.TrodAll enc P W' 0 sp true f.params.toList args.toList (s.fn H (ds ++ gs)).args pa)
    (hvars : ∀ sp : Nat → Bool, (∀ p ∈ before, sp p.block = true) → DataW.TrodVars enc P W' sp s.vars (s.fn H (ds ++ gs)).vars pv)
    (hps : before = pa ++ pv) (hb : Below W.heap.size W W')
    (hok : ∀ (j : Nat) (t : TypeId) (r : Value), f.resultTypes[j]? = some t → (v.resultList f.resultTypes.size)[j]? = some r → Value.okWide P W' .any 0 t r) :
    s.post enc P f apart fresh handsOn again W args v W' := by
  have hlt : ∀ p ∈ before, p.block < W.heap.size := fun p hp => hW.lt p hp
  have hold : ∀ p ∈ before, (fun b => decide (b < W.heap.size)) p.block = true := fun p hp => by simpa using hlt p hp
  refine ⟨ds, gs, before, [], pa, pv, hW, hres _ _ _, hargs _ hold, hvars _ hold, World.keptBut_mono (fun p hp => ⟨hp, ?_⟩) (hb.frame (· ∈ before)), fun _ => ?_⟩
  · rw [hps, List.mem_append] at hp
    exact Or.inr hp
  · obtain ⟨_, _, _, _, _, hz, hn⟩ := hW
    refine ⟨hok, _, _, ([] ++ pa) ++ pv, ⟨[] ++ pa, pv, trodAll_append (hargs _ (fun _ _ => rfl)) (hres _ _ _), hvars _ (fun _ _ => rfl), rfl, ?_, ?_⟩, ?_⟩
    · intro b off hp
      have hin : MemPlace.cell b off ∈ before := by rw [hps]; simpa using hp
      rw [hb.frozen (hlt _ hin)]
      exact hz b off hin
    · intro ha
      have := hn ha
      rw [hps] at this
      simpa using this
    · intro p hp _
      rw [hps]
      simpa using hp
/-- an argument read again, where only new blocks were written: whatever spare places are asked of -/
theorem again {t : TypeId} (hl : laidOutB P = true) (hr : P.readableRec t = true) (hrow : t < P.types.size) {W W' : World} {v : Value} {d : DataW H} {ps : List MemPlace}
    (h : DataW.Trod enc P W 0 (fun _ => true) true t v d ps) (hb : Below W.heap.size W W') (hlt : ∀ x ∈ ps, x.block < W.heap.size) (sp : Nat → Bool) (hsp : ∀ x ∈ ps, sp x.block = true) :
    DataW.Trod enc P W' 0 sp true t v d ps :=
  WideElems.Trod_stays hl hr hrow h (fun x hx => hb.same (hlt x hx)) hsp
end

set_option maxRecDepth 100000 in
theorem lifted (os : Os) (started : os.Started) (H : Type) (enc : TypeId × Value → H) :
    ReturnsInHanded {} Tryz.checked os 4 .any (fun w args => (Rows.tablingNoneSpec.pre enc Tryz.prog Tryz.f4 [] false w args ∧ laidMetH Tryz.prog Rows.tablingNoneRow.laid w) ∧ sizedMet enc Tryz.prog Tryz.f4 (OpenSpec.ofChange Rows.tablingNoneSpec) false w args)
      (Rows.tablingNoneSpec.post enc Tryz.prog Tryz.f4 false true false false) := by
  refine returnsInHanded_of_change_and (C := Tryz.checked) (X := fun w _ => laidMetH Tryz.prog Rows.tablingNoneRow.laid w) (fun _ _ _ hh h => h.of_heap hh) own started (by as_aux_lemma => kernel_rfl) Tryz.func4
    (ChangeSpec.witness_shaped (enc := enc) (C := Tryz.checked) (os := os) (X := fun w _ => laidMetH Tryz.prog Rows.tablingNoneRow.laid w) false (World.doorLaid Tryz.prog 60 os) #[.slice none 0 0, .int .i64 0] 8 rfl (door_shaped os) (fC os) (fD enc os) (fE enc os) (door_met os)) ?_
  intro W base args ds gs before hval0 hW _ _ hL _
  have hval : ∀ (j : Nat) t v, Tryz.f4.params[j]? = some t → args[j]? = some v → Value.okWide Tryz.prog W .any base t v := hval0
  have hW' := hW
  obtain ⟨p, q, hA0, hV, rfl, hfz, hnd⟩ := hW
  have hA : DataW.TrodAll enc Tryz.prog W 0 (fun _ => true) true Tryz.f4.params.toList args.toList ds p := hA0
  rw [Tryz.params4] at hA hval
  obtain ⟨v0, v1, d0, d1, p0, p1, rfl, rfl, rfl, h0, h1⟩ := trodAll_two hA
  obtain ⟨rfl, rfl⟩ := trodVars_none hV
  have s0 := open_slice_any Tryz.underlying37 (hval 0 37 v0 rfl rfl)
  obtain ⟨n, rfl⟩ := open_int_any Tryz.underlying3 (hval 1 3 v1 rfl rfl)
  clear hA0 hval0
  simp only [List.append_nil] at hW'
  refine (law_any (of_laid hL) s0 n).mono fun e W' ⟨he, hb⟩ => ?_
  subst he
  have hlt : ∀ x ∈ p0 ++ p1, x.block < W.heap.size := fun x hx => hW'.lt x hx
  refine ⟨_, rfl, post_of_below (pa := p0 ++ p1) (pv := []) hW' (fun _ _ _ => trodAll_mk1 (shut_bool Tryz.underlying4 true)) (fun sp hsp => ?_) (fun _ _ => rfl) (by simp) hb (ok_one (by kernel_rfl) rfl (okWide_bool_mk Tryz.underlying4 true))⟩
  exact trodAll_mk2 (again laidOut readable37 (by rw [Tryz.types_size]; decide) h0 hb (fun x hx => hlt x (by simp [hx])) sp (fun x hx => hsp x (by simp [hx])))
    (again laidOut readable3 (by rw [Tryz.types_size]; decide) h1 hb (fun x hx => hlt x (by simp [hx])) sp (fun x hx => hsp x (by simp [hx])))

theorem tablingNone_row : Rows.TablingNoneSaid :=
  OpenClaim.holds_of_wide 4 Tryz.f4 rfl rfl rfl rfl rfl rfl rfl ⟨rfl, rfl, rfl, rfl, rfl⟩ rfl rfl rfl rfl rfl (by as_aux_lemma => kernel_rfl) Tryz.func4 cells_forced
    (of_decide_eq_true (by as_aux_lemma => kernel_rfl)) (by unfold Func.isWrapper; first | (rw [if_pos (by decide +kernel)]; kernel_rfl) | (rw [if_neg (by decide +kernel)]; exact ⟨rfl, rfl⟩))
    (fun os started H enc _ => lifted os started H enc)

theorem tablingNone_holds : Rows.TablingNoneCardSaid :=
  Claim7.holds_tied_plain_at .later [] [.data, .data, .data] true (true, "1deabc0011fe38cdc76a60478ef77b1936a9bf716724db4371033b841132813a") true
    tablingNone_row (fun _ h => by cases h) wf_text (fun _ h => by cases h) tablingNone_row_tie rfl ⟨rfl, rfl⟩ main_is rfl
    (fun f fn hf hfn => by
      obtain rfl : f = 4 := Option.some.inj ((show Tryz.prog.funcNamed "constraint/constraintlaw51.TablingNone" = some 4 by kernel_rfl).symm.trans hf) |>.symm
      obtain rfl : fn = Tryz.f4 := (Option.some.inj (Tryz.func4.symm.trans hfn)).symm
      exact ⟨looks_true, fun j t ht => by
        rw [Tryz.params4] at ht
        have hm : t ∈ [37, 3] := by simpa using Array.mem_of_getElem? ht
        have hall : ([37, 3].all fun u => !Tryz.prog.wantsStandIn u) = true := by kernel_rfl
        exact (show Tryz.prog.wantsStandIn t = false by simpa using List.all_eq_true.1 hall t hm)⟩)
    goes_false
#print axioms tablingNone_holds
end Go.Proofs.YtodlhchgpmgeeaaGreatDoor
