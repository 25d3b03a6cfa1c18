/-
  THE PLUG-INS OF THIS PROGRAM, and that they are right; the package-level variables.
-/
import Derived.Test.YtodlhchgpmgeeaaGreatDoorPl1
import Derived.Test.YtodlhchgpmgeeaaGreatDoorPl2
import Derived.Test.YtodlhchgpmgeeaaGreatDoorPl3
import Derived.Test.YtodlhchgpmgeeaaGreatDoorPg2
import Derived.Test.YtodlhchgpmgeeaaGreatDoorFv5
import Derived.Test.YtodlhchgpmgeeaaGreatDoorLd1
namespace Go.Proofs
open Go.Ev

def Tryz.gl0 : List AV := [.i .u64 (1), .i .u64 (10), .i .u64 (100), .i .u64 (1000), .i .u64 (10000), .i .u64 (100000), .i .u64 (1000000), .i .u64 (10000000), .i .u64 (100000000), .i .u64 (1000000000), .i .u64 (10000000000), .i .u64 (100000000000), .i .u64 (1000000000000), .i .u64 (10000000000000), .i .u64 (100000000000000), .i .u64 (1000000000000000), .i .u64 (10000000000000000), .i .u64 (100000000000000000), .i .u64 (1000000000000000000), .i .u64 (10000000000000000000)]
def Tryz.gl1 : List AV := [.i .u8 (0), .i .u8 (1), .i .u8 (28), .i .u8 (2), .i .u8 (29), .i .u8 (14), .i .u8 (24), .i .u8 (3), .i .u8 (30), .i .u8 (22), .i .u8 (20), .i .u8 (15), .i .u8 (25), .i .u8 (17), .i .u8 (4), .i .u8 (8), .i .u8 (31), .i .u8 (27), .i .u8 (13), .i .u8 (23), .i .u8 (21), .i .u8 (19), .i .u8 (16), .i .u8 (7), .i .u8 (26), .i .u8 (12), .i .u8 (18), .i .u8 (6), .i .u8 (11), .i .u8 (5), .i .u8 (10), .i .u8 (9)]
def Tryz.gl2 : List AV := [.i .u8 (0), .i .u8 (1), .i .u8 (56), .i .u8 (2), .i .u8 (57), .i .u8 (49), .i .u8 (28), .i .u8 (3), .i .u8 (61), .i .u8 (58), .i .u8 (42), .i .u8 (50), .i .u8 (38), .i .u8 (29), .i .u8 (17), .i .u8 (4), .i .u8 (62), .i .u8 (47), .i .u8 (59), .i .u8 (36), .i .u8 (45), .i .u8 (43), .i .u8 (51), .i .u8 (22), .i .u8 (53), .i .u8 (39), .i .u8 (33), .i .u8 (30), .i .u8 (24), .i .u8 (18), .i .u8 (12), .i .u8 (5), .i .u8 (63), .i .u8 (55), .i .u8 (48), .i .u8 (27), .i .u8 (60), .i .u8 (41), .i .u8 (37), .i .u8 (16), .i .u8 (46), .i .u8 (35), .i .u8 (44), .i .u8 (21), .i .u8 (52), .i .u8 (32), .i .u8 (23), .i .u8 (11), .i .u8 (54), .i .u8 (26), .i .u8 (40), .i .u8 (15), .i .u8 (34), .i .u8 (20), .i .u8 (31), .i .u8 (10), .i .u8 (25), .i .u8 (14), .i .u8 (19), .i .u8 (9), .i .u8 (13), .i .u8 (8), .i .u8 (7), .i .u8 (6)]
def Tryz.gvs : List GV := [⟨0, 406, Tryz.gl0⟩, ⟨1, 525, Tryz.gl1⟩, ⟨2, 526, Tryz.gl2⟩]
noncomputable def Tryz.plug (f : FuncId) (args : List AV) (h : H) : Option (R (AV × H)) :=
  match Nat.beq f 166 with
  | true => ccA Tryz.prog 217 args h
  | false => (match Nat.beq f 96 with
    | true => strA 5 args h
    | false => (match Nat.beq f 51 with
      | true => insA 9 args h
      | false => none))
noncomputable def Tryz.pdfr (g : FuncId) (args : List AV) (_ : H) : Bool :=
  match Nat.beq g 201, args with
  | true, [_] => true
  | _, _ => (match Nat.beq g 124, args with
    | true, [_, _] => true
    | _, _ => false)
noncomputable def Tryz.G : Plug := { call := Tryz.plug, dfr := Tryz.pdfr }
noncomputable def Tryz.E : Env := { P := Tryz.prog, G := Tryz.G, pl := fun f => Bool.rec (Bool.rec (Nat.beq f 51) true (Nat.beq f 96)) true (Nat.beq f 166), pd := fun g => Bool.rec (Nat.beq g 124) true (Nat.beq g 201) }
theorem Tryz.envOk : EnvOk Tryz.E where
  pl f args h e := by
    have e : (Bool.rec (Bool.rec (Nat.beq f 51) true (Nat.beq f 96)) true (Nat.beq f 166) : Bool) = false := e
    show Tryz.plug f args h = none
    unfold Tryz.plug
    cases h1 : Nat.beq f 166 <;> rw [h1] at e <;> simp at e
    cases h2 : Nat.beq f 96 <;> rw [h2] at e <;> simp at e
    simp [e]
  pd g args h e := by
    have e : (Bool.rec (Nat.beq g 124) true (Nat.beq g 201) : Bool) = false := e
    show Tryz.pdfr g args h = false
    unfold Tryz.pdfr
    cases h1 : Nat.beq g 201 <;> rw [h1] at e <;> simp at e
    simp [e]
theorem Tryz.good (B : Nat) : Go.Ev.Good Tryz.prog Tryz.G B where
  mixed := by kernel_rfl
  call f args h v h' ha ρ w az hs hc := by
    have ha : Tryz.plug f args h = some (.ok (v, h')) := ha
    unfold Tryz.plug at ha
    cases h1 : Nat.beq f 166 with
    | true =>
      rw [Nat.beq_eq] at h1
      subst h1
      exact cc_good Tryz.call166 (fun b o w h => Tryz.cc_used b o w h) (fun b o el n w a1 a2 a3 a4 a5 => Tryz.cc_fresh b o el n w a1 a2 a3 a4 a5) (by simpa using ha) hs hc
    | false =>
      rw [h1] at ha
      simp only at ha
      cases h2 : Nat.beq f 96 with
      | true =>
        rw [Nat.beq_eq] at h2
        subst h2
        exact str_good Tryz.call96 (fun b o g n cap l w a1 a2 a3 a4 a5 a6 a7 => Tryz.str_any b o g n cap l w a1 a2 a3 a4 a5 a6 a7) (by simpa using ha) hs hc
      | false =>
        rw [h2] at ha
        simp only at ha
        cases h3 : Nat.beq f 51 with
        | true =>
          rw [Nat.beq_eq] at h3
          subst h3
          exact ins_good (z := .string ⟨#[]⟩) rfl Tryz.call51 (fun b off n c i vb voff m vc cs vs w a1 a2 a3 a4 a5 a6 a7 a8 a9 a10 a11 a12 a13 tA tB kA kB a14 a15 a16 a17 a18 => Tryz.ins_shift b off n c i vb voff m vc cs vs w a1 a2 a3 a4 a5 a6 a7 a8 a9 a10 a11 a12 a13 tA tB kA kB a14 a15 a16 a17 a18)
            (fun b off n c i vb voff m vc cs vs w a1 a2 a3 a4 a5 a6 a7 a8 a9 a10 a11 => Tryz.ins_grow b off n c i vb voff m vc cs vs w a1 a2 a3 a4 a5 a6 a7 a8 a9 a10 a11) (by simpa using ha) hs hc
        | false => rw [h3] at ha; simp at ha
  dfr g args h hd ρ w az hs hc := by
    have hd : Tryz.pdfr g args h = true := hd
    unfold Tryz.pdfr at hd
    have one {a : AV} (e : args = [a]) : ∃ x, az = [x] := by
      subst e
      obtain ⟨x, y, _, hy, rfl⟩ := concs_cons hc
      simp [concs] at hy
      exact ⟨x, by rw [hy]⟩
    have two {a b : AV} (e : args = [a, b]) : ∃ x y, az = [x, y] := by
      subst e
      obtain ⟨x, y, _, hy, rfl⟩ := concs_cons hc
      obtain ⟨x', y', _, hy', rfl⟩ := concs_cons hy
      simp [concs] at hy'
      exact ⟨x, x', by rw [hy']⟩
    split at hd
    · rename_i x0 h1 h9
      rw [Nat.beq_eq] at h1
      subst h1
      obtain ⟨x, rfl⟩ := one rfl
      refine ⟨Tryz.call201 _ _, (Tryz.dfr201 x w).mono ?_⟩
      rintro e u w' ⟨rfl, rfl, rfl⟩
      exact ⟨_, rfl, rfl, Ext.refl hs⟩
    · split at hd
      · rename_i x0 x1 h1 h8 h9
        rw [Nat.beq_eq] at h1
        subst h1
        obtain ⟨x, y, rfl⟩ := two rfl
        refine ⟨Tryz.call124 _ _, (Tryz.dfr124 x y w).mono ?_⟩
        rintro e u w' ⟨rfl, rfl, rfl⟩
        exact ⟨_, rfl, rfl, Ext.refl hs⟩
      · simp at hd
end Go.Proofs
