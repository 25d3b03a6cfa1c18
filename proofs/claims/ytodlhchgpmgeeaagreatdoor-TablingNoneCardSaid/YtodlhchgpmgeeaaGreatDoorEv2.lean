/-
  THE EVALUATOR's SOUNDNESS, part 1: keys, tries, what an abstract value stands for, what an abstract heap says of a world.
-/
import Derived.Test.YtodlhchgpmgeeaaGreatDoorEv1
import Derived.Laws.Sem
import Derived.Laws.Cells
import Derived.Below
import Derived.RangeFuncLeaves
import Derived.OrdersIn
namespace Go.Ev
open Go.RowKit

/-! ### keys -/
theorem K.toNat_pos : ∀ k : K, 1 ≤ k.toNat
  | .h => Nat.le_refl _
  | .o k => by have := toNat_pos k; simp only [toNat]; omega
  | .i k => by simp only [toNat]; omega
theorem K.toNat_inj : ∀ a b : K, a.toNat = b.toNat → a = b
  | .h, .h, _ => rfl
  | .h, .o b, e => by have := toNat_pos b; simp only [toNat] at e; omega
  | .h, .i b, e => by have := toNat_pos b; simp only [toNat] at e; omega
  | .o a, .h, e => by have := toNat_pos a; simp only [toNat] at e; omega
  | .o a, .o b, e => by simp only [toNat] at e; rw [toNat_inj a b (by omega)]
  | .o a, .i b, e => by simp only [toNat] at e; omega
  | .i a, .h, e => by have := toNat_pos a; simp only [toNat] at e; omega
  | .i a, .o b, e => by simp only [toNat] at e; omega
  | .i a, .i b, e => by simp only [toNat] at e; rw [toNat_inj a b (by omega)]
theorem K.toNat_succ : ∀ k : K, k.succ.toNat = k.toNat + 1
  | .h => rfl
  | .o k => rfl
  | .i k => by simp only [succ, toNat, toNat_succ k]; omega
theorem K.toNat_ofNatF : ∀ (f n : Nat), 1 ≤ n → n < 2 ^ f → (K.ofNatF f n).toNat = n
  | 0, n, h1, h2 => by simp at h2; omega
  | f + 1, n, h1, h2 => by
    unfold K.ofNatF
    by_cases hn : n ≤ 1
    · rw [if_pos (by simpa using hn)]; simp only [toNat]; omega
    · rw [if_neg (by simpa using hn)]
      have h3 : n / 2 < 2 ^ f := by rw [Nat.pow_succ] at h2; omega
      have ih := toNat_ofNatF f (n / 2) (by omega) h3
      by_cases he : n % 2 = 0
      · rw [if_pos (by simp [he])]; simp only [toNat, ih]; omega
      · rw [if_neg (by simp; omega)]; simp only [toNat, ih]; omega
theorem K.toNat_ofNat (n : Nat) : (K.ofNat n).toNat = n + 1 := K.toNat_ofNatF _ _ (by omega) Nat.lt_two_pow_self
theorem K.ofNat_inj {a b : Nat} (h : K.ofNat a = K.ofNat b) : a = b := by
  have := congrArg K.toNat h
  rw [toNat_ofNat, toNat_ofNat] at this
  omega
theorem K.beq_iff : ∀ a b : K, K.beq a b = true ↔ a = b
  | .h, .h => by simp [beq]
  | .h, .o b => by simp [beq]
  | .h, .i b => by simp [beq]
  | .o a, .h => by simp [beq]
  | .o a, .o b => by simp [beq, beq_iff a b]
  | .o a, .i b => by simp [beq]
  | .i a, .h => by simp [beq]
  | .i a, .o b => by simp [beq]
  | .i a, .i b => by simp [beq, beq_iff a b]

/-! ### tries -/
section
variable {α : Type}
theorem Tr.get_nil (k : K) : Tr.get k (.nil : Tr α) = none := by
  induction k with
  | h => rfl
  | o k ih => exact ih
  | i k ih => exact ih
theorem Tr.get_put_same : ∀ (k : K) (v : Option α) (t : Tr α), Tr.get k (Tr.put k v t) = v
  | .h, _, _ => rfl
  | .o k, v, t => get_put_same k v t.left
  | .i k, v, t => get_put_same k v t.right
theorem Tr.get_put_ne : ∀ (k l : K) (v : Option α) (t : Tr α), k ≠ l → Tr.get k (Tr.put l v t) = Tr.get k t
  | .h, .h, _, _, h => absurd rfl h
  | .h, .o _, _, _, _ => rfl
  | .h, .i _, _, _, _ => rfl
  | .o k, .h, _, _, _ => rfl
  | .o k, .o l, v, t, h => get_put_ne k l v t.left (fun e => h (by rw [e]))
  | .o k, .i l, v, t, _ => rfl
  | .i k, .h, _, _, _ => rfl
  | .i k, .o l, v, t, _ => rfl
  | .i k, .i l, v, t, h => get_put_ne k l v t.right (fun e => h (by rw [e]))
theorem Tr.get_put (k l : K) (v : Option α) (t : Tr α) : Tr.get k (Tr.put l v t) = if k = l then v else Tr.get k t := by
  by_cases h : k = l
  · subst h; rw [if_pos rfl, get_put_same]
  · rw [if_neg h, get_put_ne _ _ _ _ h]
end

/-! ### bytes -/
theorem bytesOf_length : ∀ n c, (bytesOf n c).length = n
  | 0, _ => rfl
  | n + 1, c => by simp [bytesOf, bytesOf_length n]
theorem bytesOf_enc : ∀ l : List UInt8, bytesOf l.length (enc l) = l
  | [] => rfl
  | b :: l => by
    have hb : b.toNat < 256 := b.toNat_lt
    have h1 : (b.toNat + 256 * enc l) % 256 = b.toNat := by omega
    have h2 : (b.toNat + 256 * enc l) / 256 = enc l := by omega
    simp only [List.length_cons, bytesOf, enc, h1, h2, bytesOf_enc l]
    simp
theorem enc_lt : ∀ l : List UInt8, enc l < 256 ^ l.length
  | [] => by simp [enc]
  | b :: l => by
    have hb : b.toNat < 256 := b.toNat_lt
    have := enc_lt l
    simp only [enc, List.length_cons, Nat.pow_succ]
    omega
theorem enc_bytesOf : ∀ n c, enc (bytesOf n c) = c % 256 ^ n
  | 0, c => by simp [bytesOf, enc, Nat.mod_one]
  | n + 1, c => by
    simp only [bytesOf, enc, enc_bytesOf n]
    have h1 : (UInt8.ofNat (c % 256)).toNat = c % 256 := by simp
    rw [h1, Nat.pow_succ, Nat.mul_comm (256 ^ n) 256, Nat.mod_mul]
theorem bytesOf_inj {n c d : Nat} (hc : c < 256 ^ n) (hd : d < 256 ^ n) (h : bytesOf n c = bytesOf n d) : c = d := by
  have := congrArg enc h
  rwa [enc_bytesOf, enc_bytesOf, Nat.mod_eq_of_lt hc, Nat.mod_eq_of_lt hd] at this
theorem bytesOf_mod (n c : Nat) : bytesOf n (c % 256 ^ n) = bytesOf n c := by
  have h1 : (bytesOf n (c % 256 ^ n)).length = (bytesOf n c).length := by simp [bytesOf_length]
  have a := bytesOf_enc (bytesOf n c)
  rw [bytesOf_length, enc_bytesOf] at a
  exact a
theorem bytesOf_drop : ∀ l n c, (bytesOf (l + n) c).drop l = bytesOf n (c / 256 ^ l)
  | 0, n, c => by simp
  | l + 1, n, c => by
    rw [show l + 1 + n = (l + n) + 1 by omega]
    simp only [bytesOf, List.drop_succ_cons, bytesOf_drop l]
    rw [Nat.pow_succ, Nat.mul_comm, Nat.div_div_eq_div_mul]
theorem bytesOf_take : ∀ l n c, (bytesOf (l + n) c).take l = bytesOf l c
  | 0, n, c => by simp [bytesOf]
  | l + 1, n, c => by
    rw [show l + 1 + n = (l + n) + 1 by omega]
    simp only [bytesOf, List.take_succ_cons, bytesOf_take l]
theorem bytesOf_append : ∀ l n c d, c < 256 ^ l → bytesOf (l + n) (c + d * 256 ^ l) = bytesOf l c ++ bytesOf n d
  | 0, n, c, d, h => by simp at h; subst h; simp [bytesOf]
  | l + 1, n, c, d, h => by
    rw [show l + 1 + n = (l + n) + 1 by omega]
    have hp : d * 256 ^ (l + 1) = 256 * (d * 256 ^ l) := by rw [Nat.pow_succ]; simp only [Nat.mul_comm, Nat.mul_left_comm]
    have h1 : (c + d * 256 ^ (l + 1)) % 256 = c % 256 := by rw [hp]; omega
    have h2 : (c + d * 256 ^ (l + 1)) / 256 = c / 256 + d * 256 ^ l := by rw [hp]; omega
    have h3 : c / 256 < 256 ^ l := by rw [Nat.pow_succ] at h; omega
    simp only [bytesOf, h1, h2, bytesOf_append l n _ d h3, List.cons_append]
theorem bytesOf_get : ∀ n c i, i < n → (bytesOf n c)[i]? = some (UInt8.ofNat (c / 256 ^ i % 256))
  | n + 1, c, 0, _ => by simp [bytesOf]
  | n + 1, c, i + 1, h => by
    simp only [bytesOf, List.getElem?_cons_succ, bytesOf_get n _ i (by omega)]
    rw [Nat.pow_succ, Nat.mul_comm (256 ^ i), Nat.div_div_eq_div_mul]

/-! ### what an abstract value stands for -/
/-- of each key: the block, and how many elements its row has room for -/
abbrev Rho := K → Option (Nat × Nat)
def Le (ρ ρ' : Rho) : Prop := ∀ id x, ρ id = some x → ρ' id = some x
theorem Le.refl (ρ : Rho) : Le ρ ρ := fun _ _ h => h
theorem Le.trans {a b c : Rho} (h : Le a b) (k : Le b c) : Le a c := fun id x e => k id x (h id x e)

def strOf (l c : Nat) : ByteArray := ⟨(bytesOf l c).toArray⟩
theorem strOf_size (l c : Nat) : (strOf l c).size = l := by simp [strOf, ByteArray.size, bytesOf_length]

mutual
def conc (ρ : Rho) : AV → Option Value
  | .b x => some (.bool x)
  | .i k n => some (.int k n)
  | .s l c => some (.string (strOf l c))
  | .p id off => (ρ id).map fun be => .pointer (some ⟨be.1, off, none⟩)
  | .pn => some (.pointer none)
  | .sl id off beg len cap => (ρ id).map fun be => .slice (some ⟨be.1, off, none⟩) len (match cap with | some c => c | none => be.2 - beg)
  | .sn => some (.slice none 0 0)
  | .se id off0 off1 beg => (ρ id).map fun be => if be.2 = beg then .slice (some ⟨be.1, off0, none⟩) 0 0 else .slice (some ⟨be.1, off1, none⟩) 0 (be.2 - beg)
  | .m id => (ρ id).map fun be => .map (some be.1)
  | .mn => some (.map none)
  | .fn f first cap => (match f with
    | .func g => (match concs ρ first, concs ρ cap with | some a, some b => some (.func (.func g) a.toArray b.toArray) | _, _ => none)
    | .yield _ => (match first, cap with
      | [.p l 0], [] => (ρ l).map fun be => .func (.yield be.1) #[] #[]
      | _, _ => none)
    | _ => none)
  | .nf => some .nilFunc
  | .ifc t v => (conc ρ v).map (.iface t)
  | .ni => some .nilIface
  | .agg cs => (concs ρ cs).map fun l => .agg l.toArray
  | .tup vs => (concs ρ vs).map fun l => .tuple l.toArray
def concs (ρ : Rho) : List AV → Option (List Value)
  | [] => some []
  | v :: l => (match conc ρ v, concs ρ l with | some x, some y => some (x :: y) | _, _ => none)
end

mutual
theorem conc_mono {ρ ρ' : Rho} (h : Le ρ ρ') : ∀ (v : AV) (x : Value), conc ρ v = some x → conc ρ' v = some x
  | .b _, x, e => by simpa [conc] using e
  | .i _ _, x, e => by simpa [conc] using e
  | .s _ _, x, e => by simpa [conc] using e
  | .p id off, x, e => by
    simp only [conc, Option.map_eq_some_iff] at e ⊢
    obtain ⟨be, hb, rfl⟩ := e; exact ⟨be, h _ _ hb, rfl⟩
  | .pn, x, e => by simpa [conc] using e
  | .sl id off beg len cap, x, e => by
    simp only [conc, Option.map_eq_some_iff] at e ⊢
    obtain ⟨be, hb, rfl⟩ := e; exact ⟨be, h _ _ hb, rfl⟩
  | .sn, x, e => by simpa [conc] using e
  | .se id a b c, x, e => by
    simp only [conc, Option.map_eq_some_iff] at e ⊢
    obtain ⟨be, hb, rfl⟩ := e; exact ⟨be, h _ _ hb, rfl⟩
  | .m id, x, e => by
    simp only [conc, Option.map_eq_some_iff] at e ⊢
    obtain ⟨be, hb, rfl⟩ := e; exact ⟨be, h _ _ hb, rfl⟩
  | .mn, x, e => by simpa [conc] using e
  | .fn f first cap, x, e => by
    cases f with
    | func g =>
      simp only [conc] at e ⊢
      cases h1 : concs ρ first with
      | none => rw [h1] at e; simp at e
      | some a =>
        cases h2 : concs ρ cap with
        | none => rw [h1, h2] at e; simp at e
        | some b =>
          rw [h1, h2] at e
          rw [concs_mono h first a h1, concs_mono h cap b h2]
          exact e
    | yield n =>
      simp only [conc] at e ⊢
      split at e
      · simp only [Option.map_eq_some_iff] at e ⊢
        obtain ⟨be, hb, rfl⟩ := e; exact ⟨be, h _ _ hb, rfl⟩
      · simp at e
    | method n => simp [conc] at e
    | methodOf t n => simp [conc] at e
    | via t p f q => simp [conc] at e
  | .nf, x, e => by simpa [conc] using e
  | .ifc t v, x, e => by
    simp only [conc, Option.map_eq_some_iff] at e ⊢
    obtain ⟨y, hy, rfl⟩ := e; exact ⟨y, conc_mono h v y hy, rfl⟩
  | .ni, x, e => by simpa [conc] using e
  | .agg cs, x, e => by
    simp only [conc, Option.map_eq_some_iff] at e ⊢
    obtain ⟨y, hy, rfl⟩ := e; exact ⟨y, concs_mono h cs y hy, rfl⟩
  | .tup cs, x, e => by
    simp only [conc, Option.map_eq_some_iff] at e ⊢
    obtain ⟨y, hy, rfl⟩ := e; exact ⟨y, concs_mono h cs y hy, rfl⟩
theorem concs_mono {ρ ρ' : Rho} (h : Le ρ ρ') : ∀ (l : List AV) (x : List Value), concs ρ l = some x → concs ρ' l = some x
  | [], x, e => by simpa [concs] using e
  | v :: l, x, e => by
    simp only [concs] at e ⊢
    cases h1 : conc ρ v with
    | none => rw [h1] at e; simp at e
    | some a =>
      cases h2 : concs ρ l with
      | none => rw [h1, h2] at e; simp at e
      | some b =>
        rw [h1, h2] at e
        rw [conc_mono h v a h1, concs_mono h l b h2]
        exact e
end

theorem concs_cons {ρ : Rho} {v : AV} {l : List AV} {x : List Value} (h : concs ρ (v :: l) = some x) :
    ∃ a b, conc ρ v = some a ∧ concs ρ l = some b ∧ x = a :: b := by
  simp only [concs] at h
  cases h1 : conc ρ v with
  | none => rw [h1] at h; simp at h
  | some a =>
    cases h2 : concs ρ l with
    | none => rw [h1, h2] at h; simp at h
    | some b => rw [h1, h2] at h; simp at h; exact ⟨a, b, rfl, rfl, h.symm⟩
theorem concs_cons_mk {ρ : Rho} {v : AV} {l : List AV} {a : Value} {b : List Value} (h1 : conc ρ v = some a) (h2 : concs ρ l = some b) :
    concs ρ (v :: l) = some (a :: b) := by simp [concs, h1, h2]
theorem concs_length {ρ : Rho} : ∀ (l : List AV) (x : List Value), concs ρ l = some x → x.length = l.length
  | [], x, h => by simp [concs] at h; simp [h]
  | v :: l, x, h => by
    obtain ⟨a, b, _, hb, rfl⟩ := concs_cons h
    simp [concs_length l b hb]
theorem concs_append {ρ : Rho} : ∀ (l m : List AV) (x y : List Value), concs ρ l = some x → concs ρ m = some y → concs ρ (l ++ m) = some (x ++ y)
  | [], m, x, y, h, k => by simp [concs] at h; simp [h, k]
  | v :: l, m, x, y, h, k => by
    obtain ⟨a, b, ha, hb, rfl⟩ := concs_cons h
    exact concs_cons_mk ha (concs_append l m b y hb k)
theorem concs_append_inv {ρ : Rho} : ∀ (l m : List AV) (x : List Value), concs ρ (l ++ m) = some x → ∃ y z, concs ρ l = some y ∧ concs ρ m = some z ∧ x = y ++ z
  | [], m, x, h => ⟨[], x, rfl, h, rfl⟩
  | v :: l, m, x, h => by
    obtain ⟨a, b, ha, hb, rfl⟩ := concs_cons (v := v) (l := l ++ m) h
    obtain ⟨y, z, hy, hz, rfl⟩ := concs_append_inv l m b hb
    exact ⟨a :: y, z, concs_cons_mk ha hy, hz, rfl⟩
theorem concs_get {ρ : Rho} : ∀ (l : List AV) (x : List Value) (i : Nat) (v : AV), concs ρ l = some x → l[i]? = some v → ∃ a, x[i]? = some a ∧ conc ρ v = some a
  | [], x, i, v, _, hv => by simp at hv
  | u :: l, x, i, v, h, hv => by
    obtain ⟨a, b, ha, hb, rfl⟩ := concs_cons h
    cases i with
    | zero => simp at hv; subst hv; exact ⟨a, by simp, ha⟩
    | succ i => simp at hv; simpa using concs_get l b i v hb hv

/-- the cells of a value are those of its abstract one -/
theorem conc_cells {ρ : Rho} {v : AV} {x : Value} (h : conc ρ v = some x) : concs ρ v.cells = some x.cells.toList := by
  cases v with
  | agg cs =>
    simp only [conc, Option.map_eq_some_iff] at h
    obtain ⟨l, hl, rfl⟩ := h
    simpa [AV.cells, Value.cells] using hl
  | fn f a b =>
    have hx : x.cells = #[x] := by
      cases f <;> simp only [conc] at h
      case func g => split at h <;> simp at h; subst h; rfl
      case yield n =>
        split at h
        · simp only [Option.map_eq_some_iff] at h; obtain ⟨_, _, rfl⟩ := h; rfl
        · simp at h
      all_goals simp at h
    rw [hx]
    simp [AV.cells, concs, h]
  | _ =>
    simp only [AV.cells, concs, h]
    simp only [conc, Option.map_eq_some_iff, Option.some.injEq] at h
    first
      | (subst h; rfl)
      | (obtain ⟨_, _, rfl⟩ := h; first | rfl | (split <;> rfl))

theorem conc_oneCell {ρ : Rho} {v : AV} {x : Value} (h : conc ρ v = some x) (ho : oneCell v = true) : x.oneCell' = true := by
  cases v with
  | agg cs => simp [oneCell] at ho
  | tup cs => simp [oneCell] at ho
  | fn f a b =>
    cases f <;> simp only [conc] at h
    case func g => split at h <;> simp at h; subst h; rfl
    case yield n =>
      split at h
      · simp only [Option.map_eq_some_iff] at h; obtain ⟨_, _, rfl⟩ := h; rfl
      · simp at h
    all_goals simp at h
  | _ =>
    simp only [conc, Option.map_eq_some_iff, Option.some.injEq] at h
    first
      | (subst h; rfl)
      | (obtain ⟨_, _, rfl⟩ := h; first | rfl | (split <;> rfl))

end Go.Ev
