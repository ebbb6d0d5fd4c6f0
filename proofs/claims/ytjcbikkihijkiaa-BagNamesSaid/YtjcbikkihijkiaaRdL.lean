/- What bytes tell: numbers that are read from bytes, and told again. Plain lists; no program. -/
import Derived.Test.YtjcbikkihijkiaaWir
import Derived.WalkSmall
namespace Go.Proofs.Ytjcbikkihijkiaa
open Go.RowKit
/-- The number of bytes, the lowest first. -/
def leV : List UInt8 → Nat
  | [] => 0
  | b :: t => b.toNat + 256 * leV t
theorem leV_lt : ∀ l : List UInt8, leV l < 256 ^ l.length
  | [] => by simp [leV]
  | b :: t => by
    have h1 := leV_lt t
    have h2 := b.toNat_lt
    simp only [leV, List.length_cons, Nat.pow_succ]
    omega
theorem leV_leB (n : Nat) : leV (leB n) = n := by
  induction n using Nat.strongRecOn with
  | _ n ih =>
    rcases Nat.eq_zero_or_pos n with rfl | h
    · rw [leB_zero]; rfl
    · rw [leB_pos h, leV, ih (n / 256) (by omega), UInt8.toNat_ofNat']; omega
theorem leB_ne {n : Nat} (h : 0 < n) : 0 < (leB n).length := by rw [leB_pos h]; simp
/-- The last byte of a number is not 0. -/
theorem leB_last (n : Nat) (h : 0 < n) : (leB n).getD ((leB n).length - 1) 0 ≠ 0 := by
  induction n using Nat.strongRecOn with
  | _ n ih =>
    rw [leB_pos h]
    rcases Nat.eq_zero_or_pos (n / 256) with h0 | h0
    · rw [h0, leB_zero]
      simp only [List.length_singleton, Nat.sub_self, List.getD_cons_zero]
      intro e
      have := congrArg UInt8.toNat e
      rw [UInt8.toNat_ofNat'] at this
      simp at this
      omega
    · have h1 := ih (n / 256) (by omega) h0
      have h2 := leB_ne h0
      rw [List.length_cons, show (leB (n / 256)).length + 1 - 1 = ((leB (n / 256)).length - 1) + 1 by omega, List.getD_cons_succ]
      exact h1
/-- A number at the beginning: itself, its bytes, an error. -/
def rdNum (l : List UInt8) : Nat × Nat × Int :=
  match l with
  | [] => (0, 0, 5)
  | b :: t => if 8 < b.toNat then (0, 0, 4) else if t.length < b.toNat then (0, 0, 5) else if 0 < b.toNat ∧ t.getD (b.toNat - 1) 0 = 0 then (0, 0, 4) else (leV (t.take b.toNat), 1 + b.toNat, 0)
theorem rdNum_len (l : List UInt8) : (rdNum l).2.1 ≤ l.length := by
  unfold rdNum
  split
  · simp
  · split
    · simp
    · split
      · simp
      · split <;> (simp; try omega)
theorem rdNum_64 (l : List UInt8) : N64 (rdNum l).1 := by
  unfold rdNum N64
  split
  · simp
  · rename_i b t
    split
    · simp
    · split
      · simp
      · split
        · simp
        · have h := leV_lt (t.take b.toNat)
          have hl : (t.take b.toNat).length ≤ 8 := by rw [List.length_take]; omega
          have := Nat.pow_le_pow_right (n := 256) (by omega) hl
          simp only [show (256 : Nat) ^ 8 = 18446744073709551616 from rfl] at this
          simp only
          omega
theorem rdNum_err (l : List UInt8) : (rdNum l).2.2 = 0 ∨ (rdNum l).2.2 = 4 ∨ (rdNum l).2.2 = 5 := by
  unfold rdNum
  split
  · simp
  · split
    · simp
    · split
      · simp
      · split <;> simp
theorem rdNum_numB {n : Nat} (h : N64 n) (m : List UInt8) : rdNum (numB n ++ m) = (n, (numB n).length, 0) := by
  have h8 := leB_len 8 n h
  have hu : (UInt8.ofNat (leB n).length).toNat = (leB n).length := by rw [UInt8.toNat_ofNat']; omega
  unfold numB
  simp only [List.cons_append, rdNum, hu]
  rw [if_neg (by omega), if_neg (by simp), if_neg, List.take_left, leV_leB, List.length_cons, Nat.add_comm]
  rintro ⟨h1, h2⟩
  rcases Nat.eq_zero_or_pos n with rfl | h0
  · rw [leB_zero] at h1; simp at h1
  · apply leB_last n h0
    rw [List.getD_eq_getElem?_getD, List.getElem?_append_left (by omega)] at h2
    rwa [List.getD_eq_getElem?_getD]
/-- Signed numbers. -/
def unzz (x : Nat) : Int := if x % 2 = 0 then ((x / 2 : Nat) : Int) else -((x / 2 : Nat) : Int) - 1
theorem unzz_zz (x : Int) : unzz (zz x) = x := by unfold unzz zz; split <;> split <;> omega
theorem unzz_in {x : Nat} (h : N64 x) : In64 (unzz x) := by unfold N64 at h; unfold unzz In64; split <;> omega
theorem ones_s : BitVec.ofInt 64 (-1) = BitVec.allOnes 64 := by decide
theorem xor_half {a : Nat} (ha : a < 9223372036854775808) : bits BinOp.xor IntKind.i64 (a : Int) (-1) = -(a : Int) - 1 := by
  show IntKind.i64.wrap ((BitVec.ofInt 64 _ ^^^ BitVec.ofInt 64 (-1)).toNat : Int) = _
  rw [ones_s, BitVec.xor_allOnes, BitVec.toNat_not, BitVec.toNat_ofInt, IntKind.wrap_i64]
  omega
theorem xor_zero_ {a : Nat} (ha : a < 9223372036854775808) : bits BinOp.xor IntKind.i64 (a : Int) 0 = (a : Int) := by
  show IntKind.i64.wrap ((BitVec.ofInt 64 _ ^^^ BitVec.ofInt 64 0).toNat : Int) = _
  rw [show BitVec.ofInt 64 0 = 0#64 from rfl, BitVec.xor_zero, BitVec.toNat_ofInt, IntKind.wrap_i64]
  omega
abbrev vU (n : Nat) : Value := .int .u64 (n : Int)
abbrev vB (b : Bool) : Value := .bool b
/-- A state of a reader: the bytes that are left, the first error. -/
abbrev Rst := List UInt8 × Int
/-- A reading, carried to the states. -/
def rsOf {α : Type} (z : α) (rd : List UInt8 → α × Nat × Int) (s : Rst) : α × Rst := if s.2 ≠ 0 then (z, s) else if (rd s.1).2.2 ≠ 0 then (z, (s.1, (rd s.1).2.2)) else ((rd s.1).1, (s.1.drop (rd s.1).2.1, 0))
section
variable {α : Type} (z : α) (rd : List UInt8 → α × Nat × Int) (l : List UInt8)
theorem rsOf_val : (if (rd l).2.2 = 0 then (rd l).1 else z) = (rsOf z rd (l, 0)).1 := by
  unfold rsOf
  by_cases h : (rd l).2.2 = 0 <;> simp [h]
theorem rsOf_st : (if (rd l).2.2 = 0 then (l.drop (rd l).2.1, 0) else (l, (rd l).2.2)) = (rsOf z rd (l, 0)).2 := by
  unfold rsOf
  by_cases h : (rd l).2.2 = 0 <;> simp [h]
theorem rsOf_stop {er : Int} (h : er ≠ 0) : rsOf z rd (l, er) = (z, (l, er)) := by
  unfold rsOf; simp [h]
end
def rsNum : Rst → Nat × Rst := rsOf 0 rdNum
theorem rsNum_64 (s : Rst) : N64 (rsNum s).1 := by
  unfold rsNum rsOf
  split
  · show (0 : Nat) < _; omega
  · split
    · show (0 : Nat) < _; omega
    · exact rdNum_64 _
/-- A truth at the beginning. -/
def rdTr (l : List UInt8) : Bool × Nat × Int :=
  match l with
  | [] => (false, 0, 5)
  | b :: _ => if 1 < b.toNat then (false, 0, 4) else (decide (b.toNat = 1), 1, 0)
theorem rdTr_len (l : List UInt8) : (rdTr l).2.1 ≤ l.length := by
  unfold rdTr
  split
  · simp
  · split <;> simp
def rsTruth : Rst → Bool × Rst := rsOf false rdTr
/-- How many things there are. -/
def rdCount (most : Int) (l : List UInt8) : Nat × Nat × Int := if (rdNum l).2.2 ≠ 0 then (0, 0, (rdNum l).2.2) else if max 0 most < ((rdNum l).1 : Int) then (0, 0, 3) else rdNum l
theorem rdCount_len (most : Int) (l : List UInt8) : (rdCount most l).2.1 ≤ l.length := by
  unfold rdCount
  split
  · simp
  · split
    · simp
    · exact rdNum_len l
def rsCount (most : Int) : Rst → Nat × Rst := rsOf 0 (rdCount most)
def rsSigned (s : Rst) : Int × Rst := (unzz (rsNum s).1, (rsNum s).2)
/-- A value at the beginning. -/
def rsVal (s : Rst) : (Int × Bool) × Bool × Rst :=
  let t := rsTruth s
  let u := if t.1 then (0, t.2) else rsSigned t.2
  if u.2.2 ≠ 0 then ((0, false), false, u.2) else ((u.1, t.1), true, u.2)
end Go.Proofs.Ytjcbikkihijkiaa
