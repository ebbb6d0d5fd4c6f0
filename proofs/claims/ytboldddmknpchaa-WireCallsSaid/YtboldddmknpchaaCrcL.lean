/- The sum of bytes, plainly: eight steps of a byte; steps by a table are steps bit by bit. -/
namespace Go.Proofs.Ytboldddmknpchaa
/-- One step. -/
def st (x : Nat) : Nat := if x % 2 = 1 then (x / 2) ^^^ 2197175160 else x / 2
def stn : Nat → Nat → Nat
  | 0, x => x
  | k + 1, x => st (stn k x)
theorem xor_mod2 (a b : Nat) : (a ^^^ b) % 2 = (a % 2) ^^^ (b % 2) := by
  have := @Nat.xor_mod_two_pow a b 1
  simpa using this
theorem xor_div2 (a b : Nat) : (a ^^^ b) / 2 = (a / 2) ^^^ (b / 2) := by
  have := @Nat.xor_div_two_pow a b 1
  simpa using this
theorem xor_lt32 {a b : Nat} (ha : a < 4294967296) (hb : b < 4294967296) : a ^^^ b < 4294967296 := by
  have := @Nat.xor_lt_two_pow a b 32 (by simpa using ha) (by simpa using hb)
  simpa using this
theorem st_lt {x : Nat} (h : x < 4294967296) : st x < 4294967296 := by
  unfold st
  split
  · exact xor_lt32 (by omega) (by omega)
  · omega
theorem stn_lt {x : Nat} (h : x < 4294967296) : ∀ k, stn k x < 4294967296
  | 0 => h
  | k + 1 => st_lt (stn_lt h k)
theorem st_xor (a b : Nat) : st (a ^^^ b) = st a ^^^ st b := by
  unfold st
  rw [xor_mod2, xor_div2]
  rcases Nat.mod_two_eq_zero_or_one a with ha | ha <;> rcases Nat.mod_two_eq_zero_or_one b with hb | hb
  · simp [ha, hb]
  · simp [ha, hb, Nat.xor_assoc]
  · simp only [ha, hb]
    simp only [Nat.xor_zero, if_true, Nat.zero_ne_one, if_false]
    rw [Nat.xor_assoc, Nat.xor_comm (b / 2), ← Nat.xor_assoc]
  · simp only [ha, hb, Nat.xor_self, Nat.zero_ne_one, if_false, if_true]
    rw [Nat.xor_assoc, Nat.xor_comm (b / 2), ← Nat.xor_assoc 2197175160, Nat.xor_self, Nat.zero_xor]
theorem stn_xor (a b : Nat) : ∀ k, stn k (a ^^^ b) = stn k a ^^^ stn k b
  | 0 => rfl
  | k + 1 => by simp only [stn, stn_xor a b k, st_xor]
theorem st_two (m : Nat) : st (2 * m) = m := by unfold st; rw [if_neg (by omega)]; omega
theorem stn_256 (w : Nat) : stn 8 (256 * w) = w := by
  have e : 256 * w = 2 * (2 * (2 * (2 * (2 * (2 * (2 * (2 * w))))))) := by omega
  rw [e]
  simp only [stn, st_two]
theorem split_xor (w r : Nat) (h : r < 256) : (256 * w) ^^^ r = 256 * w + r := by
  have e1 := @Nat.two_pow_add_eq_or_of_lt 8 r (by simpa using h) w
  rw [show (2 : Nat) ^ 8 = 256 from rfl] at e1
  rw [e1]
  apply Nat.eq_of_testBit_eq
  intro i
  rw [Nat.testBit_xor, Nat.testBit_or]
  by_cases hi : i < 8
  · have : (256 * w).testBit i = false := by
      rw [show 256 * w = 2 ^ 8 * w from rfl, Nat.testBit_two_pow_mul]
      simp; omega
    simp [this]
  · have : r.testBit i = false := Nat.testBit_lt_two_pow (Nat.lt_of_lt_of_le (by simpa using h : r < 2 ^ 8) (Nat.pow_le_pow_right (by omega) (by omega)))
    simp [this]
/-- A step by the table is eight steps. -/
theorem upd_eq (x c : Nat) : (x / 256) ^^^ stn 8 ((x % 256) ^^^ c) = stn 8 (x ^^^ c) := by
  have e : x = (256 * (x / 256)) ^^^ (x % 256) := by rw [split_xor _ _ (Nat.mod_lt _ (by omega))]; omega
  conv => rhs; rw [e, Nat.xor_assoc, stn_xor, stn_256]
/-- Bytes gone through. -/
def crcF : Nat → List UInt8 → Nat
  | x, [] => x
  | x, b :: l => crcF (stn 8 (x ^^^ b.toNat)) l
theorem crcF_append (x : Nat) (l m : List UInt8) : crcF x (l ++ m) = crcF (crcF x l) m := by
  induction l generalizing x with
  | nil => rfl
  | cons b l ih => exact ih _
theorem crcF_lt {x : Nat} (h : x < 4294967296) (l : List UInt8) : crcF x l < 4294967296 := by
  induction l generalizing x with
  | nil => exact h
  | cons b l ih => exact ih (stn_lt (xor_lt32 h (by have := b.toNat_lt; omega)) 8)
theorem crcF_take {x : Nat} (l : List UInt8) (k : Nat) (h : k < l.length) : crcF x (l.take (k + 1)) = stn 8 (crcF x (l.take k) ^^^ l[k].toNat) := by
  rw [← List.take_append_getElem h, crcF_append]; rfl
/-- The sum of bytes. -/
def crc (l : List UInt8) : Nat := 4294967295 - crcF 4294967295 l
theorem crc_lt (l : List UInt8) : crc l < 4294967296 := by unfold crc; omega
theorem crc_check : crc [49, 50, 51, 52, 53, 54, 55, 56, 57] = 3808858755 := by decide +kernel
end Go.Proofs.Ytboldddmknpchaa
