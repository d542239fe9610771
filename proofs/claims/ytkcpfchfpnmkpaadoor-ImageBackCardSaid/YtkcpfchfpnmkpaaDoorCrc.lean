/- The checksum: four bits at a time is as bit by bit; one turned bit turns it. -/
import Derived.Test.YtkcpfchfpnmkpaaDoorSpec
namespace Go.Proofs.YtkcpfchfpnmkpaaDoor

theorem xor_div2 (a b : Nat) : (a ^^^ b) / 2 = a / 2 ^^^ b / 2 := by
  have := Nat.shiftRight_xor_distrib (a := a) (b := b) (i := 1)
  simpa [Nat.shiftRight_eq_div_pow] using this
theorem xor_mod2 (a b : Nat) : (a ^^^ b) % 2 = (a % 2 + b % 2) % 2 := by
  have := Nat.xor_mod_two_pow (a := a) (b := b) (n := 1)
  simp only [Nat.pow_one] at this
  rw [this]
  have ha : a % 2 = 0 ∨ a % 2 = 1 := by omega
  have hb : b % 2 = 0 ∨ b % 2 = 1 := by omega
  rcases ha with ha | ha <;> rcases hb with hb | hb <;> rw [ha, hb] <;> rfl
theorem crcBit_xor (a b : Nat) : crcBit (a ^^^ b) = crcBit a ^^^ crcBit b := by
  simp only [crcBit, xor_div2, xor_mod2]
  have ha : a % 2 = 0 ∨ a % 2 = 1 := by omega
  have hb : b % 2 = 0 ∨ b % 2 = 1 := by omega
  generalize a / 2 = x
  generalize b / 2 = y
  generalize 0xEDB88320 = p
  rcases ha with ha | ha <;> rcases hb with hb | hb <;> rw [ha, hb] <;> simp
  · rw [Nat.xor_assoc]
  · rw [Nat.xor_assoc, Nat.xor_comm y p, ← Nat.xor_assoc]
  · rw [Nat.xor_assoc, Nat.xor_comm p, Nat.xor_assoc y p p, Nat.xor_self, Nat.xor_zero]
theorem crcBits_xor (k : Nat) : ∀ a b, crcBits k (a ^^^ b) = crcBits k a ^^^ crcBits k b := by
  induction k with
  | zero => intro a b; rfl
  | succ k ih => intro a b; simp only [crcBits, crcBit_xor, ih]
theorem crcBits_add (j k : Nat) : ∀ c, crcBits (j + k) c = crcBits k (crcBits j c) := by
  induction j with
  | zero => intro c; rw [Nat.zero_add]; rfl
  | succ j ih => intro c; rw [show j + 1 + k = (j + k) + 1 by omega]; simp only [crcBits, ih]
theorem crcBit_even (q : Nat) : crcBit (2 * q) = q := by simp [crcBit]
theorem crcBits_16 (q : Nat) : crcBits 4 (16 * q) = q := by
  simp only [crcBits]
  rw [show 16 * q = 2 * (2 * (2 * (2 * q))) by omega]
  simp only [crcBit_even]
theorem split16 (c : Nat) : c = 16 * (c / 16) ^^^ c % 16 := by
  apply Nat.eq_of_testBit_eq
  intro i
  rw [Nat.testBit_xor]
  have h1 : (16 * (c / 16)).testBit i = (decide (4 ≤ i) && (c / 16).testBit (i - 4)) := by
    have := Nat.testBit_two_pow_mul (i := 4) (a := c / 16) (j := i)
    simpa using this
  have h2 : (c / 16).testBit (i - 4) = c.testBit (i - 4 + 4) := by
    have := Nat.testBit_div_two_pow (n := 4) c (i - 4)
    simpa using this
  have h3 : (c % 16).testBit i = (decide (i < 4) && c.testBit i) := by
    have := Nat.testBit_mod_two_pow c 4 i
    simpa using this
  rw [h1, h2, h3]
  by_cases h : 4 ≤ i
  · simp [h, show ¬ i < 4 by omega, show i - 4 + 4 = i by omega]
  · simp [h, show i < 4 by omega]
theorem nib (c : Nat) : c / 16 ^^^ crcBits 4 (c % 16) = crcBits 4 c := by
  rw (occs := .pos [3]) [split16 c]
  rw [crcBits_xor, crcBits_16]
theorem crcByte_nib (c : Nat) (x : UInt8) : crcByte c x = crcBits 4 (crcBits 4 (c ^^^ x.toNat)) := by
  simp only [crcByte]
  rw [show 8 = 4 + 4 from rfl, crcBits_add]
theorem crcBit_lt (c : Nat) (h : c < 4294967296) : crcBit c < 4294967296 := by
  simp only [crcBit]
  split
  · exact Nat.xor_lt_two_pow (n := 32) (by omega) (by omega)
  · omega
theorem crcBits_lt (k : Nat) : ∀ c, c < 4294967296 → crcBits k c < 4294967296 := by
  induction k with
  | zero => intro c h; exact h
  | succ k ih => intro c h; exact ih _ (crcBit_lt c h)
theorem crcByte_lt (c : Nat) (x : UInt8) (h : c < 4294967296) : crcByte c x < 4294967296 :=
  crcBits_lt 8 _ (Nat.xor_lt_two_pow (n := 32) h (by have := x.toNat_lt; omega))
theorem crcFold_snoc (l : List UInt8) (x : UInt8) : crcFold (l ++ [x]) = crcByte (crcFold l) x := by simp [crcFold]
theorem foldl_lt (l : List UInt8) : ∀ c, c < 4294967296 → l.foldl crcByte c < 4294967296 := by
  induction l with
  | nil => intro c h; exact h
  | cons x l ih => intro c h; exact ih _ (crcByte_lt c x h)
theorem crcFold_lt (l : List UInt8) : crcFold l < 4294967296 := foldl_lt l _ (by omega)
theorem crc_lt (l : List UInt8) : crc l < 4294967296 := by unfold crc; omega
end Go.Proofs.YtkcpfchfpnmkpaaDoor
