/- Numbers and bits, as the walks spell them. -/
import Derived.Laws.BitsAllLaws
import Derived.WalkArith
import Derived.Laws.Bits64
import Derived.Test.YtkcpfchfpnmkpaaDoorSpec
import Derived.Calls
import Derived.Below
namespace Go.Proofs.YtkcpfchfpnmkpaaDoor
open Go Go.RowKit

theorem pow_128 (k : Nat) : (2 : Nat) ^ (7 * k) = 128 ^ k := by rw [Nat.pow_mul]
theorem pow_128i (k : Nat) : (2 : Int) ^ (7 * k) = ((128 ^ k : Nat) : Int) := by rw [← pow_128]; simp
theorem pow_le9 (k : Nat) (h : k ≤ 9) : 128 ^ k ≤ 9223372036854775808 := by
  have : 128 ^ k ≤ 128 ^ 9 := Nat.pow_le_pow_right (by omega) h
  exact Nat.le_trans this (by decide)
theorem pow_le8 (k : Nat) (h : k ≤ 8) : 128 ^ k ≤ 72057594037927936 := by
  have : 128 ^ k ≤ 128 ^ 8 := Nat.pow_le_pow_right (by omega) h
  exact Nat.le_trans this (by decide)

theorem and_127 (c : Nat) (hc : c < 256) : bits .and .u64 (c : Int) 127 = ((c % 128 : Nat) : Int) := by
  have := u64_and_nat c 127 (by omega) (by omega)
  rw [nat_mask7] at this
  exact this
theorem rint_or (v c k : Nat) (hv : v < 128 ^ k) (hc : c < 256) (hk : k ≤ 9) (h : k < 9 ∨ c ≤ 1) :
    bits .or .u64 (v : Int) (IntKind.u64.wrap (bits .and .u64 (c : Int) 127 * 2 ^ (7 * k))) = ((v + c % 128 * 128 ^ k : Nat) : Int) := by
  have h1 : c % 128 * 128 ^ k < 18446744073709551616 := by
    rcases h with h | h
    · have h2 := pow_le8 k (by omega)
      have h3 : c % 128 * 128 ^ k ≤ 127 * 128 ^ k := Nat.mul_le_mul_right _ (by omega)
      omega
    · have h2 := pow_le9 k (by omega)
      have h3 : c % 128 * 128 ^ k ≤ 1 * 128 ^ k := Nat.mul_le_mul_right _ (by omega)
      omega
  have h2 := pow_le9 k hk
  rw [and_127 c hc, pow_128i, IntKind.wrap_u64, ← Int.natCast_mul]
  rw [show ((c % 128 * 128 ^ k : Nat) : Int) % 18446744073709551616 = ((c % 128 * 128 ^ k : Nat) : Int) by omega]
  rw [u64_or_nat _ _ (by omega) h1, Nat.or_comm, nat_join (7 * k) _ _ (by rw [pow_128]; simp) (by rw [pow_128]; exact hv), Nat.add_comm]
theorem ret_int {k : IntKind} {a b : Int} (h : a = b) : Ending.returned (.int k a) = .returned (.int k b) := by rw [h]
theorem and_1 (u : Nat) (h : u < 18446744073709551616) : bits .and .u64 (u : Int) 1 = ((u % 2 : Nat) : Int) := by
  have := u64_and_nat u 1 h (by omega)
  rw [nat_mask1] at this
  exact this
theorem xor_zero (x : Int) (h : -9223372036854775808 ≤ x ∧ x ≤ 9223372036854775807) : bits .xor .i64 x 0 = x := by
  show IntKind.i64.wrap ((BitVec.ofInt 64 x ^^^ 0#64).toNat : Int) = x
  rw [BitVec.xor_zero]
  simp [IntKind.wrap, IntKind.bits, IntKind.signed, BitVec.toNat_ofInt]
  omega
theorem xor_ones (x : Int) (h : -9223372036854775808 ≤ x ∧ x ≤ 9223372036854775807) : bits .xor .i64 x (-1) = -x - 1 := by
  show IntKind.i64.wrap ((BitVec.ofInt 64 x ^^^ BitVec.allOnes 64).toNat : Int) = -x - 1
  rw [BitVec.xor_allOnes]
  simp [IntKind.wrap, IntKind.bits, IntKind.signed, BitVec.toNat_ofInt, BitVec.toNat_not]
  omega
theorem rint_val (u : Nat) (h : u < 18446744073709551616) : bits .xor .i64 (wrap64 ((u : Int) / 2)) (wrap64 (-wrap64 (bits .and .u64 (u : Int) 1))) = unzig u := by
  rw [and_1 u h]
  have h1 : wrap64 ((u : Int) / 2) = ((u / 2 : Nat) : Int) := by unfold wrap64; omega
  rw [h1]
  unfold unzig
  by_cases ho : u % 2 = 1
  · rw [if_pos ho, ho]
    rw [show wrap64 (-wrap64 ((1 : Nat) : Int)) = -1 from by unfold wrap64; omega]
    rw [xor_ones _ (by omega)]
  · rw [if_neg ho, show u % 2 = 0 by omega]
    rw [show wrap64 (-wrap64 ((0 : Nat) : Int)) = 0 from by unfold wrap64; omega]
    rw [xor_zero _ (by omega)]
theorem drop_get {α : Type} {l : List α} {k : Nat} {x : α} (h : l[k]? = some x) : l.drop k = x :: l.drop (k + 1) := by
  obtain ⟨hlt, rfl⟩ := List.getElem?_eq_some_iff.1 h
  rw [List.drop_eq_getElem_cons hlt]
/-- What the reading of a number has come to, k bytes gone. -/
def DecAt (l : List UInt8) (k v : Nat) : Prop := dec 0 l = (dec k (l.drop k)).map fun x => (v + 128 ^ k * x.1, x.2)
theorem DecAt.go {l : List UInt8} {k v : Nat} {x : UInt8} (h : DecAt l k v) (hx : l[k]? = some x) (h1 : 127 < x.toNat) (h2 : k < 9) : DecAt l (k + 1) (v + x.toNat % 128 * 128 ^ k) := by
  unfold DecAt at h ⊢
  rw [h, drop_get hx]
  simp only [dec, h1, h2, and_self, if_true, Option.map_map]
  congr 1
  funext y
  simp only [Function.comp]
  congr 1
  rw [Nat.mul_add, Nat.pow_succ, Nat.mul_comm (x.toNat % 128), Nat.add_assoc, Nat.mul_assoc]
theorem DecAt.short {l : List UInt8} {k v : Nat} (h : DecAt l k v) (hx : ¬ k < l.length) : rdInt (some l) = (0, none) := by
  unfold DecAt at h
  rw [List.drop_eq_nil_iff.2 (by omega)] at h
  simp only [dec, Option.map_none] at h
  simp only [rdInt, h]
theorem DecAt.bad {l : List UInt8} {k v : Nat} {x : UInt8} (h : DecAt l k v) (hx : l[k]? = some x) (h0 : ¬ (127 < x.toNat ∧ k < 9)) (h1 : (x.toNat = 0 ∧ 0 < k) ∨ (1 < x.toNat ∧ k = 9)) : rdInt (some l) = (0, none) := by
  unfold DecAt at h
  rw [drop_get hx] at h
  simp only [dec] at h
  rw [if_neg h0, if_pos h1] at h
  simp only [Option.map_none] at h
  simp only [rdInt, h]
theorem DecAt.fin {l : List UInt8} {k v : Nat} {x : UInt8} (h : DecAt l k v) (hx : l[k]? = some x) (h0 : ¬ (127 < x.toNat ∧ k < 9)) (h1 : ¬ ((x.toNat = 0 ∧ 0 < k) ∨ (1 < x.toNat ∧ k = 9))) :
    rdInt (some l) = (unzig (v + x.toNat % 128 * 128 ^ k), some (l.drop (k + 1))) := by
  unfold DecAt at h
  rw [drop_get hx] at h
  simp only [dec] at h
  rw [if_neg h0, if_neg h1] at h
  simp only [Option.map_some] at h
  simp only [rdInt, h]
  rw [Nat.mul_comm]
theorem val_lt (v c k : Nat) (hv : v < 128 ^ k) (hk : k ≤ 9) (h : k < 9 ∨ c ≤ 1) : v + c % 128 * 128 ^ k < 18446744073709551616 := by
  rcases h with h | h
  · have h2 := pow_le8 k (by omega)
    have h3 : c % 128 * 128 ^ k ≤ 127 * 128 ^ k := Nat.mul_le_mul_right _ (by omega)
    omega
  · have h2 := pow_le9 k hk
    have h3 : c % 128 * 128 ^ k ≤ 1 * 128 ^ k := Nat.mul_le_mul_right _ (by omega)
    omega
theorem val_lt' (v c k : Nat) (hv : v < 128 ^ k) : v + c % 128 * 128 ^ k < 128 ^ (k + 1) := by
  have h3 : c % 128 * 128 ^ k ≤ 127 * 128 ^ k := Nat.mul_le_mul_right _ (by omega)
  rw [Nat.pow_succ]
  omega
theorem takeI_succ {l : List UInt8} {k : Nat} (h : k < l.length) : takeI ((k : Int) + 1) (some l) = (l.take (k + 1), some (l.drop (k + 1))) := by
  simp only [takeI, rdTake]
  rw [if_neg (by omega), show ((k : Int) + 1).toNat = k + 1 by omega, if_pos (by omega)]
theorem rint_fin (v c k : Nat) (hv : v < 128 ^ k) (hc : c < 256) (hk : k ≤ 9) (h : k < 9 ∨ c ≤ 1) :
    bits .xor .i64 (wrap64 (bits .or .u64 (v : Int) (IntKind.u64.wrap (bits .and .u64 (c : Int) 127 * 2 ^ (7 * k))) / 2))
      (wrap64 (-wrap64 (bits .and .u64 (bits .or .u64 (v : Int) (IntKind.u64.wrap (bits .and .u64 (c : Int) 127 * 2 ^ (7 * k)))) 1))) = unzig (v + c % 128 * 128 ^ k) := by
  rw [rint_or v c k hv hc hk h]
  exact rint_val _ (val_lt v c k hv hk h)
end Go.Proofs.YtkcpfchfpnmkpaaDoor
