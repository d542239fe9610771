/- Walks: small functions. -/
import Derived.Test.YtkcpfchfpnmkpaaDoorProg
import Derived.Test.YtkcpfchfpnmkpaaDoorMem
import Derived.WalkKit
import Derived.WalkLawsBesides
import Derived.WalkSpells
import Derived.Deep.QuietTactic
import Derived.BigQuiet
import Derived.Outline
import Derived.Deep.LoopGhost
import Derived.Deep.Draws
namespace Go.Proofs
open Go Go.RowKit Go.Proofs.YtkcpfchfpnmkpaaDoor

theorem tmod_pos (x n : Int) (h : 1 ≤ n) (h0 : 0 ≤ x.tmod n) : x.tmod n = x % n := by
  rw [Int.tmod_eq_emod] at h0 ⊢
  have := Int.emod_lt_of_pos x (show 0 < n by omega)
  have := Int.emod_nonneg x (show n ≠ 0 by omega)
  split at h0 <;> rename_i hc <;> simp only [hc, if_true, if_false] <;> omega
theorem tmod_neg (x n : Int) (h : 1 ≤ n) (h0 : x.tmod n < 0) : x.tmod n + n = x % n := by
  rw [Int.tmod_eq_emod] at h0 ⊢
  have := Int.emod_lt_of_pos x (show 0 < n by omega)
  have := Int.emod_nonneg x (show n ≠ 0 by omega)
  split at h0 <;> rename_i hc <;> simp only [hc, if_true, if_false] <;> omega
theorem tmod_bd (x n : Int) (h : 1 ≤ n) : -n < x.tmod n ∧ x.tmod n < n := by
  rw [Int.tmod_eq_emod]
  have := Int.emod_lt_of_pos x (show 0 < n by omega)
  have := Int.emod_nonneg x (show n ≠ 0 by omega)
  split <;> omega

theorem Tryd.pick_calls (x n : Int) (w : World) (hx : -9223372036854775808 ≤ x ∧ x ≤ 9223372036854775807) (hn : -9223372036854775808 ≤ n ∧ n ≤ 9223372036854775807) :
    Calls Tryd.prog 10 #[.int .i64 x, .int .i64 n] w fun e w' => e = .returned (.int .i64 (if n < 1 then 0 else x % n)) ∧ w = w' := by
  by_cases h1 : n < 1
  · go_enter Tryd.func10, Tryd.ntmps10
    go_wp2
    go_ret
    exact ⟨by simp [h1], rfl⟩
  · have h2 := tmod_bd x n (by omega)
    go_enter Tryd.func10, Tryd.ntmps10
    go_wp2
    · go_ret
      exact ⟨by simp [tmod_neg x n (by omega) (by assumption)], rfl⟩
    · go_ret
      exact ⟨by simp [tmod_pos x n (by omega) (by assumption)], rfl⟩

set_option maxHeartbeats 800000 in
theorem Tryd.sameBytes_calls (v1 v2 : Value) (l1 l2 : List UInt8) (w : World) (h1 : Bs w v1 l1) (h2 : Bs w v2 l2) :
    Calls Tryd.prog 13 #[v1, v2] w fun e w' => e = .returned (.bool (l1 == l2)) ∧ ∃ n, w' = w.drewN n := by
  obtain ⟨a1, c1, rfl, h11, h12, h13, h14⟩ := h1
  obtain ⟨a2, c2, rfl, h21, h22, h23, h24⟩ := h2
  unfold maxLen at h12 h22
  by_cases hl : l1.length = l2.length
  · have e1 : ((l1.length : Int) != (l2.length : Int)) = false := by simp [hl]
    have e2 : ((l1.length : Int) == (l2.length : Int)) = true := by simp [hl]
    have H14 := Lib.hid h14
    have H24 := Lib.hid h24
    have HL := Lib.hid hl
    clear h14 h24 hl h13 h23
    go_enter Tryd.func13, Tryd.ntmps13
    go_wp2
    go_loopw [5] (fun i wr => ∃ k n : Nat, k ≤ l1.length ∧ i = .int .i64 k ∧ wr = w.drewN n ∧ Hid (l1.take k = l2.take k)) (fun i _ => l1.length - (intOf i).toNat)
    case atStart => exact ⟨0, 0, by omega, rfl, rfl, by simp [Hid]⟩
    case round =>
      obtain ⟨k, n, hk, rfl, rfl, HT⟩ := hrel
      by_cases hlt : k < l1.length
      · have b1k : (k : Int) < (l1.length : Int) := by omega
        have b2k : (k : Int) < (l2.length : Int) := by have := HL.out; omega
        obtain ⟨x, hx⟩ := get_some l1 k hlt
        obtain ⟨y, hy⟩ := get_some l2 k (by omega)
        obtain ⟨b1, o1, rfl, g1⟩ := H14.out k _ (bv_of_get hx)
        obtain ⟨b2, o2, rfl, g2⟩ := H24.out k _ (bv_of_get hy)
        have HX := Lib.hid hx
        have HY := Lib.hid hy
        clear hx hy
        by_cases hxy : x = y
        · have e3 : ((x.toNat : Int) != (y.toNat : Int)) = false := by simp [u8_bne, hxy]
          subst hxy
          go_wp2
          go_quiet (fail)
          go_wp2
          go_roundw
          case rel => exact ⟨k + 1, _, by omega, by go_num, rfl, by show _ = _; rw [take_snoc HX.out, take_snoc HY.out, HT.out]⟩
          case measure => simp [intOf]; omega
        · have e3 : ((x.toNat : Int) != (y.toNat : Int)) = true := by simp [u8_bne, hxy]
          go_wp2
          go_quiet (fail)
          go_wp2
          go_ret
          have hne : ¬ l1 = l2 := fun h => hxy (by have h1 := HX.out; have h2 := HY.out; rw [h, h2] at h1; exact (Option.some.inj h1).symm)
          exact ⟨by simp [hne], _, by simp; rfl⟩
      · go_wp2
        go_ret
        have hke : k = l1.length := by omega
        have h1 := HT.out
        rw [List.take_of_length_le (by omega), List.take_of_length_le (by have := HL.out; omega)] at h1
        exact ⟨by simp [h1], n, rfl⟩
  · have e1 : ((l1.length : Int) != (l2.length : Int)) = true := by simp [hl]; omega
    have e2 : (l1.length == l2.length) = false := by simp [hl]
    go_enter Tryd.func13, Tryd.ntmps13
    go_wp2
    go_ret
    exact ⟨by simp; intro h; exact hl (by rw [h]), 0, rfl⟩
end Go.Proofs
