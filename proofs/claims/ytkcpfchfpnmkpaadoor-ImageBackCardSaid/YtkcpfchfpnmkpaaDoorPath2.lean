/- Walks: strings.Cut at a slash. -/
import Derived.Test.YtkcpfchfpnmkpaaDoorPath1
import Derived.Test.YtkcpfchfpnmkpaaDoorShelf
namespace Go.Proofs
open Go Go.RowKit Go.Proofs.YtkcpfchfpnmkpaaDoor

namespace YtkcpfchfpnmkpaaDoor
theorem cut47_miss : ∀ (l : List UInt8), Lib.indexByte l 47 = -1 → cut47 l = (l, none) := by
  intro l
  induction l with
  | nil => intro _; rfl
  | cons b l ih =>
    intro h
    simp only [Lib.indexByte] at h
    split at h
    · simp at h
    · rename_i hb
      split at h
      · rename_i h2
        have := ih (by simpa using h2)
        simp only [cut47, this]
        rw [if_neg (by simpa using hb)]
      · have := Lib.indexByte_ge l 47
        omega
theorem cut47_hit : ∀ (l : List UInt8) (i : Nat), Lib.indexByte l 47 = i → cut47 l = (l.take i, some (l.drop (i + 1))) ∧ i < l.length := by
  intro l
  induction l with
  | nil => intro i h; simp only [Lib.indexByte] at h; omega
  | cons b l ih =>
    intro i h
    simp only [Lib.indexByte] at h
    split at h
    · rename_i hb
      obtain rfl : i = 0 := by omega
      simp only [cut47]
      rw [if_pos (by simpa using hb)]
      simp
    · rename_i hb
      split at h
      · omega
      · rename_i h2
        have := Lib.indexByte_ge l 47
        obtain ⟨j, rfl⟩ : ∃ j, i = j + 1 := ⟨i - 1, by simp at h2; omega⟩
        obtain ⟨e1, e2⟩ := ih j (by omega)
        simp only [cut47, e1]
        rw [if_neg (by simpa using hb)]
        simp; exact e2
theorem ba_extract (s : ByteArray) (a b : Nat) : s.extract a b = ⟨((s.data.toList.drop a).take (b - a)).toArray⟩ := by
  have : (s.extract a b).data.toList = (s.data.toList.drop a).take (b - a) := by simp [ByteArray.data_extract]
  rw [← this]
end YtkcpfchfpnmkpaaDoor

set_option maxHeartbeats 1600000 in
theorem Tryd.cut87_calls (s : ByteArray) (w : World) (hs : s.size ≤ 1000) :
    Calls Tryd.prog 87 #[.string s, .string ⟨#[47]⟩] w fun e w' => e = .returned (.tuple #[.string ⟨(cut47 s.data.toList).1.toArray⟩, .string ⟨((cut47 s.data.toList).2.getD []).toArray⟩, .bool (cut47 s.data.toList).2.isSome]) ∧ ∃ n, w' = w.drewN n := by
  have hge := Lib.indexByte_ge s.data.toList 47
  by_cases hm : Lib.indexByte s.data.toList 47 = -1
  · have HC := Lib.hid (cut47_miss _ hm)
    go_enter Tryd.func87, Tryd.ntmps87
    go_wp2_with (go_at_call 89; refine (Tryd.stringslite_Index_one s 47 w).mono ?_; rintro e w' ⟨rfl, rfl⟩; rw [hm])
    go_ret3
    exact ⟨by rw [HC.out]; rfl, 0, rfl⟩
  · obtain ⟨i, hi⟩ : ∃ i : Nat, Lib.indexByte s.data.toList 47 = i := ⟨(Lib.indexByte s.data.toList 47).toNat, by omega⟩
    obtain ⟨hc, hl⟩ := cut47_hit _ i hi
    have hsz : s.data.toList.length = s.size := by rw [Array.length_toList]; rfl
    have HC := Lib.hid hc
    have c1 : (0 : Int) ≤ ↑i := by omega
    have c2 : (↑i : Int) ≤ ↑s.size := by omega
    have c3 : (0 : Int) ≤ ↑i + 1 := by omega
    have c4 : (↑i + 1 : Int) ≤ ↑s.size := by omega
    have hw : IntKind.i64.wrap ((i : Int) + 1) = i + 1 := by rw [IntKind.wrap_i64]; omega
    have mixed : Tryd.prog.follows Departure.mixedOrders = true := by kernel_rfl
    clear hc hge hm
    go_enter Tryd.func87, Tryd.ntmps87
    go_wp2_with (go_at_call 89; refine (Tryd.stringslite_Index_one s 47 w).mono ?_; rintro e w' ⟨rfl, rfl⟩; rw [hi])
    go_region_o
    go_wp2
    go_ret3
    refine ⟨?_, 1, rfl⟩
    rw [HC.out]
    have e1 : ((i : Int) + 1).toNat = i + 1 := by omega
    have e2 : (s.data.toList.drop (i + 1)).take (s.size - (i + 1)) = s.data.toList.drop (i + 1) := List.take_of_length_le (by rw [List.length_drop, hsz]; exact Nat.le_refl _)
    simp [ba_extract, e1, e2]

set_option maxHeartbeats 1600000 in
theorem Tryd.cut_calls (s : ByteArray) (w : World) (hs : s.size ≤ 1000) :
    Calls Tryd.prog 80 #[.string s, .string ⟨#[47]⟩] w fun e w' => e = .returned (.tuple #[.string ⟨(cut47 s.data.toList).1.toArray⟩, .string ⟨((cut47 s.data.toList).2.getD []).toArray⟩, .bool (cut47 s.data.toList).2.isSome]) ∧ ∃ n, w' = w.drewN n := by
  go_enter Tryd.func80, Tryd.ntmps80
  go_wp2_with (go_at_call 87; refine (Tryd.cut87_calls s w hs).mono ?_; rintro e w' ⟨rfl, n, rfl⟩)
  go_ret3
  exact ⟨rfl, n, rfl⟩
end Go.Proofs
