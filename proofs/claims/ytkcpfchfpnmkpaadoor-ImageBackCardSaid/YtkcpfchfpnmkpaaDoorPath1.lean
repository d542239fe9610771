/- Walks: package path: part. -/
import Derived.Test.YtkcpfchfpnmkpaaDoorApp2
import Derived.Laws.RangeString
import Derived.Laws.RangeAny
namespace Go.Proofs
open Go Go.RowKit Go.Proofs.YtkcpfchfpnmkpaaDoor

namespace YtkcpfchfpnmkpaaDoor
def goodC (c : UInt8) : Bool := decide (33 ≤ c.toNat) && decide (c.toNat ≤ 126) && (c.toNat != 47)
theorem iterPos_iter (w : World) (s : ByteArray) (k : Nat) : (w.iter s k).iterPos w.heap.size = k := by
  simp [World.iterPos, World.iter_heap]
theorem below_iter (w : World) (s : ByteArray) (k : Nat) : Below w.heap.size w (w.iter s k) := (Below.refl _ _).alloc (Nat.le_refl _) _
theorem partOk_of {s : List UInt8} (h : ∀ c ∈ s, goodC c = true) : partOk s = (s != [] && s != [46] && s != [46, 46]) := by
  have : s.all (fun c => 33 ≤ c.toNat && c.toNat ≤ 126 && c.toNat != 47) = true := by
    rw [List.all_eq_true]; exact h
  unfold partOk
  rw [this, Bool.true_and]
theorem partOk_not {s : List UInt8} {c : UInt8} (hc : c ∈ s) (h : goodC c = false) : partOk s = false := by
  have : s.all (fun c => 33 ≤ c.toNat && c.toNat ≤ 126 && c.toNat != 47) = false := by
    rw [List.all_eq_false]; exact ⟨c, hc, by unfold goodC at h; simp [h]⟩
  unfold partOk
  rw [this]; rfl
end YtkcpfchfpnmkpaaDoor

set_option maxRecDepth 100000 in
set_option maxHeartbeats 1600000 in
theorem Tryd.part_calls (s : ByteArray) (w : World) :
    Calls Tryd.prog 65 #[.string s] w fun e w' => e = .returned (.bool (partOk s.data.toList)) ∧ Below w.heap.size w w' := by
  go_enter Tryd.func65, Tryd.ntmps65
  go_wp2_with fail
  go_loopw [4] (fun _ wr => ∃ (k : Nat), k ≤ s.size ∧ wr = w.iter s k ∧ Hid (∀ c ∈ s.data.toList.take k, goodC c = true)) (fun _ wr => s.size - wr.iterPos w.heap.size)
  case atStart => exact ⟨0, Nat.zero_le _, rfl, by intro c hc; simp at hc⟩
  case round =>
    obtain ⟨k, hk, rfl, HG⟩ := hrel
    by_cases hks : k < s.size
    · by_cases ha : (s[k]'hks).toNat < 128
      · have hnx : ∀ ty, (Instr.next (.pointer (some ⟨w.heap.size, 0, none⟩)) true ty).run Tryd.prog (w.iter s k) = _ := fun ty => run_next_ascii w s k ty hks ha
        obtain ⟨c, hc⟩ : ∃ c, s[k]'hks = c := ⟨_, rfl⟩
        have hmem : s.data.toList[k]? = some c := by rw [← hc, Array.getElem?_toList]; exact Array.getElem?_eq_getElem hks
        rw [hc] at hnx ha
        have HMEM := Lib.hid hmem
        clear hmem hc
        go_wp2_with fail
        · go_ret
          refine ⟨?_, below_iter _ _ _⟩
          rw [partOk_not (List.mem_of_getElem? HMEM.out) (by rename_i h1 h2 h3; simp only [beq_iff_eq] at h3; unfold goodC; simp; omega)]
          rfl
        · refine ⟨⟨k + 1, hks, rfl, ?_⟩, ?_⟩
          · rename_i h1 h2 h3
            obtain ⟨_, h3⟩ := h3
            simp only [beq_eq_false_iff_ne] at h3
            intro d hd
            rw [take_snoc HMEM.out, List.mem_append, List.mem_singleton] at hd
            rcases hd with hd | rfl
            · exact HG.out d hd
            · unfold goodC; simp; omega
          · rw [iterPos_iter, iterPos_iter]; omega
        · go_ret
          refine ⟨?_, below_iter _ _ _⟩
          rw [partOk_not (List.mem_of_getElem? HMEM.out) (by unfold goodC; simp; omega)]
          rfl
        · go_ret
          refine ⟨?_, below_iter _ _ _⟩
          rw [partOk_not (List.mem_of_getElem? HMEM.out) (by unfold goodC; simp; omega)]
          rfl
      · have hnx : ∀ ty, (Instr.next (.pointer (some ⟨w.heap.size, 0, none⟩)) true ty).run Tryd.prog (w.iter s k) = _ := fun ty => Lib.run_next_any_at (w.iter s k) w.heap.size s k ty (World.iter_heap w s k) hks
        have hd := (decode_high s k hks (by omega)).1
        have hmem : s.data.toList[k]? = some (s[k]'hks) := by rw [Array.getElem?_toList]; exact Array.getElem?_eq_getElem hks
        have HN : Hid (partOk s.data.toList = false) := partOk_not (List.mem_of_getElem? hmem) (by unfold goodC; simp; omega)
        have hb2 := Lib.below_iterAt (below_iter w s k) (k := w.heap.size) (Nat.le_refl _) s (k + (Utf8.decode s k).2)
        obtain ⟨x, hx⟩ : ∃ x, (Utf8.decode s k).1 = x := ⟨_, rfl⟩
        obtain ⟨W1, hW1⟩ : ∃ W1, (w.iter s k).iterAt w.heap.size s (k + (Utf8.decode s k).2) = W1 := ⟨_, rfl⟩
        rw [hW1] at hnx hb2
        rw [hx] at hnx hd
        have HB := Lib.hid hb2
        have hx1 : (126 : Int) < (x : Int) := by omega
        clear hmem hb2 hW1 hx
        go_wp2_with fail
        all_goals (
          go_ret
          exact ⟨by rw [HN.out]; rfl, HB.out⟩)
    · obtain rfl : k = s.size := by omega
      have hnx : ∀ ty, (Instr.next (.pointer (some ⟨w.heap.size, 0, none⟩)) true ty).run Tryd.prog (w.iter s s.size) = _ := fun ty => run_next_end w s s.size ty hks
      have HA : Hid (partOk s.data.toList = (s.data.toList != [] && s.data.toList != [46] && s.data.toList != [46, 46])) := partOk_of (by have := HG.out; rwa [List.take_of_length_le (by simp)] at this)
      go_wp2_with fail
      all_goals (
        go_ret
        refine ⟨congrArg (fun x => Ending.returned (Value.bool x)) ?_, below_iter _ _ _⟩
        rw [HA.out]
        clear hnx HG HA hks hk
        simp only [ByteArray.toList_eq] at *
        generalize s.data.toList = L at *
        first
          | (simp_all; done)
          | (cases L <;> simp_all [bne]; done))
end Go.Proofs
