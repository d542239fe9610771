/- Walks: package image: right. -/
import Derived.Test.YtkcpfchfpnmkpaaDoorOrd
namespace Go.Proofs
open Go Go.RowKit Go.Proofs.YtkcpfchfpnmkpaaDoor

namespace YtkcpfchfpnmkpaaDoor
theorem right_eq (x : Im) : right x = ((match x.nodes with | [] => false | n :: _ => n.path.data.toList == [47]) && decide (x.nodes.length ≤ 500) && decide (x.sits.length ≤ 200) && (ensCheck x.ver x.mems == 0) && decide (0 ≤ x.lo) && decide (x.lo ≤ x.hi) && (ndGo none x.nodes && sgsOk 0 x.sits)) := by
  obtain ⟨nodes, sits, ver, mems, lo, hi⟩ := x
  rw [← ndGo_none]
  unfold right
  cases nodes <;> simp only [Bool.and_assoc]
/-- What is asked ahead of the loops. -/
def headOk (x : Im) : Bool := (match x.nodes with | [] => false | n :: _ => n.path.data.toList == [47]) && decide (x.nodes.length ≤ 500) && decide (x.sits.length ≤ 200) && (ensCheck x.ver x.mems == 0) && decide (0 ≤ x.lo) && decide (x.lo ≤ x.hi)
theorem right_head (x : Im) : right x = (headOk x && (ndGo none x.nodes && sgsOk 0 x.sits)) := right_eq x
end YtkcpfchfpnmkpaaDoor

set_option maxRecDepth 100000 in
set_option maxHeartbeats 6400000 in
theorem Tryd.right_fail (x : Im) (nv sv mv : Value) (w : World) (hn : Nds w nv x.nodes) (hs : Sgs w sv x.sits) (hm : Ms w mv x.mems) (hbad : ¬ headOk x = true) :
    Calls Tryd.prog 32 #[nv, sv, .agg #[.int .i64 x.ver, mv], .int .i64 x.lo, .int .i64 x.hi] w fun e w' => e = .returned (.bool (right x)) ∧ Below w.heap.size w w' := by
  obtain ⟨nodes, sits, ver, mems, lo, hi⟩ := x
  simp only at hn hs hm
  have HR := right_eq ⟨nodes, sits, ver, mems, lo, hi⟩
  simp only at HR
  obtain ⟨ds, hds, ⟨an, cn, rfl, n1, n2, n3, n4⟩, hdd⟩ := hn
  have HMW : Hid (Ms (w.alloc (.cells #[.int .i64 ver, mv] 27)) mv mems) := hm.below ((Below.refl _ _).alloc (Nat.le_refl _) _)
  obtain ⟨as', cs', rfl, s1, s2, s3, s4⟩ := hs
  obtain ⟨am, cm, rfl, -⟩ := hm
  have HN4 := Lib.hid n4
  have HS4 := Lib.hid s4
  have HDD := Lib.hid hdd
  have hB0 : Below w.heap.size w (w.alloc (.cells #[.int .i64 ver, .slice am mems.length cm] 27)) := (Below.refl _ _).alloc (Nat.le_refl _) _
  have HB0 := Lib.hid hB0
  have hn2 := n2
  have hs2 := s2
  unfold maxLen at hn2 hs2
  clear n4 s4 hdd
  cases nodes with
  | nil =>
    have HF : Hid (right ⟨[], sits, ver, mems, lo, hi⟩ = false) := by rw [Hid, HR]; rfl
    clear HR hB0
    go_enter Tryd.func32, Tryd.ntmps32
    go_wp2_with fail
    go_ret
    exact ⟨by rw [HF.out]; rfl, HB0.out⟩
  | cons x0 rest =>
    obtain ⟨b, off, d0, rfl, hd0, hat⟩ := ndAt (HN4.out.below hB0) hds (k := 0) (x := x0) rfl
    have hc0 := hat.c0
    rw [Nat.zero_mul, Nat.add_zero] at hc0
    clear hat hd0
    by_cases hp : x0.path.toList = [47]
    · by_cases hl : rest.length + 1 ≤ 500
      · have hl' : ((rest.length : Int) + 1) ≤ 500 := by omega
        by_cases hq : sits.length ≤ 200
        · have hq' : (sits.length : Int) ≤ 200 := by omega
          by_cases hck : ensCheck ver mems = 0
          · by_cases hlo : 0 ≤ lo
            · by_cases hhi : lo ≤ hi
              · exfalso
                apply hbad
                rw [ByteArray.toList_eq] at hp
                simp [headOk, hp, hl, hq, hck, hlo, hhi]
              · have hhi' : hi < lo := by omega
                have HF : Hid (right ⟨x0 :: rest, sits, ver, mems, lo, hi⟩ = false) := by rw [Hid, HR]; simp; omega
                clear HR hB0
                go_enter Tryd.func32, Tryd.ntmps32
                go_wp2_with (go_at_call 50; refine (Tryd.ensCheck_calls ver _ mems _ HMW.out).mono ?_; rintro e W ⟨rfl, hW⟩; have HW := Lib.hid (HB0.out.trans (hW.mono (by simp))); clear hW)
                all_goals (
                  go_ret
                  exact ⟨by rw [HF.out]; rfl, HW.out⟩)
            · have hlo' : lo < 0 := by omega
              have HF : Hid (right ⟨x0 :: rest, sits, ver, mems, lo, hi⟩ = false) := by rw [Hid, HR]; simp; omega
              clear HR hB0
              go_enter Tryd.func32, Tryd.ntmps32
              go_wp2_with (go_at_call 50; refine (Tryd.ensCheck_calls ver _ mems _ HMW.out).mono ?_; rintro e W ⟨rfl, hW⟩; have HW := Lib.hid (HB0.out.trans (hW.mono (by simp))); clear hW)
              all_goals (
                go_ret
                exact ⟨by rw [HF.out]; rfl, HW.out⟩)
          · have hck' : (ensCheck ver mems != 0) = true := by simp [hck]
            have HF : Hid (right ⟨x0 :: rest, sits, ver, mems, lo, hi⟩ = false) := by rw [Hid, HR]; simp [hck]
            clear HR hB0
            go_enter Tryd.func32, Tryd.ntmps32
            go_wp2_with (go_at_call 50; refine (Tryd.ensCheck_calls ver _ mems _ HMW.out).mono ?_; rintro e W ⟨rfl, hW⟩; have HW := Lib.hid (HB0.out.trans (hW.mono (by simp))); clear hW)
            all_goals (
              go_ret
              exact ⟨by rw [HF.out]; rfl, HW.out⟩)
        · have hq' : (200 : Int) < sits.length := by omega
          have HF : Hid (right ⟨x0 :: rest, sits, ver, mems, lo, hi⟩ = false) := by rw [Hid, HR]; simp; omega
          clear HR hB0
          go_enter Tryd.func32, Tryd.ntmps32
          go_wp2_with fail
          all_goals (
            go_ret
            exact ⟨by rw [HF.out]; rfl, HB0.out⟩)
      · have hl' : (500 : Int) < (rest.length : Int) + 1 := by omega
        have HF : Hid (right ⟨x0 :: rest, sits, ver, mems, lo, hi⟩ = false) := by rw [Hid, HR]; simp; omega
        clear HR hB0
        go_enter Tryd.func32, Tryd.ntmps32
        go_wp2_with fail
        go_ret
        exact ⟨by rw [HF.out]; rfl, HB0.out⟩
    · have HF : Hid (right ⟨x0 :: rest, sits, ver, mems, lo, hi⟩ = false) := by
        rw [Hid, HR]; rw [ByteArray.toList_eq] at hp; simp [hp]
      clear HR hB0
      go_enter Tryd.func32, Tryd.ntmps32
      go_wp2_with fail
      go_ret
      exact ⟨by rw [HF.out]; rfl, HB0.out⟩
end Go.Proofs
