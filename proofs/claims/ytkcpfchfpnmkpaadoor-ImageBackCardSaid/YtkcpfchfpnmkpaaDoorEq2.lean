/- Walks: the law's own functions: sameness, and copies. -/
import Derived.Test.YtkcpfchfpnmkpaaDoorEq1
namespace Go.Proofs
open Go Go.RowKit Go.Sort Go.Proofs.YtkcpfchfpnmkpaaDoor

set_option maxRecDepth 100000 in
set_option maxHeartbeats 1600000 in
theorem Tryd.sameMembers_calls (v1 v2 : Value) (l1 l2 : List Mb) (w : World) (h1 : Ms w v1 l1) (h2 : Ms w v2 l2) :
    Calls Tryd.prog 44 #[v1, v2] w (SameP w (decide (l1 = l2))) := by
  obtain ⟨a1, c1, rfl, h11, h12, h13, h14⟩ := h1
  obtain ⟨a2, c2, rfl, h21, h22, h23, h24⟩ := h2
  unfold maxLen at h12 h22
  by_cases hl : l1.length = l2.length
  · have e1 : ((l1.length : Int) != (l2.length : Int)) = false := by simp [hl]
    have H14 := Lib.hid h14
    have H24 := Lib.hid h24
    have HL := Lib.hid hl
    clear h14 h24 hl h13 h23
    go_enter Tryd.func44, Tryd.ntmps44
    go_wp2
    go_loopw [5] (fun i wr => ∃ k n : Nat, k ≤ l1.length ∧ i = .int .i64 k ∧ wr = w.drewN n ∧ Hid (l1.take k = l2.take k)) (fun i _ => l1.length - (intOf i).toNat)
    case atStart => exact ⟨0, 0, by omega, rfl, rfl, by simp [Hid]⟩
    case round =>
      obtain ⟨k, n, hk, rfl, rfl, HT⟩ := hrel
      by_cases hlt : k < l1.length
      · have b1k : (k : Int) < (l1.length : Int) := by omega
        have b2k : (k : Int) < (l2.length : Int) := by have := HL.out; omega
        obtain ⟨x, hx⟩ := get_some l1 k hlt
        obtain ⟨y, hy⟩ := get_some l2 k (by omega)
        obtain ⟨b1, o1, rfl, g10, g11, g12, g13⟩ := Ms.cells H14.out hx
        obtain ⟨b2, o2, rfl, g20, g21, g22, g23⟩ := Ms.cells H24.out hy
        have HX := Lib.hid hx
        have HY := Lib.hid hy
        clear hx hy
        by_cases hxy : x = y
        · subst hxy
          go_wp2
          go_quiet (fail)
          go_wp2
          go_roundw
          case rel => exact ⟨k + 1, _, by omega, by go_num, rfl, by show _ = _; rw [take_snoc HX.out, take_snoc HY.out, HT.out]⟩
          case measure => simp [intOf]; omega
        · have hxy' : ¬ x.id = y.id ∨ (x.id = y.id ∧ ¬ x.role = y.role) ∨ (x.id = y.id ∧ x.role = y.role ∧ ¬ x.weight = y.weight) ∨ (x.id = y.id ∧ x.role = y.role ∧ x.weight = y.weight ∧ ¬ x.group = y.group) := by
            by_cases a : x.id = y.id <;> by_cases b : x.role = y.role <;> by_cases c : x.weight = y.weight <;> by_cases d : x.group = y.group <;> simp_all
            apply hxy; cases x; cases y; simp_all
          have hne : ¬ l1 = l2 := fun h => hxy (by have h1 := HX.out; have h2 := HY.out; rw [h, h2] at h1; exact (Option.some.inj h1).symm)
          have HNE := Lib.hid hne
          clear hne hxy
          rcases hxy' with h | ⟨h1, h⟩ | ⟨h1, h2, h⟩ | ⟨h1, h2, h3, h⟩
          all_goals (
            go_wp2
            go_quiet (fail)
            go_wp2
            go_ret
            exact ⟨by simp [HNE.out], by rw [World.drewN_drewN]; exact belowD w _⟩)
      · go_wp2
        go_ret
        have hke : k = l1.length := by omega
        have h1 := HT.out
        rw [List.take_of_length_le (by omega), List.take_of_length_le (by have := HL.out; omega)] at h1
        exact ⟨by simp [h1], belowD w n⟩
  · have e1 : ((l1.length : Int) != (l2.length : Int)) = true := by simp [hl]; omega
    have e2 : (l1.length == l2.length) = false := by simp [hl]
    go_enter Tryd.func44, Tryd.ntmps44
    go_wp2
    go_ret
    exact ⟨by have : ¬ l1 = l2 := (by intro h; exact hl (by rw [h])); simp [this], belowD w 0⟩

set_option maxRecDepth 100000 in
set_option maxHeartbeats 1600000 in
theorem Tryd.sameEnsemble_calls (a b : Int) (v1 v2 : Value) (l1 l2 : List Mb) (w : World) (h1 : Ms w v1 l1) (h2 : Ms w v2 l2) :
    Calls Tryd.prog 23 #[.agg #[.int .i64 a, v1], .agg #[.int .i64 b, v2]] w (SameP w (decide (a = b ∧ l1 = l2))) := by
  have HB : Hid (∀ o1 o2, RowKit.Below w.heap.size w ((w.alloc o1).alloc o2)) := fun o1 o2 => ((Below.refl _ _).alloc (Nat.le_refl _) _).alloc (by simp) _
  have H1 := Lib.hid h1
  have H2 := Lib.hid h2
  obtain ⟨a1, c1, rfl, -⟩ := h1
  obtain ⟨a2, c2, rfl, -⟩ := h2
  by_cases hab : a = b
  · subst hab
    go_enter Tryd.func23, Tryd.ntmps23
    go_wp2_with fail
    refine (Tryd.sameMembers_calls _ _ l1 l2 _ (H1.out.below (HB.out _ _)) (H2.out.below (HB.out _ _))).mono ?_
    rintro e W ⟨rfl, hb⟩
    have HBB := Lib.hid ((HB.out _ _).trans (hb.mono (by simp; omega)))
    clear hb
    obtain ⟨q, hq⟩ : ∃ q, decide (l1 = l2) = q := ⟨_, rfl⟩
    rw [hq]
    have HQ := Lib.hid hq
    clear hq
    go_wp2_with fail
    go_ret
    exact ⟨by show Ending.returned (Value.bool q) = _; rw [← HQ.out]; simp, HBB.out⟩
  · go_enter Tryd.func23, Tryd.ntmps23
    go_wp2_with fail
    go_ret
    exact ⟨by simp [hab], HB.out _ _⟩

set_option maxRecDepth 100000 in
set_option maxHeartbeats 1600000 in
theorem Tryd.sameNodes_calls (v1 v2 : Value) (l1 l2 : List Nd) (w : World) (h1 : Nds w v1 l1) (h2 : Nds w v2 l2) :
    Calls Tryd.prog 21 #[v1, v2] w (SameP w (decide (l1 = l2))) := by
  obtain ⟨ds1, hds1, ⟨a1, c1, rfl, h11, h12, h13, h14⟩, hdd1⟩ := h1
  obtain ⟨ds2, hds2, ⟨a2, c2, rfl, h21, h22, h23, h24⟩, hdd2⟩ := h2
  unfold maxLen at h12 h22
  by_cases hl : l1.length = l2.length
  · have e1 : ((l1.length : Int) != (l2.length : Int)) = false := by simp [hl]
    have H14 := Lib.hid h14
    have H24 := Lib.hid h24
    have HD1 := Lib.hid hdd1
    have HD2 := Lib.hid hdd2
    have HS1 := Lib.hid hds1
    have HS2 := Lib.hid hds2
    have HL := Lib.hid hl
    clear h14 h24 hl h13 h23 hds1 hds2 hdd1 hdd2
    go_enter Tryd.func21, Tryd.ntmps21
    go_wp2
    go_loopw [5] (fun i wr => ∃ k : Nat, k ≤ l1.length ∧ i = .int .i64 k ∧ Hid (RowKit.Below w.heap.size w wr) ∧ Hid (l1.take k = l2.take k)) (fun i _ => l1.length - (intOf i).toNat)
    case atStart => exact ⟨0, by omega, rfl, Below.refl _ _, by simp [Hid]⟩
    case round =>
      obtain ⟨k, hk, rfl, HB, HT⟩ := hrel
      by_cases hlt : k < l1.length
      · have b1k : (k : Int) < (l1.length : Int) := by omega
        have b2k : (k : Int) < (l2.length : Int) := by have := HL.out; omega
        obtain ⟨x, hx⟩ := get_some l1 k hlt
        obtain ⟨y, hy⟩ := get_some l2 k (by omega)
        obtain ⟨b1, o1, d1, rfl, hd1, at1⟩ := ndAt (H14.out.below HB.out) HS1.out hx
        obtain ⟨b2, o2, d2, rfl, hd2, at2⟩ := ndAt (H24.out.below HB.out) HS2.out hy
        have hb1 := (HD1.out _ _ _ hx hd1).below HB.out
        have hb2 := (HD2.out _ _ _ hy hd2).below HB.out
        have hSN := quietB (w := wr) (fun W hW => Tryd.sameNode_calls x y d1 d2 W (hb1.below hW) (hb2.below hW))
        have HX := Lib.hid hx
        have HY := Lib.hid hy
        have m0 : ∀ d os, (grow (redrawn wr d) os).cell? ⟨b1, o1 + k * 12, none⟩ = _ := cell_regrown at1.c0
        have m1 : ∀ d os, (grow (redrawn wr d) os).cell? ⟨b1, o1 + k * 12 + 1, none⟩ = _ := cell_regrown at1.c1
        have m2 : ∀ d os, (grow (redrawn wr d) os).cell? ⟨b1, o1 + k * 12 + 2, none⟩ = _ := cell_regrown at1.c2
        have m3 : ∀ d os, (grow (redrawn wr d) os).cell? ⟨b1, o1 + k * 12 + 3, none⟩ = _ := cell_regrown at1.c3
        have m4 : ∀ d os, (grow (redrawn wr d) os).cell? ⟨b1, o1 + k * 12 + 4, none⟩ = _ := cell_regrown at1.c4
        have m5 : ∀ d os, (grow (redrawn wr d) os).cell? ⟨b1, o1 + k * 12 + 5, none⟩ = _ := cell_regrown at1.c5
        have m6 : ∀ d os, (grow (redrawn wr d) os).cell? ⟨b1, o1 + k * 12 + 6, none⟩ = _ := cell_regrown at1.c6
        have m7 : ∀ d os, (grow (redrawn wr d) os).cell? ⟨b1, o1 + k * 12 + 7, none⟩ = _ := cell_regrown at1.c7
        have m8 : ∀ d os, (grow (redrawn wr d) os).cell? ⟨b1, o1 + k * 12 + 8, none⟩ = _ := cell_regrown at1.c8
        have m9 : ∀ d os, (grow (redrawn wr d) os).cell? ⟨b1, o1 + k * 12 + 9, none⟩ = _ := cell_regrown at1.c9
        have m10 : ∀ d os, (grow (redrawn wr d) os).cell? ⟨b1, o1 + k * 12 + 10, none⟩ = _ := cell_regrown at1.c10
        have m11 : ∀ d os, (grow (redrawn wr d) os).cell? ⟨b1, o1 + k * 12 + 11, none⟩ = _ := cell_regrown at1.c11
        have n0 : ∀ d os, (grow (redrawn wr d) os).cell? ⟨b2, o2 + k * 12, none⟩ = _ := cell_regrown at2.c0
        have n1 : ∀ d os, (grow (redrawn wr d) os).cell? ⟨b2, o2 + k * 12 + 1, none⟩ = _ := cell_regrown at2.c1
        have n2 : ∀ d os, (grow (redrawn wr d) os).cell? ⟨b2, o2 + k * 12 + 2, none⟩ = _ := cell_regrown at2.c2
        have n3 : ∀ d os, (grow (redrawn wr d) os).cell? ⟨b2, o2 + k * 12 + 3, none⟩ = _ := cell_regrown at2.c3
        have n4 : ∀ d os, (grow (redrawn wr d) os).cell? ⟨b2, o2 + k * 12 + 4, none⟩ = _ := cell_regrown at2.c4
        have n5 : ∀ d os, (grow (redrawn wr d) os).cell? ⟨b2, o2 + k * 12 + 5, none⟩ = _ := cell_regrown at2.c5
        have n6 : ∀ d os, (grow (redrawn wr d) os).cell? ⟨b2, o2 + k * 12 + 6, none⟩ = _ := cell_regrown at2.c6
        have n7 : ∀ d os, (grow (redrawn wr d) os).cell? ⟨b2, o2 + k * 12 + 7, none⟩ = _ := cell_regrown at2.c7
        have n8 : ∀ d os, (grow (redrawn wr d) os).cell? ⟨b2, o2 + k * 12 + 8, none⟩ = _ := cell_regrown at2.c8
        have n9 : ∀ d os, (grow (redrawn wr d) os).cell? ⟨b2, o2 + k * 12 + 9, none⟩ = _ := cell_regrown at2.c9
        have n10 : ∀ d os, (grow (redrawn wr d) os).cell? ⟨b2, o2 + k * 12 + 10, none⟩ = _ := cell_regrown at2.c10
        have n11 : ∀ d os, (grow (redrawn wr d) os).cell? ⟨b2, o2 + k * 12 + 11, none⟩ = _ := cell_regrown at2.c11
        clear at1 at2 hx hy hb1 hb2 hd1 hd2
        obtain ⟨q, hq⟩ : ∃ q, decide (x = y) = q := ⟨_, rfl⟩
        rw [hq] at hSN
        have HQ := Lib.hid hq
        clear hq
        simp only [ndVal] at hSN
        go_wp2_with fail
        refine wp_region_quiet_below (by kernel_rfl) (by kernel_rfl) ?_
        repeat (quiet_step (first | exact hSN _ _))
        refine wpQuiet_nil ?_
        rintro _ ⟨⟨dq, osq⟩, rfl⟩
        have hBq := below_regrown wr dq osq
        obtain ⟨W2, hW2⟩ : ∃ W2, grow (redrawn wr dq) osq = W2 := ⟨_, rfl⟩
        simp only [hW2] at hBq ⊢
        have HB2 := Lib.hid (HB.out.trans (hBq.mono HB.out.size))
        clear hW2 hBq hSN m0 m1 m2 m3 m4 m5 m6 m7 m8 m9 m10 m11 n0 n1 n2 n3 n4 n5 n6 n7 n8 n9 n10 n11
        cases q with
        | false =>
          have hne : ¬ l1 = l2 := fun h => by
            have h1 := HX.out; have h2 := HY.out
            rw [h, h2] at h1
            have := HQ.out
            simp [Option.some.inj h1] at this
          go_wp2_with fail
          go_ret
          exact ⟨by simp [hne], HB2.out⟩
        | true =>
          have hxy : x = y := by have := HQ.out; simpa using this
          have HXY := Lib.hid hxy
          clear hxy
          go_wp2_with fail
          go_roundw
          case rel => exact ⟨k + 1, by omega, by go_num, HB2.out, by show _ = _; rw [take_snoc HX.out, take_snoc HY.out, HT.out, HXY.out]⟩
          case measure => simp [intOf]; omega
      · go_wp2
        go_ret
        have hke : k = l1.length := by omega
        have h1 := HT.out
        rw [List.take_of_length_le (by omega), List.take_of_length_le (by have := HL.out; omega)] at h1
        exact ⟨by simp [h1], HB.out⟩
  · have e1 : ((l1.length : Int) != (l2.length : Int)) = true := by simp [hl]; omega
    have e2 : (l1.length == l2.length) = false := by simp [hl]
    go_enter Tryd.func21, Tryd.ntmps21
    go_wp2
    go_ret
    exact ⟨by have : ¬ l1 = l2 := (by intro h; exact hl (by rw [h])); simp [this], belowD w 0⟩
end Go.Proofs
