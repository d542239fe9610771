/- Walks: package image: right, behind its first test. -/
import Derived.Test.YtkcpfchfpnmkpaaDoorImg2
import Derived.BigQuiet
namespace Go.Proofs
open Go Go.RowKit Go.Sort Go.Proofs.YtkcpfchfpnmkpaaDoor

namespace YtkcpfchfpnmkpaaDoor
def lastPath (l : List Nd) : Option ByteArray := l.getLast?.map (·.path)
theorem ix8_0 (a b c d e f g h : Int) (W : World) : (Instr.index 89 (.agg #[.int .i64 a, .int .i64 b, .int .i64 c, .int .i64 d, .int .i64 e, .int .i64 f, .int .i64 g, .int .i64 h]) (.int .i64 0)).run Tryd.prog W = .ok (.int .i64 a) W := by kernel_rfl
theorem ix8_1 (a b c d e f g h : Int) (W : World) : (Instr.index 89 (.agg #[.int .i64 a, .int .i64 b, .int .i64 c, .int .i64 d, .int .i64 e, .int .i64 f, .int .i64 g, .int .i64 h]) (.int .i64 1)).run Tryd.prog W = .ok (.int .i64 b) W := by kernel_rfl
theorem ix8_2 (a b c d e f g h : Int) (W : World) : (Instr.index 89 (.agg #[.int .i64 a, .int .i64 b, .int .i64 c, .int .i64 d, .int .i64 e, .int .i64 f, .int .i64 g, .int .i64 h]) (.int .i64 2)).run Tryd.prog W = .ok (.int .i64 c) W := by kernel_rfl
theorem ix8_3 (a b c d e f g h : Int) (W : World) : (Instr.index 89 (.agg #[.int .i64 a, .int .i64 b, .int .i64 c, .int .i64 d, .int .i64 e, .int .i64 f, .int .i64 g, .int .i64 h]) (.int .i64 3)).run Tryd.prog W = .ok (.int .i64 d) W := by kernel_rfl
theorem ix8_4 (a b c d e f g h : Int) (W : World) : (Instr.index 89 (.agg #[.int .i64 a, .int .i64 b, .int .i64 c, .int .i64 d, .int .i64 e, .int .i64 f, .int .i64 g, .int .i64 h]) (.int .i64 4)).run Tryd.prog W = .ok (.int .i64 e) W := by kernel_rfl
theorem ix8_5 (a b c d e f g h : Int) (W : World) : (Instr.index 89 (.agg #[.int .i64 a, .int .i64 b, .int .i64 c, .int .i64 d, .int .i64 e, .int .i64 f, .int .i64 g, .int .i64 h]) (.int .i64 5)).run Tryd.prog W = .ok (.int .i64 f) W := by kernel_rfl
theorem ix8_6 (a b c d e f g h : Int) (W : World) : (Instr.index 89 (.agg #[.int .i64 a, .int .i64 b, .int .i64 c, .int .i64 d, .int .i64 e, .int .i64 f, .int .i64 g, .int .i64 h]) (.int .i64 6)).run Tryd.prog W = .ok (.int .i64 g) W := by kernel_rfl
theorem ix8_7 (a b c d e f g h : Int) (W : World) : (Instr.index 89 (.agg #[.int .i64 a, .int .i64 b, .int .i64 c, .int .i64 d, .int .i64 e, .int .i64 f, .int .i64 g, .int .i64 h]) (.int .i64 7)).run Tryd.prog W = .ok (.int .i64 h) W := by kernel_rfl
theorem index8 (j : Nat) (x : Nd) (hj : j < 8) : ∃ y, x.stat8[j]? = some y ∧ ∀ W, (Instr.index 89 (.agg #[.int .i64 x.czxid, .int .i64 x.mzxid, .int .i64 x.pzxid, .int .i64 x.ctime, .int .i64 x.mtime, .int .i64 x.version, .int .i64 x.cversion, .int .i64 x.owner]) (.int .i64 j)).run Tryd.prog W = .ok (.int .i64 y) W := by
  have : j = 0 ∨ j = 1 ∨ j = 2 ∨ j = 3 ∨ j = 4 ∨ j = 5 ∨ j = 6 ∨ j = 7 := by omega
  rcases this with rfl | rfl | rfl | rfl | rfl | rfl | rfl | rfl
  · exact ⟨_, rfl, fun W => ix8_0 _ _ _ _ _ _ _ _ W⟩
  · exact ⟨_, rfl, fun W => ix8_1 _ _ _ _ _ _ _ _ W⟩
  · exact ⟨_, rfl, fun W => ix8_2 _ _ _ _ _ _ _ _ W⟩
  · exact ⟨_, rfl, fun W => ix8_3 _ _ _ _ _ _ _ _ W⟩
  · exact ⟨_, rfl, fun W => ix8_4 _ _ _ _ _ _ _ _ W⟩
  · exact ⟨_, rfl, fun W => ix8_5 _ _ _ _ _ _ _ _ W⟩
  · exact ⟨_, rfl, fun W => ix8_6 _ _ _ _ _ _ _ _ W⟩
  · exact ⟨_, rfl, fun W => ix8_7 _ _ _ _ _ _ _ _ W⟩
theorem ndOk_of {x : Nd} (h0 : pathOk x.path.data.toList = true) (h1 : x.data.length ≤ 1000) (h2 : 0 ≤ x.length) (h3 : 0 ≤ x.children) (h4 : (x.stat8.take 8).all (fun y => decide (0 ≤ y)) = true) : ndOk x = true := by
  have h4' : x.stat8.all (fun y => decide (0 ≤ y)) = true := h4
  unfold ndOk
  rw [h0, h4', decide_eq_true h1, decide_eq_true h2, decide_eq_true h3]; rfl
theorem ndGo_bad (o : Option ByteArray) (x : Nd) (l : List Nd) (h : ndOk x = false) : ndGo o (x :: l) = false := by
  cases o <;> simp only [ndGo, h, Bool.false_and]
theorem ndOk_path {x : Nd} (h : pathOk x.path.data.toList = false) : ndOk x = false := by
  unfold ndOk; rw [h]; rfl
theorem ndOk_rest {x : Nd} (h : ¬ (x.data.length ≤ 1000 ∧ 0 ≤ x.length ∧ 0 ≤ x.children ∧ x.stat8.all (fun y => decide (0 ≤ y)) = true)) : ndOk x = false := by
  cases hn : ndOk x with
  | false => rfl
  | true =>
    exfalso
    apply h
    unfold ndOk at hn
    simp only [Bool.and_eq_true, decide_eq_true_eq] at hn
    exact ⟨hn.1.1.1.2, hn.1.1.2, hn.1.2, hn.2⟩
theorem ndGo_ord {p : ByteArray} {x : Nd} {l : List Nd} (h : lessB p.data.toList x.path.data.toList = false) : ndGo (some p) (x :: l) = false := by
  simp only [ndGo, h, Bool.false_and, Bool.and_false]
theorem ndGo_ok {p : ByteArray} {x : Nd} {l : List Nd} (h : ndOk x = true) (h2 : lessB p.data.toList x.path.data.toList = true) : ndGo (some p) (x :: l) = ndGo (some x.path) l := by
  simp only [ndGo, h, h2, Bool.true_and]
/-- Where the first loop of right stands. -/
def RiR (w : World) (nodes pre suf : List Nd) (wr : World) : Prop := nodes = pre ++ suf ∧ ndGo none nodes = ndGo (lastPath pre) suf ∧ Below w.heap.size w wr
def RiS (w : World) (sits pre suf : List Sg) (last : Int) (wr : World) : Prop := sits = pre ++ suf ∧ sgsOk 0 sits = sgsOk last suf ∧ Below w.heap.size w wr
end YtkcpfchfpnmkpaaDoor

set_option maxRecDepth 100000 in
set_option maxHeartbeats 6400000 in
theorem Tryd.right_pass (x : Im) (nv sv mv : Value) (w : World) (hn : Nds w nv x.nodes) (hs : Sgs w sv x.sits) (hm : Ms w mv x.mems) (hok : headOk x = true) :
    Calls Tryd.prog 32 #[nv, sv, .agg #[.int .i64 x.ver, mv], .int .i64 x.lo, .int .i64 x.hi] w fun e w' => e = .returned (.bool (right x)) ∧ Below w.heap.size w w' := by
  obtain ⟨nodes, sits, ver, mems, lo, hi⟩ := x
  have HR : Hid (right ⟨nodes, sits, ver, mems, lo, hi⟩ = (ndGo none nodes && sgsOk 0 sits)) := by rw [Hid, right_head, hok, Bool.true_and]
  simp only at hn hs hm
  have HNS : Hid (Nds w nv nodes) := hn
  obtain ⟨ds, hds, ⟨an, cn, rfl, n1, n2, n3, n4⟩, hdd⟩ := hn
  have HMW : Hid (Ms (w.alloc (.cells #[.int .i64 ver, mv] 27)) mv mems) := hm.below ((Below.refl _ _).alloc (Nat.le_refl _) _)
  obtain ⟨as', cs', rfl, s1, s2, s3, s4⟩ := hs
  obtain ⟨am, cm, rfl, -⟩ := hm
  have HN4 := Lib.hid n4
  have HS4 := Lib.hid s4
  have HDD := Lib.hid hdd
  have hB0 : Below w.heap.size w (w.alloc (.cells #[.int .i64 ver, .slice am mems.length cm] 27)) := (Below.refl _ _).alloc (Nat.le_refl _) _
  have HB0 := Lib.hid hB0
  have hn2 := n2
  have hs2 := s2
  unfold maxLen at hn2 hs2
  clear n4 s4 hdd
  cases nodes with
  | nil => simp [headOk] at hok
  | cons x0 rest =>
    simp only [headOk, Bool.and_eq_true, decide_eq_true_eq, beq_iff_eq, List.length_cons] at hok
    obtain ⟨⟨⟨⟨⟨hp, hl⟩, hq⟩, hck⟩, hlo⟩, hhi⟩ := hok
    rw [← ByteArray.toList_eq] at hp
    have hl' : ((rest.length : Int) + 1) ≤ 500 := by omega
    have hq' : (sits.length : Int) ≤ 200 := by omega
    obtain ⟨b, off, d0, rfl, hd0, hat⟩ := ndAt (HN4.out.below hB0) hds (k := 0) (x := x0) rfl
    have hc0 := hat.c0
    rw [Nat.zero_mul, Nat.add_zero] at hc0
    clear hat hd0 hB0
    go_enter Tryd.func32, Tryd.ntmps32
    go_wp2_with (go_at_call 50; refine (Tryd.ensCheck_calls ver _ mems _ HMW.out).mono ?_; rintro e W ⟨rfl, hW⟩; rw [hck]; have HW := Lib.hid (HB0.out.trans (hW.mono (by simp))); clear hW)
    · exfalso; rename_i h; simp at h; omega
    rename _ ∧ lo ≤ hi => hh2
    rename ¬ (rest.length : Int) + 1 = 0 => hh1
    clear hh1 hh2
    obtain ⟨nodes, hnod⟩ : ∃ nodes, x0 :: rest = nodes := ⟨_, rfl⟩
    have hlen : (rest.length : Int) + 1 = nodes.length := by rw [← hnod]; simp
    rw [hnod] at HR HNS HN4 HDD hds n1
    have HNOD := Lib.hid hnod
    have HLEN := Lib.hid hlen
    clear hnod hlen
    clear hp hc0 hck
    go_loopw [54] (fun i wr => ∃ (pre suf : List Nd), i = .int .i64 pre.length ∧ Hid (RiR w nodes pre suf wr)) (fun i _ => 501 - (intOf i).toNat)
    case atStart => exact ⟨[], nodes, rfl, rfl, rfl, HW.out⟩
    case round =>
      obtain ⟨pre, suf, rfl, HI⟩ := hrel
      obtain ⟨e1, e2, e3⟩ := HI.out
      have HE1 := Lib.hid e1
      have HE2 := Lib.hid e2
      have HE3 := Lib.hid e3
      cases suf with
      | nil =>
        have hpl : (pre.length : Int) = (rest.length : Int) + 1 := by rw [HLEN.out, e1]; simp
        have HT : Hid (ndGo none nodes = true) := by rw [Hid, e2]; cases lastPath pre <;> rfl
        have HRT : Hid (right ⟨nodes, sits, ver, mems, lo, hi⟩ = sgsOk 0 sits) := by rw [Hid, HR.out, HT.out, Bool.true_and]
        clear e1 e2 HI HE1 HE2 HN4 HDD HNS HMW
        go_wp2_with fail
        clear hpl
        go_loopw [15, 108] (fun u i wr => ∃ (pre suf : List Sg) (last : Int), u = .int .i64 last ∧ i = .int .i64 pre.length ∧ Hid (RiS w sits pre suf last wr)) (fun _ i _ => 201 - (intOf i).toNat)
        case atStart => exact ⟨[], sits, 0, rfl, rfl, rfl, rfl, HE3.out⟩
        case round =>
          obtain ⟨pre2, suf2, last, rfl, rfl, HI⟩ := hrel
          obtain ⟨q1, q2, q3⟩ := HI.out
          cases suf2 with
          | nil =>
            have hpl2 : (pre2.length : Int) = sits.length := by rw [q1]; simp
            have hpl3 : pre2.length = sits.length := by omega
            have HF : Hid (right ⟨nodes, sits, ver, mems, lo, hi⟩ = true) := by rw [Hid, HRT.out, q2]; rfl
            have HQ := Lib.hid q3
            clear q1 q2 q3 HI
            go_wp2_with fail
            go_ret
            exact ⟨by rw [HNOD.out, HF.out]; rfl, HQ.out⟩
          | cons s suf2 =>
            have hk : sits[pre2.length]? = some s := by rw [q1]; simp
            have hpl2 : (pre2.length : Int) < sits.length := by rw [q1]; simp; omega
            have hpl3 : pre2.length < sits.length := by omega
            obtain ⟨bs, os, rfl, c0, c1, c2⟩ := sgAt (a := as') (HS4.out.below q3) hk
            have HQ1 := Lib.hid q1
            have HQ2 := Lib.hid q2
            have HQ := Lib.hid (q3.alloc q3.size (.cells #[.int .i64 s.session, .int .i64 s.timeout, .int .i64 s.turn] 51))
            clear q1 q2 q3 HI hk
            by_cases hbad : s.session ≤ last ∨ s.timeout < 0 ∨ s.turn < 0
            · have HF : Hid (right ⟨nodes, sits, ver, mems, lo, hi⟩ = false) := by
                rw [Hid, HRT.out, HQ2.out]; simp only [sgsOk]
                rcases hbad with h | h | h
                · rw [decide_eq_false (by omega : ¬ last < s.session)]; rfl
                · rw [decide_eq_false (by omega : ¬ 0 ≤ s.timeout)]; simp
                · rw [decide_eq_false (by omega : ¬ 0 ≤ s.turn)]; simp
              go_wp2_with fail
              all_goals first
                | (go_ret; exact ⟨by rw [HNOD.out, HF.out]; rfl, HQ.out⟩)
                | (exfalso; rename_i h; simp at h; omega)
                | (exfalso; omega)
            · obtain ⟨hb1, hb2, hb3⟩ : last < s.session ∧ 0 ≤ s.timeout ∧ 0 ≤ s.turn := by omega
              clear hbad
              go_wp2_with fail
              go_roundw
              case rel =>
                refine ⟨pre2 ++ [s], suf2, s.session, rfl, by simp, ?_, ?_, ?_⟩
                · rw [HQ1.out]; simp
                · rw [HQ2.out]; simp [sgsOk, hb1, hb2, hb3]
                · exact HQ.out
              case measure => simp [intOf] <;> omega
      | cons x suf =>
        have hpl : (pre.length : Int) < (rest.length : Int) + 1 := by rw [HLEN.out, e1]; simp; omega
        have hk : nodes[pre.length]? = some x := by rw [e1]; simp
        have hpl2 : pre.length < rest.length + 1 := by omega
        obtain ⟨bb, oo, d, ebb, hd, hat⟩ := ndAt (HN4.out.below e3) hds hk
        cases ebb
        have hdb : Bs wr d x.data := (HDD.out _ _ _ hk hd).below e3
        obtain ⟨ad, cd, rfl, -⟩ := hdb
        have g0 := hat.c0
        have g1 := hat.c1
        have g2 := hat.c2
        have g3 := hat.c3
        have g4 := hat.c4
        have g5 := hat.c5
        have g6 := hat.c6
        have g7 := hat.c7
        have g8 := hat.c8
        have g9 := hat.c9
        have g10 := hat.c10
        have g11 := hat.c11
        clear hat hk e1 e2 HI
        obtain ⟨W1, hW1⟩ : ∃ W1, wr.alloc (.cells #[.string x.path, .slice ad x.data.length cd, .int .i64 x.czxid, .int .i64 x.mzxid, .int .i64 x.pzxid, .int .i64 x.ctime, .int .i64 x.mtime, .int .i64 x.version, .int .i64 x.cversion, .int .i64 x.owner, .int .i64 x.length, .int .i64 x.children] 42) = W1 := ⟨_, rfl⟩
        have HW1 := Lib.hid hW1
        have hblk : W1.heap[wr.heap.size]? = some (.cells #[.string x.path, .slice ad x.data.length cd, .int .i64 x.czxid, .int .i64 x.mzxid, .int .i64 x.pzxid, .int .i64 x.ctime, .int .i64 x.mtime, .int .i64 x.version, .int .i64 x.cversion, .int .i64 x.owner, .int .i64 x.length, .int .i64 x.children] 42 (0, 0)) := by rw [← hW1]; exact heap_alloc_new wr _
        have HB1 : Hid (RowKit.Below w.heap.size w W1) := by rw [← hW1]; exact e3.alloc e3.size _
        have HBK := Lib.hid hblk
        clear hW1
        go_wp2_with fail
        rw [HW1.out]
        obtain ⟨bm, hbm⟩ : ∃ bm, wr.heap.size = bm := ⟨_, rfl⟩
        rw [hbm] at hblk
        simp only [hbm]
        have m0 : ∀ d os, (grow (redrawn W1 d) os).cell? ⟨bm, 0, none⟩ = some (.string x.path) := cell_regrown (by rw [Lib.cell_of_heap hblk]; rfl)
        have m1 : ∀ d os, (grow (redrawn W1 d) os).cell? ⟨bm, 1, none⟩ = some (.slice ad x.data.length cd) := cell_regrown (by rw [Lib.cell_of_heap hblk]; rfl)
        have m10 : ∀ d os, (grow (redrawn W1 d) os).cell? ⟨bm, 10, none⟩ = some (.int .i64 x.length) := cell_regrown (by rw [Lib.cell_of_heap hblk]; rfl)
        have m11 : ∀ d os, (grow (redrawn W1 d) os).cell? ⟨bm, 11, none⟩ = some (.int .i64 x.children) := cell_regrown (by rw [Lib.cell_of_heap hblk]; rfl)
        have hP := quietB (w := W1) (fun W hW => Tryd.pathCheck_calls x.path W)
        clear g0 g1 g2 g3 g4 g5 g6 g7 g8 g9 g10 g11 hblk
        obtain ⟨q, hpo⟩ : ∃ q, pathOk x.path.data.toList = q := ⟨_, rfl⟩
        rw [hpo] at hP
        have HPO := Lib.hid hpo
        clear hpo
        refine wp_region_quiet_below (by kernel_rfl) (by kernel_rfl) ?_
        iterate 5 (quiet_step (first | exact hP _ _))
        cases q with
        | false =>
          have HF : Hid (right ⟨nodes, sits, ver, mems, lo, hi⟩ = false) := by
            rw [Hid, HR.out, HE2.out, ndGo_bad _ _ _ (ndOk_path HPO.out), Bool.false_and]
          simp only [Bool.not_false]
          repeat (go_big_quiet_step (fail))
          refine wpQuiet_nil ?_
          rintro _ ⟨⟨dq, osq⟩, rfl⟩
          have hBq := below_regrown W1 dq osq
          obtain ⟨W2, hW2⟩ : ∃ W2, grow (redrawn W1 dq) osq = W2 := ⟨_, rfl⟩
          simp only [hW2] at hBq ⊢
          clear hW2 hP m0 m1 m10 m11
          go_wp2_with fail
          go_ret
          exact ⟨by rw [HNOD.out, HF.out]; rfl, HB1.out.trans (hBq.mono HB1.out.size)⟩
        | true =>
          simp only [Bool.not_true]
          by_cases hp0 : pre.length = 0
          · have hpr : pre = [] := List.eq_nil_of_length_eq_zero hp0
            subst hpr
            clear hp0
            simp only [List.length_nil] at hpl ⊢
            by_cases hdl : x.data.length ≤ 1000
            · have hdl1 : decide ((1000 : Int) < (x.data.length : Int)) = false := by simp; omega
              have hdl2 : decide (1000 < x.data.length) = false := by simp; omega
              by_cases hln : 0 ≤ x.length
              · have hln1 : decide (x.length < 0) = false := by simp; omega
                by_cases hch : 0 ≤ x.children
                · have hch1 : decide (x.children < 0) = false := by simp; omega
                  repeat (go_big_quiet_step (fail))
                  refine wpQuiet_nil ?_
                  rintro _ ⟨⟨dq, osq⟩, rfl⟩
                  have hBq := below_regrown W1 dq osq
                  obtain ⟨W2, hW2⟩ : ∃ W2, grow (redrawn W1 dq) osq = W2 := ⟨_, rfl⟩
                  simp only [hW2] at hBq ⊢
                  clear hW2 hP m0 m1 m10 m11
                  have hb2 := (hBq.block bm (by rw [← hbm, ← HW1.out]; simp)).trans (hbm ▸ HBK.out)
                  have k2 : W2.cell? ⟨bm, 2, none⟩ = some (.int .i64 x.czxid) := by rw [Lib.cell_of_heap hb2]; rfl
                  have k3 : W2.cell? ⟨bm, 3, none⟩ = some (.int .i64 x.mzxid) := by rw [Lib.cell_of_heap hb2]; rfl
                  have k4 : W2.cell? ⟨bm, 4, none⟩ = some (.int .i64 x.pzxid) := by rw [Lib.cell_of_heap hb2]; rfl
                  have k5 : W2.cell? ⟨bm, 5, none⟩ = some (.int .i64 x.ctime) := by rw [Lib.cell_of_heap hb2]; rfl
                  have k6 : W2.cell? ⟨bm, 6, none⟩ = some (.int .i64 x.mtime) := by rw [Lib.cell_of_heap hb2]; rfl
                  have k7 : W2.cell? ⟨bm, 7, none⟩ = some (.int .i64 x.version) := by rw [Lib.cell_of_heap hb2]; rfl
                  have k8 : W2.cell? ⟨bm, 8, none⟩ = some (.int .i64 x.cversion) := by rw [Lib.cell_of_heap hb2]; rfl
                  have k9 : W2.cell? ⟨bm, 9, none⟩ = some (.int .i64 x.owner) := by rw [Lib.cell_of_heap hb2]; rfl
                  have k10 : W2.cell? ⟨bm, 10, none⟩ = some (.int .i64 x.length) := by rw [Lib.cell_of_heap hb2]; rfl
                  have k11 : W2.cell? ⟨bm, 11, none⟩ = some (.int .i64 x.children) := by rw [Lib.cell_of_heap hb2]; rfl
                  go_wp2_with fail
                  refine (Tryd.stat_calls x W2).mono ?_
                  rintro e W3 ⟨rfl, hW3⟩
                  have HB3 := Lib.hid (HB1.out.trans ((hBq.mono HB1.out.size).trans (hW3.mono (Nat.le_trans HB1.out.size hBq.size))))
                  clear hW3 k2 k3 k4 k5 k6 k7 k8 k9 k10 k11 hb2 hdl1 hdl2 hln1 hch1
                  go_wp2_with fail
                  go_loopw [99] (fun i wq => ∃ (j : Nat), i = .int .i64 j ∧ j ≤ 8 ∧ Hid ((x.stat8.take j).all (fun y => decide (0 ≤ y)) = true) ∧ Hid (RowKit.Below w.heap.size w wq)) (fun i _ => 9 - (intOf i).toNat)
                  case atStart => exact ⟨0, rfl, by omega, rfl, HB3.out⟩
                  case round =>
                    obtain ⟨j, rfl, hj, HA, HB4⟩ := hrel
                    by_cases hj8 : j = 8
                    · subst hj8
                      go_wp2_with fail
                      have hOK := ndOk_of HPO.out hdl hln hch HA.out
                      refine ⟨⟨[x], suf, rfl, ?_, ?_, HB4.out⟩, by simp [intOf]⟩
                      · rw [HE1.out]; rfl
                      · rw [HE2.out]; simp only [lastPath, List.getLast?_nil, Option.map_none, ndGo, hOK, Bool.true_and, List.getLast?_singleton, Option.map_some]
                    · have hj' : (j : Int) < 8 := by omega
                      obtain ⟨y, hy, hix⟩ := index8 j x (by omega)
                      by_cases hy0 : y < 0
                      · have HF : Hid (right ⟨nodes, sits, ver, mems, lo, hi⟩ = false) := by
                          rw [Hid, HR.out, HE2.out, ndGo_bad _ _ _ (ndOk_rest (fun h => by have := List.all_eq_true.1 h.2.2.2 y (List.mem_of_getElem? hy); simp at this; omega)), Bool.false_and]
                        go_wp2_with fail
                        go_ret
                        exact ⟨by rw [HNOD.out, HF.out]; rfl, HB4.out⟩
                      · have hy1 : 0 ≤ y := by omega
                        have HY := Lib.hid hy
                        clear hy
                        go_wp2_with fail
                        go_roundw
                        case rel => exact ⟨j + 1, by go_num, by omega, by rw [Hid, take_snoc HY.out, List.all_append, HA.out]; simp [hy1], HB4.out⟩
                        case measure => simp [intOf]; omega
                · have hch1 : decide (x.children < 0) = true := by simp; omega
                  have HF : Hid (right ⟨nodes, sits, ver, mems, lo, hi⟩ = false) := by
                    rw [Hid, HR.out, HE2.out, ndGo_bad _ _ _ (ndOk_rest (fun h => hch h.2.2.1)), Bool.false_and]
                  repeat (go_big_quiet_step (fail))
                  refine wpQuiet_nil ?_
                  rintro _ ⟨⟨dq, osq⟩, rfl⟩
                  have hBq := below_regrown W1 dq osq
                  obtain ⟨W2, hW2⟩ : ∃ W2, grow (redrawn W1 dq) osq = W2 := ⟨_, rfl⟩
                  simp only [hW2] at hBq ⊢
                  clear hW2 hP m0 m1 m10 m11
                  go_wp2_with fail
                  go_ret
                  exact ⟨by rw [HNOD.out, HF.out]; rfl, HB1.out.trans (hBq.mono HB1.out.size)⟩
              · have hln1 : decide (x.length < 0) = true := by simp; omega
                have HF : Hid (right ⟨nodes, sits, ver, mems, lo, hi⟩ = false) := by
                  rw [Hid, HR.out, HE2.out, ndGo_bad _ _ _ (ndOk_rest (fun h => hln h.2.1)), Bool.false_and]
                repeat (go_big_quiet_step (fail))
                refine wpQuiet_nil ?_
                rintro _ ⟨⟨dq, osq⟩, rfl⟩
                have hBq := below_regrown W1 dq osq
                obtain ⟨W2, hW2⟩ : ∃ W2, grow (redrawn W1 dq) osq = W2 := ⟨_, rfl⟩
                simp only [hW2] at hBq ⊢
                clear hW2 hP m0 m1 m10 m11
                go_wp2_with fail
                go_ret
                exact ⟨by rw [HNOD.out, HF.out]; rfl, HB1.out.trans (hBq.mono HB1.out.size)⟩
            · have hdl1 : decide ((1000 : Int) < (x.data.length : Int)) = true := by simp; omega
              have hdl2 : decide (1000 < x.data.length) = true := by simp; omega
              have HF : Hid (right ⟨nodes, sits, ver, mems, lo, hi⟩ = false) := by
                rw [Hid, HR.out, HE2.out, ndGo_bad _ _ _ (ndOk_rest (fun h => hdl h.1)), Bool.false_and]
              repeat (go_big_quiet_step (fail))
              refine wpQuiet_nil ?_
              rintro _ ⟨⟨dq, osq⟩, rfl⟩
              have hBq := below_regrown W1 dq osq
              obtain ⟨W2, hW2⟩ : ∃ W2, grow (redrawn W1 dq) osq = W2 := ⟨_, rfl⟩
              simp only [hW2] at hBq ⊢
              clear hW2 hP m0 m1 m10 m11
              go_wp2_with fail
              go_ret
              exact ⟨by rw [HNOD.out, HF.out]; rfl, HB1.out.trans (hBq.mono HB1.out.size)⟩
          · obtain ⟨jj, hjj⟩ : ∃ jj, pre.length = jj + 1 := ⟨pre.length - 1, by omega⟩
            obtain ⟨y, hyj, hly⟩ : ∃ y, nodes[jj]? = some y ∧ lastPath pre = some y.path := by
              obtain ⟨y, hy⟩ := get_some pre jj (by omega)
              refine ⟨y, by rw [HE1.out, List.getElem?_append_left (by omega)]; exact hy, ?_⟩
              rw [lastPath, List.getLast?_eq_getElem?, hjj, Nat.add_sub_cancel, hy]; rfl
            have HLP := Lib.hid hly
            obtain ⟨b7, o7, d7, e7, hd7, hat7⟩ := ndAt (HN4.out.below HB1.out) hds hyj
            cases e7
            have mp : ∀ d os, (grow (redrawn W1 d) os).cell? ⟨b, off + jj * 12, none⟩ = some (.string y.path) := cell_regrown hat7.c0
            simp only [hjj, Int.natCast_add, Int.cast_ofNat_Int] at hpl ⊢
            have hjr : (jj : Int) < (rest.length : Int) + 1 := by clear hp0 hjj; omega
            have hjr2 : jj < rest.length + 1 := by clear hp0 hjj; omega
            have hw1 : IntKind.i64.wrap ((jj : Int) + 1 - 1) = jj := by clear hp0 hjj; rw [IntKind.wrap_i64]; omega
            have hw2 : IntKind.i64.wrap (jj : Int) = jj := by clear hp0 hjj hw1; rw [IntKind.wrap_i64]; omega
            have hw3 : wrap64 (jj : Int) = jj := by clear hp0 hjj hw1 hw2; unfold wrap64; omega
            have hj0 : (0 : Int) ≤ (jj : Int) := by clear hp0 hjj hw1 hw2 hw3; omega
            have HJJ := Lib.hid hjj
            clear hat7 hd7 hyj hly hp0 hjj
            cases hless : lessB y.path.data.toList x.path.data.toList with
            | false =>
              have hle : (Op.bytesLess x.path.toList y.path.toList || x.path.toList == y.path.toList) = true := by
                rw [ByteArray.toList_eq, ByteArray.toList_eq, less_eq, less_total, hless]; rfl
              have HF : Hid (right ⟨nodes, sits, ver, mems, lo, hi⟩ = false) := by
                rw [Hid, HR.out, HE2.out, HLP.out, ndGo_ord hless, Bool.false_and]
              repeat (go_big_quiet_step (fail))
              refine wpQuiet_nil ?_
              rintro _ ⟨⟨dq, osq⟩, rfl⟩
              have hBq := below_regrown W1 dq osq
              obtain ⟨W2, hW2⟩ : ∃ W2, grow (redrawn W1 dq) osq = W2 := ⟨_, rfl⟩
              simp only [hW2] at hBq ⊢
              clear hW2 hP m0 m1 m10 m11 mp
              go_wp2_with fail
              go_ret
              exact ⟨by rw [HNOD.out, HF.out]; rfl, HB1.out.trans (hBq.mono HB1.out.size)⟩
            | true =>
              have hle : (Op.bytesLess x.path.toList y.path.toList || x.path.toList == y.path.toList) = false := by
                rw [ByteArray.toList_eq, ByteArray.toList_eq, less_eq, less_total, hless]; rfl
              by_cases hdl : x.data.length ≤ 1000
              · have hdl1 : decide ((1000 : Int) < (x.data.length : Int)) = false := by simp; omega
                have hdl2 : decide (1000 < x.data.length) = false := by simp; omega
                by_cases hln : 0 ≤ x.length
                · have hln1 : decide (x.length < 0) = false := by simp; omega
                  by_cases hch : 0 ≤ x.children
                  · have hch1 : decide (x.children < 0) = false := by simp; omega
                    repeat (go_big_quiet_step (fail))
                    refine wpQuiet_nil ?_
                    rintro _ ⟨⟨dq, osq⟩, rfl⟩
                    have hBq := below_regrown W1 dq osq
                    obtain ⟨W2, hW2⟩ : ∃ W2, grow (redrawn W1 dq) osq = W2 := ⟨_, rfl⟩
                    simp only [hW2] at hBq ⊢
                    clear hW2 hP m0 m1 m10 m11 mp
                    have hback : ((jj : Int) + 1) = (pre.length : Int) := by rw [HJJ.out]; rfl
                    simp only [hback] at hpl ⊢
                    clear hback hjr hjr2 hw1 hw2 hw3 hj0
                    have hb2 := (hBq.block bm (by rw [← hbm, ← HW1.out]; simp)).trans (hbm ▸ HBK.out)
                    have k2 : W2.cell? ⟨bm, 2, none⟩ = some (.int .i64 x.czxid) := by rw [Lib.cell_of_heap hb2]; rfl
                    have k3 : W2.cell? ⟨bm, 3, none⟩ = some (.int .i64 x.mzxid) := by rw [Lib.cell_of_heap hb2]; rfl
                    have k4 : W2.cell? ⟨bm, 4, none⟩ = some (.int .i64 x.pzxid) := by rw [Lib.cell_of_heap hb2]; rfl
                    have k5 : W2.cell? ⟨bm, 5, none⟩ = some (.int .i64 x.ctime) := by rw [Lib.cell_of_heap hb2]; rfl
                    have k6 : W2.cell? ⟨bm, 6, none⟩ = some (.int .i64 x.mtime) := by rw [Lib.cell_of_heap hb2]; rfl
                    have k7 : W2.cell? ⟨bm, 7, none⟩ = some (.int .i64 x.version) := by rw [Lib.cell_of_heap hb2]; rfl
                    have k8 : W2.cell? ⟨bm, 8, none⟩ = some (.int .i64 x.cversion) := by rw [Lib.cell_of_heap hb2]; rfl
                    have k9 : W2.cell? ⟨bm, 9, none⟩ = some (.int .i64 x.owner) := by rw [Lib.cell_of_heap hb2]; rfl
                    have k10 : W2.cell? ⟨bm, 10, none⟩ = some (.int .i64 x.length) := by rw [Lib.cell_of_heap hb2]; rfl
                    have k11 : W2.cell? ⟨bm, 11, none⟩ = some (.int .i64 x.children) := by rw [Lib.cell_of_heap hb2]; rfl
                    go_wp2_with fail
                    refine (Tryd.stat_calls x W2).mono ?_
                    rintro e W3 ⟨rfl, hW3⟩
                    have HB3 := Lib.hid (HB1.out.trans ((hBq.mono HB1.out.size).trans (hW3.mono (Nat.le_trans HB1.out.size hBq.size))))
                    clear hW3 k2 k3 k4 k5 k6 k7 k8 k9 k10 k11 hb2 hdl1 hdl2 hln1 hch1
                    go_wp2_with fail
                    go_loopw [99] (fun i wq => ∃ (j : Nat), i = .int .i64 j ∧ j ≤ 8 ∧ Hid ((x.stat8.take j).all (fun y => decide (0 ≤ y)) = true) ∧ Hid (RowKit.Below w.heap.size w wq)) (fun i _ => 9 - (intOf i).toNat)
                    case atStart => exact ⟨0, rfl, by omega, rfl, HB3.out⟩
                    case round =>
                      obtain ⟨j, rfl, hj, HA, HB4⟩ := hrel
                      by_cases hj8 : j = 8
                      · subst hj8
                        go_wp2_with fail
                        have hOK := ndOk_of HPO.out hdl hln hch HA.out
                        refine ⟨⟨pre ++ [x], suf, by simp, ?_, ?_, HB4.out⟩, by simp [intOf]; omega⟩
                        · rw [HE1.out]; simp
                        · rw [HE2.out, HLP.out, ndGo_ok hOK hless]; simp [lastPath]
                      · have hj' : (j : Int) < 8 := by omega
                        obtain ⟨y, hy, hix⟩ := index8 j x (by omega)
                        by_cases hy0 : y < 0
                        · have HF : Hid (right ⟨nodes, sits, ver, mems, lo, hi⟩ = false) := by
                            rw [Hid, HR.out, HE2.out, ndGo_bad _ _ _ (ndOk_rest (fun h => by have := List.all_eq_true.1 h.2.2.2 y (List.mem_of_getElem? hy); simp at this; omega)), Bool.false_and]
                          go_wp2_with fail
                          go_ret
                          exact ⟨by rw [HNOD.out, HF.out]; rfl, HB4.out⟩
                        · have hy1 : 0 ≤ y := by omega
                          have HY := Lib.hid hy
                          clear hy
                          go_wp2_with fail
                          go_roundw
                          case rel => exact ⟨j + 1, by go_num, by omega, by rw [Hid, take_snoc HY.out, List.all_append, HA.out]; simp [hy1], HB4.out⟩
                          case measure => simp [intOf]; omega
                  · have hch1 : decide (x.children < 0) = true := by simp; omega
                    have HF : Hid (right ⟨nodes, sits, ver, mems, lo, hi⟩ = false) := by
                      rw [Hid, HR.out, HE2.out, ndGo_bad _ _ _ (ndOk_rest (fun h => hch h.2.2.1)), Bool.false_and]
                    repeat (go_big_quiet_step (fail))
                    refine wpQuiet_nil ?_
                    rintro _ ⟨⟨dq, osq⟩, rfl⟩
                    have hBq := below_regrown W1 dq osq
                    obtain ⟨W2, hW2⟩ : ∃ W2, grow (redrawn W1 dq) osq = W2 := ⟨_, rfl⟩
                    simp only [hW2] at hBq ⊢
                    clear hW2 hP m0 m1 m10 m11 mp
                    go_wp2_with fail
                    go_ret
                    exact ⟨by rw [HNOD.out, HF.out]; rfl, HB1.out.trans (hBq.mono HB1.out.size)⟩
                · have hln1 : decide (x.length < 0) = true := by simp; omega
                  have HF : Hid (right ⟨nodes, sits, ver, mems, lo, hi⟩ = false) := by
                    rw [Hid, HR.out, HE2.out, ndGo_bad _ _ _ (ndOk_rest (fun h => hln h.2.1)), Bool.false_and]
                  repeat (go_big_quiet_step (fail))
                  refine wpQuiet_nil ?_
                  rintro _ ⟨⟨dq, osq⟩, rfl⟩
                  have hBq := below_regrown W1 dq osq
                  obtain ⟨W2, hW2⟩ : ∃ W2, grow (redrawn W1 dq) osq = W2 := ⟨_, rfl⟩
                  simp only [hW2] at hBq ⊢
                  clear hW2 hP m0 m1 m10 m11 mp
                  go_wp2_with fail
                  go_ret
                  exact ⟨by rw [HNOD.out, HF.out]; rfl, HB1.out.trans (hBq.mono HB1.out.size)⟩
              · have hdl1 : decide ((1000 : Int) < (x.data.length : Int)) = true := by simp; omega
                have hdl2 : decide (1000 < x.data.length) = true := by simp; omega
                have HF : Hid (right ⟨nodes, sits, ver, mems, lo, hi⟩ = false) := by
                  rw [Hid, HR.out, HE2.out, ndGo_bad _ _ _ (ndOk_rest (fun h => hdl h.1)), Bool.false_and]
                repeat (go_big_quiet_step (fail))
                refine wpQuiet_nil ?_
                rintro _ ⟨⟨dq, osq⟩, rfl⟩
                have hBq := below_regrown W1 dq osq
                obtain ⟨W2, hW2⟩ : ∃ W2, grow (redrawn W1 dq) osq = W2 := ⟨_, rfl⟩
                simp only [hW2] at hBq ⊢
                clear hW2 hP m0 m1 m10 m11 mp
                go_wp2_with fail
                go_ret
                exact ⟨by rw [HNOD.out, HF.out]; rfl, HB1.out.trans (hBq.mono HB1.out.size)⟩
end Go.Proofs
