/- Walks: package image: Put. -/
import Derived.Test.YtkcpfchfpnmkpaaDoorPut1
namespace Go.Proofs
open Go Go.RowKit Go.Sort Go.Proofs.YtkcpfchfpnmkpaaDoor

set_option maxRecDepth 100000 in
set_option maxHeartbeats 6400000 in
theorem Tryd.put_calls (x : Im) (nv sv mv : Value) (w : World) (hn : Nds w nv x.nodes) (hs : Sgs w sv x.sits) (hm : Ms w mv x.mems) (hi : ImIn x) :
    Calls Tryd.prog 18 #[nv, sv, .agg #[.int .i64 x.ver, mv], .int .i64 x.lo, .int .i64 x.hi] w (PutP w x) := by
  have hB0 : Below w.heap.size w (w.alloc (.cells #[.int .i64 x.ver, mv] 27)) := (Below.refl _ _).alloc (Nat.le_refl _) _
  have HN0 := Lib.hid hn
  have HM0 := Lib.hid hm
  have HNW := Lib.hid (hn.below hB0)
  have HSW := Lib.hid (hs.below hB0)
  have HMW := Lib.hid (hm.below hB0)
  have HB0 := Lib.hid hB0
  have HI := Lib.hid hi
  obtain ⟨ds, hds, ⟨an, cn, rfl, n1, n2, n3, n4⟩, hdd⟩ := hn
  obtain ⟨as', cs', rfl, s1, s2, s3, s4⟩ := hs
  obtain ⟨am, cm, rfl, m1, m2, m3, m4⟩ := hm
  have HN4 := Lib.hid n4
  have HS4 := Lib.hid s4
  have HDD := Lib.hid hdd
  have HDS := Lib.hid hds
  unfold maxLen at n2 s2 m2
  clear n4 s4 m4 hdd hds hB0 hi
  go_enter Tryd.func18, Tryd.ntmps18
  go_wp2_with fail
  refine (Tryd.right_calls x _ _ _ _ HNW.out HSW.out HMW.out).mono ?_
  rintro e W ⟨rfl, hW⟩
  have hb0 : W.cell? ⟨w.heap.size, 0, none⟩ = some (.int .i64 x.ver) := (hW.cell (p := ⟨w.heap.size, 0, none⟩) (by simp)).trans (by go_simp)
  have hb1 : W.cell? ⟨w.heap.size, 1, none⟩ = some (.slice am x.mems.length cm) := (hW.cell (p := ⟨w.heap.size, 1, none⟩) (by simp)).trans (by go_simp)
  have hsz : w.heap.size < W.heap.size := by have := hW.size; simp at this; omega
  have HW := Lib.hid (HB0.out.trans (hW.mono (by simp)))
  obtain ⟨q, hq⟩ : ∃ q, right x = q := ⟨_, rfl⟩
  rw [hq]
  have HQ := Lib.hid hq
  clear hW hq
  cases q with
  | false =>
    have HF : Hid (PutP w x (.returned (.tuple #[.slice none 0 0, .int .i64 4])) W) := by
      have : putS x = ([], 4) := by unfold putS; rw [HQ.out]; rfl
      exact ⟨_, by rw [this], by rw [this]; exact Own.nil _ _, HW.out⟩
    clear hb0 hb1
    go_wp2_with fail
    go_ret2
    exact HF.out
  | true =>
    have HBIG := Lib.hid (imBytes_len HI.out HQ.out)
    have HRP := Lib.hid (right_parts HQ.out)
    have hnl : x.nodes.length ≤ 500 := HRP.out.len
    have hsl : x.sits.length ≤ 200 := HRP.out.sits
    have HIE := Lib.hid (imBytes_eq x)
    go_wp2_with fail
    refine (Tryd.newWriter_calls W).mono ?_
    rintro e w1 ⟨rfl, hw1, hwb1⟩
    have HW1 := Lib.hid hw1
    have HB1 := Lib.hid hwb1
    clear hw1 hwb1
    go_wp2_with fail
    refine (Tryd.wByte_calls W.heap.size W.heap.size [] 1 1 rfl w1 HW1.out HB1.out.size (by simp)).mono ?_
    rintro e w2 ⟨rfl, hw2, hwb2⟩
    have HW2 := Lib.hid hw2
    have HB2 := Lib.hid (HB1.out.trans hwb2)
    clear hw2 hwb2 HW1 HB1
    go_wp2_with fail
    refine (Tryd.wInt_calls W.heap.size W.heap.size ([] ++ [1]) x.nodes.length (by omega) w2 HW2.out HB2.out.size (by simp)).mono ?_
    rintro e w3 ⟨rfl, hw3, hwb3⟩
    have HP3 : Hid (PutN W x [] x.nodes [] w3) := ⟨rfl, [1] ++ encI x.nodes.length, by rw [HIE.out]; simp, by simp, hw3, HB2.out.trans hwb3⟩
    have HC0 := Lib.hid hb0
    have HC1 := Lib.hid hb1
    clear hw3 hwb3 HW2 HB2 HIE hb0 hb1 HNW HSW
    go_wp2_with fail
    go_loopw [37] (fun i wr => ∃ (pre suf : List Nd), i = .int .i64 pre.length ∧ Hid (PutN W x pre suf [] wr)) (fun i _ => 501 - (intOf i).toNat)
    case atStart => exact ⟨[], x.nodes, rfl, HP3⟩
    case round =>
      obtain ⟨pre, suf, rfl, HR⟩ := hrel
      obtain ⟨e1, acc, e2, e3, e4, e5⟩ := HR.out
      have HE5 := Lib.hid e5
      have HWE5 := Lib.hid (HW.out.trans (e5.mono (Nat.le_of_lt hsz)))
      have hsz5 := e5.size
      cases suf with
      | nil =>
        have hpl : (pre.length : Int) = x.nodes.length := by rw [e1]; simp
        have hpl2 : pre.length = x.nodes.length := by omega
        have hal : acc.length ≤ 700000 := by have := pre_len e2 HBIG.out; unfold bigIm at this; omega
        have HE2 : Hid (acc ++ tailNd x = imBytes x) := by show _ = _; simpa using e2
        have HE3 := Lib.hid e3
        have HE4 := Lib.hid e4
        clear e1 e2 e3 e4 e5 HR HP3 HN4 HDD HDS HN0
        go_wp2_with fail
        refine (Tryd.wInt_calls W.heap.size W.heap.size acc x.sits.length (by omega) _ HE4.out hsz5 (by omega)).mono ?_
        rintro e W7 ⟨rfl, h1, h2⟩
        have HG7 : Hid (PutG W x [] x.sits W7) := ⟨rfl, acc ++ encI x.sits.length, by rw [← HE2.out]; simp [tailNd], by simp [HE3.out], h1, HE5.out.trans h2⟩
        clear h1 h2 HE2 HE3 HE4 HE5 HWE5 hpl hpl2
        go_wp2_with fail
        go_loopw [66] (fun i wr => ∃ (pre suf : List Sg), i = .int .i64 pre.length ∧ Hid (PutG W x pre suf wr)) (fun i _ => 201 - (intOf i).toNat)
        case atStart => exact ⟨[], x.sits, rfl, HG7⟩
        case round =>
          obtain ⟨pre2, suf2, rfl, HR⟩ := hrel
          obtain ⟨e1, acc2, e2, e3, e4, e5⟩ := HR.out
          have HE5 := Lib.hid e5
          have HWE5 := Lib.hid (HW.out.trans (e5.mono (Nat.le_of_lt hsz)))
          have hsz8 := e5.size
          have hal2 : acc2.length ≤ 700000 := by have := pre_len e2 HBIG.out; unfold bigIm at this; omega
          cases suf2 with
          | nil =>
            have hpl : (pre2.length : Int) = x.sits.length := by rw [e1]; simp
            have hpl2 : pre2.length = x.sits.length := by omega
            have HE2 : Hid (acc2 ++ tailSg x = imBytes x) := by show _ = _; simpa using e2
            have HE3 := Lib.hid e3
            have HE4 := Lib.hid e4
            have hc0 := (e5.cell (p := ⟨w.heap.size, 0, none⟩) hsz).trans HC0.out
            have hc1 := (e5.cell (p := ⟨w.heap.size, 1, none⟩) hsz).trans HC1.out
            have HROW := Lib.hid (row_lt e4)
            have hlt8 := e4.lt
            clear e1 e2 e3 e4 e5 HR HG7 HS4
            go_wp2_with fail
            refine (Tryd.ensPut_calls x.ver (.slice am x.mems.length cm) x.mems _ (HM0.out.below HWE5.out) HRP.out.cfg).mono ?_
            rintro e W9 ⟨vc, rfl, hvc, hb9⟩
            have HP9 := Lib.hid (HE4.out.old hb9)
            have HB9 := Lib.hid (HE5.out.trans (hb9.mono hsz8))
            have hsz9 := HB9.out.size
            have HVC := Lib.hid hvc.1
            have HMAY : Hid (∀ k, vc.ownBlock = some k → k ≠ W.heap.size ∧ ∀ g, Row W9 W.heap.size g → k ≠ g) := by
              intro k hk
              have h1 := hvc.2 k hk
              refine ⟨by omega, fun g hg => ?_⟩
              obtain ⟨l0, cap0, hg⟩ := hg
              have := HROW.out g ⟨l0, cap0, by rw [← hg]; exact (hb9.cell (p := ⟨W.heap.size, 0, none⟩) hlt8.2).symm⟩
              omega
            obtain ⟨av, cv, rfl, -⟩ := hvc.1
            have hcl := ensBytes_len HRP.out.cfg
            clear hvc hb9 hc0 hc1 HROW hlt8
            go_wp2_with fail
            refine (Tryd.wBytesK_calls W.heap.size W.heap.size acc2 _ (ensBytes x.ver x.mems) W9 HP9.out HE3.out HVC.out (.inr HMAY.out) hsz9 (by omega) (by omega)).mono ?_
            rintro e W10 ⟨rfl, h1, h2, -⟩
            have HP10 := Lib.hid h1
            have HB10 := Lib.hid (HB9.out.trans h2)
            have hsz10 := HB10.out.size
            have hlo := HI.out.2.2.1
            have hlo2 : -9223372036854775808 ≤ x.lo ∧ x.lo ≤ 9223372036854775807 := hlo
            have hhi2 : -9223372036854775808 ≤ x.hi ∧ x.hi ≤ 9223372036854775807 := HI.out.2.2.2
            have HEQ : Hid (((acc2 ++ encB (ensBytes x.ver x.mems)) ++ encI x.lo) ++ encI x.hi = imBytes x) := by
              show _ = _
              rw [← HE2.out]; simp [tailSg]
            have hl10 : (acc2 ++ encB (ensBytes x.ver x.mems)).length + (encI x.lo).length ≤ 700000 := by
              have := HBIG.out
              rw [← HEQ.out] at this
              unfold bigIm at this
              simp only [List.length_append] at this ⊢
              omega
            have HL11 : Hid ((acc2 ++ encB (ensBytes x.ver x.mems) ++ encI x.lo).length + 10 ≤ 140737488355328) := by
              simp only [Hid, List.length_append] at hl10 ⊢
              omega
            have HL10 : Hid ((acc2 ++ encB (ensBytes x.ver x.mems)).length + 10 ≤ 140737488355328) := by
              show _ ≤ _; omega
            clear h1 h2 HP9 HB9 hlo hl10 HVC HMAY
            go_wp2_with fail
            refine (Tryd.wInt_calls W.heap.size W.heap.size _ x.lo hlo2 W10 HP10.out hsz10 HL10.out).mono ?_
            rintro e W11 ⟨rfl, h1, h2⟩
            have HP11 := Lib.hid h1
            have HB11 := Lib.hid (HB10.out.trans h2)
            have hsz11 := HB11.out.size
            clear h1 h2 HP10 HB10
            go_wp2_with fail
            refine (Tryd.wInt_calls W.heap.size W.heap.size _ x.hi hhi2 W11 HP11.out hsz11 HL11.out).mono ?_
            rintro e W12 ⟨rfl, h1, h2⟩
            rw [HEQ.out] at h1
            have HP12 := Lib.hid h1
            have HB12 := Lib.hid (HW.out.trans ((HB11.out.trans h2).mono (Nat.le_of_lt hsz)))
            have HNE : Hid (imBytes x ≠ []) := by show _ ≠ _; rw [imBytes_eq]; simp
            have HL12 : Hid ((imBytes x).length ≤ 140737488355328) := by have := HBIG.out; unfold bigIm at this; show _ ≤ _; omega
            clear h1 h2 HP11 HB11
            go_wp2_with fail
            refine (Tryd.wDone_calls W.heap.size W.heap.size (imBytes x) W12 HP12.out HNE.out HL12.out).mono ?_
            rintro e W13 ⟨v13, rfl, hn13, hb13⟩
            have HN13 := Lib.hid hn13.1
            have HB13 := Lib.hid (HB12.out.trans (hb13.mono HB12.out.size))
            have hsz13 := HB13.out.size
            obtain ⟨a13, c13, rfl, -⟩ := hn13.1
            clear hn13 hb13 HP12 HB12
            go_wp2_with fail
            refine (Tryd.frame_calls _ (imBytes x) W13 HN13.out HL12.out).mono ?_
            rintro e W14 ⟨hb14, hf⟩
            have HB14 := Lib.hid (HB13.out.trans (hb14.mono hsz13))
            have hput : putS x = (match frame (imBytes x) with | some b => (b, 0) | none => ([], 3)) := by unfold putS; rw [HQ.out]; rfl
            rcases hf with ⟨hf, rfl⟩ | ⟨out, v14, hf, rfl, ho⟩
            · have HF : Hid (PutP w x (.returned (.tuple #[.slice none 0 0, .int .i64 3])) W14) := by
                rw [hf] at hput
                exact ⟨_, by rw [hput], by rw [hput]; exact Own.nil _ _, HB14.out⟩
              clear hb14 hput hf
              go_wp2_with fail
              go_ret2
              exact HF.out
            · have HF : Hid (PutP w x (.returned (.tuple #[v14, .int .i64 0])) W14) := by
                rw [hf] at hput
                exact ⟨v14, by rw [hput], by rw [hput]; exact own_base ho hsz13, HB14.out⟩
              obtain ⟨a14, c14, rfl, -⟩ := ho.bs
              clear hb14 hput hf ho
              go_wp2_with fail
              go_ret2
              exact HF.out
          | cons s suf2 =>
            have hk : x.sits[pre2.length]? = some s := by rw [e1]; simp
            have hkl := lt_of_get hk
            have hkl' : (pre2.length : Int) < (x.sits.length : Int) := by omega
            obtain ⟨bs, os, rfl, c0, c1, c2⟩ := sgAt (a := as') (HS4.out.below HWE5.out) hk
            obtain ⟨i1, i2, i3⟩ := HI.out.2.1 s (by rw [e1]; simp)
            have i1' : -9223372036854775808 ≤ s.session ∧ s.session ≤ 9223372036854775807 := i1
            have i2' : -9223372036854775808 ≤ s.timeout ∧ s.timeout ≤ 9223372036854775807 := i2
            have i3' : -9223372036854775808 ≤ s.turn ∧ s.turn ≤ 9223372036854775807 := i3
            have hl1 := encI_len i1
            have hl2 := encI_len i2
            have HE1 := Lib.hid e1
            have HE2 := Lib.hid e2
            have HE3 := Lib.hid e3
            have HE4 := Lib.hid e4
            have HL1 : Hid ((acc2 ++ encI s.session).length + 10 ≤ 140737488355328) := by simp only [Hid, List.length_append]; omega
            have HL2 : Hid ((acc2 ++ encI s.session ++ encI s.timeout).length + 10 ≤ 140737488355328) := by simp only [Hid, List.length_append]; omega
            clear hk e1 e2 e3 e4 e5 HR HG7 i1 i2 i3
            obtain ⟨W1, hW1⟩ : ∃ W1, World.alloc wr (.cells #[.int .i64 s.session, .int .i64 s.timeout, .int .i64 s.turn] 51) = W1 := ⟨_, rfl⟩
            have HW1 := Lib.hid hW1
            have hblk := heap_alloc_new wr (.cells #[.int .i64 s.session, .int .i64 s.timeout, .int .i64 s.turn] 51)
            rw [hW1] at hblk
            have HP1 := Lib.hid (HE4.out.old ((Below.refl _ _).alloc (Nat.le_refl _) (.cells #[.int .i64 s.session, .int .i64 s.timeout, .int .i64 s.turn] 51)))
            have HB1 := Lib.hid (HE5.out.alloc hsz8 (.cells #[.int .i64 s.session, .int .i64 s.timeout, .int .i64 s.turn] 51))
            rw [hW1] at HP1 HB1
            have hsz1 := HB1.out.size
            clear hW1
            go_wp2_with fail
            rw [HW1.out]
            have hbm2 := HE4.out.lt
            have HBK := Lib.hid hblk
            clear hblk c0 c1 c2 HW1
            refine (Tryd.wIntK_calls W.heap.size W.heap.size acc2 s.session i1' W1 HP1.out hsz1 (by omega)).mono ?_
            rintro e W2 ⟨rfl, h1, h2, h3⟩
            have hbk2 := ok8_keep h3 HBK.out (by omega) (by decide)
            have m1 : W2.cell? ⟨wr.heap.size, 1, none⟩ = some (.int .i64 s.timeout) := by rw [Lib.cell_of_heap hbk2]; rfl
            have HBK2 := Lib.hid hbk2
            have HP2 := Lib.hid h1
            have HB2 := Lib.hid (HB1.out.trans h2)
            have hsz2 := HB2.out.size
            clear h1 h2 h3 hbk2 HBK HP1 HB1
            go_wp2_with fail
            refine (Tryd.wIntK_calls W.heap.size W.heap.size _ s.timeout i2' W2 HP2.out hsz2 HL1.out).mono ?_
            rintro e W3 ⟨rfl, h1, h2, h3⟩
            have hbk3 := ok8_keep h3 HBK2.out (by omega) (by decide)
            have m2 : W3.cell? ⟨wr.heap.size, 2, none⟩ = some (.int .i64 s.turn) := by rw [Lib.cell_of_heap hbk3]; rfl
            have HP3 := Lib.hid h1
            have HB3 := Lib.hid (HB2.out.trans h2)
            have hsz3 := HB3.out.size
            clear h1 h2 h3 hbk3 HBK2 HP2 HB2 m1
            go_wp2_with fail
            refine (Tryd.wInt_calls W.heap.size W.heap.size _ s.turn i3' W3 HP3.out hsz3 HL2.out).mono ?_
            rintro e W4 ⟨rfl, h1, h2⟩
            have HN : Hid (PutG W x (pre2 ++ [s]) suf2 W4) := ⟨by rw [HE1.out]; simp, acc2 ++ encI s.session ++ encI s.timeout ++ encI s.turn, by rw [← HE2.out]; simp [sgBytes], by simp [HE3.out], h1, HB3.out.trans h2⟩
            clear h1 h2 HP3 HB3 m2 HE1 HE2 HE3 HE4 HE5
            go_wp2_with fail
            go_roundw
            case rel => exact ⟨pre2 ++ [s], suf2, by simp, HN⟩
            case measure => simp [intOf]; omega
      | cons n suf =>
        have hk : x.nodes[pre.length]? = some n := by rw [e1]; simp
        have hkl := lt_of_get hk
        have hkl' : (pre.length : Int) < (x.nodes.length : Int) := by omega
        obtain ⟨b, off, d, rfl, hd, hat⟩ := ndAt (a := an) (HN4.out.below HWE5.out) HDS.out hk
        have hdw := HDD.out _ _ _ hk hd
        have HDB := Lib.hid hdw
        obtain ⟨ad, cd, rfl, -⟩ := hdw
        have g0 := hat.c0
        have g1 := hat.c1
        have g2 := hat.c2
        have g3 := hat.c3
        have g4 := hat.c4
        have g5 := hat.c5
        have g6 := hat.c6
        have g7 := hat.c7
        have g8 := hat.c8
        have g9 := hat.c9
        have g10 := hat.c10
        have g11 := hat.c11
        have HNI := Lib.hid (HI.out.1 n (by rw [e1]; simp))
        have HSZ := Lib.hid (ndOk_sz (HRP.out.nds n (by rw [e1]; simp)))
        have HE1 := Lib.hid e1
        have HE2 := Lib.hid e2
        have HE3 := Lib.hid e3
        have HE4 := Lib.hid e4
        have hps : n.path.size ≤ 200 := by have := HSZ.out.1; rw [Array.length_toList] at this; exact this
        have hdl : n.data.length ≤ 1000 := HSZ.out.2
        have hal : acc.length ≤ 700000 := by have := pre_len e2 HBIG.out; unfold bigIm at this; omega
        clear hat hk hd e1 e2 e3 e4 e5 HR HP3
        obtain ⟨W1, hW1⟩ : ∃ W1, wr.alloc (.cells #[.string n.path, .slice ad n.data.length cd, .int .i64 n.czxid, .int .i64 n.mzxid, .int .i64 n.pzxid, .int .i64 n.ctime, .int .i64 n.mtime, .int .i64 n.version, .int .i64 n.cversion, .int .i64 n.owner, .int .i64 n.length, .int .i64 n.children] 42) = W1 := ⟨_, rfl⟩
        have HW1 := Lib.hid hW1
        have hblk : W1.heap[wr.heap.size]? = some (.cells #[.string n.path, .slice ad n.data.length cd, .int .i64 n.czxid, .int .i64 n.mzxid, .int .i64 n.pzxid, .int .i64 n.ctime, .int .i64 n.mtime, .int .i64 n.version, .int .i64 n.cversion, .int .i64 n.owner, .int .i64 n.length, .int .i64 n.children] 42 (0, 0)) := by rw [← hW1]; exact heap_alloc_new wr _
        have HP1 : Hid (WrP W1 W.heap.size W.heap.size acc) := by rw [← hW1]; exact HE4.out.old ((Below.refl _ _).alloc (Nat.le_refl _) _)
        have HB1 : Hid (RowKit.Below W.heap.size W W1) := by rw [← hW1]; exact HE5.out.alloc hsz5 _
        have hsz1 := HB1.out.size
        clear hW1
        go_wp2_with fail
        rw [HW1.out]
        obtain ⟨bm, hbm⟩ : ∃ bm, wr.heap.size = bm := ⟨_, rfl⟩
        have hbm2 : W.heap.size < bm := by have := HE4.out.lt; omega
        rw [hbm] at hblk
        simp only [hbm]
        have HBK := Lib.hid hblk
        clear hblk g0 g1 g2 g3 g4 g5 g6 g7 g8 g9 g10 g11 HW1
        refine (Tryd.wTextK_calls W.heap.size W.heap.size acc n.path W1 HP1.out hsz1 (by omega)).mono ?_
        rintro e W2 ⟨rfl, h1, h2, h3⟩
        have hbk2 := ok8_keep h3 HBK.out (by omega) (by decide)
        have m1 : W2.cell? ⟨bm, 1, none⟩ = some (.slice ad n.data.length cd) := by rw [Lib.cell_of_heap hbk2]; rfl
        have HBK2 := Lib.hid hbk2
        have HP2 := Lib.hid h1
        have HB2 := Lib.hid (HB1.out.trans h2)
        have hsz2 := HB2.out.size
        clear h1 h2 h3 hbk2 HBK HP1 HB1
        go_wp2_with fail
        have HWE2 := Lib.hid (HW.out.trans (HB2.out.mono (Nat.le_of_lt hsz)))
        have HL2 : Hid ((acc ++ encB n.path.data.toList).length + 10 + n.data.length ≤ 140737488355328) := by
          have e : n.path.data.toList.length = n.path.size := by rw [Array.length_toList]; rfl
          have := encB_len_le n.path.data.toList (by omega)
          simp only [Hid, List.length_append]; omega
        refine (Tryd.wBytesK_calls W.heap.size W.heap.size (acc ++ encB n.path.data.toList) (.slice ad n.data.length cd) n.data W2 HP2.out (by simp [HE3.out]) (HDB.out.below HWE2.out) (may_write HDB.out (Nat.le_of_lt hsz) HP2.out) hsz2 HL2.out (by omega)).mono ?_
        rintro e W3 ⟨rfl, h1, h2, h3⟩
        have hb2 := ok8_keep h3 HBK2.out (by omega) (by decide)
        have k2 : W3.cell? ⟨bm, 2, none⟩ = some (.int .i64 n.czxid) := by rw [Lib.cell_of_heap hb2]; rfl
        have k3 : W3.cell? ⟨bm, 3, none⟩ = some (.int .i64 n.mzxid) := by rw [Lib.cell_of_heap hb2]; rfl
        have k4 : W3.cell? ⟨bm, 4, none⟩ = some (.int .i64 n.pzxid) := by rw [Lib.cell_of_heap hb2]; rfl
        have k5 : W3.cell? ⟨bm, 5, none⟩ = some (.int .i64 n.ctime) := by rw [Lib.cell_of_heap hb2]; rfl
        have k6 : W3.cell? ⟨bm, 6, none⟩ = some (.int .i64 n.mtime) := by rw [Lib.cell_of_heap hb2]; rfl
        have k7 : W3.cell? ⟨bm, 7, none⟩ = some (.int .i64 n.version) := by rw [Lib.cell_of_heap hb2]; rfl
        have k8 : W3.cell? ⟨bm, 8, none⟩ = some (.int .i64 n.cversion) := by rw [Lib.cell_of_heap hb2]; rfl
        have k9 : W3.cell? ⟨bm, 9, none⟩ = some (.int .i64 n.owner) := by rw [Lib.cell_of_heap hb2]; rfl
        have k10 : W3.cell? ⟨bm, 10, none⟩ = some (.int .i64 n.length) := by rw [Lib.cell_of_heap hb2]; rfl
        have k11 : W3.cell? ⟨bm, 11, none⟩ = some (.int .i64 n.children) := by rw [Lib.cell_of_heap hb2]; rfl
        have HP3 := Lib.hid h1
        have HB3 := Lib.hid (HB2.out.trans h2)
        have hsz3 := HB3.out.size
        clear h1 h2 h3 hb2 HBK2 HP2 HB2 m1 HL2
        go_wp2_with fail
        refine (Tryd.stat_calls n W3).mono ?_
        rintro e W4 ⟨rfl, hW4⟩
        have HP4 : Hid (PutN W x (pre ++ [n]) suf (n.stat8.drop 0) W4) :=
          ⟨by rw [HE1.out]; simp, _, by rw [← HE2.out]; simp [ndBytes], by simp [HE3.out], HP3.out.old hW4, HB3.out.trans (hW4.mono hsz3)⟩
        clear hW4 k2 k3 k4 k5 k6 k7 k8 k9 k10 k11 HP3 HB3 HE1 HE2 HE3 HE4 HE5 HWE5 HWE2
        go_wp2_with fail
        go_loopw [52] (fun i wr => ∃ (j : Nat), i = .int .i64 j ∧ j ≤ 8 ∧ Hid (PutN W x (pre ++ [n]) suf (n.stat8.drop j) wr)) (fun i _ => 9 - (intOf i).toNat)
        case atStart => exact ⟨0, rfl, by omega, HP4⟩
        case round =>
          obtain ⟨j, rfl, hj, HR⟩ := hrel
          clear HP4
          by_cases hj8 : j = 8
          · subst hj8
            have HR2 : Hid (PutN W x (pre ++ [n]) suf [] _) := HR
            clear HR
            go_wp2_with fail
            go_roundw
            case rel => exact ⟨pre ++ [n], suf, by simp, HR2⟩
            case measure => simp [intOf]; omega
          · have hj' : (j : Int) < 8 := by omega
            obtain ⟨y, hy, hix⟩ := index8 j n (by omega)
            have hyi : In64 y := HNI.out y (List.mem_of_getElem? hy)
            have hyr : -9223372036854775808 ≤ y ∧ y ≤ 9223372036854775807 := hyi
            obtain ⟨q1, acc2, q2, q3, q4, q5⟩ := HR.out
            rw [drop_get hy] at q2
            have hal2 : acc2.length ≤ 700000 := by have := pre_len q2 HBIG.out; unfold bigIm at this; omega
            have Q1 := Lib.hid q1
            have Q2 := Lib.hid q2
            have Q3 := Lib.hid q3
            have Q4 := Lib.hid q4
            have Q5 := Lib.hid q5
            have hsz6 := q5.size
            clear q1 q2 q3 q4 q5 HR hy hyi
            go_wp2_with fail
            refine (Tryd.wInt_calls W.heap.size W.heap.size acc2 y hyr _ Q4.out hsz6 (by omega)).mono ?_
            rintro e W6 ⟨rfl, h1, h2⟩
            have HN : Hid (PutN W x (pre ++ [n]) suf (n.stat8.drop (j + 1)) W6) := ⟨Q1.out, acc2 ++ encI y, by rw [← Q2.out]; simp, by simp [Q3.out], h1, Q5.out.trans h2⟩
            clear h1 h2 Q1 Q2 Q3 Q4 Q5
            go_wp2_with fail
            go_roundw
            case rel => exact ⟨j + 1, by go_num, by omega, HN⟩
            case measure => simp [intOf]; omega
end Go.Proofs
