/- Walks: the law ImageBack. -/
import Derived.Test.YtkcpfchfpnmkpaaDoorFin1
namespace Go.Proofs
open Go Go.RowKit Go.Sort Go.Proofs.YtkcpfchfpnmkpaaDoor

set_option maxRecDepth 100000 in
set_option maxHeartbeats 6400000 in
theorem Tryd.imageBack_calls (x : Im) (nv sv mv vb vm : Value) (b more : List UInt8) (pos : Int) (w : World) (hx : ImV w nv sv mv x) (hi : ImIn x) (hb : Bs w vb b) (hm : Bs w vm more) (hp : -9223372036854775808 ≤ pos ∧ pos ≤ 9223372036854775807) :
    Calls Tryd.prog 3 #[.agg (imA nv sv mv x), vb, .int .i64 pos, vm] w (SameP w true) := by
  obtain ⟨an, cn, as', cs', am, cm, rfl, rfl, rfl⟩ := hx.slices
  obtain ⟨ab, cb, rfl, -⟩ := id hb
  obtain ⟨ao, co, rfl, -⟩ := id hm
  simp only [imA]
  obtain ⟨W0, hW0⟩ : ∃ W0, w.alloc (.cells #[.slice an x.nodes.length cn, .slice as' x.sits.length cs', .int .i64 x.ver, .slice am x.mems.length cm, .int .i64 x.lo, .int .i64 x.hi] 29) = W0 := ⟨_, rfl⟩
  have hb0 : RowKit.Below w.heap.size w W0 := by rw [← hW0]; exact (Below.refl _ _).alloc (Nat.le_refl _) _
  have hz0 : W0.heap[w.heap.size]? = some (.cells #[.slice an x.nodes.length cn, .slice as' x.sits.length cs', .int .i64 x.ver, .slice am x.mems.length cm, .int .i64 x.lo, .int .i64 x.hi] 29 (0, 0)) := by rw [← hW0]; exact heap_alloc_new w _
  have HX := Lib.hid (hx.below hb0)
  have HI := Lib.hid hi
  have HB := Lib.hid (hb.below hb0)
  have HM := Lib.hid (hm.below hb0)
  have HB0 := Lib.hid hb0
  have HZ0 := Lib.hid hz0
  have hlt0 : w.heap.size < W0.heap.size := Lib.lt_of_heap hz0
  have HW0 := Lib.hid hW0
  clear hx hi hb hm hb0 hz0 hW0
  go_enter Tryd.func3, Tryd.ntmps3
  go_wp2_with fail
  rw [HW0.out]
  refine (Tryd.awake_calls W0).mono ?_
  rintro e w1 ⟨rfl, hb1⟩
  have hz1 := (hb1.block w.heap.size hlt0).trans HZ0.out
  have hs1 := hb1.size
  have HX1 := Lib.hid (HX.out.below hb1)
  have HB1 := Lib.hid (HB.out.below hb1)
  have HM1 := Lib.hid (HM.out.below hb1)
  have HF1 := Lib.hid (HB0.out.trans (hb1.mono HB0.out.size))
  have HZ1 := Lib.hid hz1
  have c0 : w1.cell? ⟨w.heap.size, 0, none⟩ = some (.slice an x.nodes.length cn) := by rw [Lib.cell_of_heap hz1]; rfl
  have c1 : w1.cell? ⟨w.heap.size, 1, none⟩ = some (.slice as' x.sits.length cs') := by rw [Lib.cell_of_heap hz1]; rfl
  have c2 : w1.cell? ⟨w.heap.size, 2, none⟩ = some (.int .i64 x.ver) := by rw [Lib.cell_of_heap hz1]; rfl
  have c3 : w1.cell? ⟨w.heap.size, 3, none⟩ = some (.slice am x.mems.length cm) := by rw [Lib.cell_of_heap hz1]; rfl
  have c4 : w1.cell? ⟨w.heap.size, 4, none⟩ = some (.int .i64 x.lo) := by rw [Lib.cell_of_heap hz1]; rfl
  have c5 : w1.cell? ⟨w.heap.size, 5, none⟩ = some (.int .i64 x.hi) := by rw [Lib.cell_of_heap hz1]; rfl
  clear hb1 hz1 HB0 HZ0 HX HB HM HW0
  go_wp2_with fail
  refine (Tryd.great_calls x _ _ _ w1 HX1.out).mono ?_
  rintro e w2 ⟨rfl, hb2⟩
  have hz2 := (hb2.block w.heap.size (by omega)).trans HZ1.out
  have hs2 := hb2.size
  have HX2 := Lib.hid (HX1.out.below hb2)
  have HB2 := Lib.hid (HB1.out.below hb2)
  have HM2 := Lib.hid (HM1.out.below hb2)
  have HF2 := Lib.hid (HF1.out.trans (hb2.mono HF1.out.size))
  have HZ2 := Lib.hid hz2
  obtain ⟨gr, hgr⟩ : ∃ q, (decide (700 < x.nodes.length) || (decide (700 < x.sits.length) || decide (700 < x.mems.length))) = q := ⟨_, rfl⟩
  rw [hgr]
  clear hb2 hz2 c0 c1 c2 c3 c4 c5 hgr HX1 HB1 HM1 HF1 HZ1
  cases gr with
  | true =>
    go_wp2_with fail
    go_ret
    exact ⟨rfl, HF2.out⟩
  | false =>
    by_cases hbl : b.length ≤ 60000
    · by_cases hml : more.length ≤ 1000
      · have hbl1 : decide ((60000 : Int) < (b.length : Int)) = false := by simp; omega
        have hbl2 : decide (60000 < b.length) = false := by simp; omega
        have hml1 : decide ((1000 : Int) < (more.length : Int)) = false := by simp; omega
        have hml2 : decide (1000 < more.length) = false := by simp; omega
        have d0 : w2.cell? ⟨w.heap.size, 0, none⟩ = some (.slice an x.nodes.length cn) := by rw [Lib.cell_of_heap HZ2.out]; rfl
        have d1 : w2.cell? ⟨w.heap.size, 1, none⟩ = some (.slice as' x.sits.length cs') := by rw [Lib.cell_of_heap HZ2.out]; rfl
        have d2 : w2.cell? ⟨w.heap.size, 2, none⟩ = some (.int .i64 x.ver) := by rw [Lib.cell_of_heap HZ2.out]; rfl
        have d3 : w2.cell? ⟨w.heap.size, 3, none⟩ = some (.slice am x.mems.length cm) := by rw [Lib.cell_of_heap HZ2.out]; rfl
        have d4 : w2.cell? ⟨w.heap.size, 4, none⟩ = some (.int .i64 x.lo) := by rw [Lib.cell_of_heap HZ2.out]; rfl
        have d5 : w2.cell? ⟨w.heap.size, 5, none⟩ = some (.int .i64 x.hi) := by rw [Lib.cell_of_heap HZ2.out]; rfl
        go_wp2_with fail
        clear hbl1 hbl2 hml1 hml2 d0 d1 d2 d3 d4 d5
        have hput := Tryd.putL_calls x (.slice an x.nodes.length cn) (.slice as' x.sits.length cs') (.slice am x.mems.length cm) w2 HX2.out HI.out
        simp only [imA] at hput
        refine hput.mono ?_
        clear hput
        rintro e w3 ⟨vc, rfl, ho3, hb3⟩
        obtain ⟨⟨c, ec⟩, hput⟩ : ∃ z, putS x = z := ⟨_, rfl⟩
        rw [hput] at ho3 ⊢
        simp only at ho3
        have hz3 := (hb3.block w.heap.size (by omega)).trans HZ2.out
        have hs3 := hb3.size
        have HX3 := Lib.hid (HX2.out.below hb3)
        have HB3 := Lib.hid (HB2.out.below hb3)
        have HM3 := Lib.hid (HM2.out.below hb3)
        have HF3 := Lib.hid (HF2.out.trans (hb3.mono HF2.out.size))
        have HZ3 := Lib.hid hz3
        have HC3 := Lib.hid ho3.bs
        have HPUT := Lib.hid hput
        obtain ⟨ac, cc, rfl, -⟩ := ho3.bs
        clear hb3 hz3 ho3 hput HX2 HB2 HM2 HF2 HZ2
        by_cases hec : ec = 0
        case' neg =>
          have hec1 : (ec == 0) = false := by simpa using hec
          have hec2 : (ec != 0) = true := by simpa using hec
          have HFT := HF3
          have HBT := HB3
          go_wp2_with fail
          clear HX3 HM3 HZ3 HC3 hec1 hec2
        case' pos =>
          subst hec
          have HRF := Lib.hid (putS_ok HPUT.out)
          have HRP := Lib.hid (right_parts HRF.out.1)
          have hcl := put_len HPUT.out
          have HGC : Hid (gotS c = (normIm x, 0)) := by show _ = _; rw [gotS, put_get HI.out HPUT.out]
          have hnl : x.nodes.length ≤ 500 := HRP.out.len
          have HND : Hid (∀ n ∈ x.nodes, n.data.length ≤ 140737488355328) := fun n hn => by have := (ndOk_sz (HRP.out.nds n hn)).2; omega
          go_wp2_with fail
          refine (Tryd.got_calls _ c w3 HC3.out (by omega)).mono ?_
          rw [HGC.out]
          rintro e w4 ⟨p1, q1, p2, q2, p3, q3, rfl, ho4, hb4⟩
          have hz4 := (hb4.block w.heap.size (by omega)).trans HZ3.out
          have hs4 := hb4.size
          obtain ⟨W5, hW5⟩ : ∃ W5, w4.alloc (.cells #[.slice p1 (normIm x).nodes.length q1, .slice p2 (normIm x).sits.length q2, .int .i64 (normIm x).ver, .slice p3 (normIm x).mems.length q3, .int .i64 (normIm x).lo, .int .i64 (normIm x).hi] 29) = W5 := ⟨_, rfl⟩
          have hb5 : RowKit.Below w4.heap.size w4 W5 := by rw [← hW5]; exact (Below.refl _ _).alloc (Nat.le_refl _) _
          have hy5 : W5.heap[w4.heap.size]? = some (.cells #[.slice p1 (normIm x).nodes.length q1, .slice p2 (normIm x).sits.length q2, .int .i64 (normIm x).ver, .slice p3 (normIm x).mems.length q3, .int .i64 (normIm x).lo, .int .i64 (normIm x).hi] 29 (0, 0)) := by rw [← hW5]; exact heap_alloc_new w4 _
          have hs5 : W5.heap.size = w4.heap.size + 1 := by rw [← hW5]; simp
          have hz5 := (hb5.block w.heap.size (by omega)).trans hz4
          have HY5 := Lib.hid (ho4.v.below hb5)
          have HX5 := Lib.hid ((HX3.out.below hb4).below hb5)
          have HB5 := Lib.hid ((HB3.out.below hb4).below hb5)
          have HM5 := Lib.hid ((HM3.out.below hb4).below hb5)
          have HC5 := Lib.hid ((HC3.out.below hb4).below hb5)
          have HF5 := Lib.hid ((HF3.out.trans (hb4.mono HF3.out.size)).trans (hb5.mono (by have := HF3.out.size; omega)))
          have HZ5 := Lib.hid hz5
          have HYB5 := Lib.hid hy5
          have d0 : W5.cell? ⟨w.heap.size, 0, none⟩ = some (.slice an x.nodes.length cn) := by rw [Lib.cell_of_heap hz5]; rfl
          have d1 : W5.cell? ⟨w.heap.size, 1, none⟩ = some (.slice as' x.sits.length cs') := by rw [Lib.cell_of_heap hz5]; rfl
          have d2 : W5.cell? ⟨w.heap.size, 2, none⟩ = some (.int .i64 x.ver) := by rw [Lib.cell_of_heap hz5]; rfl
          have d3 : W5.cell? ⟨w.heap.size, 3, none⟩ = some (.slice am x.mems.length cm) := by rw [Lib.cell_of_heap hz5]; rfl
          have d4 : W5.cell? ⟨w.heap.size, 4, none⟩ = some (.int .i64 x.lo) := by rw [Lib.cell_of_heap hz5]; rfl
          have d5 : W5.cell? ⟨w.heap.size, 5, none⟩ = some (.int .i64 x.hi) := by rw [Lib.cell_of_heap hz5]; rfl
          obtain ⟨W6, hW6⟩ : ∃ W6, W5.alloc (.cells #[.slice an x.nodes.length cn, .slice as' x.sits.length cs', .int .i64 x.ver, .slice am x.mems.length cm, .int .i64 x.lo, .int .i64 x.hi] 29) = W6 := ⟨_, rfl⟩
          have hb6 : RowKit.Below W5.heap.size W5 W6 := by rw [← hW6]; exact (Below.refl _ _).alloc (Nat.le_refl _) _
          have hw6 : W6.heap[W5.heap.size]? = some (.cells #[.slice an x.nodes.length cn, .slice as' x.sits.length cs', .int .i64 x.ver, .slice am x.mems.length cm, .int .i64 x.lo, .int .i64 x.hi] 29 (0, 0)) := by rw [← hW6]; exact heap_alloc_new W5 _
          have hz6 := (hb6.block w.heap.size (by omega)).trans hz5
          have f0 : W6.cell? ⟨w.heap.size, 0, none⟩ = some (.slice an x.nodes.length cn) := by rw [Lib.cell_of_heap hz6]; rfl
          have hs6 : W6.heap.size = W5.heap.size + 1 := by rw [← hW6]; simp
          have HX6 := Lib.hid (HX5.out.nd.below hb6)
          have HB6 := Lib.hid hb6
          have HWB6 := Lib.hid hw6
          have HS6 := Lib.hid hs6
          have HS5 := Lib.hid hs5
          clear hb4 hz4 ho4 hb5 hy5 hz5 hb6 hw6 hz6 hs5 hs6 HX3 HB3 HM3 HC3 HF3 HZ3
          go_wp2_with fail
          clear d0 d1 d2 d3 d4 d5 f0 hW5 hW6
          refine (Tryd.copyNodes_calls _ x.nodes W6 HX6.out HND.out (by omega)).mono ?_
          rintro e w7 ⟨vn, rfl, hn7, hb7⟩
          obtain ⟨g, cap, rfl, hgB, hgs⟩ := hn7.row (right_ne HRF.out.1)
          have hw7 := (hb7.block W5.heap.size (by have := HS6.out; omega)).trans HWB6.out
          have c0' : w7.cell? ⟨W5.heap.size, 0, none⟩ = some (.slice an x.nodes.length cn) := by rw [Lib.cell_of_heap hw7]; rfl
          have cf' : w7.frozen? ⟨W5.heap.size, 0, none⟩ = false := Lib.frozen_of_heap hw7 _
          obtain ⟨W8, hW8⟩ : ∃ W8, w7.setCell ⟨W5.heap.size, 0, none⟩ (.slice (some ⟨g, 0, none⟩) x.nodes.length cap) = W8 := ⟨_, rfl⟩
          have hg8 : w7.grownBy W8 (some W5.heap.size) := by rw [← hW8]; exact Lib.grownBy_setCell _ _ _ _
          have HL8 : Hid (LoopW W5 W6.heap.size W5.heap.size g cap x (.slice as' x.sits.length cs') (.slice am x.mems.length cm) 0 W8) := by
            refine ⟨(HB6.out.trans (hb7.mono (by have := HS6.out; omega))).trans (grown_below hg8 (Nat.le_refl _) (by have := hb7.size; have := HS6.out; omega)), ?_, ?_⟩
            · rw [← hW8, Lib.heap_setCell_same (i := 0) hw7]; simp
            · have hlt : W5.heap.size < W6.heap.size := by have := HS6.out; omega
              exact (hn7.keep hg8 (Away.out (.inl hlt)) (Away.out (.inl hlt))).mono hg8.size
          have HGB := Lib.hid hgB
          have HW8 := Lib.hid hW8
          clear hb7 hn7 hw7 hg8 hgs hgB
          go_wp2_with fail
          clear hW8 c0' cf'
          obtain ⟨bw, hbw⟩ : ∃ bw, W5.heap.size = bw := ⟨_, rfl⟩
          obtain ⟨B6, hB6⟩ : ∃ B6, W6.heap.size = B6 := ⟨_, rfl⟩
          have HBW := Lib.hid hbw
          have hbB : bw < B6 := by have := HS6.out; omega
          have hBg : B6 ≤ g := by have := HGB.out; omega
          rw [hbw, hB6] at HL8
          rw [hbw]
          clear hbw hB6
          go_loopw [14] (fun i wr => ∃ k : Nat, k ≤ x.nodes.length ∧ i = .int .i64 k ∧ Hid (LoopW W5 B6 bw g cap x (.slice as' x.sits.length cs') (.slice am x.mems.length cm) k wr)) (fun i _ => 501 - (intOf i).toNat)
          case atStart => exact ⟨0, by omega, rfl, HL8⟩
          case' round =>
            obtain ⟨k, hk, rfl, HR⟩ := hrel
            clear HL8
            have e0 : wr.cell? ⟨bw, 0, none⟩ = some (.slice (some ⟨g, 0, none⟩) x.nodes.length cap) := by rw [Lib.cell_of_heap HR.out.box]; rfl
            by_cases hlt : k < x.nodes.length
            case pos =>
              have hki : (k : Int) < (x.nodes.length : Int) := by omega
              obtain ⟨nd, hnd⟩ := get_some x.nodes k hlt
              obtain ⟨_, ⟨ad9, cd9, j1⟩, j10, j11, jf⟩ := HR.out.at hnd
              have HN2 := Lib.hid (HR.out.next hnd (by omega) (by rw [HBW.out]; exact Nat.le_refl _))
              have jf10 := jf (k * 12 + 10)
              have jf11 := jf (k * 12 + 11)
              have hbg : ¬ bw = g := by omega
              have hgb : ¬ g = bw := by omega
              clear jf hnd HR
              go_wp2_with fail
              go_region
              go_wp2_with fail
              exact ⟨⟨k + 1, by omega, by go_num, HN2.out⟩, by simp [intOf]; omega⟩
            case' neg =>
              obtain rfl : k = x.nodes.length := by omega
              have hbel := HR.out.bel
              have hnd := HR.out.nd
              rw [List.take_length, List.drop_length, List.append_nil] at hnd
              have hsw : W5.heap.size ≤ wr.heap.size := hbel.size
              have hbw : bw = W5.heap.size := HBW.out.symm
              have hbel' : RowKit.Below W5.heap.size W5 wr := by rw [← hbw]; exact hbel
              have hbwS : bw < wr.heap.size := Lib.lt_of_heap HR.out.box
              have hk9 : Keeps w x (.slice ab b.length cb) b (.slice ao more.length co) more (.slice ac c.length cc) c (.slice p1 (normIm x).nodes.length q1) (.slice p2 (normIm x).sits.length q2) (.slice p3 (normIm x).mems.length q3) (.slice (some ⟨g, 0, none⟩) x.nodes.length cap) (.slice as' x.sits.length cs') (.slice am x.mems.length cm) w4.heap.size bw wr :=
                ⟨HF5.out.trans (hbel'.mono HF5.out.size), HB5.out.below hbel', HM5.out.below hbel', HC5.out.below hbel', HY5.out.below hbel', (hbel'.block w4.heap.size (by have := HS5.out; omega)).trans HYB5.out, ⟨hnd.nds, HX5.out.sg.below hbel', HX5.out.mb.below hbel'⟩, HR.out.box⟩
              have HK9 := Lib.hid hk9
              obtain ⟨yb, hyb⟩ : ∃ yb, w4.heap.size = yb := ⟨_, rfl⟩
              rw [hyb] at HK9
              have HYBX := Lib.hid hyb
              clear hbel hnd hbel' HB5 HM5 HC5 HY5 HF5 HX5 HR hbw hk9 hyb HYB5 HB6 HWB6
              go_wp2_with fail
              clear e0 hk hlt
              refine (Tryd.pick_calls pos (8 * (c.length : Int)) _ hp (by omega)).mono ?_
              rintro e w' ⟨rfl, rfl⟩
              obtain ⟨p, hpv, hpl⟩ : ∃ p : Nat, (if (8 * (c.length : Int)) < 1 then 0 else pos % (8 * (c.length : Int))) = p ∧ p < 8 * c.length := by
                refine ⟨(pos % (8 * (c.length : Int))).toNat, ?_, ?_⟩
                · rw [if_neg (by omega)]
                  have := Int.emod_nonneg pos (show (8 * (c.length : Int)) ≠ 0 by omega)
                  omega
                · have h1 := Int.emod_nonneg pos (show (8 * (c.length : Int)) ≠ 0 by omega)
                  have h2 := Int.emod_lt_of_pos pos (show 0 < (8 * (c.length : Int)) by omega)
                  omega
              rw [hpv]
              clear hpv
              go_wp2_with fail
              refine (Tryd.copyBytes_calls _ c _ HK9.out.c (by omega)).mono ?_
              rintro e w10 ⟨vd, rfl, ho10, hb10⟩
              obtain ⟨u, hu⟩ := get_some c (p / 8) (by omega)
              obtain ⟨gd, capd, rfl, hgd, hgl⟩ : ∃ gd capd, vd = .slice (some ⟨gd, 0, none⟩) c.length capd ∧ wr.heap.size ≤ gd ∧ gd < w10.heap.size := by
                obtain ⟨_, ⟨rfl, hn⟩ | ⟨gd, capd, cur, rfl, hB, hg, _⟩⟩ := id ho10
                · omega
                · exact ⟨gd, capd, rfl, hB, Lib.lt_of_heap hg⟩
              obtain ⟨ccd, hgd9⟩ := (own_tag ho10 (k := gd) rfl).2.2
              have k0 : w10.cell? ⟨gd, p / 8, none⟩ = some (.int .u8 u.toNat) := by
                obtain ⟨_, _, e, _, _, _, hcs⟩ := ho10.bs
                injection e with e1 e2 e3
                subst e1
                obtain ⟨_, _, e4, h5⟩ := hcs (p / 8) _ (bv_of_get hu)
                cases e4
                rw [Nat.zero_add] at h5
                exact h5
              have kf : w10.frozen? ⟨gd, p / 8, none⟩ = false := Lib.frozen_of_heap hgd9 _
              have hp8 : p / 8 < c.length := by omega
              obtain ⟨mm, hmm, hfv⟩ := flip_val u (p % 8) (by omega)
              obtain ⟨W11, hW11⟩ : ∃ W11, w10.setCell ⟨gd, p / 8, none⟩ (.int .u8 ((u ^^^ mm).toNat : Nat)) = W11 := ⟨_, rfl⟩
              have hbs11 := Own.setB ho10 hp8 (u ^^^ mm)
              rw [hW11] at hbs11
              have hg11 : w10.grownBy W11 (some gd) := by rw [← hW11]; exact Lib.grownBy_setCell _ _ _ _
              have HK11 := Lib.hid (HK9.out.below (hb10.trans (grown_below hg11 hgd hb10.size)))
              have HD11 := Lib.hid hbs11
              have HGC2 : Hid (gotS (c.set (p / 8) (u ^^^ mm)) = (zeroIm, 4)) := by
                show _ = _
                rw [gotS, get_set (put_get HI.out HPUT.out) hu (flip_ne u mm hmm)]
              have HFV := Lib.hid hfv
              have HW11 := Lib.hid hW11
              have hld : (c.set (p / 8) (u ^^^ mm)).length = c.length := List.length_set ..
              have HLD := Lib.hid hld
              clear ho10 hu hb10 hgd9 hfv hW11 hbs11 hg11 hmm HK9 hld
              go_wp2_with fail
              rw [HFV.out, HW11.out]
              refine (Tryd.got_calls _ (c.set (p / 8) (u ^^^ mm)) _ (by rw [← HLD.out]; exact HLD.out ▸ HD11.out) (by have := HLD.out; omega)).mono ?_
              rw [HGC2.out]
              rintro e w12 ⟨t1, u1, t2, u2, t3, u3, rfl, ho12, hb12⟩
              have HK12 := Lib.hid (HK11.out.below hb12)
              clear ho12 hb12 HK11 HD11 HGC2 HFV HW11 HLD k0 kf hgd hgl
              obtain ⟨W13, hW13⟩ : ∃ W13, w12.alloc (.cells #[.slice t1 (zeroIm, (4 : Int)).fst.nodes.length u1, .slice t2 (zeroIm, (4 : Int)).fst.sits.length u2, .int .i64 (zeroIm, (4 : Int)).fst.ver, .slice t3 (zeroIm, (4 : Int)).fst.mems.length u3, .int .i64 (zeroIm, (4 : Int)).fst.lo, .int .i64 (zeroIm, (4 : Int)).fst.hi] 29) = W13 := ⟨_, rfl⟩
              have HK13 : Hid (Keeps w x (.slice ab b.length cb) b (.slice ao more.length co) more (.slice ac c.length cc) c (.slice p1 (normIm x).nodes.length q1) (.slice p2 (normIm x).sits.length q2) (.slice p3 (normIm x).mems.length q3) (.slice (some ⟨g, 0, none⟩) x.nodes.length cap) (.slice as' x.sits.length cs') (.slice am x.mems.length cm) yb bw W13) := by
                rw [← hW13]; exact HK12.out.below ((Below.refl _ _).alloc (Nat.le_refl _) _)
              have hccap : c.length ≤ cc ∧ cc ≤ maxLen ∧ (ac = none → cc = 0) ∧ Cs W13 ac (bv c) := by
                obtain ⟨_, _, e, q1, q2, q3, q4⟩ := HK13.out.c
                injection e with e1 e2 e3
                subst e1 e3
                exact ⟨q1, q2, q3, q4⟩
              have hcc1 := hccap.1
              have hcc2 := hccap.2.1
              have hbt : Bs W13 (.slice ac (p / 8) cc) (c.take (p / 8)) := Bs.take hccap.2.2.2 (by omega) (by omega) hcc2 hccap.2.2.1
              have HBT13 := Lib.hid hbt
              have HGC3 : Hid (gotS (c.take (p / 8)) = (zeroIm, 4)) := by
                show _ = _
                rw [gotS, get_cut (put_get HI.out HPUT.out) hp8]
              have hp8c : (p : Int) / 8 ≤ (cc : Int) := by omega
              unfold maxLen at hcc2
              clear hccap hbt HK12
              go_wp2_with fail
              refine (Tryd.got_calls _ (c.take (p / 8)) _ HBT13.out (by rw [List.length_take]; omega)).mono ?_
              rw [HGC3.out]
              rintro e w14 ⟨t4, u4, t5, u5, t6, u6, rfl, ho14, hb14⟩
              have HK14 := Lib.hid (HK13.out.below hb14)
              clear ho14 hb14 HK13 HBT13 HGC3 hW13 hp8c
              obtain ⟨W15, hW15⟩ : ∃ W15, w14.alloc (.cells #[.slice t4 zeroIm.nodes.length u4, .slice t5 zeroIm.sits.length u5, .int .i64 zeroIm.ver, .slice t6 zeroIm.mems.length u6, .int .i64 zeroIm.lo, .int .i64 zeroIm.hi] 29) = W15 := ⟨_, rfl⟩
              have HK15 : Hid (Keeps w x (.slice ab b.length cb) b (.slice ao more.length co) more (.slice ac c.length cc) c (.slice p1 (normIm x).nodes.length q1) (.slice p2 (normIm x).sits.length q2) (.slice p3 (normIm x).mems.length q3) (.slice (some ⟨g, 0, none⟩) x.nodes.length cap) (.slice as' x.sits.length cs') (.slice am x.mems.length cm) yb bw W15) := by
                rw [← hW15]; exact HK14.out.below ((Below.refl _ _).alloc (Nat.le_refl _) _)
              clear HK14
              go_wp2_with fail
              refine (Tryd.copyBytes_calls _ c _ HK15.out.c (by omega)).mono ?_
              rintro e w16 ⟨v16, rfl, ho16, hb16⟩
              have HK16 := Lib.hid (HK15.out.below hb16)
              have HO16 := Lib.hid ho16
              have hs15 : W15.heap.size ≤ w16.heap.size := hb16.size
              have HLIM : Hid (c.length + more.length ≤ 140737488355328) := by show _ ≤ _; omega
              obtain ⟨a16, c16, rfl, -⟩ := ho16.bs
              have HB16 := Lib.hid hb16
              clear hb16 ho16 hW15
              go_wp2_with (at_builtin; refine Tryd.append_bytes rfl _ _ rfl W15.heap.size (.slice a16 c.length c16) _ c more rfl rfl HO16.out HK16.out.m HLIM.out hs15 ?_; intro v17 w17 ho17 hg17; have HB17 := Lib.hid ho17.bs; have HK17 := Lib.hid (HK15.out.below (HB16.out.trans (below_new hg17 HO16.out hs15))); obtain ⟨a17, c17, rfl, -⟩ := ho17.bs; clear ho17 hg17)
              have HB18 : Hid (Bs w17 (.slice a17 (c.length + more.length) c17) (c ++ more)) := by show Bs _ _ _; rw [← List.length_append]; exact HB17.out
              refine (Tryd.got_calls _ (c ++ more) _ HB18.out (by rw [List.length_append]; omega)).mono ?_
              obtain ⟨⟨y3, e3⟩, hz3⟩ : ∃ z, gotS (c ++ more) = z := ⟨_, rfl⟩
              rw [hz3]
              rintro e w18 ⟨t7, u7, t8, u8, t9, u9, rfl, ho18, hb18⟩
              have HK18 := Lib.hid (HK17.out.below hb18)
              have hgm := get_more (more := more) (put_get HI.out HPUT.out)
              have hcase : (more.length = 0 ∧ e3 = 0) ∨ (0 < more.length ∧ e3 = 4) := by
                cases hgs : getS (c ++ more) with
                | none =>
                  rw [hgs] at hgm
                  rw [gotS, hgs] at hz3
                  simp only [Prod.mk.injEq] at hz3
                  refine .inr ⟨?_, hz3.2.symm⟩
                  cases more with
                  | nil => simp at hgm
                  | cons a l => simp
                | some yy =>
                  rw [hgs] at hgm
                  rw [gotS, hgs] at hz3
                  simp only [Prod.mk.injEq] at hz3
                  refine .inl ⟨?_, hz3.2.symm⟩
                  cases more with
                  | nil => rfl
                  | cons a l => simp at hgm
              obtain ⟨W19, hW19⟩ : ∃ W19, w18.alloc (.cells #[.slice t7 y3.nodes.length u7, .slice t8 y3.sits.length u8, .int .i64 y3.ver, .slice t9 y3.mems.length u9, .int .i64 y3.lo, .int .i64 y3.hi] 29) = W19 := ⟨_, rfl⟩
              have HK19 : Hid (Keeps w x (.slice ab b.length cb) b (.slice ao more.length co) more (.slice ac c.length cc) c (.slice p1 (normIm x).nodes.length q1) (.slice p2 (normIm x).sits.length q2) (.slice p3 (normIm x).mems.length q3) (.slice (some ⟨g, 0, none⟩) x.nodes.length cap) (.slice as' x.sits.length cs') (.slice am x.mems.length cm) yb bw W19) := by
                rw [← hW19]; exact HK18.out.below ((Below.refl _ _).alloc (Nat.le_refl _) _)
              have m0 : W19.cell? ⟨yb, 0, none⟩ = some (.slice p1 (normIm x).nodes.length q1) := by rw [Lib.cell_of_heap HK19.out.yb]; rfl
              have m1 : W19.cell? ⟨yb, 1, none⟩ = some (.slice p2 (normIm x).sits.length q2) := by rw [Lib.cell_of_heap HK19.out.yb]; rfl
              have m2 : W19.cell? ⟨yb, 2, none⟩ = some (.int .i64 (normIm x).ver) := by rw [Lib.cell_of_heap HK19.out.yb]; rfl
              have m3 : W19.cell? ⟨yb, 3, none⟩ = some (.slice p3 (normIm x).mems.length q3) := by rw [Lib.cell_of_heap HK19.out.yb]; rfl
              have m4 : W19.cell? ⟨yb, 4, none⟩ = some (.int .i64 (normIm x).lo) := by rw [Lib.cell_of_heap HK19.out.yb]; rfl
              have m5 : W19.cell? ⟨yb, 5, none⟩ = some (.int .i64 (normIm x).hi) := by rw [Lib.cell_of_heap HK19.out.yb]; rfl
              have n0 : W19.cell? ⟨bw, 0, none⟩ = some (.slice (some ⟨g, 0, none⟩) x.nodes.length cap) := by rw [Lib.cell_of_heap HK19.out.zb]; rfl
              have n1 : W19.cell? ⟨bw, 1, none⟩ = some (.slice as' x.sits.length cs') := by rw [Lib.cell_of_heap HK19.out.zb]; rfl
              have n2 : W19.cell? ⟨bw, 2, none⟩ = some (.int .i64 x.ver) := by rw [Lib.cell_of_heap HK19.out.zb]; rfl
              have n3 : W19.cell? ⟨bw, 3, none⟩ = some (.slice am x.mems.length cm) := by rw [Lib.cell_of_heap HK19.out.zb]; rfl
              have n4 : W19.cell? ⟨bw, 4, none⟩ = some (.int .i64 x.lo) := by rw [Lib.cell_of_heap HK19.out.zb]; rfl
              have n5 : W19.cell? ⟨bw, 5, none⟩ = some (.int .i64 x.hi) := by rw [Lib.cell_of_heap HK19.out.zb]; rfl
              rw [← HYBX.out] at m0 m1 m2 m3 m4 m5
              have HCASE := Lib.hid hcase
              clear hcase ho18 hb18 hz3 hgm HK18 HK17 HK16 HK15 HB17 HB18 HO16 HB16 HLIM hcc1 hcc2
              go_wp2_with fail
              clear m0 m1 m2 m3 m4 m5 n0 n1 n2 n3 n4 n5 hW19
              have hsm := Tryd.same_calls (normIm x) (normIm x) _ _ _ _ _ _ W19 HK19.out.y HK19.out.z
              have hdd : decide (normIm x = normIm x) = true := decide_eq_true rfl
              rw [hdd] at hsm
              simp only [imA] at hsm
              rw [show (normIm x).ver = x.ver from rfl, show (normIm x).lo = x.lo from rfl, show (normIm x).hi = x.hi from rfl] at hsm
              refine hsm.mono ?_
              clear hsm hdd
              rintro e w20 ⟨rfl, hb20⟩
              have HK20 := Lib.hid (HK19.out.below hb20)
              have HFT := Lib.hid HK20.out.f
              have HBT := Lib.hid HK20.out.b
              have hcl2 : decide ((1048584 : Int) < (c.length : Int)) = false := by simp; omega
              have hcl3 : decide (1048584 < c.length) = false := by simp; omega
              rcases HCASE.out with ⟨hm0, rfl⟩ | ⟨hm0, rfl⟩
              case' inl =>
                have hm1 : ((more.length : Int) == 0) = true := by rw [beq_iff_eq]; omega
                have hm2 : (more.length == 0) = true := by rw [beq_iff_eq]; omega
                clear hm0 hb20
                go_wp2_with fail
              case' inr =>
                have hm1 : ((more.length : Int) == 0) = false := by rw [beq_eq_false_iff_ne]; omega
                have hm2 : (more.length == 0) = false := by rw [beq_eq_false_iff_ne]; omega
                clear hm0 hb20
                go_wp2_with fail
          skip
        all_goals (
          refine (Tryd.got_calls _ b _ HBT.out (by omega)).mono ?_
          intro e u1 h1
          obtain ⟨⟨y, ey⟩, hy⟩ : ∃ z, gotS b = z := ⟨_, rfl⟩
          rw [hy] at h1
          obtain ⟨a1, b1, a2, b2, a3, b3, rfl, ho, hbu⟩ := h1
          have HV := Lib.hid ho.v
          have HBU := Lib.hid (HBT.out.below hbu)
          have HFU := Lib.hid (HFT.out.trans (hbu.mono HFT.out.size))
          have HGY := Lib.hid hy
          obtain ⟨U2, hU2⟩ : ∃ U2, u1.alloc (.cells #[.slice a1 y.nodes.length b1, .slice a2 y.sits.length b2, .int .i64 y.ver, .slice a3 y.mems.length b3, .int .i64 y.lo, .int .i64 y.hi] 29) = U2 := ⟨_, rfl⟩
          have hbv : RowKit.Below u1.heap.size u1 U2 := by rw [← hU2]; exact (Below.refl _ _).alloc (Nat.le_refl _) _
          have hzv : U2.heap[u1.heap.size]? = some (.cells #[.slice a1 y.nodes.length b1, .slice a2 y.sits.length b2, .int .i64 y.ver, .slice a3 y.mems.length b3, .int .i64 y.lo, .int .i64 y.hi] 29 (0, 0)) := by rw [← hU2]; exact heap_alloc_new u1 _
          have HV2 := Lib.hid (HV.out.below hbv)
          have HBV := Lib.hid (HBU.out.below hbv)
          have HFV := Lib.hid (HFU.out.trans (hbv.mono HFU.out.size))
          have HU2 := Lib.hid hU2
          have g0 : U2.cell? ⟨u1.heap.size, 0, none⟩ = some (.slice a1 y.nodes.length b1) := by rw [Lib.cell_of_heap hzv]; rfl
          have g1 : U2.cell? ⟨u1.heap.size, 1, none⟩ = some (.slice a2 y.sits.length b2) := by rw [Lib.cell_of_heap hzv]; rfl
          have g2 : U2.cell? ⟨u1.heap.size, 2, none⟩ = some (.int .i64 y.ver) := by rw [Lib.cell_of_heap hzv]; rfl
          have g3 : U2.cell? ⟨u1.heap.size, 3, none⟩ = some (.slice a3 y.mems.length b3) := by rw [Lib.cell_of_heap hzv]; rfl
          have g4 : U2.cell? ⟨u1.heap.size, 4, none⟩ = some (.int .i64 y.lo) := by rw [Lib.cell_of_heap hzv]; rfl
          have g5 : U2.cell? ⟨u1.heap.size, 5, none⟩ = some (.int .i64 y.hi) := by rw [Lib.cell_of_heap hzv]; rfl
          clear hy ho hbu hbv hzv HV HBU HFU
          cases hg : getS b with
          | none =>
            have hye : y = zeroIm ∧ ey = 4 := by have := HGY.out; rw [gotS, hg] at this; simp only [Prod.mk.injEq] at this; exact ⟨this.1.symm, this.2.symm⟩
            obtain ⟨hye, rfl⟩ := hye
            have HYE := Lib.hid hye
            clear hye hg
            go_wp2_with fail
            have hsm := Tryd.same_calls y zeroIm (.slice a1 y.nodes.length b1) (.slice a2 y.sits.length b2) (.slice a3 y.mems.length b3) (.slice none 0 0) (.slice none 0 0) (.slice none 0 0) U2 HV2.out (ImO.zero U2 0).v
            rw [decide_eq_true HYE.out] at hsm
            simp only [imA] at hsm
            rw [show zeroIm.ver = 0 from rfl, show zeroIm.lo = 0 from rfl, show zeroIm.hi = 0 from rfl] at hsm
            refine hsm.mono ?_
            clear hsm
            rintro e u3 ⟨rfl, hb3⟩
            have HF3 := Lib.hid (HFV.out.trans (hb3.mono HFV.out.size))
            clear hb3 g0 g1 g2 g3 g4 g5 hU2
            go_wp2_with fail
            go_ret
            exact ⟨rfl, HF3.out⟩
          | some y' =>
            have hye : y = y' ∧ ey = 0 := by have := HGY.out; rw [gotS, hg] at this; simp only [Prod.mk.injEq] at this; exact ⟨this.1.symm, this.2.symm⟩
            obtain ⟨rfl, rfl⟩ := hye
            have HPB := Lib.hid (get_put hg)
            have HIN := Lib.hid (get_in hg)
            clear hg
            go_wp2_with fail
            have hput := Tryd.putL_calls y (.slice a1 y.nodes.length b1) (.slice a2 y.sits.length b2) (.slice a3 y.mems.length b3) U2 HV2.out HIN.out
            simp only [imA] at hput
            refine hput.mono ?_
            clear hput
            rintro e u3 ⟨va, rfl, ho3, hb3⟩
            have hpb := HPB.out
            rw [hpb] at ho3 ⊢
            simp only at ho3
            have HO3 := Lib.hid ho3.bs
            have HBW := Lib.hid (HBV.out.below hb3)
            have HF3 := Lib.hid (HFV.out.trans (hb3.mono HFV.out.size))
            obtain ⟨av, cv, rfl, -⟩ := ho3.bs
            clear hb3 ho3 hpb g0 g1 g2 g3 g4 g5 hU2
            go_wp2_with fail
            refine (Tryd.sameBytes_calls _ _ b b u3 HO3.out HBW.out).mono ?_
            rintro e u4 ⟨rfl, nk, rfl⟩
            rw [beq_self_eq_true]
            go_wp2_with fail
            go_ret
            exact ⟨rfl, HF3.out.trans ((belowD u3 nk).mono HF3.out.size)⟩)
      · have hml1 : decide ((1000 : Int) < (more.length : Int)) = true := by simp; omega
        have hml2 : decide (1000 < more.length) = true := by simp; omega
        have hbl1 : decide ((60000 : Int) < (b.length : Int)) = false := by simp; omega
        have hbl2 : decide (60000 < b.length) = false := by simp; omega
        go_wp2_with fail
        go_ret
        exact ⟨rfl, HF2.out⟩
    · have hbl1 : decide ((60000 : Int) < (b.length : Int)) = true := by simp; omega
      have hbl2 : decide (60000 < b.length) = true := by simp; omega
      go_wp2_with fail
      go_ret
      exact ⟨rfl, HF2.out⟩
end Go.Proofs
