/- Walks: package wire: Frame. -/
import Derived.Test.YtkcpfchfpnmkpaaDoorWk6
import Derived.Test.YtkcpfchfpnmkpaaDoorApp
namespace Go.Proofs
open Go Go.RowKit Go.Sort Go.Proofs.YtkcpfchfpnmkpaaDoor

namespace YtkcpfchfpnmkpaaDoor
def FrameP (w : World) (l : List UInt8) (e : Ending) (w' : World) : Prop :=
  Below w.heap.size w w' ∧ ((frame l = none ∧ e = .returned (.tuple #[.slice none 0 0, .int .i64 3])) ∨
    ∃ out v, frame l = some out ∧ e = .returned (.tuple #[v, .int .i64 0]) ∧ Own w' w.heap.size v out)
end YtkcpfchfpnmkpaaDoor

theorem Tryd.four_own (n : Nat) (hn : n < 4294967296) (w : World) :
    Calls Tryd.prog 55 #[.int .u32 n] w fun e w' => ∃ v, e = .returned v ∧ Own w' w.heap.size v (le4 n) ∧ Below w.heap.size w w' := by
  have hn' : (n : Int) < 4294967296 := by omega
  go_enter Tryd.func55, Tryd.ntmps55
  go_wp2
  go_ret
  refine ⟨_, rfl, ?_, (Below.refl _ _).alloc (Nat.le_refl _) _⟩
  have := ownNew w (bv (le4 n)) 5 1 4 (by simp [bv, le4]) (by decide)
  have e : [Value.int .u8 ((n : Int) % 256), .int .u8 ((n : Int) / 256 % 256), .int .u8 ((n : Int) / 65536 % 256), .int .u8 ((n : Int) / 16777216)] = bv (le4 n) := by
    simp only [le4, bv, List.map_cons, List.map_nil, UInt8.toNat_ofNat']
    congr 2 <;> first | omega | (congr 2 <;> first | omega | (congr 2 <;> first | omega | (congr 2; omega)))
  rw [← e] at this
  exact e ▸ this

set_option maxRecDepth 100000 in
set_option maxHeartbeats 1600000 in
theorem Tryd.frame_calls (v : Value) (l : List UInt8) (w : World) (h : Bs w v l) (hl : l.length ≤ 140737488355328) :
    Calls Tryd.prog 40 #[v] w (FrameP w l) := by
  have HV := Lib.hid h
  obtain ⟨a, c, rfl, h1, h2, h3, h4⟩ := h
  unfold maxLen at h2
  by_cases hs : 1048576 < l.length
  · have HF : Hid (FrameP w l (.returned (.tuple #[.slice none 0 0, .int .i64 3])) w) := ⟨Below.refl _ _, .inl ⟨by simp [frame]; omega, rfl⟩⟩
    have e1 : (1048576 : Int) < (l.length : Int) := by omega
    clear h4 h3
    go_enter Tryd.func40, Tryd.ntmps40
    go_wp2_with fail
    go_ret2
    exact HF.out
  · have HU : Hid (frame l = some (le4 l.length ++ le4 (crc l) ++ l)) := by simp [Hid, frame]; omega
    have e1 : decide ((1048576 : Int) < (l.length : Int)) = false := by simp; omega
    have hl2 : (l.length : Int) < 4294967296 := by omega
    have H4 := Lib.hid h4
    have hcl := crc_lt l
    obtain ⟨i0, hi, hz0, hz1, hz2⟩ := info_parts Tryd.infoU8
    clear h4 h3
    go_enter Tryd.func40, Tryd.ntmps40
    go_wp2_with fail
    refine (Tryd.four_own l.length (by omega) w).mono ?_
    rintro e w1 ⟨v1, rfl, ho1, hb1⟩
    have HO1 := Lib.hid ho1
    have HB1 := Lib.hid hb1
    clear ho1 hb1
    go_wp2_with fail
    refine (Tryd.sum_calls _ l w1 (HV.out.below HB1.out)).mono ?_
    rintro e w2 ⟨rfl, hb2⟩
    have HB2 := Lib.hid hb2
    clear hb2
    obtain ⟨cr, hcr⟩ : ∃ x, crc l = x := ⟨_, rfl⟩
    rw [hcr] at HU hcl ⊢
    clear hcr
    go_wp2_with fail
    refine (Tryd.four_own cr hcl w2).mono ?_
    rintro e w3 ⟨v3, rfl, ho3, hb3⟩
    have hB13 : Below w1.heap.size w1 w3 := HB2.out.trans (hb3.mono HB2.out.size)
    have ho1 : w3.ownsRow w.heap.size 5 1 v1 (le4 l.length).length (bv (le4 l.length)) := World.ownsRow.kept HO1.out (grown_of_below hB13) (by cases v1.ownBlock <;> simp)
    have hb3' := Own.bs ho3
    have hB : Below w.heap.size w w3 := HB1.out.trans (hB13.mono HB1.out.size)
    have HB := Lib.hid hB
    have HS := Lib.hid hb3'
    have HOW := Lib.hid ho1
    have hsz := hB.size
    have h41 : (le4 l.length).length = 4 := rfl
    have h42 : (le4 cr).length = 4 := rfl
    have hlim : (le4 l.length).length + (le4 cr).length ≤ 140737488355328 := by omega
    clear hB hb3' ho1 hB13 ho3 hb3 HB1 HB2 HO1 hcl hl2 h41 h42
    have HG := Lib.hid (fun w4 (hg : w3.grownBy w4 v1.ownBlock) => HB.out.grown hg hsz (fun k hk => (HOW.out.lt k hk).1))
    have HV4 := Lib.hid (fun w4 hg => HV.out.below (HG.out w4 hg))
    have HL : Hid ((le4 l.length ++ le4 cr).length + l.length ≤ 140737488355328) := by simp only [Hid, List.length_append]; show 4 + 4 + l.length ≤ _; omega
    have HLIM := Lib.hid hlim
    clear hlim HB HV
    go_wp2_with (first | (at_builtin; refine Tryd.append_bytes rfl _ _ rfl w.heap.size _ _ _ _ rfl rfl HOW.out HS.out HLIM.out hsz ?_; intro v4 w4 hown4 hgrow4; have HO4 := Lib.hid hown4; have HG4 := Lib.hid (HG.out w4 hgrow4); have HV5 := Lib.hid (HV4.out w4 hgrow4); clear hown4 hgrow4 HOW HS HG HV4 HLIM) | (at_builtin; refine Tryd.append_bytes rfl _ _ rfl w.heap.size _ _ _ _ rfl rfl HO4.out HV5.out HL.out HG4.out.size ?_; intro v5 w5 hown5 hgrow5))
    go_ret2
    refine ⟨HG4.out.grown hgrow5 HG4.out.size (fun k hk => (HO4.out.lt k hk).1), .inr ⟨_, _, HU.out, rfl, hown5⟩⟩
end Go.Proofs
