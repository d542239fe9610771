/- Walks: package image: must; what read keeps. -/
import Derived.Test.YtkcpfchfpnmkpaaDoorPut1
import Derived.Test.YtkcpfchfpnmkpaaDoorApp2
import Derived.WalkLawsBesides
namespace Go.Proofs
open Go Go.RowKit Go.Proofs.YtkcpfchfpnmkpaaDoor

namespace YtkcpfchfpnmkpaaDoor
/-- What a reading gives up with. -/
def brk : List PanicEntry := [{ v := .iface 143 (.agg #[]), recovered := false }]
/-- The slice's row is one of bytes. -/
def Tag8 (w : World) (v : Value) : Prop := ∀ k, v.ownBlock = some k → ∃ c fz, w.heap[k]? = some (.cells c 5 fz)
def BytesTP (w : World) (g : Nat) (x : List UInt8 × Rd) (e : Ending) (w' : World) : Prop :=
  ∃ v, e = .returned v ∧ NewBs w w' v x.1 ∧ RdP w' g x.2 ∧ w.grownBy w' (some g) ∧ Tag8 w' v
end YtkcpfchfpnmkpaaDoor
theorem Tryd.cloneT_calls (v : Value) (l : List UInt8) (w : World) (h : Bs w v l) (hl : l.length ≤ 140737488355328) :
    Calls Tryd.prog 57 #[v] w fun e w' => ∃ v', e = .returned v' ∧ NewBs w w' v' l ∧ Tag8 w' v' ∧ Below w.heap.size w w' := by
  obtain ⟨a, c, rfl, h1, h2, h3, h4⟩ := h
  cases a with
  | none =>
    refine (Tryd.bytes_Clone_nil l.length c w).mono ?_
    rintro e w' ⟨rfl, rfl⟩
    have hn : l = [] := by
      cases l with
      | nil => rfl
      | cons x l => simp at h3; subst h3; simp at h1
    subst hn
    exact ⟨_, rfl, ⟨Bs.nil _, by simp [Value.ownBlock]⟩, (fun k hk => by simp [Value.ownBlock] at hk), Below.refl _ _⟩
  | some ad =>
    refine (Tryd.bytes_Clone_at ad l.length c (l.map fun x => (x.toNat : Int)) w (by simp) hl ?_).mono ?_
    · intro i hi
      obtain ⟨b, off, e, hc⟩ := h4 i _ (bv_get l i hi)
      obtain rfl := Option.some.inj e
      rw [addr_add, hc]
      simp [hi]
    · rintro e w' ⟨v', rfl, ho, hne, hb⟩
      have htag : Tag8 w' v' := by
        obtain ⟨_, ⟨rfl, _⟩ | ⟨g, cap, cur, rfl, _, hg2, _⟩⟩ := ho
        · intro k hk; simp [Value.ownBlock] at hk
        · intro k hk; simp [Value.ownBlock] at hk; subst hk; exact ⟨_, _, hg2⟩
      refine ⟨v', rfl, ⟨?_, fun b hb' => ho.lt b hb'⟩, htag, hb⟩
      have hbv : (l.map fun x => (x.toNat : Int)).map (Value.int .u8) = bv l := by simp [bv]
      rw [hbv] at ho
      obtain ⟨hx, ⟨rfl, hn⟩ | ⟨g, cap, cur, rfl, hg1, hg2, hg3, hg4, hg5, hg6⟩⟩ := ho
      · exact absurd rfl hne
      · refine ⟨some ⟨g, 0, none⟩, cap, rfl, hg3, hg4, by simp, ?_⟩
        intro i x hi
        refine ⟨g, 0, rfl, ?_⟩
        rw [Nat.mul_one] at hg6
        rw [← hg6, List.getElem?_take] at hi
        split at hi
        · simp only [World.cell?, hg2]
          simpa using hi
        · simp at hi

set_option maxHeartbeats 800000 in
theorem Tryd.bytesT_calls (most : Nat) (g : Nat) (r : Rd) (w : World) (h : RdP w g r) (hm : most ≤ 2147483648) :
    Calls Tryd.prog 74 #[.pointer (some ⟨g, 0, none⟩), .int .i64 most] w (BytesTP w g (rdBytes most r)) := by
  have H := Lib.hid h
  have hle := rdCount_le most r
  have HC : Hid (rdBytes most r = rdTake (rdCount most r).1 (rdCount most r).2) := rfl
  clear h
  go_enter Tryd.func74, Tryd.ntmps74
  go_wp2_with fail
  refine (Tryd.count_calls most g r w H.out hm).mono ?_
  rintro e w1 ⟨rfl, hr1, hg1⟩
  have HR := Lib.hid hr1
  have HG := Lib.hid hg1
  clear hr1 hg1
  generalize (rdCount most r).2 = r2 at *
  generalize (rdCount most r).1 = n at *
  go_wp2_with fail
  refine (Tryd.take_calls n g r2 w1 HR.out (by omega)).mono ?_
  rintro e w2 ⟨v, rfl, hb, hr2, hne, hg2⟩
  rw [takeI_nat] at hb hr2
  have HB := Lib.hid hb
  have HR2 := Lib.hid hr2
  have HG2 := Lib.hid (grown_tr HG.out hg2)
  clear hb hr2 hg2 hne
  go_wp2_with fail
  refine (Tryd.cloneT_calls v _ w2 HB.out (by have := rdTake_le n r2; omega)).mono ?_
  rintro e w3 ⟨v3, rfl, hn3, ht3, hb3⟩
  have HN3 := Lib.hid hn3
  have HB3 := Lib.hid hb3
  have HT3 := Lib.hid ht3
  clear hn3 hb3 ht3
  go_wp2_with fail
  go_ret
  rw [HC.out]
  exact ⟨_, rfl, ⟨HN3.out.1, fun b hb => ⟨Nat.le_trans HG2.out.size (HN3.out.2 b hb).1, (HN3.out.2 b hb).2⟩⟩, HR2.out.below HB3.out, grown_bel HG2.out HB3.out, HT3.out⟩

theorem Tryd.must_ok (w : World) : Calls Tryd.prog 69 #[.bool true] w fun e w' => e = .returned (.tuple #[]) ∧ w = w' := by
  go_enter Tryd.func69, Tryd.ntmps69
  go_wp2
  first | go_end0 | refine bodyPost_ret (results_none rfl _ _ _) rfl ?_
  exact ⟨rfl, rfl⟩
theorem Tryd.must_bad (w : World) : Calls Tryd.prog 69 #[.bool false] w fun e w' => e = .panicked brk ∧ w = w' := by
  go_enter Tryd.func69, Tryd.ntmps69
  go_wp2
  exact ⟨rfl, rfl, rfl⟩
end Go.Proofs
