/- Walks: package image: the memory of nodes and sittings; stat. -/
import Derived.Test.YtkcpfchfpnmkpaaDoorPath5
import Derived.Test.YtkcpfchfpnmkpaaDoorWk6
namespace Go.Proofs
open Go Go.RowKit Go.Proofs.YtkcpfchfpnmkpaaDoor

namespace YtkcpfchfpnmkpaaDoor
/-- The cells of nodes whose data lie in the slices ds. -/
def ndCells (l : List Nd) (ds : List Value) : List Value := (l.zip ds).flatMap fun p => ndVal p.1 p.2
/-- A slice of nodes. -/
def Nds (w : World) (v : Value) (l : List Nd) : Prop :=
  ∃ ds : List Value, ds.length = l.length ∧ Sl w v l.length (ndCells l ds) ∧ ∀ (i : Nat) (x : Nd) (d : Value), l[i]? = some x → ds[i]? = some d → Bs w d x.data
def Sgs (w : World) (v : Value) (l : List Sg) : Prop := Sl w v l.length (l.flatMap sgVal)
theorem Nds.below {w w' : World} {v : Value} {l : List Nd} (h : Nds w v l) (hb : Below w.heap.size w w') : Nds w' v l := by
  obtain ⟨ds, h1, h2, h3⟩ := h
  exact ⟨ds, h1, h2.below hb, fun i x d hx hd => (h3 i x d hx hd).below hb⟩
theorem Sgs.below {w w' : World} {v : Value} {l : List Sg} (h : Sgs w v l) (hb : Below w.heap.size w w') : Sgs w' v l := Sl.below h hb
theorem zip_get {α β : Type} {l : List α} {ds : List β} (hl : ds.length = l.length) {k : Nat} {x : α} (hk : l[k]? = some x) : ∃ d, ds[k]? = some d ∧ (l.zip ds)[k]? = some (x, d) := by
  have h1 := lt_of_get hk
  have h2 : k < ds.length := by omega
  refine ⟨ds[k], by simp [h2], ?_⟩
  rw [List.getElem?_zip_eq_some]
  exact ⟨hk, by simp [h2]⟩
def statVal (n : Nd) : List Value := [.int .i64 n.czxid, .int .i64 n.mzxid, .int .i64 n.pzxid, .int .i64 n.ctime, .int .i64 n.mtime, .int .i64 n.version, .int .i64 n.cversion, .int .i64 n.owner, .int .i64 n.length, .int .i64 n.children]
/-- One node's cells in a slice of nodes. -/
structure NdAt (w : World) (b o : Nat) (x : Nd) (d : Value) : Prop where
  c0 : w.cell? ⟨b, o, none⟩ = some (.string x.path)
  c1 : w.cell? ⟨b, o + 1, none⟩ = some d
  c2 : w.cell? ⟨b, o + 2, none⟩ = some (.int .i64 x.czxid)
  c3 : w.cell? ⟨b, o + 3, none⟩ = some (.int .i64 x.mzxid)
  c4 : w.cell? ⟨b, o + 4, none⟩ = some (.int .i64 x.pzxid)
  c5 : w.cell? ⟨b, o + 5, none⟩ = some (.int .i64 x.ctime)
  c6 : w.cell? ⟨b, o + 6, none⟩ = some (.int .i64 x.mtime)
  c7 : w.cell? ⟨b, o + 7, none⟩ = some (.int .i64 x.version)
  c8 : w.cell? ⟨b, o + 8, none⟩ = some (.int .i64 x.cversion)
  c9 : w.cell? ⟨b, o + 9, none⟩ = some (.int .i64 x.owner)
  c10 : w.cell? ⟨b, o + 10, none⟩ = some (.int .i64 x.length)
  c11 : w.cell? ⟨b, o + 11, none⟩ = some (.int .i64 x.children)
theorem ndAt {w : World} {a : Option Addr} {l : List Nd} {ds : List Value} (h : Cs w a (ndCells l ds)) (hl : ds.length = l.length) {k : Nat} {x : Nd} (hk : l[k]? = some x) :
    ∃ b off d, a = some ⟨b, off, none⟩ ∧ ds[k]? = some d ∧ NdAt w b (off + k * 12) x d := by
  obtain ⟨d, hd, hz⟩ := zip_get hl hk
  have g : ∀ j, j < 12 → (ndCells l ds)[k * 12 + j]? = (ndVal x d)[j]? := fun j hj => flat_get (fun p : Nd × Value => ndVal p.1 p.2) 12 (fun _ => rfl) (l.zip ds) k (x, d) j hz hj
  obtain ⟨b, off, rfl, h0⟩ := h _ _ (g 0 (by omega))
  have q : ∀ j v, j < 12 → (ndVal x d)[j]? = some v → w.cell? ⟨b, off + k * 12 + j, none⟩ = some v := by
    intro j v hj hv
    obtain ⟨b1, off1, e1, h1⟩ := h (k * 12 + j) v ((g j hj).trans hv)
    cases e1
    rw [Nat.add_assoc]; exact h1
  exact ⟨b, off, d, rfl, hd, q 0 _ (by omega) rfl, q 1 _ (by omega) rfl, q 2 _ (by omega) rfl, q 3 _ (by omega) rfl, q 4 _ (by omega) rfl, q 5 _ (by omega) rfl, q 6 _ (by omega) rfl, q 7 _ (by omega) rfl, q 8 _ (by omega) rfl, q 9 _ (by omega) rfl, q 10 _ (by omega) rfl, q 11 _ (by omega) rfl⟩
theorem sgAt {w : World} {a : Option Addr} {l : List Sg} (h : Cs w a (l.flatMap sgVal)) {k : Nat} {x : Sg} (hk : l[k]? = some x) :
    ∃ b off, a = some ⟨b, off, none⟩ ∧ w.cell? ⟨b, off + k * 3, none⟩ = some (.int .i64 x.session) ∧ w.cell? ⟨b, off + k * 3 + 1, none⟩ = some (.int .i64 x.timeout) ∧ w.cell? ⟨b, off + k * 3 + 2, none⟩ = some (.int .i64 x.turn) := by
  have g : ∀ j, j < 3 → (l.flatMap sgVal)[k * 3 + j]? = (sgVal x)[j]? := fun j hj => flat_get sgVal 3 (fun _ => rfl) l k x j hk hj
  obtain ⟨b, off, rfl, h0⟩ := h _ _ (g 0 (by omega))
  obtain ⟨b1, off1, e1, h1⟩ := h _ _ (g 1 (by omega))
  obtain ⟨b2, off2, e2, h2⟩ := h _ _ (g 2 (by omega))
  cases e1; cases e2
  exact ⟨b, off, rfl, by simpa using h0, by simpa [Nat.add_assoc] using h1, by simpa [Nat.add_assoc] using h2⟩
def stat8Val (n : Nd) : List Value := [.int .i64 n.czxid, .int .i64 n.mzxid, .int .i64 n.pzxid, .int .i64 n.ctime, .int .i64 n.mtime, .int .i64 n.version, .int .i64 n.cversion, .int .i64 n.owner]
end YtkcpfchfpnmkpaaDoor

set_option maxHeartbeats 1600000 in
theorem Tryd.stat_calls (n : Nd) (w : World) :
    Calls Tryd.prog 38 #[.agg #[.int .i64 n.czxid, .int .i64 n.mzxid, .int .i64 n.pzxid, .int .i64 n.ctime, .int .i64 n.mtime, .int .i64 n.version, .int .i64 n.cversion, .int .i64 n.owner, .int .i64 n.length, .int .i64 n.children]] w fun e w' =>
      e = .returned (.agg #[.int .i64 n.czxid, .int .i64 n.mzxid, .int .i64 n.pzxid, .int .i64 n.ctime, .int .i64 n.mtime, .int .i64 n.version, .int .i64 n.cversion, .int .i64 n.owner]) ∧ Below w.heap.size w w' := by
  go_enter Tryd.func38, Tryd.ntmps38
  go_wp2
  refine bodyPost_ret (v := .agg #[.int .i64 n.czxid, .int .i64 n.mzxid, .int .i64 n.pzxid, .int .i64 n.ctime, .int .i64 n.mtime, .int .i64 n.version, .int .i64 n.cversion, .int .i64 n.owner]) (by simp [results, Tryd.func38, go_sem]) rfl ?_
  exact ⟨rfl, ((Below.refl _ _).alloc (Nat.le_refl _) _).alloc (by simp) _⟩
end Go.Proofs
