/- Plain laws: images as bytes and back. -/
import Derived.Test.YtkcpfchfpnmkpaaDoorLaw
import Derived.Test.YtkcpfchfpnmkpaaDoorEns2
namespace Go.Proofs.YtkcpfchfpnmkpaaDoor

theorem ba_eq (b : ByteArray) : (⟨b.data.toList.toArray⟩ : ByteArray) = b := by cases b; simp
def NdIn (x : Nd) : Prop := ∀ y ∈ x.stat8, In64 y
def SgIn (s : Sg) : Prop := In64 s.session ∧ In64 s.timeout ∧ In64 s.turn
def ImIn (x : Im) : Prop := (∀ n ∈ x.nodes, NdIn n) ∧ (∀ s ∈ x.sits, SgIn s) ∧ In64 x.lo ∧ In64 x.hi
def normNd (x : Nd) : Nd := { x with length := x.data.length, children := 0 }
def normIm (x : Im) : Im := { x with nodes := x.nodes.map normNd }
def NdSz (x : Nd) : Prop := x.path.data.toList.length ≤ 200 ∧ x.data.length ≤ 1000

theorem rdNd_enc (x : Nd) (h : NdIn x) (hs : NdSz x) (r : List UInt8) : rdNd (some (ndBytes x ++ r)) = (normNd x, some r) := by
  obtain ⟨hp, hd⟩ := hs
  have h1 : In64 x.czxid := h _ (by simp [Nd.stat8])
  have h2 : In64 x.mzxid := h _ (by simp [Nd.stat8])
  have h3 : In64 x.pzxid := h _ (by simp [Nd.stat8])
  have h4 : In64 x.ctime := h _ (by simp [Nd.stat8])
  have h5 : In64 x.mtime := h _ (by simp [Nd.stat8])
  have h6 : In64 x.version := h _ (by simp [Nd.stat8])
  have h7 : In64 x.cversion := h _ (by simp [Nd.stat8])
  have h8 : In64 x.owner := h _ (by simp [Nd.stat8])
  simp only [ndBytes, Nd.stat8, List.flatMap_cons, List.flatMap_nil, List.append_nil, List.append_assoc]
  simp only [rdNd, rdBytes_enc 200 _ hp (by decide), rdBytes_enc 1000 _ hd (by decide), rdInt_enc _ h1, rdInt_enc _ h2, rdInt_enc _ h3, rdInt_enc _ h4, rdInt_enc _ h5, rdInt_enc _ h6, rdInt_enc _ h7, rdInt_enc _ h8, ba_eq, normNd]
theorem rdNd_inv {rd : Rd} {r : List UInt8} (h : (rdNd rd).2 = some r) : rd = some (ndBytes (rdNd rd).1 ++ r) := by
  have h1 := rdInt_inv h
  have h2 := rdInt_inv h1
  have h3 := rdInt_inv h2
  have h4 := rdInt_inv h3
  have h5 := rdInt_inv h4
  have h6 := rdInt_inv h5
  have h7 := rdInt_inv h6
  have h8 := rdInt_inv h7
  have h9 := rdBytes_inv h8
  have h10 := rdBytes_inv h9
  simp only [ndBytes, Nd.stat8, List.flatMap_cons, List.flatMap_nil, List.append_nil, List.append_assoc, rdNd]
  exact h10
theorem rdNds_enc : ∀ (l : List Nd), (∀ x ∈ l, NdIn x) → (∀ x ∈ l, NdSz x) → ∀ r, rdNds l.length (some (l.flatMap ndBytes ++ r)) = (l.map normNd, some r) := by
  intro l
  induction l with
  | nil => intro _ _ r; rfl
  | cons x l ih =>
    intro h1 h2 r
    simp only [List.length_cons, List.flatMap_cons, List.append_assoc, rdNds, List.map_cons]
    rw [rdNd_enc x (h1 x (by simp)) (h2 x (by simp))]
    simp only
    rw [ih (fun y hy => h1 y (by simp [hy])) (fun y hy => h2 y (by simp [hy]))]
theorem rdNds_inv : ∀ (n : Nat) {rd : Rd} {r : List UInt8}, (rdNds n rd).2 = some r → rd = some ((rdNds n rd).1.flatMap ndBytes ++ r) ∧ (rdNds n rd).1.length = n := by
  intro n
  induction n with
  | zero => intro rd r h; simp only [rdNds] at h ⊢; exact ⟨by simpa using h, rfl⟩
  | succ n ih =>
    intro rd r h
    simp only [rdNds] at h ⊢
    obtain ⟨h1, h2⟩ := ih h
    have h3 := rdNd_inv h1
    refine ⟨?_, by simp [h2]⟩
    rw [List.flatMap_cons, List.append_assoc]
    exact h3
theorem rdSg_enc (s : Sg) (h : SgIn s) (r : List UInt8) : rdSg (some (sgBytes s ++ r)) = (s, some r) := by
  obtain ⟨h1, h2, h3⟩ := h
  simp only [sgBytes, List.append_assoc, rdSg, rdInt_enc _ h1, rdInt_enc _ h2, rdInt_enc _ h3]
theorem rdSg_inv {rd : Rd} {r : List UInt8} (h : (rdSg rd).2 = some r) : rd = some (sgBytes (rdSg rd).1 ++ r) := by
  have h1 := rdInt_inv h
  have h2 := rdInt_inv h1
  have h3 := rdInt_inv h2
  simp only [sgBytes, List.append_assoc, rdSg]
  exact h3
theorem rdSgs_enc : ∀ (l : List Sg), (∀ x ∈ l, SgIn x) → ∀ r, rdSgs l.length (some (l.flatMap sgBytes ++ r)) = (l, some r) := by
  intro l
  induction l with
  | nil => intro _ r; rfl
  | cons x l ih =>
    intro h1 r
    simp only [List.length_cons, List.flatMap_cons, List.append_assoc, rdSgs]
    rw [rdSg_enc x (h1 x (by simp))]
    simp only
    rw [ih (fun y hy => h1 y (by simp [hy]))]
theorem rdSgs_inv : ∀ (n : Nat) {rd : Rd} {r : List UInt8}, (rdSgs n rd).2 = some r → rd = some ((rdSgs n rd).1.flatMap sgBytes ++ r) ∧ (rdSgs n rd).1.length = n := by
  intro n
  induction n with
  | zero => intro rd r h; simp only [rdSgs] at h ⊢; exact ⟨by simpa using h, rfl⟩
  | succ n ih =>
    intro rd r h
    simp only [rdSgs] at h ⊢
    obtain ⟨h1, h2⟩ := ih h
    have h3 := rdSg_inv h1
    refine ⟨?_, by simp [h2]⟩
    rw [List.flatMap_cons, List.append_assoc]
    exact h3
theorem rdCount_encI (most : Nat) (n : Int) (h0 : 0 ≤ n) (h : n ≤ most) (hm : most ≤ 2147483648) (r : List UInt8) : rdCount most (some (encI n ++ r)) = (n.toNat, some r) := by
  obtain ⟨m, rfl⟩ := Int.eq_ofNat_of_zero_le h0
  exact rdCount_enc most m (by omega) hm r
theorem rdMb_enc (m : Mb) (h : MbIn m) (r : List UInt8) : rdMb (some (mbBytes m ++ r)) = (m, some r) := by
  obtain ⟨h1, h2, h3, h4, h5, h6, h7, h8⟩ := h
  obtain ⟨a, b, c, d⟩ := m
  simp only at h1 h2 h3 h4 h5 h6 h7 h8
  simp only [mbBytes, List.append_assoc, rdMb, rdCount_encI 7 a h1 (by omega) (by omega), rdCount_encI 2 b h3 (by omega) (by omega), rdCount_encI 1000 c h5 (by omega) (by omega), rdCount_encI 7 d h7 (by omega) (by omega), Int.toNat_of_nonneg h1, Int.toNat_of_nonneg h3, Int.toNat_of_nonneg h5, Int.toNat_of_nonneg h7]
theorem rdMb_inv {rd : Rd} {r : List UInt8} (h : (rdMb rd).2 = some r) : rd = some (mbBytes (rdMb rd).1 ++ r) := by
  have h1 := rdCount_inv h
  have h2 := rdCount_inv h1
  have h3 := rdCount_inv h2
  have h4 := rdCount_inv h3
  simp only [mbBytes, List.append_assoc, rdMb]
  exact h4
theorem rdMbs_enc : ∀ (l : List Mb), (∀ x ∈ l, MbIn x) → ∀ r, rdMbs l.length (some (l.flatMap mbBytes ++ r)) = (l, some r) := by
  intro l
  induction l with
  | nil => intro _ r; rfl
  | cons x l ih =>
    intro h1 r
    simp only [List.length_cons, List.flatMap_cons, List.append_assoc, rdMbs]
    rw [rdMb_enc x (h1 x (by simp))]
    simp only
    rw [ih (fun y hy => h1 y (by simp [hy]))]
theorem rdMbs_inv : ∀ (n : Nat) {rd : Rd} {r : List UInt8}, (rdMbs n rd).2 = some r → rd = some ((rdMbs n rd).1.flatMap mbBytes ++ r) ∧ (rdMbs n rd).1.length = n := by
  intro n
  induction n with
  | zero => intro rd r h; simp only [rdMbs] at h ⊢; exact ⟨by simpa using h, rfl⟩
  | succ n ih =>
    intro rd r h
    simp only [rdMbs] at h ⊢
    obtain ⟨h1, h2⟩ := ih h
    have h3 := rdMb_inv h1
    refine ⟨?_, by simp [h2]⟩
    rw [List.flatMap_cons, List.append_assoc]
    exact h3
theorem ensGet_enc (ver : Int) (l : List Mb) (h : ensCheck ver l = 0) : ensGet (ensBytes ver l) = some (ver, l) := by
  obtain ⟨h1, h2, h3, h4⟩ := ensCheck_in h
  have e1 : rdInt (some (ensBytes ver l)) = (ver, some (encI l.length ++ l.flatMap mbBytes)) := by
    rw [ensBytes, List.append_assoc]; exact rdInt_enc ver (by unfold In64; omega) _
  have e2 : rdCount 7 (some (encI l.length ++ l.flatMap mbBytes)) = (l.length, some (l.flatMap mbBytes)) := rdCount_enc 7 _ h1 (by omega) _
  have e3 := rdMbs_enc l h4 []
  rw [List.append_nil] at e3
  simp only [ensGet, e1, e2, e3, h, and_self, if_true]
theorem ensGet_inv {b : List UInt8} {ver : Int} {l : List Mb} (h : ensGet b = some (ver, l)) : b = ensBytes ver l ∧ ensCheck ver l = 0 := by
  simp only [ensGet] at h
  split at h
  · rename_i hc
    obtain ⟨h1, h2⟩ := hc
    simp only [Option.some.injEq, Prod.mk.injEq] at h
    obtain ⟨rfl, rfl⟩ := h
    obtain ⟨i1, i2⟩ := rdMbs_inv _ h1
    have i3 := rdCount_inv i1
    have i4 := rdInt_inv i3
    refine ⟨?_, h2⟩
    rw [ensBytes, i2, List.append_assoc]
    have := Option.some.inj i4
    rw [List.append_nil] at this
    exact this
  · cases h

theorem pathOk_len {p : List UInt8} (h : pathOk p = true) : p.length ≤ 200 := by
  unfold pathOk at h
  split at h
  · cases h
  · simp only [Bool.and_eq_true, decide_eq_true_eq] at h
    exact h.1.2
theorem ndOk_sz {x : Nd} (h : ndOk x = true) : NdSz x := by
  unfold ndOk at h
  simp only [Bool.and_eq_true, decide_eq_true_eq] at h
  exact ⟨pathOk_len h.1.1.1.1, h.1.1.1.2⟩
structure RightP (x : Im) : Prop where
  len : x.nodes.length ≤ 500
  sits : x.sits.length ≤ 200
  cfg : ensCheck x.ver x.mems = 0
  nds : ∀ n ∈ x.nodes, ndOk n = true
theorem right_parts {x : Im} (h : right x = true) : RightP x := by
  unfold right at h
  simp only [Bool.and_eq_true, decide_eq_true_eq, beq_iff_eq, List.all_eq_true] at h
  exact ⟨h.1.1.1.1.1.1.1.2, h.1.1.1.1.1.1.2, h.1.1.1.1.1.2, h.1.1.2⟩
theorem ndOk_norm {x : Nd} (h : ndOk x = true) : ndOk (normNd x) = true := by
  unfold ndOk at h ⊢
  simp only [Bool.and_eq_true, decide_eq_true_eq] at h ⊢
  exact ⟨⟨⟨⟨h.1.1.1.1, h.1.1.1.2⟩, by simp [normNd]⟩, by simp [normNd]⟩, h.2⟩
theorem rise_norm : ∀ l : List Nd, ndsRise (l.map normNd) = ndsRise l
  | [] => rfl
  | [_] => rfl
  | a :: b :: l => by
    have := rise_norm (b :: l)
    simp only [List.map_cons] at this
    simp only [List.map_cons, ndsRise, this]
    rfl
theorem right_norm {x : Im} (h : right x = true) : right (normIm x) = true := by
  have h2 := h
  unfold right at h ⊢
  simp only [Bool.and_eq_true, decide_eq_true_eq, beq_iff_eq, List.all_eq_true] at h ⊢
  obtain ⟨⟨⟨⟨⟨⟨⟨⟨a, b⟩, c⟩, d⟩, e⟩, f⟩, g⟩, i⟩, j⟩ := h
  refine ⟨⟨⟨⟨⟨⟨⟨⟨?_, by simpa [normIm] using b⟩, c⟩, d⟩, e⟩, f⟩, ?_⟩, by simpa [normIm, rise_norm] using i⟩, j⟩
  · obtain ⟨nodes, _, _, _, _, _⟩ := x
    cases nodes with
    | nil => exact a
    | cons n l => exact a
  · intro n hn
    simp only [normIm, List.mem_map] at hn
    obtain ⟨m, hm, rfl⟩ := hn
    exact ndOk_norm (g m hm)
theorem encB_len_le (l : List UInt8) (h : l.length ≤ 1048576) : (encB l).length ≤ l.length + 10 := by
  have := encI_len (n := l.length) (by omega)
  simp only [encB, List.length_append]; omega
theorem ensBytes_len {ver : Int} {l : List Mb} (h : ensCheck ver l = 0) : (ensBytes ver l).length ≤ 300 := by
  obtain ⟨h1, h2, h3, h4⟩ := ensCheck_in h
  have a := encI_len (n := ver) (by omega)
  have b := encI_len (n := l.length) (by omega)
  have : ∀ l : List Mb, (∀ m ∈ l, MbIn m) → (l.flatMap mbBytes).length ≤ 40 * l.length := by
    intro l
    induction l with
    | nil => intro _; simp
    | cons m l ih =>
      intro h
      have hm := h m (by simp)
      have hl := ih (fun y hy => h y (by simp [hy]))
      obtain ⟨i1, i2, i3, i4, i5, i6, i7, i8⟩ := hm
      have c1 := encI_len (n := m.id) (by omega)
      have c2 := encI_len (n := m.role) (by omega)
      have c3 := encI_len (n := m.weight) (by omega)
      have c4 := encI_len (n := m.group) (by omega)
      simp only [List.flatMap_cons, List.length_append, mbBytes, List.length_cons]
      omega
  have := this l h4
  simp only [ensBytes, List.length_append]
  omega
def tail1 (x : Im) : List UInt8 := encI x.nodes.length ++ (x.nodes.flatMap ndBytes ++ (encI x.sits.length ++ (x.sits.flatMap sgBytes ++ (encB (ensBytes x.ver x.mems) ++ (encI x.lo ++ encI x.hi)))))
theorem imBytes_cons (x : Im) : imBytes x = 1 :: tail1 x := by simp only [imBytes, tail1, List.append_assoc, List.cons_append, List.nil_append]
theorem getS_eq (b : List UInt8) : getS b = match unframe b with
    | none => none
    | some load => if b.length ≠ 8 + load.length then none else getL load := rfl
theorem getS_iff (b : List UInt8) (y : Im) : getS b = some y ↔ ∃ load, frame load = some b ∧ getL load = some y := by
  constructor
  · intro h
    rw [getS_eq] at h
    split at h
    · cases h
    · rename_i load hu
      split at h
      · cases h
      · rename_i hl
        exact ⟨load, (frame_iff b load).1 ⟨hu, by omega⟩, h⟩
  · rintro ⟨load, hf, hg⟩
    obtain ⟨hu, hl⟩ := (frame_iff b load).2 hf
    rw [getS_eq, hu]
    simp only
    rw [if_neg (by omega)]
    exact hg
theorem rdRaw_enc (x : Im) (hi : ImIn x) (hr : right x = true) : rdRaw (some (tail1 x)) = ⟨x.nodes.map normNd, x.sits, ensBytes x.ver x.mems, x.lo, x.hi, some []⟩ := by
  obtain ⟨i1, i2, i3, i4⟩ := hi
  obtain ⟨r1, r2, r3, r4⟩ := right_parts hr
  have e7 := rdInt_enc x.hi i4 []
  rw [List.append_nil] at e7
  have hb : (ensBytes x.ver x.mems).length ≤ 1048576 := by have := ensBytes_len r3; omega
  have e2 := rdNds_enc x.nodes i1 (fun n hn => ndOk_sz (r4 n hn))
  have e4 := rdSgs_enc x.sits i2
  have e5 := fun r => rdBytes_enc 1048576 (ensBytes x.ver x.mems) hb (by omega) r
  have e6 := rdInt_enc x.lo i3
  have e1 := fun r => rdCount_enc 500 x.nodes.length r1 (by omega) r
  have e3 := fun r => rdCount_enc 200 x.sits.length r2 (by omega) r
  unfold tail1
  generalize ensBytes x.ver x.mems = cfg at *
  generalize x.nodes.flatMap ndBytes = nb at *
  generalize x.sits.flatMap sgBytes = sb at *
  generalize encI x.lo = lb at *
  generalize encI x.hi = hb' at *
  unfold rdRaw
  rw [e1]
  simp only
  rw [e2]
  simp only
  rw [e3]
  simp only
  rw [e4]
  simp only
  rw [e5]
  simp only
  rw [e6]
  simp only
  rw [e7]
theorem rdRaw_inv {r : Rd} (h : (rdRaw r).rest = some []) : r = some (encI (rdRaw r).nodes.length ++ ((rdRaw r).nodes.flatMap ndBytes ++ (encI (rdRaw r).sits.length ++ ((rdRaw r).sits.flatMap sgBytes ++ (encB (rdRaw r).cfg ++ (encI (rdRaw r).lo ++ encI (rdRaw r).hi)))))) := by
  have j1 := rdInt_inv h
  rw [List.append_nil] at j1
  have j2 := rdInt_inv j1
  have j3 := rdBytes_inv j2
  obtain ⟨j4, j5⟩ := rdSgs_inv _ j3
  have j6 := rdCount_inv j4
  obtain ⟨j7, j8⟩ := rdNds_inv _ j6
  have j9 := rdCount_inv j7
  have k5 : (rdRaw r).sits.length = _ := j5
  have k8 : (rdRaw r).nodes.length = _ := j8
  rw [k5, k8]
  exact j9
theorem getL_enc (x : Im) (hi : ImIn x) (hr : right x = true) : getL (imBytes x) = some (normIm x) := by
  rw [getL, imBytes_cons]
  have e1 : rdByte (some (1 :: tail1 x)) = (1, some (tail1 x)) := rfl
  rw [e1]
  simp only
  rw [rdRaw_enc x hi hr]
  unfold fin
  simp only
  rw [ensGet_enc x.ver x.mems (right_parts hr).cfg]
  simp only
  have e9 := right_norm hr
  have e10 : normIm x = ⟨x.nodes.map normNd, x.sits, x.ver, x.mems, x.lo, x.hi⟩ := rfl
  rw [e10] at e9 ⊢
  rw [e9, if_pos ⟨trivial, trivial, rfl⟩]
theorem getL_inv {load : List UInt8} {y : Im} (h : getL load = some y) : imBytes y = load ∧ right y = true := by
  unfold getL at h
  unfold fin at h
  split at h
  · cases h
  · rename_i e he
    split at h
    · rename_i hc
      obtain ⟨c1, c2, c3⟩ := hc
      have h := Option.some.inj h
      obtain ⟨ver, mems⟩ := e
      obtain ⟨g1, g2⟩ := ensGet_inv he
      have j := rdRaw_inv c2
      refine ⟨?_, by rw [← h]; exact c3⟩
      cases load with
      | nil => cases j
      | cons c l =>
        have c1' : c = 1 := c1
        have j' := Option.some.inj j
        rw [imBytes_cons, ← h, c1']
        congr 1
        unfold tail1
        simp only
        rw [← g1]
        exact j'.symm
    · cases h

/-! what is asked of an image that is put, and of bytes that are got -/
theorem putS_ok {x : Im} {c : List UInt8} (h : putS x = (c, 0)) : right x = true ∧ frame (imBytes x) = some c := by
  unfold putS at h
  split at h
  · rename_i hr
    split at h
    · rename_i b hb
      simp only [Prod.mk.injEq] at h
      rw [h.1] at hb
      exact ⟨hr, hb⟩
    · simp at h
  · simp at h
theorem put_get {x : Im} {c : List UInt8} (hi : ImIn x) (h : putS x = (c, 0)) : getS c = some (normIm x) := by
  obtain ⟨h1, h2⟩ := putS_ok h
  exact (getS_iff c _).2 ⟨_, h2, getL_enc x hi h1⟩
theorem get_put {b : List UInt8} {y : Im} (h : getS b = some y) : putS y = (b, 0) := by
  obtain ⟨load, h1, h2⟩ := (getS_iff b y).1 h
  obtain ⟨h3, h4⟩ := getL_inv h2
  unfold putS
  rw [if_pos h4, h3, h1]
theorem get_one {p s : List UInt8} {u v : UInt8} {y z : Im} (h1 : getS (p ++ u :: s) = some y) (h2 : getS (p ++ v :: s) = some z) : u = v := by
  obtain ⟨l1, a1, _⟩ := (getS_iff _ _).1 h1
  obtain ⟨l2, a2, _⟩ := (getS_iff _ _).1 h2
  exact frame_one a1 a2
theorem get_pre {b more : List UInt8} {y z : Im} (h1 : getS b = some y) (h2 : getS (b ++ more) = some z) : more = [] := by
  obtain ⟨l1, a1, _⟩ := (getS_iff _ _).1 h1
  obtain ⟨l2, a2, _⟩ := (getS_iff _ _).1 h2
  exact frame_pre a1 a2
theorem put_len {x : Im} {c : List UInt8} (h : putS x = (c, 0)) : 8 ≤ c.length ∧ c.length ≤ 1048584 := by
  obtain ⟨h1, h2⟩ := putS_ok h
  have h3 := frame_len h2
  have h4 := (frame_parts h2).2
  omega
theorem get_set {c : List UInt8} {k : Nat} {u v : UInt8} {y : Im} (h : getS c = some y) (hk : c[k]? = some u) (huv : u ≠ v) : getS (c.set k v) = none := by
  cases hz : getS (c.set k v) with
  | none => rfl
  | some z =>
    exfalso
    obtain ⟨hlt, hu⟩ := List.getElem?_eq_some_iff.1 hk
    have e1 : c = c.take k ++ u :: c.drop (k + 1) := by
      rw [← hu, ← List.drop_eq_getElem_cons hlt, List.take_append_drop]
    have e2 : c.set k v = c.take k ++ v :: c.drop (k + 1) := by
      rw [List.set_eq_take_append_cons_drop, if_pos hlt]
    rw [e2] at hz
    rw [e1] at h
    exact huv (get_one h hz)
theorem get_cut {c : List UInt8} {k : Nat} {y : Im} (h : getS c = some y) (hk : k < c.length) : getS (c.take k) = none := by
  cases hz : getS (c.take k) with
  | none => rfl
  | some z =>
    exfalso
    have e : c.take k ++ c.drop k = c := List.take_append_drop k c
    rw [← e] at h
    have := get_pre hz h
    have h2 := congrArg List.length this
    rw [List.length_drop] at h2
    simp at h2
    omega
theorem get_more {c more : List UInt8} {y : Im} (h : getS c = some y) : (getS (c ++ more)).isSome = (more == []) := by
  cases more with
  | nil => rw [List.append_nil, h]; rfl
  | cons x l =>
    cases hz : getS (c ++ x :: l) with
    | none => rfl
    | some z => have := get_pre h hz; cases this
end Go.Proofs.YtkcpfchfpnmkpaaDoor
