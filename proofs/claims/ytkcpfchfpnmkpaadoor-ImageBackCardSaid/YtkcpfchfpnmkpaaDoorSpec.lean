/- The plain functions that the wire and image layers compute. -/
namespace Go.Proofs.YtkcpfchfpnmkpaaDoor

/-- A whole number folded to one from 0 on. -/
def zig (n : Int) : Nat := if n < 0 then (-(n + 1)).toNat * 2 + 1 else n.toNat * 2
def unzig (u : Nat) : Int := if u % 2 = 1 then -((u / 2 : Nat) : Int) - 1 else ((u / 2 : Nat) : Int)

/-- Seven bits a byte, the lowest first. -/
def vb (u : Nat) : List UInt8 := if u < 128 then [UInt8.ofNat u] else UInt8.ofNat (u % 128 + 128) :: vb (u / 128)
termination_by u
decreasing_by omega
def encI (n : Int) : List UInt8 := vb (zig n)
def encB (l : List UInt8) : List UInt8 := encI l.length ++ l

/-- What is left of the bytes that are read; none: something could not be read. -/
abbrev Rd := Option (List UInt8)

def dec (k : Nat) : List UInt8 → Option (Nat × List UInt8)
  | [] => none
  | c :: l =>
    if 127 < c.toNat ∧ k < 9 then (dec (k + 1) l).map fun x => (c.toNat % 128 + 128 * x.1, x.2)
    else if (c.toNat = 0 ∧ 0 < k) ∨ (1 < c.toNat ∧ k = 9) then none else some (c.toNat % 128, l)

def rdByte : Rd → UInt8 × Rd
  | some (c :: l) => (c, some l)
  | _ => (0, none)
def rdInt : Rd → Int × Rd
  | some l => match dec 0 l with
    | some (u, r) => (unzig u, some r)
    | none => (0, none)
  | none => (0, none)
def rdCount (most : Nat) (r : Rd) : Nat × Rd :=
  if (rdInt r).1 < 0 ∨ (most : Int) < (rdInt r).1 then (0, none) else ((rdInt r).1.toNat, (rdInt r).2)
/-- The next n bytes. -/
def rdTake (n : Nat) : Rd → List UInt8 × Rd
  | some l => if n ≤ l.length then (l.take n, some (l.drop n)) else ([], none)
  | none => ([], none)
def takeI (n : Int) (r : Rd) : List UInt8 × Rd := if n < 0 then ([], none) else rdTake n.toNat r
def rdBytes (most : Nat) (r : Rd) : List UInt8 × Rd := rdTake (rdCount most r).1 (rdCount most r).2

/-- The checksum, bit by bit. -/
def crcBit (c : Nat) : Nat := if c % 2 = 1 then (c / 2) ^^^ 0xEDB88320 else c / 2
def crcBits : Nat → Nat → Nat
  | 0, c => c
  | k + 1, c => crcBits k (crcBit c)
def crcByte (c : Nat) (x : UInt8) : Nat := crcBits 8 (c ^^^ x.toNat)
def crcFold (l : List UInt8) : Nat := l.foldl crcByte 4294967295
def crc (l : List UInt8) : Nat := 4294967295 - crcFold l

def le4 (n : Nat) : List UInt8 := [UInt8.ofNat n, UInt8.ofNat (n / 256), UInt8.ofNat (n / 65536), UInt8.ofNat (n / 16777216)]
def un4 (l : List UInt8) : Nat := (l.getD 0 0).toNat + (l.getD 1 0).toNat * 256 + (l.getD 2 0).toNat * 65536 + (l.getD 3 0).toNat * 16777216

def frame (l : List UInt8) : Option (List UInt8) := if l.length ≤ 1048576 then some (le4 l.length ++ le4 (crc l) ++ l) else none
/-- The load of the frame that bytes begin with; its length with the head. -/
def unframe (b : List UInt8) : Option (List UInt8) :=
  if b.length < 8 then none
  else if 1048576 < un4 b ∨ b.length - 8 < un4 b ∨ crc ((b.drop 8).take (un4 b)) ≠ un4 (b.drop 4) then none
  else some ((b.drop 8).take (un4 b))

/-! configs -/
structure Mb where
  id : Int
  role : Int
  weight : Int
  group : Int
  deriving DecidableEq, Repr

def mbFits (last : Int) (m : Mb) : Bool :=
  if m.id ≤ last ∨ 7 < m.id then false
  else if m.role = 2 then m.weight = 0 ∧ m.group = 0
  else m.role = 1 ∧ 0 ≤ m.weight ∧ m.weight ≤ 1000 ∧ 0 ≤ m.group ∧ m.group < 7
def mbsFit : Int → List Mb → Bool
  | _, [] => true
  | last, m :: l => mbFits last m && mbsFit m.id l
def weight (l : List Mb) : Int := (l.map (·.weight)).sum
/-- 0: it may be. -/
def ensCheck (ver : Int) (l : List Mb) : Int :=
  if 7 < l.length then 3 else if mbsFit 0 l = false then 140 else if weight l = 0 ∨ ver < 0 ∨ 4611686018427387904 < ver then 140 else 0
def mbBytes (m : Mb) : List UInt8 := encI m.id ++ encI m.role ++ encI m.weight ++ encI m.group
def ensBytes (ver : Int) (l : List Mb) : List UInt8 := encI ver ++ encI l.length ++ l.flatMap mbBytes
def rdMb (r : Rd) : Mb × Rd :=
  let a := rdCount 7 r
  let b := rdCount 2 a.2
  let c := rdCount 1000 b.2
  let d := rdCount 7 c.2
  (⟨a.1, b.1, c.1, d.1⟩, d.2)
def rdMbs : Nat → Rd → List Mb × Rd
  | 0, r => ([], r)
  | n + 1, r => let a := rdMb r; let b := rdMbs n a.2; (a.1 :: b.1, b.2)
/-- The config of bytes. -/
def ensGet (b : List UInt8) : Option (Int × List Mb) :=
  let a := rdInt (some b)
  let n := rdCount 7 a.2
  let l := rdMbs n.1 n.2
  if l.2 = some [] ∧ ensCheck a.1 l.1 = 0 then some (a.1, l.1) else none

/-! paths -/
def partOk (s : List UInt8) : Bool := s.all (fun c => 33 ≤ c.toNat && c.toNat ≤ 126 && c.toNat != 47) && s != [] && s != [46] && s != [46, 46]
/-- The parts behind the first slash. -/
def cut47 : List UInt8 → List UInt8 × Option (List UInt8)
  | [] => ([], none)
  | c :: l => if c = 47 then ([], some l) else ((c :: (cut47 l).1), (cut47 l).2)
theorem cut47_lt (l : List UInt8) : ∀ r, (cut47 l).2 = some r → r.length < l.length := by
  induction l with
  | nil => intro r h; simp [cut47] at h
  | cons c l ih =>
    intro r h
    simp only [cut47] at h
    split at h
    · simp at h; subst h; simp
    · have := ih r h; simp; omega
def partsOf (l : List UInt8) : List (List UInt8) :=
  match h : (cut47 l).2 with
  | none => [(cut47 l).1]
  | some r => (cut47 l).1 :: partsOf r
termination_by l.length
decreasing_by exact cut47_lt l r h
def pathOk (p : List UInt8) : Bool :=
  match p with
  | [] => false
  | c :: l => c == 47 && decide (p.length ≤ 200) && (l == [] || (partsOf l).all partOk)

/-! images -/
structure Nd where
  path : ByteArray
  data : List UInt8
  czxid : Int
  mzxid : Int
  pzxid : Int
  ctime : Int
  mtime : Int
  version : Int
  cversion : Int
  owner : Int
  length : Int
  children : Int
  deriving DecidableEq
structure Sg where
  session : Int
  timeout : Int
  turn : Int
  deriving DecidableEq
structure Im where
  nodes : List Nd
  sits : List Sg
  ver : Int
  mems : List Mb
  lo : Int
  hi : Int
  deriving DecidableEq

def Nd.stat8 (n : Nd) : List Int := [n.czxid, n.mzxid, n.pzxid, n.ctime, n.mtime, n.version, n.cversion, n.owner]
def lessB : List UInt8 → List UInt8 → Bool
  | _, [] => false
  | [], _ :: _ => true
  | a :: l, b :: r => if a < b then true else if b < a then false else lessB l r
def ndOk (n : Nd) : Bool := pathOk n.path.data.toList && decide (n.data.length ≤ 1000) && decide (0 ≤ n.length) && decide (0 ≤ n.children) && n.stat8.all (fun x => decide (0 ≤ x))
def ndsRise : List Nd → Bool
  | a :: b :: l => lessB a.path.data.toList b.path.data.toList && ndsRise (b :: l)
  | _ => true
def sgsOk : Int → List Sg → Bool
  | _, [] => true
  | last, s :: l => decide (last < s.session) && decide (0 ≤ s.timeout) && decide (0 ≤ s.turn) && sgsOk s.session l
def right (x : Im) : Bool :=
  (match x.nodes with | [] => false | n :: _ => n.path.data.toList == [47]) && decide (x.nodes.length ≤ 500) && decide (x.sits.length ≤ 200) && (ensCheck x.ver x.mems == 0) && decide (0 ≤ x.lo) && decide (x.lo ≤ x.hi) &&
    x.nodes.all ndOk && ndsRise x.nodes && sgsOk 0 x.sits

def ndBytes (n : Nd) : List UInt8 := encB n.path.data.toList ++ encB n.data ++ n.stat8.flatMap encI
def sgBytes (s : Sg) : List UInt8 := encI s.session ++ encI s.timeout ++ encI s.turn
def imBytes (x : Im) : List UInt8 :=
  [1] ++ encI x.nodes.length ++ x.nodes.flatMap ndBytes ++ encI x.sits.length ++ x.sits.flatMap sgBytes ++ encB (ensBytes x.ver x.mems) ++ encI x.lo ++ encI x.hi
/-- The bytes; the error. -/
def putS (x : Im) : List UInt8 × Int :=
  if right x then (match frame (imBytes x) with | some b => (b, 0) | none => ([], 3)) else ([], 4)

def rdNd (r : Rd) : Nd × Rd :=
  let p := rdBytes 200 r
  let d := rdBytes 1000 p.2
  let a := rdInt d.2
  let b := rdInt a.2
  let c := rdInt b.2
  let e := rdInt c.2
  let f := rdInt e.2
  let g := rdInt f.2
  let h := rdInt g.2
  let i := rdInt h.2
  (⟨⟨p.1.toArray⟩, d.1, a.1, b.1, c.1, e.1, f.1, g.1, h.1, i.1, d.1.length, 0⟩, i.2)
def rdNds : Nat → Rd → List Nd × Rd
  | 0, r => ([], r)
  | n + 1, r => let a := rdNd r; let b := rdNds n a.2; (a.1 :: b.1, b.2)
def rdSg (r : Rd) : Sg × Rd :=
  let a := rdInt r
  let b := rdInt a.2
  let c := rdInt b.2
  (⟨a.1, b.1, c.1⟩, c.2)
def rdSgs : Nat → Rd → List Sg × Rd
  | 0, r => ([], r)
  | n + 1, r => let a := rdSg r; let b := rdSgs n a.2; (a.1 :: b.1, b.2)
/-- What is read behind the first byte. -/
structure Raw where
  nodes : List Nd
  sits : List Sg
  cfg : List UInt8
  lo : Int
  hi : Int
  rest : Rd
def rdRaw (r : Rd) : Raw :=
  let n := rdCount 500 r
  let ns := rdNds n.1 n.2
  let m := rdCount 200 ns.2
  let ss := rdSgs m.1 m.2
  let c := rdBytes 1048576 ss.2
  let lo := rdInt c.2
  let hi := rdInt lo.2
  ⟨ns.1, ss.1, c.1, lo.1, hi.1, hi.2⟩
def fin (c : UInt8) (x : Raw) : Option Im :=
  match ensGet x.cfg with
  | none => none
  | some e => if c = 1 ∧ x.rest = some [] ∧ right ⟨x.nodes, x.sits, e.1, e.2, x.lo, x.hi⟩ then some ⟨x.nodes, x.sits, e.1, e.2, x.lo, x.hi⟩ else none
/-- The image of a frame's load. -/
def getL (load : List UInt8) : Option Im := fin (rdByte (some load)).1 (rdRaw (rdByte (some load)).2)
def getS (b : List UInt8) : Option Im :=
  match unframe b with
  | none => none
  | some load => if b.length ≠ 8 + load.length then none else getL load

end Go.Proofs.YtkcpfchfpnmkpaaDoor
