/- The typed machine: an evaluator of the abstract machine's code over typed values, in the continuation style. Definitions only. -/
import Derived.Test.YtmbkcjnjjlkidaaGreatDoorK3
set_option linter.all false
namespace Go.Am

/-- Codes of pure types. -/
inductive SC where
  | int (k : IntKind)
  | bool
  | str
  | st (n : Nat)
  | sl (c : SC)
  deriving DecidableEq

def SC.D (U : Nat → Type) : SC → Type
  | .int _ => Int
  | .bool => Bool
  | .str => ByteArray
  | .st n => U n
  | .sl c => List (c.D U)

inductive XV (U : Nat → Type) where
  | v (c : SC) (x : c.D U)
  | kb (b : Bool)
  | lin (c : SC) (xs : List (c.D U)) (t : Nat)
  | el (c : SC) (x : c.D U) (off : Nat)
  | ms (b : Nat) (c : SC) (lo n : Nat)
  | mel (b : Nat) (c : SC) (i off : Nat)
  | ptr (b off : Nat)
  | raw (a : AV)
  | fn (f : Fn) (first cap : List (XV U))
  | ifc (t : Nat) (v : XV U)
  | agg (cs : List (XV U))
  | tup (vs : List (XV U))

structure Univ where
  U : Nat → Type
  size : Nat → Nat
  cells : (n : Nat) → U n → List (XV U)
  of : (n : Nat) → List (XV U) → Option (U n)
  enc : (n : Nat) → U n → AV

def encD (W : Univ) : (c : SC) → c.D W.U → AV
  | .int k, x => .int k x
  | .bool, b => .bool b
  | .str, s => .str s
  | .st n, x => W.enc n x
  | .sl c, xs => .sl (xs.map (encD W c)) .dead

/-! The words that a residue is made of. -/
def addI (k : IntKind) (a b : Int) : Int := k.wrap (a + b)
def subI (k : IntKind) (a b : Int) : Int := k.wrap (a - b)
def mulI (k : IntKind) (a b : Int) : Int := k.wrap (a * b)
def quoI (k : IntKind) (a b : Int) : Int := k.wrap (a.tdiv b)
def remI (a b : Int) : Int := a.tmod b
def andI (k : IntKind) (a b : Int) : Int := k.wrap (BitVec.ofInt k.bits a &&& BitVec.ofInt k.bits b).toNat
def orI (k : IntKind) (a b : Int) : Int := k.wrap (BitVec.ofInt k.bits a ||| BitVec.ofInt k.bits b).toNat
def xorI (k : IntKind) (a b : Int) : Int := k.wrap (BitVec.ofInt k.bits a ^^^ BitVec.ofInt k.bits b).toNat
def andNotI (k : IntKind) (a b : Int) : Int := k.wrap (BitVec.ofInt k.bits a &&& ~~~(BitVec.ofInt k.bits b)).toNat
def shlI (k : IntKind) (x y : Int) : Int := k.wrap (x * 2 ^ (min y.toNat k.bits))
def shrI (k : IntKind) (x y : Int) : Int := x.fdiv (2 ^ (min y.toNat k.bits))
def negI (k : IntKind) (a : Int) : Int := k.wrap (0 - a)
def notI (k : IntKind) (a : Int) : Int := xorI k (if k.signed then -1 else k.max) a
def wrapI (k : IntKind) (a : Int) : Int := k.wrap a
def eqI (a b : Int) : Bool := a == b
def neI (a b : Int) : Bool := a != b
def ltI (a b : Int) : Bool := decide (a < b)
def leI (a b : Int) : Bool := decide (a ≤ b)
def gtI (a b : Int) : Bool := decide (a > b)
def geI (a b : Int) : Bool := decide (a ≥ b)
def eqB (a b : Bool) : Bool := a == b
def neB (a b : Bool) : Bool := !(a == b)
def notB (a : Bool) : Bool := !a
def andB (a b : Bool) : Bool := a && b
def pickB (c a b : Bool) : Bool := match c with
  | true => a
  | false => b
def catS (x y : ByteArray) : ByteArray := x ++ y
def catOk (x y : ByteArray) : Bool := !(decide (((x.size + y.size : Nat) : Int) > IntKind.i64.max))
def eqS (x y : ByteArray) : Bool := x.toList == y.toList
def neS (x y : ByteArray) : Bool := !(x.toList == y.toList)
def ltS (x y : ByteArray) : Bool := Op.bytesLess x.toList y.toList
def leS (x y : ByteArray) : Bool := Op.bytesLess x.toList y.toList || x.toList == y.toList
def gtS (x y : ByteArray) : Bool := !(Op.bytesLess x.toList y.toList || x.toList == y.toList)
def geS (x y : ByteArray) : Bool := !(Op.bytesLess x.toList y.toList)
def lenS (s : ByteArray) : Int := (s.size : Nat)
def lenL {α : Type} (xs : List α) : Int := (xs.length : Nat)
def natI (n : Nat) : Int := (n : Int)
def minI (x y : Int) : Int := if y < x then y else x
def maxI (x y : Int) : Int := if y > x then y else x
def bytesL (s : ByteArray) : List Int := s.data.toList.map fun b => (b.toNat : Int)
def strB (xs : List Int) : ByteArray := ⟨(xs.map fun n => UInt8.ofNat n.toNat).toArray⟩
def bndOk (len lo hi : Int) : Bool := decide (0 ≤ lo) && decide (lo ≤ hi) && decide (hi ≤ len)
def subS (s : ByteArray) (lo hi : Int) : ByteArray := s.extract lo.toNat hi.toNat
def subL {α : Type} (xs : List α) (lo hi : Int) : List α := (xs.drop lo.toNat).take (hi.toNat - lo.toNat)
def room (bytes n : Nat) : Bool := decide (n * bytes ≤ 2 ^ 47) && decide (n < 2 ^ 62)
def catL {α : Type} (xs ys : List α) : List α := xs ++ ys
def inR (i : Int) (n : Nat) : Bool := decide (0 ≤ i) && decide (i < (n : Int))
def posN (i : Int) : Nat := i.toNat
def addN (a b : Nat) : Nat := a + b
def subN (a b : Nat) : Nat := a - b
def leN (a b : Nat) : Bool := decide (a ≤ b)
def eqN (a b : Nat) : Bool := Nat.beq a b
def nilL {α : Type} (xs : List α) : Bool := xs.isEmpty
def setL {α : Type} (xs : List α) (i : Nat) (x : α) : List α := xs.set i x
def cutL {α : Type} (xs : List α) (lo n : Nat) : List α := (xs.drop lo).take n
def atN {α : Type} (xs : List α) (i : Nat) : Option α := xs[i]?
def repL {α : Type} (n : Nat) (x : α) : List α := List.replicate n x
def makeOk (n m : Int) (bytes : Nat) : Bool := decide (0 ≤ n) && decide (n ≤ m) && decide (m < 2 ^ 46) && decide (m.toNat * bytes ≤ 2 ^ 47)
def lenN {α : Type} (xs : List α) : Nat := xs.length

section
variable {ρ : Type}
def brB (c : Bool) (t e : Option ρ) : Option ρ := match c with
  | true => t
  | false => e
def chk (c : Bool) (t : Option ρ) : Option ρ := match c with
  | true => t
  | false => none
def bindO {α : Type} (m : Option α) (K : α → Option ρ) : Option ρ := match m with
  | some x => K x
  | none => none
def atL {α : Type} (xs : List α) (i : Int) : Option α := match decide (0 ≤ i) with
  | true => xs[i.toNat]?
  | false => none
def atS (s : ByteArray) (i : Int) : Option Int := match (if 0 ≤ i then s[i.toNat]? else none) with
  | some b => some (b.toNat : Int)
  | none => none
end

/-- A block: cells, or a row of elements. -/
inductive XB (U : Nat → Type) where
  | cells (cs : List (XV U))
  | arr (c : SC) (xs : List (c.D U))

abbrev XEnv (U : Nat → Type) := List (Nat × XV U)
structure XSt (U : Nat → Type) where
  heap : List (XB U)
  nt : Nat

def xget {U : Nat → Type} : XEnv U → Nat → Option (XV U)
  | [], _ => none
  | (k, x) :: r, t => match Nat.beq t k with
    | true => some x
    | false => xget r t

structure XP where
  T : Tr TI
  nx : Nat
  W : Univ
  stt : List (Nat × Nat)

def lookN : List (Nat × Nat) → Nat → Option Nat
  | [], _ => none
  | (k, x) :: r, t => match Nat.beq t k with
    | true => some x
    | false => lookN r t

def codeOf (T : Tr TI) (stt : List (Nat × Nat)) : Nat → Nat → Option SC
  | 0, _ => none
  | f + 1, t => match lookN stt t with
    | some n => some (.st n)
    | none => match T.get t with
      | some ti => match ti.kd with
        | .bool => some .bool
        | .int k => some (.int k)
        | .str => some .str
        | .slice e => match codeOf T stt f e with
          | some c => some (.sl c)
          | none => none
        | _ => none
      | none => none

section
variable {W : Univ}

def scSize (W : Univ) : SC → Nat
  | .st n => W.size n
  | _ => 1
def scAgg : SC → Bool
  | .st _ => true
  | _ => false

/-- A constant. -/
def xof : AV → Option (XV W.U)
  | .bool b => some (.kb b)
  | .int k n => some (.v (.int k) n)
  | .str s => some (.v .str s)
  | .nilp => some (.raw .nilp)
  | .nils => some (.raw .nils)
  | .nilm => some (.raw .nilm)
  | .nilf => some (.raw .nilf)
  | .nili => some (.raw .nili)
  | _ => none

def xofs : List AV → Option (List (XV W.U))
  | [] => some []
  | a :: asq => match xof (W := W) a, xofs asq with
    | some x, some xs => some (x :: xs)
    | _, _ => none

def xofV (a : AV) : Option (XV W.U) := match a with
  | .agg cs => match xofs (W := W) cs with
    | some xs => some (.agg xs)
    | none => none
  | a => xof a

/-- The cells of a value. -/
def xcells : XV W.U → List (XV W.U)
  | .v c x => match c, x with
    | .st n, x => W.cells n x
    | c, x => [.v c x]
  | .agg cs => cs
  | x => [x]

def xflat : XV W.U → Bool
  | .v c _ => match c with
    | .st _ => false
    | _ => true
  | .raw a => match a with
    | .tup _ => false
    | _ => true
  | .agg _ => false
  | .tup _ => false
  | _ => true

def xisAgg : XV W.U → Bool
  | .v c _ => scAgg c
  | .agg _ => true
  | _ => false

/-- A value of a code. -/
def castD {U : Nat → Type} (c' c : SC) (x : c'.D U) : Option (c.D U) := if h : c' = c then some (h ▸ x) else none

def asFlatU {U : Nat → Type} (c : SC) : XV U → Option (c.D U)
  | .v c' x => castD c' c x
  | .kb b => castD .bool c b
  | .lin c' xs _ => castD (.sl c') c xs
  | .raw .nils => match c with
    | .sl _ => some []
    | _ => none
  | _ => none
def asFlat (c : SC) (x : XV W.U) : Option (c.D W.U) := asFlatU c x

def asAgg (c : SC) (cs : List (XV W.U)) : Option (c.D W.U) := match c with
  | .st n => W.of n cs
  | _ => none
def asD (c : SC) (x : XV W.U) : Option (c.D W.U) := match x with
  | .agg cs => asAgg c cs
  | x => asFlat c x

def xev (e : XEnv W.U) : Operand → Option (XV W.U)
  | .tmp t => xget e t
  | .const v => match ofV 8 v with
    | some a => xofV a
    | none => none
  | .global _ => none
  | .func f => some (.fn (.func f) [] [])

def xevs (e : XEnv W.U) : List Operand → Option (List (XV W.U))
  | [] => some []
  | x :: xs => match xev e x, xevs e xs with
    | some a, some asq => some (a :: asq)
    | _, _ => none

def xevParts (e : XEnv W.U) : List (Nat × Operand) → Option (List (Nat × XV W.U))
  | [] => some []
  | (i, x) :: xs => match xev e x, xevParts e xs with
    | some a, some asq => some ((i, a) :: asq)
    | _, _ => none

def xblk (P : XP) (X : XSt P.W.U) (b : Nat) : Option (List (XV P.W.U)) := match Nat.ble P.nx b with
  | true => match X.heap[b - P.nx]? with
    | some (.cells cs) => some cs
    | _ => none
  | false => none

/-- The elements of a block that is a row. -/
def xarr (P : XP) (X : XSt P.W.U) (b : Nat) (c : SC) : Option (List (c.D P.W.U)) := match Nat.ble P.nx b with
  | true => match X.heap[b - P.nx]? with
    | some (.arr c' xs) => castD (.sl c') (.sl c) xs
    | _ => none
  | false => none

/-- The elements of a slice, and its tag. -/
def asList (c : SC) : XV W.U → Option (List (c.D W.U))
  | .v c' xs => castD c' (.sl c) xs
  | .lin c' xs _ => castD (.sl c') (.sl c) xs
  | .raw .nils => some []
  | _ => none
end

section
variable {ρ : Type}

def xbinI {U : Nat → Type} (op : BinOp) (k : IntKind) (a b : Int) (K : XV U → Option ρ) : Option ρ := match op with
  | .add => K (.v (.int k) (addI k a b))
  | .sub => K (.v (.int k) (subI k a b))
  | .mul => K (.v (.int k) (mulI k a b))
  | .quo => chk (neI b 0) (K (.v (.int k) (quoI k a b)))
  | .rem => chk (neI b 0) (K (.v (.int k) (remI a b)))
  | .and => K (.v (.int k) (andI k a b))
  | .or => K (.v (.int k) (orI k a b))
  | .xor => K (.v (.int k) (xorI k a b))
  | .andNot => K (.v (.int k) (andNotI k a b))
  | .eql => K (.v .bool (eqI a b))
  | .neq => K (.v .bool (neI a b))
  | .lss => K (.v .bool (ltI a b))
  | .leq => K (.v .bool (leI a b))
  | .gtr => K (.v .bool (gtI a b))
  | .geq => K (.v .bool (geI a b))
  | _ => none

def xshift {U : Nat → Type} (op : BinOp) (k : IntKind) (x y : Int) (K : XV U → Option ρ) : Option ρ := match op with
  | .shl => chk (leI 0 y) (K (.v (.int k) (shlI k x y)))
  | .shr => chk (leI 0 y) (K (.v (.int k) (shrI k x y)))
  | _ => none

def xbinS {U : Nat → Type} (op : BinOp) (a b : ByteArray) (K : XV U → Option ρ) : Option ρ := match op with
  | .add => chk (catOk a b) (K (.v .str (catS a b)))
  | .eql => K (.v .bool (eqS a b))
  | .neq => K (.v .bool (neS a b))
  | .lss => K (.v .bool (ltS a b))
  | .leq => K (.v .bool (leS a b))
  | .gtr => K (.v .bool (gtS a b))
  | .geq => K (.v .bool (geS a b))
  | _ => none

def isShift : BinOp → Bool
  | .shl => true
  | .shr => true
  | _ => false

def xasB {U : Nat → Type} : XV U → Option Bool
  | .v c x => match c, x with
    | .bool, b => some b
    | _, _ => none
  | .kb b => some b
  | _ => none
def xasI {U : Nat → Type} : XV U → Option (IntKind × Int)
  | .v c x => match c, x with
    | .int k, b => some (k, b)
    | _, _ => none
  | _ => none
def xasS {U : Nat → Type} : XV U → Option ByteArray
  | .v c x => match c, x with
    | .str, b => some b
    | _, _ => none
  | _ => none

/-- Is it nil, at a type that may be? -/
def xnil {U : Nat → Type} (kd : TK) : XV U → Option Bool
  | .raw a => match kd, a with
    | .ptr _, .nilp => some true
    | .slice _, .nils => some true
    | .map _ _, .nilm => some true
    | .func, .nilf => some true
    | .iface, .nili => some true
    | _, _ => none
  | .ptr _ _ => match kd with
    | .ptr _ => some false
    | _ => none
  | .el _ _ _ => match kd with
    | .ptr _ => some false
    | _ => none
  | .fn _ _ _ => match kd with
    | .func => some false
    | _ => none
  | .ms _ _ _ _ => match kd with
    | .slice _ => some false
    | _ => none
  | .mel _ _ _ _ => match kd with
    | .ptr _ => some false
    | _ => none
  | _ => none

def isRaw {U : Nat → Type} : XV U → Bool
  | .raw _ => true
  | _ => false

/-- Comparison with nil: one side is the literal. -/
def xeq {U : Nat → Type} (T : Tr TI) (t : Nat) (ox oy : Operand) (x y : XV U) : Option Bool :=
  match T.get t with
  | none => none
  | some ti => match ti.kd with
    | .bool => match xasB x, xasB y with
      | some a, some b => some (eqB a b)
      | _, _ => none
    | kd => match isConstO ox || isConstO oy, isRaw x || isRaw y, xnil kd x, xnil kd y with
      | true, true, some a, some b => some (a && b)
      | _, _, _, _ => none

def xkb {U : Nat → Type} (T : Tr TI) (t : Nat) (b : Bool) : XV U := match T.get t with
  | some ti => match ti.kd with
    | .bool => .v .bool b
    | _ => .kb b
  | none => .kb b

def xbin {U : Nat → Type} (T : Tr TI) (op : BinOp) (t : Nat) (ox oy : Operand) (x y : XV U) (K : XV U → Option ρ) : Option ρ :=
  match xasI x, xasI y with
  | some (k, a), some (j, b) => match isShift op with
    | true => xshift op k a b K
    | false => match decide (k = j) with
      | true => xbinI op k a b K
      | false => none
  | _, _ => match xasS x, xasS y with
    | some a, some b => xbinS op a b K
    | _, _ => match op with
      | .eql => match xeq T t ox oy x y with
        | some b => K (xkb T t b)
        | none => none
      | .neq => match xeq T t ox oy x y with
        | some b => K (xkb T t (notB b))
        | none => none
      | _ => none

def xun {U : Nat → Type} (op : UnOp) (x : XV U) (K : XV U → Option ρ) : Option ρ :=
  match op with
  | .not => match x with
    | .kb b => K (.kb (!b))
    | x => match xasB x with
      | some b => K (.v .bool (notB b))
      | none => none
  | .neg => match xasI x with
    | some (k, n) => K (.v (.int k) (negI k n))
    | none => none
  | .xor => match xasI x with
    | some (k, n) => K (.v (.int k) (notI k n))
    | none => none
  | _ => none

/-- A part of an element. -/
def xelem {W : Univ} (ti : TI) (c : SC) (x : c.D W.U) (off : Nat) (K : XV W.U → Option ρ) : Option ρ := match ti.agg with
  | true => match scAgg c && Nat.beq off 0 && Nat.beq ti.size (scSize W c) with
    | true => K (.v c x)
    | false => match decide (off + ti.size ≤ (xcells (.v c x) : List (XV W.U)).length) with
      | true => K (.agg (((xcells (.v c x)).drop off).take ti.size))
      | false => none
  | false => match (xcells (.v c x) : List (XV W.U))[off]? with
    | some v => K v
    | none => none

def xload (P : XP) (X : XSt P.W.U) (t : Nat) (p : XV P.W.U) (K : XV P.W.U → Option ρ) : Option ρ :=
  match P.T.get t with
  | none => none
  | some ti => match p with
    | .ptr b off => match xblk P X b with
      | some cs => match ti.agg with
        | true => match decide (off + ti.size ≤ cs.length) with
          | true => K (.agg ((cs.drop off).take ti.size))
          | false => none
        | false => match cs[off]? with
          | some v => K v
          | none => none
      | none => none
    | .el c x off => xelem ti c x off K
    | .mel b c i off => match xarr P X b c with
      | some xs => bindO (atN xs i) fun x => xelem ti c x off K
      | none => none
    | _ => none

def xpart (P : XP) (ty : Nat) (cs : List (XV P.W.U)) (off : Nat) : Option (XV P.W.U) :=
  match P.T.get ty with
  | none => none
  | some ti => match ti.agg with
    | true => some (.agg ((cs.drop off).take ti.size))
    | false => cs[off]?

def xfill {U : Nat → Type} (cellsF : XV U → List (XV U)) (place : Nat → Option (Nat × Nat)) : List (XV U) → List (Nat × XV U) → Option (List (XV U))
  | cs, [] => some cs
  | cs, (i, v) :: rest => match place i with
    | none => none
    | some (off, size) => match Nat.beq (cellsF v).length size && decide (off + size ≤ cs.length) with
      | true => xfill cellsF place (cs.take off ++ cellsF v ++ cs.drop (off + (cellsF v).length)) rest
      | false => none

def xbuild (P : XP) (t : Nat) (ps : List (Nat × XV P.W.U)) : Option (XV P.W.U) :=
  match P.T.get t with
  | some ti => match xofs (W := P.W) (cellsOf ti.zero) with
    | some z => match ti.kd with
      | .struct fs => match fs.all (fun f => (P.T.get f.2.1).isSome), xfill xcells (fieldSize P.T fs) z ps with
        | true, some cs => some (.agg cs)
        | _, _ => none
      | .arr _ e => match P.T.get e with
        | some te => match xfill xcells (fun i => some (i * te.size, te.size)) z ps with
          | some cs => some (.agg cs)
          | none => none
        | none => none
      | _ => none
    | none => none
  | none => none

def xset {U : Nat → Type} (asF : (c : SC) → XV U → Option (c.D U)) (c : SC) (xs : List (c.D U)) : List (Nat × XV U) → Option (List (c.D U))
  | [] => some xs
  | (i, v) :: rest => match decide (i < xs.length), asF c v with
    | true, some x => xset asF c (xs.set i x) rest
    | _, _ => none

def xelems (P : XP) (t len : Nat) (ps : List (Nat × XV P.W.U)) : Option (XV P.W.U) :=
  match P.T.get t with
  | some ti => match ti.kd with
    | .slice e => match P.T.get e, codeOf P.T P.stt 6 e with
      | some te, some c => match decide (0 < te.size) && decide (len * te.size ≤ 2 ^ 24) && Nat.beq te.size (scSize P.W c) && (te.agg == scAgg c), xofV te.zero with
        | true, some z => match asD c z with
          | some z => match xset (fun c v => asD c v) c (List.replicate len z) ps with
            | some xs => some (.lin c xs 0)
            | none => none
          | none => none
        | _, _ => none
      | _, _ => none
    | _ => none
  | none => none

def xconv (P : XP) (X : XSt P.W.U) (src dst : Nat) (x : XV P.W.U) (K : XV P.W.U → Option ρ) : Option ρ :=
  match P.T.get src, P.T.get dst with
  | some ts, some td => match td.kd with
    | .int k => match xasI x with
      | some (_, n) => K (.v (.int k) (wrapI k n))
      | none => none
    | .str => match xasS x with
      | some s => K (.v .str s)
      | none => match ts.kd with
        | .slice e => match P.T.get e with
          | some te => match te.kd with
            | .int .u8 => match x with
              | .ms b (.int .u8) lo n => match xarr P X b (.int .u8) with
                | some xs => chk (leN (addN lo n) (lenN xs)) (K (.v .str (strB (cutL xs lo n))))
                | none => none
              | x => match asList (.int .u8) x with
                | some xs => K (.v .str (strB xs))
                | none => none
            | _ => none
          | none => none
        | _ => none
    | .slice e => match ts.kd, P.T.get e, xasS x with
      | .str, some te, some s => match te.kd with
        | .int .u8 => K (.v (.sl (.int .u8)) (bytesL s))
        | _ => none
      | _, _, _ => none
    | _ => none
  | _, _ => none

def xbound {U : Nat → Type} (x : Option (XV U)) (dflt : Int) : Option Int := match x with
  | none => some dflt
  | some v => match xasI v with
    | some (_, n) => some n
    | none => none

def xevOpt {W : Univ} (e : XEnv W.U) : Option Operand → Option (Option (XV W.U))
  | none => some none
  | some x => match xev e x with
    | some a => some (some a)
    | none => none

def xslice (P : XP) (t : Nat) (x : XV P.W.U) (lo hi : Option (XV P.W.U)) (K : XV P.W.U → Option ρ) : Option ρ :=
  match P.T.get t with
  | none => none
  | some ti => match ti.kd with
    | .str => match xasS x with
      | some s => match xbound hi (lenS s) with
        | some h => match xbound lo 0 with
          | some l => chk (bndOk (lenS s) l h) (K (.v .str (subS s l h)))
          | none => none
        | none => none
      | none => none
    | .slice e => match P.T.get e, codeOf P.T P.stt 6 e with
      | some te, some c => match Nat.beq te.size (scSize P.W c) with
        | true => match x with
          | .ms b c' lo0 n => match decide (c' = c) with
            | true => match xbound hi (natI n) with
              | some h => match xbound lo 0 with
                | some l => chk (bndOk (natI n) l h) (brB (eqI l h) (K (.v (.sl c) [])) (K (.ms b c (addN lo0 (posN l)) (subN (posN h) (posN l)))))
                | none => none
              | none => none
            | false => none
          | x => match asList c x with
            | some xs => match xbound hi (lenL xs) with
              | some h => match xbound lo 0 with
                | some l => chk (bndOk (lenL xs) l h) (K (.v (.sl c) (subL xs l h)))
                | none => none
              | none => none
            | none => none
        | false => none
      | _, _ => none
    | _ => none

/-- A part of an array by a number: each place in turn. -/
def xcases (i : Int) (f : Nat → Option ρ) : Nat → Nat → Option ρ
  | 0, _ => none
  | n + 1, j => brB (eqI i (j : Nat)) (f j) (xcases i f n (j + 1))

def xidxA (P : XP) (t : Nat) (x ix : XV P.W.U) (K : XV P.W.U → Option ρ) : Option ρ :=
  match P.T.get t, xasI ix with
  | some ti, some (_, i) => match ti.kd with
    | .slice e => match P.T.get e, codeOf P.T P.stt 6 e with
      | some te, some c => match Nat.beq te.size (scSize P.W c) with
        | true => match x with
          | .ms b c' lo n => match decide (c' = c) with
            | true => chk (inR i n) (K (.mel b c (addN lo (posN i)) 0))
            | false => none
          | x => match asList c x with
            | some xs => bindO (atL xs i) fun y => K (.el c y 0)
            | none => none
        | false => none
      | _, _ => none
    | .arr n e => match x, P.T.get e with
      | .ptr b off, some te => xcases i (fun j => K (.ptr b (off + j * te.size))) n 0
      | _, _ => none
    | _ => none
  | _, _ => none

def xidx (P : XP) (t : Nat) (x ix : XV P.W.U) (K : XV P.W.U → Option ρ) : Option ρ :=
  match P.T.get t, xasI ix with
  | some ti, some (_, i) => match ti.kd with
    | .str => match xasS x with
      | some s => bindO (atS s i) fun y => K (.v (.int .u8) y)
      | none => none
    | .arr n e => match P.T.get e, xisAgg x with
      | some te, true => xcases i (fun j => match xpart P e (xcells x) (j * te.size) with
        | some v => K v
        | none => none) n 0
      | _, _ => none
    | _ => none
  | _, _ => none

def xfieldAddr (P : XP) (s : Nat) (p : XV P.W.U) (f : Nat) : Option (XV P.W.U) :=
  match P.T.get s with
  | some ti => match ti.kd with
    | .struct fs => match fieldSize P.T fs f with
      | some (off, size) => match Nat.beq size 0 with
        | true => none
        | false => match p with
          | .ptr b o => some (.ptr b (o + off))
          | .el c x o => some (.el c x (o + off))
          | .mel b c i o => some (.mel b c i (o + off))
          | _ => none
      | none => none
    | _ => none
  | none => none

def xfield (P : XP) (s : Nat) (x : XV P.W.U) (f : Nat) : Option (XV P.W.U) :=
  match P.T.get s with
  | some ti => match ti.kd with
    | .struct fs => match xisAgg x, fs[f]? with
      | true, some (off, ty, _) => xpart P ty (xcells x) off
      | _, _ => none
    | _ => none
  | none => none

def xlen (P : XP) (t : Nat) (x : XV P.W.U) (K : XV P.W.U → Option ρ) : Option ρ :=
  match P.T.get t with
  | none => none
  | some ti => match ti.kd with
    | .str => match xasS x with
      | some s => K (.v (.int .i64) (lenS s))
      | none => none
    | .arr n _ => K (.v (.int .i64) (natI n))
    | .slice _ => match x with
      | .v (.sl _) xs => K (.v (.int .i64) (lenL xs))
      | .lin _ xs _ => K (.v (.int .i64) (lenL xs))
      | .ms _ _ _ n => K (.v (.int .i64) (natI n))
      | .raw .nils => K (.v (.int .i64) (natI 0))
      | _ => none
    | _ => none

def xminmax {U : Nat → Type} (isMax : Bool) : IntKind → Int → List (XV U) → (XV U → Option ρ) → Option ρ
  | k, x, [], K => K (.v (.int k) x)
  | k, x, y :: r, K => match xasI y with
    | some (_, y) => xminmax isMax k (match isMax with
      | true => maxI x y
      | false => minI x y) r K
    | none => none

/-- An operation that changes nothing. -/
def xstill (P : XP) (X : XSt P.W.U) (e : XEnv P.W.U) (o : Op) (K : XV P.W.U → Option ρ) : Option ρ :=
  match o with
  | .move x => match xev e x with
    | some v => K v
    | none => none
  | .assign x => match xev e x with
    | some v => K v
    | none => none
  | .pick c a b => match xev e c with
    | some (.kb true) => match xev e a with
      | some v => K v
      | none => none
    | some (.kb false) => match xev e b with
      | some v => K v
      | none => none
    | _ => none
  | .build t ps => match xevParts e ps.toList with
    | some l => match xbuild P t l with
      | some v => K v
      | none => none
    | none => none
  | .buildSlice t len ps => match xevParts e ps.toList with
    | some l => match xelems P t len l with
      | some v => K v
      | none => none
    | none => none
  | .load t a => match xev e a with
    | some p => xload P X t p K
    | none => none
  | .nilCheck x => match xev e x with
    | some (.ptr b o) => K (.ptr b o)
    | some (.el c x o) => K (.el c x o)
    | some (.mel b c i o) => K (.mel b c i o)
    | _ => none
  | .binOp op t x y _ => match xev e x, xev e y with
    | some a, some b => xbin P.T op t x y a b K
    | _, _ => none
  | .unOp op _ x => match xev e x with
    | some a => xun op a K
    | none => none
  | .convert s d x => match xev e x with
    | some a => xconv P X s d a K
    | none => none
  | .makeFunc fn a b => match xevs e a.toList, xevs e b.toList with
    | some xs, some ys => K (.fn fn xs ys)
    | _, _ => none
  | .slice t x lo hi none => match xev e x, xevOpt e lo, xevOpt e hi with
    | some a, some l, some h => xslice P t a l h K
    | _, _, _ => none
  | .fieldAddr s x f => match xev e x with
    | some a => match xfieldAddr P s a f with
      | some v => K v
      | none => none
    | none => none
  | .field s x f => match xev e x with
    | some a => match xfield P s a f with
      | some v => K v
      | none => none
    | none => none
  | .indexAddr t x i => match xev e x, xev e i with
    | some a, some j => xidxA P t a j K
    | _, _ => none
  | .index t x i => match xev e x, xev e i with
    | some a, some j => xidx P t a j K
    | _, _ => none
  | .extract x i => match xev e x with
    | some (.tup vs) => match vs[i]? with
      | some v => K v
      | none => none
    | _ => none
  | .call c => match c.callee, xevs e c.args.toList with
    | .builtin .len, some (x :: _) => match c.argTypes.toList with
      | t :: _ => xlen P t x K
      | [] => none
    | .builtin .min, some (x :: r) => match xasI x with
      | some (k, n) => xminmax false k n r K
      | none => none
    | .builtin .max, some (x :: r) => match xasI x with
      | some (k, n) => xminmax true k n r K
      | none => none
    | _, _ => none
  | _ => none

end
end Go.Am
namespace Go.Am

inductive Pat where
  | d (c : SC)
  | kb (b : Bool)
  | ln (c : SC) (t : Nat)
  | ptr (b off : Nat)
  | raw (a : AV)
  | ms (b : Nat) (c : SC)
  | fn (f : Fn) (a b : List Pat)
  | agg (ps : List Pat)
  | tup (ps : List Pat)

mutual
def Pat.T (U : Nat → Type) : Pat → Type
  | .d c => c.D U
  | .kb _ => Unit
  | .ln c _ => List (c.D U)
  | .ptr _ _ => Unit
  | .raw _ => Unit
  | .ms _ _ => Nat × Nat
  | .fn _ a b => Pat.Ts U a × Pat.Ts U b
  | .agg l => Pat.Ts U l
  | .tup l => Pat.Ts U l
def Pat.Ts (U : Nat → Type) : List Pat → Type
  | [] => Unit
  | p :: ps => Pat.T U p × Pat.Ts U ps
end

section
variable {W : Univ}

def unit? (b : Bool) : Option Unit := match b with
  | true => some ()
  | false => none
def pair? {α β : Type} : Option α → Option β → Option (α × β)
  | some a, some b => some (a, b)
  | _, _ => none

mutual
def Pat.dec : (p : Pat) → XV W.U → Option (p.T W.U)
  | .d c, x => asD (W := W) c x
  | .kb b, x => match x with
    | .kb b' => unit? (b == b')
    | _ => none
  | .ln c _, x => match x with
    | .lin c' xs _ => castD (.sl c') (.sl c) xs
    | .raw .nils => some []
    | _ => none
  | .ptr b off, x => match x with
    | .ptr b' off' => unit? (Nat.beq b b' && Nat.beq off off')
    | _ => none
  | .raw a, x => match x with
    | .raw a' => unit? (AV.beq a a')
    | _ => none
  | .ms b c, x => match x with
    | .ms b' c' lo n => match Nat.beq b b' && decide (c = c') with
      | true => some (lo, n)
      | false => none
    | _ => none
  | .fn f a b, x => match x with
    | .fn g xs ys => match decide (f = g) with
      | true => pair? (Pat.decs a xs) (Pat.decs b ys)
      | false => none
    | _ => none
  | .agg l, x => match x with
    | .agg cs => Pat.decs l cs
    | .v c y => match scAgg c with
      | true => Pat.decs l (xcells (.v c y))
      | false => none
    | _ => none
  | .tup l, x => match x with
    | .tup cs => Pat.decs l cs
    | _ => none
def Pat.decs : (ps : List Pat) → List (XV W.U) → Option (Pat.Ts W.U ps)
  | [], [] => some ()
  | p :: ps, x :: xs => pair? (Pat.dec p x) (Pat.decs ps xs)
  | _, _ => none
end
/-- Blocks. -/
inductive BPat where
  | one (p : Pat)
  | ar (c : SC)
def BPat.T (U : Nat → Type) : BPat → Type
  | .one p => p.T U
  | .ar c => List (c.D U)
def BPat.Ts (U : Nat → Type) : List BPat → Type
  | [] => Unit
  | p :: ps => p.T U × BPat.Ts U ps
def BPat.dec : (p : BPat) → XB W.U → Option (p.T W.U)
  | .one p, b => match b with
    | .cells cs => Pat.dec p (.agg cs)
    | .arr _ _ => none
  | .ar c, b => match b with
    | .cells _ => none
    | .arr c' xs => castD (U := W.U) (.sl c') (.sl c) xs
def Pat.decH : (ps : List BPat) → List (XB W.U) → Option (BPat.Ts W.U ps)
  | [], [] => some ()
  | p :: ps, x :: xs => pair? (BPat.dec p x) (Pat.decH ps xs)
  | _, _ => none

mutual
def Pat.enc : (p : Pat) → p.T W.U → XV W.U
  | .d c, x => .v c x
  | .kb b, _ => .kb b
  | .ln c t, x => .lin c x t
  | .ptr b off, _ => .ptr b off
  | .raw a, _ => .raw a
  | .ms b c, x => .ms b c x.1 x.2
  | .fn f a b, x => .fn f (Pat.encs a x.1) (Pat.encs b x.2)
  | .agg l, x => .agg (Pat.encs l x)
  | .tup l, x => .tup (Pat.encs l x)
def Pat.encs : (ps : List Pat) → Pat.Ts W.U ps → List (XV W.U)
  | [], _ => []
  | p :: ps, x => Pat.enc p x.1 :: Pat.encs ps x.2
end
def BPat.enc : (p : BPat) → p.T W.U → XB W.U
  | .one p, x => .cells (xcells (Pat.enc p x))
  | .ar c, xs => .arr c xs
def Pat.encH : (ps : List BPat) → BPat.Ts W.U ps → List (XB W.U)
  | [], _ => []
  | p :: ps, x => BPat.enc p x.1 :: Pat.encH ps x.2

mutual
/-- The tags of a value: those of its pattern, and its own. -/
def Pat.tags : Pat → XV W.U → List (Nat × Nat)
  | .ln _ t, x => match x with
    | .lin _ _ t' => [(t, t')]
    | _ => [(t, 0)]
  | .fn _ a b, x => match x with
    | .fn _ xs ys => Pat.tagss a xs ++ Pat.tagss b ys
    | _ => []
  | .agg l, x => Pat.tagss l (xcells x)
  | .tup l, x => match x with
    | .tup cs => Pat.tagss l cs
    | _ => []
  | _, _ => []
def Pat.tagss : List Pat → List (XV W.U) → List (Nat × Nat)
  | p :: ps, x :: xs => Pat.tags p x ++ Pat.tagss ps xs
  | _, _ => []
end
def BPat.tags : BPat → XB W.U → List (Nat × Nat)
  | .one p, b => match b with
    | .cells cs => Pat.tags p (.agg cs)
    | .arr _ _ => []
  | .ar _, _ => []
def Pat.tagsH : List BPat → List (XB W.U) → List (Nat × Nat)
  | p :: ps, x :: xs => BPat.tags p x ++ Pat.tagsH ps xs
  | _, _ => []

mutual
/-- Its pointers lie below a number and its tags from 1 to a number. -/
def Pat.low (a0 b0 t0 : Nat) : Pat → Bool
  | .ln _ t => Nat.ble 1 t && Nat.ble t t0
  | .ptr b _ => Nat.ble a0 b && Nat.blt b b0
  | .raw a => pureV a
  | .ms b _ => Nat.ble a0 b && Nat.blt b b0
  | .fn _ a b => Pat.lows a0 b0 t0 a && Pat.lows a0 b0 t0 b
  | .agg l => Pat.lows a0 b0 t0 l
  | .tup l => Pat.lows a0 b0 t0 l
  | _ => true
def Pat.lows (a0 b0 t0 : Nat) : List Pat → Bool
  | [] => true
  | p :: ps => Pat.low a0 b0 t0 p && Pat.lows a0 b0 t0 ps
end

def BPat.low (a0 b0 t0 : Nat) : BPat → Bool
  | .one p => Pat.low a0 b0 t0 p
  | .ar _ => true
def Pat.lowH (a0 b0 t0 : Nat) : List BPat → Bool
  | [] => true
  | p :: ps => BPat.low a0 b0 t0 p && Pat.lowH a0 b0 t0 ps

/-- Distinct numbers; 0 may stand often. -/
def ndup0 : List Nat → Bool
  | [] => true
  | x :: xs => (Nat.beq x 0 || !(xs.any fun y => Nat.beq x y)) && ndup0 xs

def tagsOk (l : List (Nat × Nat)) : Bool := ndup0 (l.map (·.1)) && ndup0 (l.map (·.2)) && l.all fun p => !(Nat.beq p.1 0)

mutual
def ptrsOf : XV W.U → List Nat
  | .ptr b _ => [b]
  | .ms b _ _ _ => [b]
  | .mel b _ _ _ => [b]
  | .fn _ a b => ptrsOfs a ++ ptrsOfs b
  | .ifc _ v => ptrsOf v
  | .agg l => ptrsOfs l
  | .tup l => ptrsOfs l
  | _ => []
def ptrsOfs : List (XV W.U) → List Nat
  | [] => []
  | x :: xs => ptrsOf x ++ ptrsOfs xs
end

mutual
/-- Other names of blocks and of tags. -/
def rnV (f g : Nat → Nat) : XV W.U → XV W.U
  | .ptr b off => .ptr (f b) off
  | .ms b c lo n => .ms (f b) c lo n
  | .mel b c i off => .mel (f b) c i off
  | .lin c xs t => .lin c xs (g t)
  | .fn h a b => .fn h (rnVs f g a) (rnVs f g b)
  | .ifc t v => .ifc t (rnV f g v)
  | .agg l => .agg (rnVs f g l)
  | .tup l => .tup (rnVs f g l)
  | x => x
def rnVs (f g : Nat → Nat) : List (XV W.U) → List (XV W.U)
  | [] => []
  | x :: xs => rnV f g x :: rnVs f g xs
end

mutual
/-- What is no longer appended to. -/
def demV (dm : List Nat) : XV W.U → XV W.U
  | .lin c xs t => match dm.any fun y => Nat.beq t y with
    | true => .v (.sl c) xs
    | false => .lin c xs t
  | .fn h a b => .fn h (demVs dm a) (demVs dm b)
  | .ifc t v => .ifc t (demV dm v)
  | .agg l => .agg (demVs dm l)
  | .tup l => .tup (demVs dm l)
  | x => x
def demVs (dm : List Nat) : List (XV W.U) → List (XV W.U)
  | [] => []
  | x :: xs => demV dm x :: demVs dm xs
end
def demE (dm : List Nat) (e : XEnv W.U) : XEnv W.U := match dm with
  | [] => e
  | _ => e.map fun p => (p.1, demV dm p.2)
def demB (dm : List Nat) : XB W.U → XB W.U
  | .cells cs => .cells (demVs dm cs)
  | .arr c xs => .arr c xs
def rnB (f g : Nat → Nat) : XB W.U → XB W.U
  | .cells cs => .cells (rnVs f g cs)
  | .arr c xs => .arr c xs
def ptrsB : XB W.U → List Nat
  | .cells cs => ptrsOfs cs
  | .arr _ _ => []
def demH (dm : List Nat) (h : List (XB W.U)) : List (XB W.U) := match dm with
  | [] => h
  | _ => h.map fun cs => demB dm cs

def idxOf (b : Nat) : List Nat → Nat
  | [] => 0
  | x :: xs => match Nat.beq b x with
    | true => 0
    | false => idxOf b xs + 1
def hasN (l : List Nat) (b : Nat) : Bool := l.any fun y => Nat.beq b y
end

/-- A block of one's own. -/
def xown (P : XP) (X : XSt P.W.U) (b : Nat) : Option (XB P.W.U) := match Nat.ble P.nx b with
  | true => X.heap[b - P.nx]?
  | false => none

def reach (P : XP) (X : XSt P.W.U) : Nat → List Nat → List Nat → List Nat
  | 0, _, acc => acc
  | _ + 1, [], acc => acc
  | f + 1, b :: todo, acc => match hasN acc b with
    | true => reach P X f todo acc
    | false => match xown P X b with
      | some cs => reach P X f (todo ++ ptrsB cs) (acc ++ [b])
      | none => reach P X f todo acc

structure LSpec where
  id : Nat
  env : List (Nat × Pat)
  heap : List BPat
  nt : Nat

/-- A function asq it is called in one way. -/
structure ESpec (W : Univ) where
  fid : Nat
  cin : List BPat
  ain : List Pat
  rout : Pat
  cout : List BPat
  ntin : Nat
  ntout : Nat
  ρ : Type
  pk : Pat.T W.U rout × BPat.Ts W.U cout → ρ
  upk : ρ → Pat.T W.U rout × BPat.Ts W.U cout
  pu : ∀ x, upk (pk x) = x
  loops : Nat → Option LSpec

def ESpec.In {W : Univ} (E : ESpec W) : Type := BPat.Ts W.U E.cin × Pat.Ts W.U E.ain

def ESpec.ok {W : Univ} (nx : Nat) (E : ESpec W) : Bool :=
  Pat.lows nx (nx + E.cin.length) E.ntin E.ain && Pat.lowH nx (nx + E.cin.length) E.ntin E.cin && Nat.ble E.cin.length E.cout.length
  && Pat.low nx (nx + E.cout.length) E.ntout E.rout && Pat.lowH nx (nx + E.cout.length) E.ntout E.cout

structure XM where
  P : XP
  F : Tr AFun
  sp : Nat → ESpec P.W
  byF : Nat → List Nat
  ext : (i : Nat) → Option ((sp i).In → Option (sp i).ρ)

def blocksOf (P : XP) (X : XSt P.W.U) : List Nat → Option (List (XB P.W.U))
  | [] => some []
  | b :: bs => match xown P X b, blocksOf P X bs with
    | some c, some cs => some (c :: cs)
    | _, _ => none

structure Entered {W : Univ} (E : ESpec W) where
  x : E.In
  bs : List Nat
  ts : List Nat

def xenter (P : XP) (X : XSt P.W.U) (E : ESpec P.W) (args : List (XV P.W.U)) : Option (Entered E) :=
  let bs := reach P X 30 (ptrsOfs args) []
  match blocksOf P X bs with
  | none => none
  | some cs =>
    let f := fun b => P.nx + idxOf b bs
    match (ptrsOfs args).all (hasN bs) && cs.all (fun c => (ptrsB c).all (hasN bs)), Pat.decH E.cin (cs.map (rnB f id)), Pat.decs E.ain (rnVs f id args) with
    | true, some xc, some xa =>
      let ts := Pat.tagsH E.cin (cs.map (rnB f id)) ++ Pat.tagss E.ain (rnVs f id args)
      match tagsOk ts with
      | true => some ⟨(xc, xa), bs, (ts.map (·.2)).filter fun t => !(Nat.beq t 0)⟩
      | false => none
    | _, _, _ => none

def getN : List Nat → Nat → Nat
  | [], _ => 0
  | x :: _, 0 => x
  | _ :: xs, n + 1 => getN xs n

/-- The names outside of what a call leaves. -/
def outB' (nx : Nat) (bs : List Nat) (top : Nat) (b : Nat) : Nat := match Nat.ble (nx + bs.length) b with
  | true => top + (b - (nx + bs.length))
  | false => getN bs (b - nx)
def outT' (nt : Nat) (t : Nat) : Nat := match Nat.beq t 0 with
  | true => 0
  | false => nt + (t - 1)

def setBs {α : Type} (nx : Nat) : List α → List Nat → List α → List α
  | h, b :: bs, c :: cs => setBs nx (h.set (b - nx) c) bs cs
  | h, [], cs => h ++ cs
  | h, _, [] => h

def xleave (P : XP) (X : XSt P.W.U) (E : ESpec P.W) (bs ts : List Nat) (r : E.ρ) : XV P.W.U × XSt P.W.U × List Nat :=
  let y := E.upk r
  let top := P.nx + X.heap.length
  let f := outB' P.nx bs top
  let g := outT' X.nt
  let cs := (Pat.encH E.cout y.2).map (rnB f g)
  (rnV f g (Pat.enc E.rout y.1), ⟨setBs P.nx (demH ts X.heap) bs cs, X.nt + E.ntout⟩, bs ++ (List.range (cs.length - bs.length)).map fun j => top + j)

def isU8 : TK → Bool
  | .int .u8 => true
  | _ => false

section
variable {M : XM} {ρ : Type}

def Orc (M : XM) : Type := (i : Nat) → (M.sp i).In → Option (M.sp i).ρ

/-- A call of which nothing is said. -/
def xnocall {U : Nat → Type} (_ : Nat) (_ : XSt U) (_ : List (XV U)) : Option ρ := none

def xcall (orc : Orc M) (fid : Nat) (X : XSt M.P.W.U) (args : List (XV M.P.W.U)) (K : XV M.P.W.U → XSt M.P.W.U → List Nat → List Nat → Option ρ) : List Nat → Option ρ
  | [] => xnocall fid X args
  | i :: is => match Nat.beq (M.sp i).fid fid && (M.sp i).ok M.P.nx, xenter M.P X (M.sp i) args with
    | true, some en => bindO (orc i en.x) fun r =>
      K (xleave M.P X (M.sp i) en.bs en.ts r).1 (xleave M.P X (M.sp i) en.bs en.ts r).2.1 (xleave M.P X (M.sp i) en.bs en.ts r).2.2 en.ts
    | _, _ => xcall orc fid X args K is

/-- The elements that are appended. -/
def xsrc (P : XP) (X : XSt P.W.U) (te : TI) (c : SC) (y : XV P.W.U) (K : List (c.D P.W.U) → Option ρ) : Option ρ := match y with
  | .ms b c' lo n => match decide (c' = c) with
    | true => match xarr P X b c with
      | some xs => chk (leN (addN lo n) (lenN xs)) (K (cutL xs lo n))
      | none => none
    | false => none
  | y => match xasS y with
    | some s => match isU8 te.kd with
      | true => match castD (U := P.W.U) (.sl (.int .u8)) (.sl c) (bytesL s) with
        | some ys => K ys
        | none => none
      | false => none
    | none => match asList (W := P.W) c y with
      | some ys => K ys
      | none => none

/-- What is appended to, and its tag. -/
def xbase {W : Univ} (c : SC) : XV W.U → Option (List (c.D W.U) × Nat)
  | .lin c' xs tg => match castD (U := W.U) (.sl c') (.sl c) xs with
    | some xs => some (xs, tg)
    | none => none
  | .raw .nils => some ([], 0)
  | _ => none

def xdm (tg : Nat) : List Nat := match Nat.beq tg 0 with
  | true => []
  | false => [tg]

def xappend (P : XP) (mut_ : Bool) (X : XSt P.W.U) (t u : Nat) (x y : XV P.W.U) (K : XV P.W.U → XSt P.W.U → List Nat → List Nat → Option ρ) : Option ρ :=
  match P.T.get t with
  | some ti => match ti.kd with
    | .slice e => match P.T.get e, codeOf P.T P.stt 6 e with
      | some te, some c => match notInt P.T u && decide (0 < te.size) && Nat.beq te.size (scSize P.W c) && (te.agg == scAgg c) with
        | true => match xbase (W := P.W) c x with
          | some (xs, tg) => xsrc P X te c y fun ys => match mut_ with
            | false => chk (room te.bytes (lenN xs + lenN ys)) (K (.lin c (catL xs ys) X.nt) ⟨demH (xdm tg) X.heap, X.nt + 1⟩ [] (xdm tg))
            | true => match Nat.beq tg 0 with
              | true => brB (nilL ys) (K x X [] []) (chk (room te.bytes (lenN xs + lenN ys)) (K (.ms (P.nx + X.heap.length) c 0 (lenN (catL xs ys))) ⟨X.heap ++ [.arr c (catL xs ys)], X.nt⟩ [P.nx + X.heap.length] []))
              | false => none
          | none => none
        | false => none
      | _, _ => none
    | _ => none
  | none => none

def xundef {U : Nat → Type} : XV U := .raw (.tup [])

/-- An element of which a part is stored. -/
def xelset {W : Univ} (ti : TI) (c : SC) (x : c.D W.U) (off : Nat) (v : XV W.U) : Option (c.D W.U) := match Nat.beq off 0 && Nat.beq ti.size (scSize W c) with
  | true => asD (W := W) c v
  | false => match Nat.beq (xcells v).length ti.size && decide (off + ti.size ≤ (xcells (.v c x) : List (XV W.U)).length) && (xcells v).all xflat with
    | true => asAgg (W := W) c ((xcells (.v c x)).take off ++ xcells v ++ (xcells (.v c x)).drop (off + (xcells v).length))
    | false => none

def xmake (P : XP) (X : XSt P.W.U) (t : Nat) (n m : Int) (K : XV P.W.U → XSt P.W.U → List Nat → List Nat → Option ρ) : Option ρ :=
  match P.T.get t with
  | some ti => match ti.kd with
    | .slice e => match P.T.get e, codeOf P.T P.stt 6 e with
      | some te, some c => match decide (0 < te.size) && Nat.beq te.size (scSize P.W c) && (te.agg == scAgg c), xofV te.zero with
        | true, some z => match asD c z with
          | some z => chk (makeOk n m te.bytes) (brB (eqI m 0) (K (.lin c [] 0) X [] [])
              (K (.ms (P.nx + X.heap.length) c 0 (posN n)) ⟨X.heap ++ [.arr c (repL (posN m) z)], X.nt⟩ [P.nx + X.heap.length] []))
          | none => none
        | _, _ => none
      | _, _ => none
    | _ => none
  | none => none

def mutO (m : List Nat) (o : Oper) : Bool := match o.dst with
  | some d => m.contains d
  | none => false

def xloud (m : List Nat) (orc : Orc M) (X : XSt M.P.W.U) (e : XEnv M.P.W.U) (o : Oper) (K : XV M.P.W.U → XSt M.P.W.U → List Nat → List Nat → Option ρ) : Option ρ :=
  match o.op with
  | .alloc t => match M.P.T.get t with
    | some ti => match xofs (W := M.P.W) (cellsOf ti.zero) with
      | some cs => K (.ptr (M.P.nx + X.heap.length) 0) ⟨X.heap ++ [.cells cs], X.nt⟩ [M.P.nx + X.heap.length] []
      | none => none
    | none => none
  | .box _ x => match xev (W := M.P.W) e x with
    | some v => match (xcells v).all xflat with
      | true => K (.ptr (M.P.nx + X.heap.length) 0) ⟨X.heap ++ [.cells (xcells v)], X.nt⟩ [M.P.nx + X.heap.length] []
      | false => none
    | none => none
  | .buildSlice t len ps => match xevParts (W := M.P.W) e ps.toList with
    | some l => match xelems M.P t len l, len with
      | some (.lin c xs 0), 0 => K (.lin c xs 0) X [] []
      | some (.lin c xs 0), _ + 1 => K (.ms (M.P.nx + X.heap.length) c 0 (lenN xs)) ⟨X.heap ++ [.arr c xs], X.nt⟩ [M.P.nx + X.heap.length] []
      | _, _ => none
    | none => none
  | .store t a x => match M.P.T.get t, xev (W := M.P.W) e a, xev (W := M.P.W) e x with
    | some ti, some (.ptr b off), some v => match xblk M.P X b with
      | some cs => match Nat.beq (xcells v).length ti.size && decide (off + ti.size ≤ cs.length) && (xcells v).all xflat with
        | true => K xundef ⟨X.heap.set (b - M.P.nx) (.cells (cs.take off ++ xcells v ++ cs.drop (off + (xcells v).length))), X.nt⟩ [b] []
        | false => none
      | none => none
    | some ti, some (.mel b c i off), some v => match xarr M.P X b c with
      | some xs => bindO (atN xs i) fun x0 => match xelset ti c x0 off v with
        | some x1 => K xundef ⟨X.heap.set (b - M.P.nx) (.arr c (setL xs i x1)), X.nt⟩ [b] []
        | none => none
      | none => none
    | _, _, _ => none
  | .makeSlice t l c => match xev (W := M.P.W) e l, xev (W := M.P.W) e c with
    | some l, some c => match xasI l, xasI c with
      | some (_, n), some (_, k) => xmake M.P X t n k K
      | _, _ => none
    | _, _ => none
  | .call c => match xevs (W := M.P.W) e c.args.toList with
    | none => none
    | some args => match c.callee with
      | .builtin .append => match c.argTypes.toList, args with
        | t :: u :: _, x :: y :: _ => xappend M.P (mutO m o) X t u x y K
        | _, _ => none
      | .value f => match xev (W := M.P.W) e f with
        | some (.fn (.func fid) first cap) => xcall orc fid X (first ++ args ++ cap) K (M.byF fid)
        | _ => none
      | _ => none
  | _ => none

inductive XMet where
  | rd (i : Nat) (b : Option Nat)
  | bad (i : Nat)
  | ld (i : Nat) (ws : List Nat)

/-- The block that a still operation reads. -/
def xreads {W : Univ} (e : XEnv W.U) : Op → Option Nat
  | .load _ a => match xev e a with
    | some (.ptr b _) => some b
    | some (.mel b _ _ _) => some b
    | _ => none
  | .convert _ _ a => match xev e a with
    | some (.ms b _ _ _) => some b
    | _ => none
  | _ => none

def okRd (mask : Nat) (b : Option Nat) : List XMet → Bool
  | [] => true
  | .rd _ _ :: l => okRd mask b l
  | .bad _ :: l => okRd mask b l
  | .ld j ws :: l => (bit mask j || (match b with
    | some b => !(hasN ws b)
    | none => true)) && okRd mask b l

def okLd (mask : Nat) (ws : List Nat) : List XMet → Bool
  | [] => true
  | .ld _ _ :: l => okLd mask ws l
  | .bad i :: l => bit mask i && okLd mask ws l
  | .rd i b :: l => (bit mask i || (match b with
    | some b => !(hasN ws b)
    | none => true)) && okLd mask ws l

def metW (ws : List Nat) : List XMet → List XMet
  | [] => []
  | .rd i b :: l => (match (match b with
    | some b => hasN ws b
    | none => false) with
    | true => .bad i
    | false => .rd i b) :: metW ws l
  | .bad i :: l => .bad i :: metW ws l
  | .ld i us :: l => .ld i (ws ++ us) :: metW ws l

def xput {U : Nat → Type} (e : XEnv U) (d : Option Nat) (v : XV U) : XEnv U := match d with
  | some d => (d, v) :: e
  | none => e

/-- One operation that is carried out. -/
def xStep (m : List Nat) (orc : Orc M) (draw : Bool) (mask : Nat) (i : Nat) (met : List XMet) (e : XEnv M.P.W.U) (X : XSt M.P.W.U) (o : Oper) (cont : List XMet → XEnv M.P.W.U → XSt M.P.W.U → Option ρ) : Option ρ :=
  match isStill m o with
  | true => xstill M.P X e o.op fun v => match draw && readsHeap o.op with
    | false => cont met (xput e o.dst v) X
    | true => match okRd mask (xreads e o.op) met with
      | true => cont (.rd i (xreads e o.op) :: met) (xput e o.dst v) X
      | false => none
  | false => xloud m orc X e o fun v X' ws dm => match !draw || okLd mask ws met with
    | true => cont (match draw with
      | true => .ld i ws :: metW ws met
      | false => met) (xput (demE dm e) o.dst v) X'
    | false => none

/-- Operations that always come to a value, if their operands are there. -/
def isTotal (T : Tr TI) (o : Oper) : Bool := match o.op with
  | .move _ => true
  | .assign _ => true
  | .pick _ _ _ => true
  | .load _ _ => true
  | .binOp op t _ _ _ => match op with
    | .quo => false
    | .rem => false
    | .shl => false
    | .shr => false
    | .add => match T.get t with
      | some ti => match ti.kd with
        | .int _ => true
        | _ => false
      | none => false
    | _ => true
  | .unOp _ _ _ => true
  | .fieldAddr _ _ _ => true
  | .field _ _ _ => true
  | .extract _ _ => true
  | .call c => match c.callee with
    | .builtin .len => true
    | _ => false
  | _ => false

/-- The operations up to the one that joins two ways that part at a slot. -/
def upToPick (d : Nat) : List Oper → Option (List Oper × Nat)
  | [] => none
  | o :: r => match (match o.op, o.dst with
      | .pick (.tmp t) _ _, some k => match Nat.beq t d with
        | true => some k
        | false => none
      | _, _ => none) with
    | some k => some ([o], k)
    | none => match upToPick d r with
      | some (g, k) => some (o :: g, k)
      | none => none

def freshIn {U : Nat → Type} (e : XEnv U) (g : List Oper) : Bool := g.all fun o => match o.dst with
  | some d => match xget e d with
    | some _ => false
    | none => true
  | none => false

def slotOf (all : List Oper) (j : Nat) : Option Nat := match all[j]? with
  | some o => o.dst
  | none => none

/-- Two ways joined: the value of a slot. -/
def xmerge {U : Nat → Type} (c : Bool) (x y : Option (XV U)) : Option (XV U) := match x, y with
  | some a, some b => match xasB a, xasB b with
    | some p, some q => some (.v .bool (pickB c p q))
    | _, _ => none
  | _, _ => none

def dropN : Nat → List Oper → List Oper
  | 0, l => l
  | _ + 1, [] => []
  | n + 1, _ :: l => dropN n l

def getO {U : Nat → Type} (e : Option (XEnv U)) (k : Nat) : Option (XV U) := match e with
  | some e => xget e k
  | none => none

/-- A run of total operations, ways that part being joined. -/
def xPure (P : XP) (m : List Nat) (X : XSt P.W.U) (all : List Oper) : Nat → List Oper → XEnv P.W.U → Option (XEnv P.W.U)
  | 0, _, _ => none
  | _ + 1, [], e => some e
  | f + 1, o :: rest, e =>
    match o.guard with
    | none => match isTotal P.T o && isStill m o, xstill P X e o.op some with
      | true, some v => xPure P m X all f rest (xput e o.dst v)
      | _, _ => none
    | some (j, want) => match slotOf all j with
      | none => xPure P m X all f rest (xput e o.dst xundef)
      | some d => match xget e d with
        | some (.kb b) => match b == want with
          | true => match isTotal P.T o && isStill m o, xstill P X e o.op some with
            | true, some v => xPure P m X all f rest (xput e o.dst v)
            | _, _ => none
          | false => xPure P m X all f rest (xput e o.dst xundef)
        | some (.raw (.tup [])) => xPure P m X all f rest (xput e o.dst xundef)
        | some (.v .bool c) => match upToPick d (o :: rest) with
          | some (g, k) => match freshIn e g, xmerge c (getO (xPure P m X all f g ((d, .kb true) :: e)) k) (getO (xPure P m X all f g ((d, .kb false) :: e)) k) with
            | true, some v => xPure P m X all f (dropN g.length (o :: rest)) ((k, v) :: e)
            | _, _ => none
          | none => none
        | _ => none

def allTotal (T : Tr TI) (m : List Nat) (g : List Oper) : Bool := g.all fun o => isTotal T o && isStill m o

/-- Ways that part at a slot and join again: the frame behind them, and how many operations that were. -/
def xJoin (P : XP) (m : List Nat) (X : XSt P.W.U) (all : List Oper) (d : Nat) (c : Bool) (ops : List Oper) (e : XEnv P.W.U) : Option (XEnv P.W.U × Nat) :=
  match upToPick d ops with
  | some (g, k) => match allTotal P.T m g && freshIn e g with
    | true => match xmerge c (getO (xPure P m X all 60 g ((d, .kb true) :: e)) k) (getO (xPure P m X all 60 g ((d, .kb false) :: e)) k) with
      | some v => some ((k, v) :: e, g.length)
      | none => none
    | false => none
  | none => none

def xOps (m : List Nat) (orc : Orc M) (all : List Oper) (draw : Bool) : Nat → List Nat → List Oper → Nat → List XMet → XEnv M.P.W.U → XSt M.P.W.U → (XEnv M.P.W.U → XSt M.P.W.U → Option ρ) → Option ρ
  | _, _, [], _, _, e, X, K => K e X
  | sk + 1, masks, _ :: rest, i, met, e, X, K => xOps m orc all draw sk masks.tail rest (i + 1) met e X K
  | 0, masks, o :: rest, i, met, e, X, K =>
    match o.guard with
    | none => xStep m orc draw (masks.headD 0) i met e X o fun met e X => xOps m orc all draw 0 masks.tail rest (i + 1) met e X K
    | some (j, want) => match slotOf all j with
      | none => xOps m orc all draw 0 masks.tail rest (i + 1) met (xput e o.dst xundef) X K
      | some d => match xget e d with
        | some (.kb b) => match b == want with
          | true => xStep m orc draw (masks.headD 0) i met e X o fun met e X => xOps m orc all draw 0 masks.tail rest (i + 1) met e X K
          | false => xOps m orc all draw 0 masks.tail rest (i + 1) met (xput e o.dst xundef) X K
        | some (.raw (.tup [])) => xOps m orc all draw 0 masks.tail rest (i + 1) met (xput e o.dst xundef) X K
        | some (.v .bool c) => match (match draw with
            | true => none
            | false => xJoin M.P m X all d c (o :: rest) e) with
          | some (e', n + 1) => xOps m orc all draw n masks.tail rest (i + 1) met e' X K
          | _ => match want with
            | true => brB c (xStep m orc draw (masks.headD 0) i met ((d, .kb true) :: e) X o fun met e X => xOps m orc all draw 0 masks.tail rest (i + 1) met e X K)
              (xOps m orc all draw 0 masks.tail rest (i + 1) met (xput ((d, .kb false) :: e) o.dst xundef) X K)
            | false => brB c (xOps m orc all draw 0 masks.tail rest (i + 1) met (xput ((d, .kb true) :: e) o.dst xundef) X K)
              (xStep m orc draw (masks.headD 0) i met ((d, .kb false) :: e) X o fun met e X => xOps m orc all draw 0 masks.tail rest (i + 1) met e X K)
        | _ => none

def decEnv {W : Univ} (e : XEnv W.U) : (l : List (Nat × Pat)) → Option (Pat.Ts W.U (l.map (·.2)))
  | [] => some ()
  | (t, p) :: l => match xget e t with
    | some v => pair? (Pat.dec (W := W) p v) (decEnv e l)
    | none => none

def tagsEnv {W : Univ} (e : XEnv W.U) : List (Nat × Pat) → List (Nat × Nat)
  | [] => []
  | (t, p) :: l => match xget e t with
    | some v => Pat.tags (W := W) p v ++ tagsEnv e l
    | none => []

def encEnv {W : Univ} : (l : List (Nat × Pat)) → Pat.Ts W.U (l.map (·.2)) → XEnv W.U
  | [], _ => []
  | (t, p) :: l, x => (t, Pat.enc (W := W) p x.1) :: encEnv l x.2

def LSpec.St (U : Nat → Type) (L : LSpec) : Type := BPat.Ts U L.heap × Pat.Ts U (L.env.map (·.2))

def LSpec.ok (nx : Nat) (L : LSpec) : Bool := Pat.lows nx (nx + L.heap.length) L.nt (L.env.map (·.2)) && Pat.lowH nx (nx + L.heap.length) L.nt L.heap

def xcanon (P : XP) (whole : Bool) (L : LSpec) (e : XEnv P.W.U) (X : XSt P.W.U) : Option (L.St P.W.U) :=
  match L.ok P.nx && (match whole with | true => Nat.beq L.heap.length X.heap.length | false => Nat.ble L.heap.length X.heap.length) && tagsOk (Pat.tagsH L.heap (X.heap.take L.heap.length) ++ tagsEnv (W := P.W) e L.env) with
  | true => pair? (Pat.decH (W := P.W) L.heap (X.heap.take L.heap.length)) (decEnv (W := P.W) e L.env)
  | false => none

/-- A loop of which nothing is said; one whose round ends otherwise than is said. -/
def xmiss {U : Nat → Type} (_ : Nat) (_ : XEnv U) (_ : XSt U) : Option ρ := none
def xbad {U : Nat → Type} (_ : Nat) (_ : XEnv U) (_ : XSt U) : Option ρ := none

def Kont (P : XP) (ρ : Type) : Type := Ex → XEnv P.W.U → XSt P.W.U → Option ρ

def seqK {P : XP} (b : XEnv P.W.U → XSt P.W.U → Option ρ) (K : Kont P ρ) : Kont P ρ := fun ex e X => match ex with
  | .normal => b e X
  | ex => K ex e X

def blkK {P : XP} (id : Nat) (K : Kont P ρ) : Kont P ρ := fun ex e X => match ex with
  | .exit j => match Nat.beq j id with
    | true => K .normal e X
    | false => K (.exit j) e X
  | ex => K ex e X

def lpK {P : XP} (L : LSpec) (rec : L.St P.W.U → Option ρ) (K : Kont P ρ) : Kont P ρ := fun ex e X => match ex with
  | .normal => match xcanon P false L e X with
    | some x => rec x
    | none => xbad L.id e X
  | ex => K ex e X

def xround {P : XP} (L : LSpec) (a : XEnv P.W.U → XSt P.W.U → Kont P ρ → Option ρ) (K : Kont P ρ) (rec : L.St P.W.U → Option ρ) (x : L.St P.W.U) : Option ρ :=
  a (encEnv (W := P.W) L.env x.2) ⟨Pat.encH (W := P.W) L.heap x.1, L.nt + 1⟩ (lpK L rec K)

def xloop {P : XP} (L : LSpec) (a : XEnv P.W.U → XSt P.W.U → Kont P ρ → Option ρ) (K : Kont P ρ) : Nat → L.St P.W.U → Option ρ
  | 0, _ => none
  | k + 1, x => xround L a K (xloop L a K k) x

def xC (lps : Nat → Option LSpec) (m : List Nat) (orc : Orc M) (n : Nat) : Code → Nat → XEnv M.P.W.U → XSt M.P.W.U → Kont M.P ρ → Option ρ
  | .skip, _, e, X, K => K .normal e X
  | .label _, _, e, X, K => K .normal e X
  | .exit id, _, e, X, K => K (.exit id) e X
  | .ret, _, e, X, K => K .ret e X
  | .seq a b, p, e, X, K => xC lps m orc n a (2 * p) e X (seqK (fun e X => xC lps m orc n b (2 * p + 1) e X K) K)
  | .cond x a b, p, e, X, K => match xev (W := M.P.W) e x with
    | some (.kb true) => xC lps m orc n a (2 * p) e X K
    | some (.kb false) => xC lps m orc n b (2 * p + 1) e X K
    | some (.v .bool c) => brB c (xC lps m orc n a (2 * p) e X K) (xC lps m orc n b (2 * p + 1) e X K)
    | _ => none
  | .block id a, p, e, X, K => xC lps m orc n a (2 * p) e X (blkK id K)
  | .loop a, p, e, X, K => match lps p with
    | some L => match xcanon M.P true L e X with
      | some x => xloop L (fun e X K => xC lps m orc n a (2 * p) e X K) K n x
      | none => xbad L.id e X
    | none => xmiss p e X
  | .region _ ops draw, _, e, X, K => xOps m orc ops.toList draw 0 (masksL [] ops.toList) ops.toList 0 [] e X (fun e X => K .normal e X)
  | _, _, _, _, _ => none

def xresults (P : XP) (X : XSt P.W.U) (e : XEnv P.W.U) : List ResultVar → Option (List (XV P.W.U))
  | [] => some []
  | .tmp t :: rs => match xget e t, xresults P X e rs with
    | some v, some vs => some (v :: vs)
    | _, _ => none
  | .cell a t :: rs => match xget e a with
    | some p => match xload P X t p some, xresults P X e rs with
      | some v, some vs => some (v :: vs)
      | _, _ => none
    | none => none

def xpack {U : Nat → Type} : List (XV U) → XV U
  | [v] => v
  | vs => .tup vs

/-- A row of one's own in an answer, asq a slice that nobody writes. -/
def xfrzV {P : XP} (X : XSt P.W.U) (n : Nat) : XV P.W.U → Option (Nat × (Σ c : SC, List (c.D P.W.U)) × Bool)
  | .ms b c lo k => match Nat.ble (P.nx + n) b, xarr P X b c with
    | true, some xs => some (b, ⟨c, xs⟩, andB (eqN lo 0) (eqN k (lenN xs)))
    | _, _ => none
  | _ => none

def xfrz1 {P : XP} (X : XSt P.W.U) (n : Nat) : List (XV P.W.U) → Option (List (XV P.W.U) × Bool)
  | [] => none
  | x :: xs => match xfrzV X n x with
    | some (_, ⟨c, ys⟩, ok) => some (.v (.sl c) ys :: xs, ok)
    | none => match xfrz1 X n xs with
      | some (zs, ok) => some (x :: zs, ok)
      | none => none

def xfrz {P : XP} (X : XSt P.W.U) (n : Nat) (v : XV P.W.U) : Option (XV P.W.U × Bool) := match v with
  | .agg cs => match xfrz1 X n cs with
    | some (ds, ok) => some (.agg ds, ok)
    | none => none
  | v => match xfrzV X n v with
    | some (_, ⟨c, ys⟩, ok) => some (.v (.sl c) ys, ok)
    | none => none

/-- An end that is not asq it is said. -/
def xbadend {U : Nat → Type} (_ : XV U) (_ : XSt U) : Option ρ := none

def xdone (P : XP) (E : ESpec P.W) (v : XV P.W.U) (X : XSt P.W.U) : Option E.ρ :=
  match E.ok P.nx && tagsOk (Pat.tagsH E.cout (X.heap.take E.cout.length) ++ Pat.tags E.rout v), Pat.dec (W := P.W) E.rout v, Pat.decH (W := P.W) E.cout (X.heap.take E.cout.length) with
    | true, some r, some cs => some (E.pk (r, cs))
    | _, _, _ => xbadend v X

def xend (P : XP) (E : ESpec P.W) (fn : AFun) (e : XEnv P.W.U) (X : XSt P.W.U) : Option E.ρ :=
  match fn.frz, xresults P X e fn.results with
  | none, some vs => match xfrz X E.cout.length (xpack vs) with
    | some (v, ok) => chk ok (xdone P E v X)
    | none => xdone P E (xpack vs) X
  | _, _ => none

def xfin (P : XP) (E : ESpec P.W) (fn : AFun) : Kont P E.ρ := fun ex e X =>
  match ex with
  | .exit _ => none
  | .goto _ => none
  | .pan _ => none
  | .normal => xend P E fn e X
  | .ret => xend P E fn e X

def argEnv {U : Nat → Type} : List (XV U) → Nat → XEnv U
  | [], _ => []
  | v :: vs, i => (i, v) :: argEnv vs (i + 1)

def xrun (orc : Orc M) (n : Nat) (E : ESpec M.P.W) (x : E.In) : Option E.ρ :=
  match M.F.get E.fid with
  | some fn => xC E.loops fn.mutDst orc n fn.body 1 (argEnv (Pat.encs (W := M.P.W) E.ain x.2) 0) ⟨Pat.encH (W := M.P.W) E.cin x.1, E.ntin + 1⟩ (xfin M.P E fn)
  | none => none

/-- The functions of a program, with so much fuel. -/
def run (M : XM) : Nat → Orc M
  | 0 => fun _ _ => none
  | n + 1 => fun i x => match M.ext i with
    | some m => m x
    | none => xrun (run M n) n (M.sp i) x

/-- A loop within a function, found by its place. -/
def xat (lps : Nat → Option LSpec) (m : List Nat) (orc : Orc M) (n : Nat) (L : LSpec) (k : Nat) (x : L.St M.P.W.U) : List Bool → List Nat → Code → Nat → Kont M.P ρ → Option ρ
  | false :: ds, ks, .seq a b, p, K => xat lps m orc n L k x ds ks a (2 * p) (seqK (fun e X => xC lps m orc n b (2 * p + 1) e X K) K)
  | true :: ds, ks, .seq _ b, p, K => xat lps m orc n L k x ds ks b (2 * p + 1) K
  | false :: ds, ks, .cond _ a _, p, K => xat lps m orc n L k x ds ks a (2 * p) K
  | true :: ds, ks, .cond _ _ b, p, K => xat lps m orc n L k x ds ks b (2 * p + 1) K
  | _ :: ds, ks, .block id a, p, K => xat lps m orc n L k x ds ks a (2 * p) (blkK id K)
  | [], _, .loop a, p, K => xloop L (fun e X K => xC lps m orc n a (2 * p) e X K) K k x
  | _ :: ds, k' :: ks, .loop a, p, K => match lps p with
    | some L' => xat lps m orc n L k x ds ks a (2 * p) (lpK L' (xloop L' (fun e X K => xC lps m orc n a (2 * p) e X K) K k') K)
    | none => none
  | _, _, _, _, _ => none

def loopAt (M : XM) (n i : Nat) (L : LSpec) (ds : List Bool) (ks : List Nat) (k : Nat) (x : L.St M.P.W.U) : Option (M.sp i).ρ :=
  match M.F.get (M.sp i).fid with
  | some fn => xat (M.sp i).loops fn.mutDst (run M n) n L k x ds ks fn.body 1 (xfin M.P (M.sp i) fn)
  | none => none
end
end Go.Am
namespace Go.Am

mutual
/-- A value asq it is read only. -/
def dd : AV → AV
  | .nils => .sl [] .dead
  | .elem xs i o => .elem (dds xs) i o
  | .sl xs _ => .sl (dds xs) .dead
  | .fn f a b => .fn f (dds a) (dds b)
  | .ifc t v => .ifc t (dd v)
  | .agg cs => .agg (dds cs)
  | .tup vs => .tup (dds vs)
  | v => v
def dds : List AV → List AV
  | [] => []
  | x :: xs => dd x :: dds xs
end

theorem dds_map (l : List AV) : dds l = l.map dd := by induction l <;> simp_all [dds]
theorem dds_length (l : List AV) : (dds l).length = l.length := by simp [dds_map]
theorem dds_append (a b : List AV) : dds (a ++ b) = dds a ++ dds b := by simp [dds_map]

theorem dd_int {a : AV} {k : IntKind} {n : Int} (h : dd a = .int k n) : a = .int k n := by cases a <;> simp [dd] at h ⊢ <;> exact h
theorem dd_bool {a : AV} {b : Bool} (h : dd a = .bool b) : a = .bool b := by cases a <;> simp [dd] at h ⊢ <;> exact h
theorem dd_str {a : AV} {b : ByteArray} (h : dd a = .str b) : a = .str b := by cases a <;> simp [dd] at h ⊢ <;> exact h
theorem dd_agg {a : AV} {asq : List AV} (h : dd a = .agg asq) : ∃ bs, a = .agg bs ∧ dds bs = asq := by cases a <;> simp [dd] at h ⊢ <;> exact h
theorem dd_sl {a : AV} {xs : List AV} {k : SK} (h : dd a = .sl xs k) : (a = .nils ∧ xs = []) ∨ ∃ ys j, a = .sl ys j ∧ dds ys = xs := by
  cases a <;> simp [dd] at h ⊢
  · exact h.1
  · exact h.1

mutual
theorem pure_dd : ∀ a : AV, pureV (dd a) = pureV a
  | .bool _ => rfl
  | .int _ _ => rfl
  | .str _ => rfl
  | .nilp => rfl
  | .ptr _ _ => rfl
  | .elem xs i o => by simp only [dd, pureV]; exact pures_dd xs
  | .nils => by simp [dd, pureV, pureVs]
  | .sl xs k => by simp only [dd, pureV]; exact pures_dd xs
  | .ms _ _ _ _ => rfl
  | .nilm => rfl
  | .map _ => rfl
  | .nilf => rfl
  | .fn f a b => by simp only [dd, pureV, pures_dd a, pures_dd b]
  | .nili => rfl
  | .ifc t v => by simp only [dd, pureV]; exact pure_dd v
  | .agg cs => by simp only [dd, pureV]; exact pures_dd cs
  | .tup cs => by simp only [dd, pureV]; exact pures_dd cs
theorem pures_dd : ∀ a : List AV, pureVs (dds a) = pureVs a
  | [] => rfl
  | x :: xs => by simp only [dds, pureVs, pure_dd x, pures_dd xs]
end

mutual
theorem dd_dd : ∀ a : AV, dd (dd a) = dd a
  | .bool _ => rfl
  | .int _ _ => rfl
  | .str _ => rfl
  | .nilp => rfl
  | .ptr _ _ => rfl
  | .elem xs i o => by simp only [dd, dds_dds xs]
  | .nils => by simp [dd, dds]
  | .sl xs k => by simp only [dd, dds_dds xs]
  | .ms _ _ _ _ => rfl
  | .nilm => rfl
  | .map _ => rfl
  | .nilf => rfl
  | .fn f a b => by simp only [dd, dds_dds a, dds_dds b]
  | .nili => rfl
  | .ifc t v => by simp only [dd, dd_dd v]
  | .agg cs => by simp only [dd, dds_dds cs]
  | .tup cs => by simp only [dd, dds_dds cs]
theorem dds_dds : ∀ a : List AV, dds (dds a) = dds a
  | [] => rfl
  | x :: xs => by simp only [dds, dd_dd x, dds_dds xs]
end

def rawOk : AV → Bool
  | .nilp => true
  | .nils => true
  | .nilm => true
  | .nilf => true
  | .nili => true
  | .tup [] => true
  | _ => false

variable {W : Univ}

mutual
/-- A typed value and an abstract one; θ: where the tags are. -/
def XR (W : Univ) (θ : Nat → Option Nat) : XV W.U → AV → Prop
  | .v c x, a => dd a = encD W c x
  | .kb b, a => a = .bool b
  | .lin c xs t, a => ∃ ys, dds ys = xs.map (encD W c) ∧ ((a = .nils ∧ ys = []) ∨ a = .sl ys .full ∨ ∃ u, θ t = some u ∧ a = .sl ys (.tag u))
  | .el c x off, a => ∃ ys i y, a = .elem ys i off ∧ ys[i]? = some y ∧ dd y = encD W c x ∧ pureVs ys = true
  | .ms b c lo n, a => a = .ms b (lo * scSize W c) n (scSize W c)
  | .mel b c i off, a => a = .ptr b (i * scSize W c + off)
  | .ptr b off, a => a = .ptr b off
  | .raw a', a => a = a' ∧ rawOk a' = true
  | .fn f xs ys, a => ∃ asq bs, a = .fn f asq bs ∧ XRs W θ xs asq ∧ XRs W θ ys bs
  | .ifc t v, a => ∃ a', a = .ifc t a' ∧ XR W θ v a'
  | .agg cs, a => ∃ asq, a = .agg asq ∧ XRs W θ cs asq
  | .tup cs, a => ∃ asq, a = .tup asq ∧ XRs W θ cs asq
def XRs (W : Univ) (θ : Nat → Option Nat) : List (XV W.U) → List AV → Prop
  | [], asq => asq = []
  | x :: xs, asq => ∃ a asq', asq = a :: asq' ∧ XR W θ x a ∧ XRs W θ xs asq'
end

/-- Cells that are leaves, and what they stand for. -/
def Leafs (W : Univ) : List (XV W.U) → List AV → Prop
  | [], asq => asq = []
  | x :: xs, asq => ∃ c y bs, x = .v c y ∧ scAgg c = false ∧ asq = encD W c y :: bs ∧ Leafs W xs bs

/-- What a seat's types must be like. -/
structure Univ.Ok (W : Univ) : Prop where
  cells : ∀ n x, ∃ asq, W.enc n x = .agg asq ∧ Leafs W (W.cells n x) asq
  size : ∀ n x, (W.cells n x).length = W.size n
  of : ∀ n cs x, W.of n cs = some x → ∀ θ asq, XRs W θ cs asq → .agg (dds asq) = W.enc n x
  pure : ∀ n x, pureV (W.enc n x) = true

section lists
variable {θ : Nat → Option Nat}
theorem XRs.length : ∀ {xs : List (XV W.U)} {asq : List AV}, XRs W θ xs asq → asq.length = xs.length
  | [], asq, h => by simp only [XRs] at h; subst h; rfl
  | x :: xs, asq, h => by
    simp only [XRs] at h
    obtain ⟨a, asq', rfl, _, h2⟩ := h
    simp [XRs.length h2]
theorem XRs.append : ∀ {xs ys : List (XV W.U)} {asq bs : List AV}, XRs W θ xs asq → XRs W θ ys bs → XRs W θ (xs ++ ys) (asq ++ bs)
  | [], ys, asq, bs, h, h' => by simp only [XRs] at h; subst h; exact h'
  | x :: xs, ys, asq, bs, h, h' => by
    simp only [XRs] at h
    obtain ⟨a, asq', rfl, h1, h2⟩ := h
    exact ⟨a, asq' ++ bs, rfl, h1, XRs.append h2 h'⟩
theorem XRs.get : ∀ {xs : List (XV W.U)} {asq : List AV} {i : Nat} {x : XV W.U}, XRs W θ xs asq → xs[i]? = some x → ∃ a, asq[i]? = some a ∧ XR W θ x a
  | [], asq, i, x, h, hx => by simp at hx
  | y :: xs, asq, i, x, h, hx => by
    simp only [XRs] at h
    obtain ⟨a, asq', rfl, h1, h2⟩ := h
    cases i with
    | zero => simp at hx; subst hx; exact ⟨a, by simp, h1⟩
    | succ i => simp at hx; obtain ⟨b, h3, h4⟩ := XRs.get h2 hx; exact ⟨b, by simpa using h3, h4⟩
theorem XRs.take : ∀ {xs : List (XV W.U)} {asq : List AV} (i : Nat), XRs W θ xs asq → XRs W θ (xs.take i) (asq.take i)
  | [], asq, i, h => by simp only [XRs] at h; subst h; simp [XRs]
  | y :: xs, asq, i, h => by
    simp only [XRs] at h
    obtain ⟨a, asq', rfl, h1, h2⟩ := h
    cases i with
    | zero => simp [XRs]
    | succ i => simp only [List.take_succ_cons]; exact ⟨a, _, rfl, h1, XRs.take i h2⟩
theorem XRs.drop : ∀ {xs : List (XV W.U)} {asq : List AV} (i : Nat), XRs W θ xs asq → XRs W θ (xs.drop i) (asq.drop i)
  | [], asq, i, h => by simp only [XRs] at h; subst h; simp [XRs]
  | y :: xs, asq, i, h => by
    simp only [XRs] at h
    obtain ⟨a, asq', rfl, h1, h2⟩ := h
    cases i with
    | zero => simp only [List.drop_zero]; exact ⟨a, _, rfl, h1, h2⟩
    | succ i => simp only [List.drop_succ_cons]; exact XRs.drop i h2
theorem XRs.of_get : ∀ {xs : List (XV W.U)} {asq : List AV}, asq.length = xs.length → (∀ (i : Nat) (x : XV W.U), xs[i]? = some x → ∃ a, asq[i]? = some a ∧ XR W θ x a) → XRs W θ xs asq
  | [], asq, h, _ => by simp only [XRs]; exact List.eq_nil_of_length_eq_zero h
  | x :: xs, [], h, _ => by simp at h
  | x :: xs, a :: asq, h, hg => by
    obtain ⟨b, h1, h2⟩ := hg 0 x rfl
    simp at h1; subst h1
    exact ⟨a, asq, rfl, h2, XRs.of_get (by simpa using h) fun i y hy => by have := hg (i + 1) y (by simpa using hy); simpa using this⟩
end lists

mutual
theorem XR.weaken {θ θ' : Nat → Option Nat} (hθ : ∀ t u, θ t = some u → θ' t = some u) : ∀ {x : XV W.U} {a : AV}, XR W θ x a → XR W θ' x a
  | .v _ _, _, h => h
  | .kb _, _, h => h
  | .lin c xs t, a, h => by
    simp only [XR] at h ⊢
    obtain ⟨ys, h1, h2⟩ := h
    refine ⟨ys, h1, ?_⟩
    rcases h2 with h2 | h2 | ⟨u, h3, h4⟩
    · exact .inl h2
    · exact .inr (.inl h2)
    · exact .inr (.inr ⟨u, hθ _ _ h3, h4⟩)
  | .el _ _ _, _, h => by simp only [XR] at h ⊢; exact h
  | .ptr _ _, _, h => h
  | .ms _ _ _ _, _, h => h
  | .mel _ _ _ _, _, h => h
  | .raw _, _, h => by simp only [XR] at h ⊢; exact h
  | .fn f xs ys, a, h => by
    simp only [XR] at h ⊢
    obtain ⟨asq, bs, rfl, h1, h2⟩ := h
    exact ⟨asq, bs, rfl, XRs.weaken hθ h1, XRs.weaken hθ h2⟩
  | .ifc t v, a, h => by simp only [XR] at h ⊢; obtain ⟨a', rfl, h1⟩ := h; exact ⟨a', rfl, XR.weaken hθ h1⟩
  | .agg cs, a, h => by simp only [XR] at h ⊢; obtain ⟨a', rfl, h1⟩ := h; exact ⟨a', rfl, XRs.weaken hθ h1⟩
  | .tup cs, a, h => by simp only [XR] at h ⊢; obtain ⟨a', rfl, h1⟩ := h; exact ⟨a', rfl, XRs.weaken hθ h1⟩
theorem XRs.weaken {θ θ' : Nat → Option Nat} (hθ : ∀ t u, θ t = some u → θ' t = some u) : ∀ {x : List (XV W.U)} {a : List AV}, XRs W θ x a → XRs W θ' x a
  | [], _, h => by simp only [XRs] at h ⊢; exact h
  | x :: xs, _, h => by simp only [XRs] at h ⊢; obtain ⟨a, asq, rfl, h1, h2⟩ := h; exact ⟨a, asq, rfl, XR.weaken hθ h1, XRs.weaken hθ h2⟩
end

/-- The tags that are no longer. -/
def dropT (dm : List Nat) (θ : Nat → Option Nat) : Nat → Option Nat := fun t => if (dm.any fun y => Nat.beq t y) = true then none else θ t

mutual
theorem XR.dem {θ : Nat → Option Nat} (dm : List Nat) : ∀ {x : XV W.U} {a : AV}, XR W θ x a → XR W (dropT dm θ) (demV dm x) a
  | .v _ _, _, h => by simp only [demV, XR] at h ⊢; exact h
  | .kb _, _, h => by simp only [demV, XR] at h ⊢; exact h
  | .lin c xs t, a, h => by
    simp only [demV]
    simp only [XR] at h
    obtain ⟨ys, h1, h2⟩ := h
    cases hd : dm.any fun y => Nat.beq t y with
    | true =>
      simp only [XR, encD]
      rcases h2 with ⟨rfl, rfl⟩ | rfl | ⟨u, h3, rfl⟩
      · simp only [dd]; simp only [dds] at h1; rw [← h1]
      · simp only [dd, h1]
      · simp only [dd, h1]
    | false =>
      simp only [XR]
      refine ⟨ys, h1, ?_⟩
      rcases h2 with h2 | h2 | ⟨u, h3, h4⟩
      · exact .inl h2
      · exact .inr (.inl h2)
      · exact .inr (.inr ⟨u, by unfold dropT; rw [hd]; simpa using h3, h4⟩)
  | .el _ _ _, _, h => by simp only [demV, XR] at h ⊢; exact h
  | .ptr _ _, _, h => by simp only [demV, XR] at h ⊢; exact h
  | .ms _ _ _ _, _, h => by simp only [demV, XR] at h ⊢; exact h
  | .mel _ _ _ _, _, h => by simp only [demV, XR] at h ⊢; exact h
  | .raw _, _, h => by simp only [demV, XR] at h ⊢; exact h
  | .fn f xs ys, a, h => by
    simp only [demV, XR] at h ⊢
    obtain ⟨asq, bs, rfl, h1, h2⟩ := h
    exact ⟨asq, bs, rfl, XRs.dem dm h1, XRs.dem dm h2⟩
  | .ifc t v, a, h => by simp only [demV, XR] at h ⊢; obtain ⟨a', rfl, h1⟩ := h; exact ⟨a', rfl, XR.dem dm h1⟩
  | .agg cs, a, h => by simp only [demV, XR] at h ⊢; obtain ⟨a', rfl, h1⟩ := h; exact ⟨a', rfl, XRs.dem dm h1⟩
  | .tup cs, a, h => by simp only [demV, XR] at h ⊢; obtain ⟨a', rfl, h1⟩ := h; exact ⟨a', rfl, XRs.dem dm h1⟩
theorem XRs.dem {θ : Nat → Option Nat} (dm : List Nat) : ∀ {x : List (XV W.U)} {a : List AV}, XRs W θ x a → XRs W (dropT dm θ) (demVs dm x) a
  | [], _, h => by simp only [demVs, XRs] at h ⊢; exact h
  | x :: xs, _, h => by simp only [demVs, XRs] at h ⊢; obtain ⟨a, asq, rfl, h1, h2⟩ := h; exact ⟨a, asq, rfl, XR.dem dm h1, XRs.dem dm h2⟩
end

theorem castD_some {U : Nat → Type} {c' c : SC} {x : c'.D U} {y : c.D U} (h : castD c' c x = some y) : ∃ e : c' = c, e ▸ x = y := by
  unfold castD at h
  split at h
  · rename_i e; exact ⟨e, by simpa using h⟩
  · cases h

theorem xof_ok {θ : Nat → Option Nat} {a : AV} {x : XV W.U} (h : xof a = some x) : XR W θ x a := by
  cases a <;> simp only [xof, Option.some.injEq, reduceCtorEq] at h <;> subst h <;> simp [XR, encD, dd, rawOk]

theorem xofs_ok {θ : Nat → Option Nat} : ∀ {a : List AV} {x : List (XV W.U)}, xofs a = some x → XRs W θ x a
  | [], x, h => by simp only [xofs, Option.some.injEq] at h; subst h; rfl
  | a :: asq, x, h => by
    simp only [xofs] at h
    split at h
    · rename_i y ys h1 h2
      cases h
      exact ⟨a, asq, rfl, xof_ok h1, xofs_ok h2⟩
    · cases h

theorem xofV_ok {θ : Nat → Option Nat} {a : AV} {x : XV W.U} (h : xofV a = some x) : XR W θ x a := by
  cases a with
  | agg cs =>
    simp only [xofV] at h
    split at h
    · rename_i xs hx; cases h; exact ⟨cs, rfl, xofs_ok hx⟩
    · cases h
  | _ => exact xof_ok h

section
variable (hW : W.Ok) {θ : Nat → Option Nat}
include hW

theorem encD_pure : ∀ (c : SC) (x : c.D W.U), pureV (encD W c x) = true
  | .int _, _ => rfl
  | .bool, _ => rfl
  | .str, _ => rfl
  | .st n, x => hW.pure n x
  | .sl c, xs => by
    have h : ∀ ys : List (c.D W.U), pureVs (ys.map (encD W c)) = true := by
      intro ys
      induction ys with
      | nil => rfl
      | cons y ys ih => simp only [List.map_cons, pureVs, ih, encD_pure c y, Bool.and_self]
    exact h xs

theorem pures_enc {c : SC} {zs : List AV} {xs : List (c.D W.U)} (h : dds zs = xs.map (encD W c)) : pureVs zs = true := by
  rw [← pures_dd, h]
  exact encD_pure hW (.sl c) xs

theorem XR.v_pure {c : SC} {x : c.D W.U} {a : AV} (h : dd a = encD W c x) : pureV a = true := by
  rw [← pure_dd, h]; exact encD_pure hW c x

theorem XR.st_cells {n : Nat} {x : W.U n} {a : AV} (h : dd a = W.enc n x) : ∃ asq, a = .agg asq ∧ XRs W θ (W.cells n x) asq := by
  obtain ⟨bs, h1, h2⟩ := hW.cells n x
  rw [h1] at h
  obtain ⟨asq, rfl, h3⟩ := dd_agg h
  refine ⟨asq, rfl, ?_⟩
  rw [← h3] at h2
  clear h h1 h3
  generalize W.cells n x = cs at h2
  induction cs generalizing asq with
  | nil => cases asq with
    | nil => rfl
    | cons => simp [Leafs, dds] at h2
  | cons c cs ih =>
    simp only [Leafs] at h2
    obtain ⟨c, y, bs, rfl, _, h3, h4⟩ := h2
    cases asq with
    | nil => simp [dds] at h3
    | cons a asq =>
      simp only [dds, List.cons.injEq] at h3
      obtain ⟨h3, rfl⟩ := h3
      exact ⟨a, asq, rfl, h3, ih _ h4⟩

theorem XR.cells {x : XV W.U} {a : AV} (h : XR W θ x a) : XRs W θ (xcells x) (cellsOf a) := by
  have one : ∀ {x : XV W.U}, XR W θ x a → cellsOf a = [a] → XRs W θ [x] (cellsOf a) := fun h e => by rw [e]; exact ⟨a, [], rfl, h, rfl⟩
  cases x with
  | v c y =>
    cases c with
    | st n =>
      simp only [XR, encD] at h
      obtain ⟨asq, rfl, h1⟩ := XR.st_cells hW (θ := θ) h
      exact h1
    | int k => simp only [XR, encD] at h; exact one h (by rw [dd_int h]; rfl)
    | bool => simp only [XR, encD] at h; exact one h (by rw [dd_bool h]; rfl)
    | str => simp only [XR, encD] at h; exact one h (by rw [dd_str h]; rfl)
    | sl c =>
      refine one h ?_
      simp only [XR, encD] at h
      rcases dd_sl h with ⟨rfl, _⟩ | ⟨ys, j, rfl, _⟩ <;> rfl
  | kb b => exact one h (by simp only [XR] at h; subst h; rfl)
  | lin c xs t => exact one h (by simp only [XR] at h; obtain ⟨ys, _, ⟨rfl, _⟩ | rfl | ⟨u, _, rfl⟩⟩ := h <;> rfl)
  | el c y off => exact one h (by simp only [XR] at h; obtain ⟨ys, i, z, rfl, _⟩ := h; rfl)
  | ptr b off => exact one h (by simp only [XR] at h; subst h; rfl)
  | ms b c lo n => exact one h (by simp only [XR] at h; subst h; rfl)
  | mel b c i off => exact one h (by simp only [XR] at h; subst h; rfl)
  | raw b => exact one h (by simp only [XR] at h; obtain ⟨rfl, h⟩ := h; cases a <;> simp [rawOk] at h <;> rfl)
  | fn f a b => exact one h (by simp only [XR] at h; obtain ⟨_, _, rfl, _⟩ := h; rfl)
  | ifc t v => exact one h (by simp only [XR] at h; obtain ⟨_, rfl, _⟩ := h; rfl)
  | agg cs => simp only [XR] at h; obtain ⟨asq, rfl, h⟩ := h; exact h
  | tup cs => exact one h (by simp only [XR] at h; obtain ⟨_, rfl, _⟩ := h; rfl)

theorem XR.flat {x : XV W.U} {a : AV} (h : XR W θ x a) (hf : xflat x = true) : isFlat a = true := by
  cases x with
  | v c y =>
    cases c with
    | st n => simp [xflat] at hf
    | int k => simp only [XR, encD] at h; rw [dd_int h]; rfl
    | bool => simp only [XR, encD] at h; rw [dd_bool h]; rfl
    | str => simp only [XR, encD] at h; rw [dd_str h]; rfl
    | sl c => simp only [XR, encD] at h; rcases dd_sl h with ⟨rfl, _⟩ | ⟨ys, j, rfl, _⟩ <;> rfl
  | kb b => simp only [XR] at h; subst h; rfl
  | lin c xs t => simp only [XR] at h; obtain ⟨ys, _, ⟨rfl, _⟩ | rfl | ⟨u, _, rfl⟩⟩ := h <;> rfl
  | el c y off => simp only [XR] at h; obtain ⟨ys, i, z, rfl, _⟩ := h; rfl
  | ptr b off => simp only [XR] at h; subst h; rfl
  | ms b c lo n => simp only [XR] at h; subst h; rfl
  | mel b c i off => simp only [XR] at h; subst h; rfl
  | raw b => simp only [XR] at h; obtain ⟨rfl, h⟩ := h; cases a <;> simp [rawOk, xflat] at h hf <;> rfl
  | fn f a b => simp only [XR] at h; obtain ⟨_, _, rfl, _⟩ := h; rfl
  | ifc t v => simp only [XR] at h; obtain ⟨_, rfl, _⟩ := h; rfl
  | agg cs => simp [xflat] at hf
  | tup cs => simp [xflat] at hf

theorem XRs.flat : ∀ {x : List (XV W.U)} {a : List AV}, XRs W θ x a → x.all xflat = true → a.all isFlat = true
  | [], _, h, _ => by simp only [XRs] at h; subst h; rfl
  | x :: xs, _, h, hf => by
    simp only [XRs] at h
    obtain ⟨a, asq, rfl, h1, h2⟩ := h
    simp only [List.all_cons, Bool.and_eq_true] at hf ⊢
    exact ⟨XR.flat hW h1 hf.1, XRs.flat h2 hf.2⟩

theorem cells_len {c : SC} {x : c.D W.U} {a : AV} (h : dd a = encD W c x) : (cellsOf a).length = scSize W c := by
  have := XRs.length (XR.cells hW (θ := fun _ => none) (x := .v c x) (by simpa only [XR] using h))
  rw [this]
  cases c with
  | st n => exact hW.size n x
  | _ => rfl

theorem cells_flat {c : SC} {x : c.D W.U} {a : AV} (h : dd a = encD W c x) : (cellsOf a).all isFlat = true := by
  cases c with
  | st n =>
    obtain ⟨bs, h1, h2⟩ := hW.cells n x
    have h' : dd a = W.enc n x := h
    rw [h1] at h'
    obtain ⟨asq, rfl, h3⟩ := dd_agg h'
    rw [← h3] at h2
    clear h h' h1 h3
    simp only [cellsOf]
    generalize W.cells n x = cs at h2
    induction cs generalizing asq with
    | nil => cases asq with
      | nil => rfl
      | cons => simp [Leafs, dds] at h2
    | cons c cs ih =>
      simp only [Leafs] at h2
      obtain ⟨c, y, bs, rfl, h5, h3, h4⟩ := h2
      cases asq with
      | nil => simp [dds] at h3
      | cons a asq =>
        simp only [dds, List.cons.injEq] at h3
        obtain ⟨h3, rfl⟩ := h3
        have := XR.flat hW (θ := fun _ => none) (x := .v c y) (a := a) (by simpa only [XR] using h3) (by cases c <;> simp [scAgg] at h5 <;> rfl)
        simp [this, ih _ h4]
  | _ =>
    have h0 : XR W (fun _ => none) (.v _ x) a := by simpa only [XR] using h
    have h1 := XR.flat hW h0 rfl
    have h2 : cellsOf a = [a] := by cases a <;> simp [isFlat] at h1 <;> rfl
    simp [h2, h1]

omit hW in
theorem asFlat_ok {c : SC} {x : XV W.U} {y : c.D W.U} {a : AV} (h : asFlat c x = some y) (hx : XR W θ x a) : dd a = encD W c y := by
  cases x with
  | v c' z => obtain ⟨rfl, rfl⟩ := castD_some h; simpa only [XR] using hx
  | kb b => obtain ⟨rfl, rfl⟩ := castD_some h; simp only [XR] at hx; subst hx; rfl
  | lin c' xs t =>
    obtain ⟨rfl, rfl⟩ := castD_some h
    simp only [XR] at hx
    obtain ⟨ys, h1, h2⟩ := hx
    simp only [encD]
    rcases h2 with ⟨rfl, rfl⟩ | rfl | ⟨u, _, rfl⟩
    · simp only [dd]; simp only [dds] at h1; rw [← h1]
    · simp only [dd, h1]
    · simp only [dd, h1]
  | raw b =>
    simp only [XR] at hx
    obtain ⟨rfl, _⟩ := hx
    cases a <;> first
      | (have h2 : (none : Option (c.D W.U)) = some y := h; cases h2)
      | skip
    cases c <;> first
      | (have h2 : none = some y := h; cases h2)
      | (have h2 : some [] = some y := h
         cases h2
         rfl)
  | _ => exact absurd (show none = some y from h) (by simp)

omit hW in
theorem asD_flat {c : SC} {x : XV W.U} (h : ∀ cs, x ≠ .agg cs) : asD c x = asFlat c x := by
  cases x <;> first | rfl | exact absurd rfl (h _)

theorem asD_ok {c : SC} {x : XV W.U} {y : c.D W.U} {a : AV} (h : asD c x = some y) (hx : XR W θ x a) : dd a = encD W c y := by
  cases x with
  | agg cs =>
    have h1 : asAgg (W := W) c cs = some y := h
    cases c with
    | st n =>
      simp only [XR] at hx
      obtain ⟨asq, rfl, h2⟩ := hx
      simp only [dd, encD]
      exact hW.of _ _ _ h1 θ _ h2
    | _ => cases h1
  | _ =>
    rw [asD_flat (by intro cs h; cases h)] at h
    exact asFlat_ok h hx

theorem asList_ok {c : SC} {x : XV W.U} {ys : List (c.D W.U)} {a : AV} (h : asList c x = some ys) (hx : XR W θ x a) : (a = .nils ∧ ys = []) ∨ ∃ zs k, a = .sl zs k ∧ dds zs = ys.map (encD W c) := by
  have key : dd a = .sl (ys.map (encD W c)) .dead → (a = .nils ∧ ys = []) ∨ ∃ zs k, a = .sl zs k ∧ dds zs = ys.map (encD W c) := fun h => by
    rcases dd_sl h with ⟨rfl, h1⟩ | ⟨zs, j, rfl, h1⟩
    · exact .inl ⟨rfl, List.map_eq_nil_iff.1 h1⟩
    · exact .inr ⟨zs, j, rfl, h1⟩
  cases x with
  | v c' z =>
    have h1 : asFlat (W := W) (.sl c) (.v c' z) = some ys := h
    exact key (asFlat_ok h1 hx)
  | lin c' xs t =>
    have h1 : asFlat (W := W) (.sl c) (.lin c' xs t) = some ys := h
    exact key (asFlat_ok h1 hx)
  | raw b =>
    simp only [XR] at hx
    obtain ⟨rfl, _⟩ := hx
    cases a <;> first
      | (have h2 : (none : Option (List (c.D W.U))) = some ys := h; cases h2)
      | (have h2 : some ([] : List (c.D W.U)) = some ys := h
         cases h2
         exact .inl ⟨rfl, rfl⟩)
  | _ => exact absurd (show none = some ys from h) (by simp)
end

/-- A block and its cells. -/
def BlkR (W : Univ) (θ : Nat → Option Nat) : XB W.U → List AV → Prop
  | .cells cs, asq => XRs W θ cs asq
  | .arr c xs, asq => ∃ ys, asq = ys.flatMap cellsOf ∧ dds ys = xs.map (encD W c)

theorem BlkR.weaken {θ θ' : Nat → Option Nat} (hθ : ∀ t u, θ t = some u → θ' t = some u) {x : XB W.U} {a : List AV} (h : BlkR W θ x a) : BlkR W θ' x a := by
  cases x with
  | cells cs => exact XRs.weaken hθ h
  | arr c xs => exact h
theorem BlkR.dem {θ : Nat → Option Nat} (dm : List Nat) {x : XB W.U} {a : List AV} (h : BlkR W θ x a) : BlkR W (dropT dm θ) (demB dm x) a := by
  cases x with
  | cells cs => exact XRs.dem dm h
  | arr c xs => exact h
end Go.Am
namespace Go.Am

variable {W : Univ}

def EnvX (W : Univ) (θ : Nat → Option Nat) (e : XEnv W.U) (env : Env) : Prop := ∀ t v, xget e t = some v → ∃ a, env.get t = some a ∧ XR W θ v a

structure XSR (P : XP) (h0 : Tr Blk) (X : XSt P.W.U) (θ : Nat → Option Nat) (s : St) : Prop where
  next : s.next = P.nx + X.heap.length
  low : ∀ b, b < P.nx → s.heap.get b = h0.get b
  own : ∀ (j : Nat) (cs : XB P.W.U), X.heap[j]? = some cs → ∃ asq, s.heap.get (P.nx + j) = some (.cells asq false) ∧ BlkR P.W θ cs asq
  high : ∀ b, s.next ≤ b → s.heap.get b = none
  tag : ∀ t u, θ t = some u → s.live.get u = some true ∧ u < s.nt ∧ t ≠ 0 ∧ t < X.nt
  inj : ∀ t t' u, θ t = some u → θ t' = some u → t = t'

section
variable {ρ : Type}
theorem chk_some {c : Bool} {t : Option ρ} {y : ρ} (h : chk c t = some y) : c = true ∧ t = some y := by
  cases c with
  | true => exact ⟨rfl, h⟩
  | false => cases h
theorem brB_some {c : Bool} {t e : Option ρ} {y : ρ} (h : brB c t e = some y) : (c = true ∧ t = some y) ∨ (c = false ∧ e = some y) := by
  cases c with
  | true => exact .inl ⟨rfl, h⟩
  | false => exact .inr ⟨rfl, h⟩
theorem bindO_some {α : Type} {m : Option α} {K : α → Option ρ} {y : ρ} (h : bindO m K = some y) : ∃ x, m = some x ∧ K x = some y := by
  cases m with
  | none => cases h
  | some x => exact ⟨x, rfl, h⟩
end

section
variable {θ : Nat → Option Nat} {e : XEnv W.U} {env : Env}

theorem xev_ok (he : EnvX W θ e env) {x : Operand} {v : XV W.U} (h : xev e x = some v) : ∃ a, ev env x = some a ∧ XR W θ v a := by
  cases x with
  | tmp t => exact he t v h
  | const c =>
    simp only [xev] at h
    simp only [ev]
    cases hc : ofV 8 c with
    | none => rw [hc] at h; cases h
    | some a => rw [hc] at h; exact ⟨a, rfl, xofV_ok h⟩
  | global g => cases h
  | func f => cases h; exact ⟨_, rfl, by simp [XR, XRs]⟩

theorem xevs_ok (he : EnvX W θ e env) : ∀ {xs : List Operand} {vs : List (XV W.U)}, xevs e xs = some vs → ∃ asq, evs env xs = some asq ∧ XRs W θ vs asq
  | [], vs, h => by cases h; exact ⟨[], rfl, rfl⟩
  | x :: xs, vs, h => by
    simp only [xevs] at h
    split at h
    · rename_i a asq h1 h2
      cases h
      obtain ⟨b, h3, h4⟩ := xev_ok he h1
      obtain ⟨bs, h5, h6⟩ := xevs_ok he h2
      exact ⟨b :: bs, by simp only [evs, h3, h5], b, bs, rfl, h4, h6⟩
    · cases h

/-- Numbered values. -/
def XRp (W : Univ) (θ : Nat → Option Nat) : List (Nat × XV W.U) → List (Nat × AV) → Prop
  | [], asq => asq = []
  | (i, x) :: xs, asq => ∃ a asq', asq = (i, a) :: asq' ∧ XR W θ x a ∧ XRp W θ xs asq'

theorem xevParts_ok (he : EnvX W θ e env) : ∀ {xs : List (Nat × Operand)} {vs : List (Nat × XV W.U)}, xevParts e xs = some vs → ∃ asq, evParts env xs = some asq ∧ XRp W θ vs asq
  | [], vs, h => by cases h; exact ⟨[], rfl, rfl⟩
  | (i, x) :: xs, vs, h => by
    simp only [xevParts] at h
    split at h
    · rename_i a asq h1 h2
      cases h
      obtain ⟨b, h3, h4⟩ := xev_ok he h1
      obtain ⟨bs, h5, h6⟩ := xevParts_ok he h2
      exact ⟨(i, b) :: bs, by simp only [evParts, h3, h5], b, bs, rfl, h4, h6⟩
    · cases h

theorem xevOpt_ok (he : EnvX W θ e env) {x : Option Operand} {v : Option (XV W.U)} (h : xevOpt e x = some v) :
    ∃ a, evOpt env x = some a ∧ ((v = none ∧ a = none) ∨ ∃ u b, v = some u ∧ a = some b ∧ XR W θ u b) := by
  cases x with
  | none => cases h; exact ⟨none, rfl, .inl ⟨rfl, rfl⟩⟩
  | some x =>
    simp only [xevOpt] at h
    cases hx : xev e x with
    | none => rw [hx] at h; cases h
    | some u =>
      rw [hx] at h; cases h
      obtain ⟨b, h1, h2⟩ := xev_ok he hx
      exact ⟨some b, by simp only [evOpt, h1], .inr ⟨u, b, rfl, rfl, h2⟩⟩

theorem xasI_ok {x : XV W.U} {k : IntKind} {n : Int} {a : AV} (h : xasI x = some (k, n)) (hx : XR W θ x a) : a = .int k n := by
  cases x with
  | v c y =>
    cases c with
    | int j =>
      have h1 : some (j, y) = some (k, n) := h
      cases h1
      simp only [XR, encD] at hx
      exact dd_int hx
    | _ => cases (show none = some (k, n) from h)
  | _ => cases (show none = some (k, n) from h)
theorem xasS_ok {x : XV W.U} {s : ByteArray} {a : AV} (h : xasS x = some s) (hx : XR W θ x a) : a = .str s := by
  cases x with
  | v c y =>
    cases c with
    | str =>
      have h1 : some y = some s := h
      cases h1
      simp only [XR, encD] at hx
      exact dd_str hx
    | _ => cases (show none = some s from h)
  | _ => cases (show none = some s from h)
theorem xasB_ok {x : XV W.U} {s : Bool} {a : AV} (h : xasB x = some s) (hx : XR W θ x a) : a = .bool s := by
  cases x with
  | v c y =>
    cases c with
    | bool =>
      have h1 : some y = some s := h
      cases h1
      simp only [XR, encD] at hx
      exact dd_bool hx
    | _ => cases (show none = some s from h)
  | kb b =>
    have h1 : some b = some s := h
    cases h1
    exact hx
  | _ => cases (show none = some s from h)

theorem XR.mkI {k : IntKind} {n : Int} : XR W θ (.v (.int k) n) (.int k n) := by simp [XR, encD, dd]
theorem XR.mkB {b : Bool} : XR W θ (.v .bool b) (.bool b) := by simp [XR, encD, dd]
theorem XR.mkS {b : ByteArray} : XR W θ (.v .str b) (.str b) := by simp [XR, encD, dd]

variable {ρ : Type} {K : XV W.U → Option ρ} {y : ρ}

theorem xbinI_ok {op : BinOp} {k : IntKind} {a b : Int} (h : xbinI op k a b K = some y) : ∃ v c, arithA op k a b = some c ∧ XR W θ v c ∧ K v = some y := by
  cases op <;> simp only [xbinI, reduceCtorEq] at h
  case quo =>
    obtain ⟨h0, h⟩ := chk_some h
    refine ⟨_, _, ?_, XR.mkI, h⟩
    simp only [neI, bne, Bool.not_eq_true'] at h0
    simp only [arithA, h0, quoI]
  case rem =>
    obtain ⟨h0, h⟩ := chk_some h
    refine ⟨_, _, ?_, XR.mkI, h⟩
    simp only [neI, bne, Bool.not_eq_true'] at h0
    simp only [arithA, h0, remI]
  all_goals first
    | exact ⟨_, _, rfl, XR.mkI, h⟩
    | exact ⟨_, _, rfl, XR.mkB, h⟩

theorem xshift_ok {op : BinOp} {k : IntKind} {a b : Int} (h : xshift op k a b K = some y) : ∃ v c, shiftA op k a b = some c ∧ XR W θ v c ∧ K v = some y := by
  cases op <;> simp only [xshift, reduceCtorEq] at h
  all_goals
    obtain ⟨h0, h⟩ := chk_some h
    refine ⟨_, _, ?_, XR.mkI, h⟩
    simp only [leI, decide_eq_true_eq] at h0
    have : decide (b < 0) = false := by simpa using h0
    simp only [shiftA, this]
    rfl

theorem xbinS_ok {op : BinOp} {a b : ByteArray} (h : xbinS op a b K = some y) : ∃ v c, strA op a b = some c ∧ XR W θ v c ∧ K v = some y := by
  cases op <;> simp only [xbinS, reduceCtorEq] at h
  case add =>
    obtain ⟨h0, h⟩ := chk_some h
    refine ⟨_, _, ?_, XR.mkS, h⟩
    simp only [catOk, Bool.not_eq_true'] at h0
    simp only [strA, h0, catS]
  all_goals exact ⟨_, _, rfl, XR.mkB, h⟩

/-- Is an abstract value nil, or none, at a kind of type? -/
def nilA (kd : TK) (b : Bool) (a : AV) : Prop := match kd, b with
  | .ptr _, true => a = .nilp
  | .slice _, true => a = .nils
  | .map _ _, true => a = .nilm
  | .func, true => a = .nilf
  | .iface, true => a = .nili
  | .ptr _, false => (∃ b o, a = .ptr b o) ∨ ∃ xs i o, a = .elem xs i o
  | .slice _, false => ∃ b o l z, a = .ms b o l z
  | .func, false => ∃ f x y, a = .fn f x y
  | _, _ => False

theorem xnil_ok {x : XV W.U} {kd : TK} {b : Bool} {a : AV} (h : xnil kd x = some b) (hx : XR W θ x a) : nilA kd b a := by
  cases x with
  | raw r =>
    simp only [XR] at hx
    obtain ⟨rfl, _⟩ := hx
    cases kd <;> cases a <;> first
      | (have h1 : (none : Option Bool) = some b := h; cases h1)
      | (have h1 : some true = some b := h
         cases h1
         rfl)
  | ptr p o =>
    simp only [XR] at hx
    subst hx
    cases kd <;> first
      | (have h1 : (none : Option Bool) = some b := h; cases h1)
      | (have h1 : some false = some b := h
         cases h1
         exact .inl ⟨_, _, rfl⟩)
  | el c z o =>
    simp only [XR] at hx
    obtain ⟨ys, i, w, rfl, _⟩ := hx
    cases kd <;> first
      | (have h1 : (none : Option Bool) = some b := h; cases h1)
      | (have h1 : some false = some b := h
         cases h1
         exact .inr ⟨_, _, _, rfl⟩)
  | fn f u w =>
    simp only [XR] at hx
    obtain ⟨asq, bs, rfl, _⟩ := hx
    cases kd <;> first
      | (have h1 : (none : Option Bool) = some b := h; cases h1)
      | (have h1 : some false = some b := h
         cases h1
         exact ⟨_, _, _, rfl⟩)
  | ms p c l n =>
    simp only [XR] at hx
    subst hx
    cases kd <;> first
      | (have h1 : (none : Option Bool) = some b := h; cases h1)
      | (have h1 : some false = some b := h
         cases h1
         exact ⟨_, _, _, _, rfl⟩)
  | mel p c l n =>
    simp only [XR] at hx
    subst hx
    cases kd <;> first
      | (have h1 : (none : Option Bool) = some b := h; cases h1)
      | (have h1 : some false = some b := h
         cases h1
         exact .inl ⟨_, _, rfl⟩)
  | _ => cases kd <;> exact absurd (show none = some b from h) (by simp)

theorem xnil_raw {x : XV W.U} {kd : TK} {b : Bool} (hr : isRaw x = true) (h : xnil kd x = some b) : b = true := by
  cases x with
  | raw r =>
    cases kd <;> cases r <;> first
      | (have h1 : (none : Option Bool) = some b := h; cases h1)
      | (have h1 : some true = some b := h
         cases h1
         rfl)
  | _ => simp [isRaw] at hr

theorem eqTop_nil {T : Tr TI} {t : Nat} {ti : TI} {ox oy : Operand} {a b : AV} {u w : Bool} (ht : T.get t = some ti) (h1 : nilA ti.kd u a) (h2 : nilA ti.kd w b) (hraw : u = true ∨ w = true) (hc : (isConstO ox || isConstO oy) = true) :
    eqTop T t ox oy a b = some (u && w) := by
  cases hkd : ti.kd with
  | ptr e =>
    rw [hkd] at h1 h2
    cases u with
    | true =>
      have h1 : a = .nilp := h1
      subst h1
      cases w with
      | true => have h2 : b = .nilp := h2; subst h2; simp only [eqTop, eqA, ht, hkd, Bool.and_self, Bool.and_false, Bool.false_and, Bool.true_and]
      | false =>
        have h2 : (∃ c o, b = .ptr c o) ∨ ∃ xs i o, b = .elem xs i o := h2
        rcases h2 with ⟨_, _, rfl⟩ | ⟨_, _, _, rfl⟩ <;> simp only [eqTop, eqA, ht, hkd, Bool.and_self, Bool.and_false, Bool.false_and, Bool.true_and]
    | false =>
      have h1 : (∃ c o, a = .ptr c o) ∨ ∃ xs i o, a = .elem xs i o := h1
      cases w with
      | true =>
        have h2 : b = .nilp := h2; subst h2
        rcases h1 with ⟨_, _, rfl⟩ | ⟨_, _, _, rfl⟩ <;> simp only [eqTop, eqA, ht, hkd, Bool.and_self, Bool.and_false, Bool.false_and, Bool.true_and]
      | false => simp at hraw
  | slice e =>
    rw [hkd] at h1 h2
    cases u with
    | true =>
      have h1 : a = .nils := h1
      subst h1
      cases w with
      | true => have h2 : b = .nils := h2; subst h2; simp only [eqTop, eqA, ht, hkd, Bool.and_self, Bool.and_false, Bool.false_and, Bool.true_and]
      | false =>
        have h2 : ∃ c o l z, b = .ms c o l z := h2
        obtain ⟨_, _, _, _, rfl⟩ := h2
        simp only [eqTop, eqA, ht, hkd, Bool.and_self, Bool.and_false, Bool.false_and, Bool.true_and]
    | false =>
      have h1 : ∃ c o l z, a = .ms c o l z := h1
      obtain ⟨_, _, _, _, rfl⟩ := h1
      cases w with
      | true =>
        have h2 : b = .nils := h2; subst h2
        simp only [eqTop, eqA, ht, hkd, Bool.and_self, Bool.and_false, Bool.false_and, Bool.true_and]
      | false => simp at hraw
  | map k e =>
    rw [hkd] at h1 h2
    cases u <;> cases w <;> simp only [nilA] at h1 h2
    subst h1; subst h2
    simp only [eqTop, eqA, ht, hkd, Bool.and_self, Bool.and_false, Bool.false_and, Bool.true_and]
  | iface =>
    rw [hkd] at h1 h2
    cases u <;> cases w <;> simp only [nilA] at h1 h2
    subst h1; subst h2
    simp only [eqTop, hc, ht, hkd, Bool.and_self]
  | func =>
    rw [hkd] at h1 h2
    cases u with
    | true =>
      have h1 : a = .nilf := h1
      subst h1
      cases w with
      | true => have h2 : b = .nilf := h2; subst h2; simp only [eqTop, eqA, ht, hkd, Bool.and_self, Bool.and_false, Bool.false_and, Bool.true_and]
      | false =>
        have h2 : ∃ f x y, b = .fn f x y := h2
        obtain ⟨_, _, _, rfl⟩ := h2
        simp only [eqTop, eqA, ht, hkd, Bool.and_self, Bool.and_false, Bool.false_and, Bool.true_and]
    | false =>
      have h1 : ∃ f x y, a = .fn f x y := h1
      obtain ⟨_, _, _, rfl⟩ := h1
      cases w with
      | true =>
        have h2 : b = .nilf := h2; subst h2
        simp only [eqTop, eqA, ht, hkd, Bool.and_self, Bool.and_false, Bool.false_and, Bool.true_and]
      | false => simp at hraw
  | _ => rw [hkd] at h1; cases u <;> exact h1.elim

theorem xeq_ok {T : Tr TI} {t : Nat} {ox oy : Operand} {x y : XV W.U} {r : Bool} {a b : AV} (h : xeq T t ox oy x y = some r) (hx : XR W θ x a) (hy : XR W θ y b) : eqTop T t ox oy a b = some r ∧ (∃ ti, T.get t = some ti) := by
  unfold xeq at h
  cases ht : T.get t with
  | none => rw [ht] at h; cases h
  | some ti =>
    rw [ht] at h
    refine ⟨?_, ti, rfl⟩
    simp only [] at h
    have gen : (match isConstO ox || isConstO oy, isRaw x || isRaw y, xnil ti.kd x, xnil ti.kd y with
        | true, true, some a, some b => some (a && b)
        | _, _, _, _ => none) = some r → eqTop T t ox oy a b = some r := by
      intro h
      split at h
      · rename_i u w hc hr hu hw
        have h1 := xnil_ok hu hx
        have h2 := xnil_ok hw hy
        cases h
        have hraw : u = true ∨ w = true := by
          rcases Bool.or_eq_true_iff.1 hr with hr | hr
          · exact .inl (xnil_raw hr hu)
          · exact .inr (xnil_raw hr hw)
        exact eqTop_nil ht h1 h2 hraw hc
      · cases h
    split at h
    · rename_i hkd
      split at h
      · rename_i u w hu hw
        have h1 := xasB_ok hu hx
        have h2 := xasB_ok hw hy
        cases h
        subst h1; subst h2
        simp [eqTop, eqA, ht, hkd, eqB]
      · cases h
    · exact gen h

theorem xkb_ok {T : Tr TI} {t : Nat} {b : Bool} : XR W θ (xkb T t b) (.bool b) := by
  unfold xkb
  split
  · split
    · exact XR.mkB
    · simp [XR]
  · simp [XR]

theorem xbin_ok {T : Tr TI} {op : BinOp} {t : Nat} {ox oy : Operand} {x z : XV W.U} {a b : AV} (h : xbin T op t ox oy x z K = some y) (hx : XR W θ x a) (hz : XR W θ z b) :
    ∃ v c, binA T op t ox oy a b = some c ∧ XR W θ v c ∧ K v = some y := by
  unfold xbin at h
  split at h
  · rename_i k m j n h1 h2
    have e1 := xasI_ok h1 hx
    have e2 := xasI_ok h2 hz
    subst e1; subst e2
    split at h
    · rename_i hs
      obtain ⟨v, c, h3, h4, h5⟩ := xshift_ok (θ := θ) h
      refine ⟨v, c, ?_, h4, h5⟩
      cases op <;> simp [isShift] at hs <;> exact h3
    · rename_i hs
      split at h
      · rename_i hk
        obtain ⟨v, c, h3, h4, h5⟩ := xbinI_ok (θ := θ) h
        refine ⟨v, c, ?_, h4, h5⟩
        cases op <;> simp [isShift] at hs <;> simp only [binA, hk] <;> exact h3
      · cases h
  · split at h
    · rename_i m n h1 h2
      have e1 := xasS_ok h1 hx
      have e2 := xasS_ok h2 hz
      subst e1; subst e2
      obtain ⟨v, c, h3, h4, h5⟩ := xbinS_ok (θ := θ) h
      exact ⟨v, c, h3, h4, h5⟩
    · have notII : ∀ {r}, eqTop T t ox oy a b = some r → (∀ k i j n, a = .int k i → b = .int j n → False) → (∀ s u, a = .str s → b = .str u → False) →
          binA T .eql t ox oy a b = some (.bool r) ∧ binA T .neq t ox oy a b = some (.bool !r) := by
        intro r hr n1 n2
        cases a <;> cases b <;> first
          | exact (n1 _ _ _ _ rfl rfl).elim
          | exact (n2 _ _ rfl rfl).elim
          | (simp only [binA, hr]; exact ⟨trivial, trivial⟩)
      have key : ∀ {r}, xeq T t ox oy x z = some r → binA T .eql t ox oy a b = some (.bool r) ∧ binA T .neq t ox oy a b = some (.bool !r) := by
        intro r hr
        obtain ⟨h1, _⟩ := xeq_ok hr hx hz
        unfold xeq at hr
        split at hr
        · cases hr
        · rename_i ti ht
          refine notII h1 ?_ ?_
          · rintro k i j n rfl rfl
            split at hr
            · split at hr
              · rename_i hu hw; cases xasB_ok hu hx
              · cases hr
            · split at hr
              · rename_i hu hw
                have := xnil_ok hu hx
                revert this; unfold nilA; split <;> simp
              · cases hr
          · rintro s u rfl rfl
            split at hr
            · split at hr
              · rename_i hu hw; cases xasB_ok hu hx
              · cases hr
            · split at hr
              · rename_i hu hw
                have := xnil_ok hu hx
                revert this; unfold nilA; split <;> simp
              · cases hr
      split at h
      · split at h
        · rename_i r hr; exact ⟨_, _, (key hr).1, xkb_ok, h⟩
        · cases h
      · split at h
        · rename_i r hr; exact ⟨_, _, (key hr).2, xkb_ok, h⟩
        · cases h
      · cases h

theorem xun_ok {op : UnOp} {x : XV W.U} {a : AV} (h : xun op x K = some y) (hx : XR W θ x a) : ∃ v c, unA op a = some c ∧ XR W θ v c ∧ K v = some y := by
  unfold xun at h
  cases op with
  | not =>
    simp only [] at h
    split at h
    · simp only [XR] at hx; subst hx; exact ⟨_, _, rfl, by simp [XR], h⟩
    · split at h
      · rename_i b hb
        have := xasB_ok hb hx
        subst this
        exact ⟨_, _, rfl, XR.mkB, h⟩
      · cases h
  | neg =>
    simp only [] at h
    split at h
    · rename_i k n hb
      have := xasI_ok hb hx
      subst this
      exact ⟨_, _, rfl, XR.mkI, h⟩
    · cases h
  | xor =>
    simp only [] at h
    split at h
    · rename_i k n hb
      have := xasI_ok hb hx
      subst this
      exact ⟨_, _, rfl, XR.mkI, h⟩
    · cases h
  | _ => cases h
end
end Go.Am
namespace Go.Am

section
variable {W : Univ} {θ : Nat → Option Nat}

theorem XRs.splice_ {cs vs : List (XV W.U)} {asq bs : List AV} (h : XRs W θ cs asq) (h' : XRs W θ vs bs) (off : Nat) : XRs W θ (cs.take off ++ vs ++ cs.drop (off + vs.length)) (splice asq off bs) := by
  unfold Go.Am.splice
  rw [show vs.length = bs.length from (XRs.length h').symm]
  exact ((h.take off).append h').append (h.drop _)

theorem XR.mkAgg {cs : List (XV W.U)} {asq : List AV} (h : XRs W θ cs asq) : XR W θ (.agg cs) (.agg asq) := by simp only [XR]; exact ⟨asq, rfl, h⟩

theorem natbeq {a b : Nat} (h : Nat.beq a b = true) : a = b := Nat.eq_of_beq_eq_true h

theorem xfill_ok (hW : W.Ok) {place : Nat → Option (Nat × Nat)} : ∀ {ps : List (Nat × XV W.U)} {qs : List (Nat × AV)} {cs r : List (XV W.U)} {asq : List AV}, xfill xcells place cs ps = some r → XRs W θ cs asq → XRp W θ ps qs → ∃ bs, fillA place asq qs = some bs ∧ XRs W θ r bs
  | [], qs, cs, r, asq, h, hc, hp => by
    simp only [XRp] at hp
    subst hp
    simp only [xfill, Option.some.injEq] at h
    subst h
    exact ⟨asq, rfl, hc⟩
  | (i, v) :: ps, qs, cs, r, asq, h, hc, hp => by
    simp only [XRp] at hp
    obtain ⟨a, qs', rfl, hv, hp⟩ := hp
    simp only [xfill] at h
    cases hpl : place i with
    | none => rw [hpl] at h; cases h
    | some z =>
      obtain ⟨off, size⟩ := z
      rw [hpl] at h
      simp only [] at h
      have hcv := XR.cells hW hv
      split at h
      · rename_i hok
        simp only [Bool.and_eq_true, decide_eq_true_eq] at hok
        obtain ⟨bs, h1, h2⟩ := xfill_ok hW h (hc.splice_ hcv off) hp
        refine ⟨bs, ?_, h2⟩
        have e1 : ((cellsOf a).length == size && decide (off + size ≤ asq.length)) = true := by
          rw [XRs.length hcv, XRs.length hc, natbeq hok.1]
          simp [hok.2]
        simp only [fillA, hpl, e1]
        exact h1
      · cases h

theorem XRp.get : ∀ {ps : List (Nat × XV W.U)} {qs : List (Nat × AV)}, XRp W θ ps qs → True := fun _ => trivial

end

section
variable {P : XP} {h0 : Tr Blk} {X : XSt P.W.U} {θ : Nat → Option Nat} {s : St} {e : XEnv P.W.U} {env : Env} {ρ : Type} {K : XV P.W.U → Option ρ} {y : ρ}

theorem xblk_ok (hX : XSR P h0 X θ s) {b : Nat} {cs : List (XV P.W.U)} (h : xblk P X b = some cs) : ∃ asq, s.heap.get b = some (.cells asq false) ∧ XRs P.W θ cs asq ∧ P.nx ≤ b ∧ X.heap[b - P.nx]? = some (.cells cs) := by
  unfold xblk at h
  split at h
  · rename_i hb
    have hb' := Nat.le_of_ble_eq_true hb
    split at h
    · rename_i cs' hc
      cases h
      obtain ⟨asq, h1, h2⟩ := hX.own _ _ hc
      rw [show P.nx + (b - P.nx) = b by omega] at h1
      exact ⟨asq, h1, h2, hb', hc⟩
    · cases h
  · cases h

theorem xarr_ok (hX : XSR P h0 X θ s) {b : Nat} {c : SC} {xs : List (c.D P.W.U)} (h : xarr P X b c = some xs) : ∃ ys, s.heap.get b = some (.cells (ys.flatMap cellsOf) false) ∧ dds ys = xs.map (encD P.W c) ∧ P.nx ≤ b ∧ X.heap[b - P.nx]? = some (.arr c xs) := by
  unfold xarr at h
  split at h
  · rename_i hb
    have hb' := Nat.le_of_ble_eq_true hb
    cases hc : X.heap[b - P.nx]? with
    | none => rw [hc] at h; cases h
    | some blk =>
      rw [hc] at h
      cases blk with
      | cells cs => cases h
      | arr c' xs' =>
        obtain ⟨e, h⟩ := castD_some (show castD (U := P.W.U) (.sl c') (.sl c) xs' = some xs from h)
        cases e
        have h : xs' = xs := h
        subst h
        obtain ⟨asq, h1, ys, rfl, h2⟩ := hX.own _ _ hc
        rw [show P.nx + (b - P.nx) = b by omega] at h1
        exact ⟨ys, h1, h2, hb', rfl⟩
  · cases h

/-- A part of an element, in cells of its own or among others. -/
theorem xelem_ok (hW : P.W.Ok) {ti : TI} {c : SC} {x : c.D P.W.U} {off : Nat} {z : AV} (h : xelem ti c x off K = some y) (hz : dd z = encD P.W c x) :
    ∃ v w, loadCellsA ti (cellsOf z) off = some w ∧ (off + (if ti.agg = true then ti.size else 1) ≤ (cellsOf z).length) ∧ XR P.W θ v w ∧ K v = some y := by
  have hz' : XR P.W θ (.v c x) z := by simpa only [XR] using hz
  have hcells := XR.cells hW hz'
  unfold xelem at h
  split at h
  · rename_i hag
    rw [if_pos hag]
    split at h
    · rename_i hok
      simp only [Bool.and_eq_true] at hok
      have h2 := natbeq hok.1.2
      have h3 := natbeq hok.2
      subst h2
      have hlen := cells_len hW hz
      refine ⟨_, z, ?_, by rw [hlen, h3]; omega, hz', h⟩
      simp only [loadCellsA, hag]
      rw [show decide (0 + ti.size ≤ (cellsOf z).length) = true by rw [hlen, h3]; simp]
      simp only [List.drop_zero]
      rw [List.take_of_length_le (by rw [hlen, h3]; exact Nat.le_refl _)]
      cases c with
      | st n =>
        obtain ⟨asq, rfl, _⟩ := XR.st_cells hW (θ := θ) hz
        rfl
      | _ => simp [scAgg] at hok
    · split at h
      · rename_i hle
        have hle' : decide (off + ti.size ≤ (cellsOf z).length) = true := by rw [XRs.length hcells]; exact hle
        refine ⟨_, .agg (((cellsOf z).drop off).take ti.size), ?_, of_decide_eq_true hle', XR.mkAgg ((hcells.drop off).take _), h⟩
        simp only [loadCellsA, hag, hle']
      · cases h
  · rename_i hag
    rw [if_neg (by rw [hag]; simp)]
    split at h
    · rename_i v hv
      obtain ⟨c', h3, h4⟩ := hcells.get hv
      refine ⟨v, c', ?_, (List.getElem?_eq_some_iff.1 h3).1, h4, h⟩
      simp only [loadCellsA, hag, h3]
    · cases h

theorem fl_length' {z : Nat} : ∀ {xs : List AV}, (∀ x ∈ xs, (cellsOf x).length = z) → (xs.flatMap cellsOf).length = xs.length * z
  | [], _ => by simp
  | x :: xs, h => by
    have := fl_length' (xs := xs) (fun y hy => h y (by simp [hy]))
    simp only [List.flatMap_cons, List.length_append, this, h x (by simp), List.length_cons, Nat.succ_mul]; omega
theorem fl_drop' {z : Nat} : ∀ {xs : List AV} (i : Nat), (∀ x ∈ xs, (cellsOf x).length = z) → (xs.flatMap cellsOf).drop (i * z) = (xs.drop i).flatMap cellsOf
  | xs, 0, _ => by simp
  | [], i + 1, _ => by simp
  | x :: xs, i + 1, h => by
    have := fl_drop' (xs := xs) i (fun y hy => h y (by simp [hy]))
    simp only [List.flatMap_cons, List.drop_succ_cons]
    rw [List.drop_append, h x (by simp), Nat.succ_mul, Nat.add_sub_cancel, this, List.drop_eq_nil_of_le (by rw [h x (by simp)]; omega), List.nil_append]
theorem fl_take' {z : Nat} : ∀ {xs : List AV} (i : Nat), (∀ x ∈ xs, (cellsOf x).length = z) → (xs.flatMap cellsOf).take (i * z) = (xs.take i).flatMap cellsOf
  | xs, 0, _ => by simp
  | [], i + 1, _ => by simp
  | x :: xs, i + 1, h => by
    have := fl_take' (xs := xs) i (fun y hy => h y (by simp [hy]))
    simp only [List.flatMap_cons, List.take_succ_cons]
    rw [List.take_append, h x (by simp), Nat.succ_mul, Nat.add_sub_cancel, this, List.take_of_length_le (by rw [h x (by simp)]; omega)]

theorem dds_mem {c : SC} : ∀ {ys : List AV} {xs : List (c.D P.W.U)}, dds ys = xs.map (encD P.W c) → ∀ y ∈ ys, ∃ x, dd y = encD P.W c x
  | [], _, _, y, hy => by cases hy
  | z :: ys, xs, h, y, hy => by
    cases xs with
    | nil => simp [dds] at h
    | cons x xs =>
      simp only [dds, List.map_cons, List.cons.injEq] at h
      rcases List.mem_cons.1 hy with rfl | hy
      · exact ⟨x, h.1⟩
      · exact dds_mem h.2 y hy

theorem dds_cells (hW : P.W.Ok) {c : SC} {ys : List AV} {xs : List (c.D P.W.U)} (h : dds ys = xs.map (encD P.W c)) : ∀ y ∈ ys, (cellsOf y).length = scSize P.W c := fun y hy => by
  obtain ⟨x, hx⟩ := dds_mem h y hy
  exact cells_len hW hx

theorem map_get_dd {zs : List AV} {c : SC} {xs : List (c.D P.W.U)} (h : dds zs = xs.map (encD P.W c)) {i : Nat} {x : c.D P.W.U} (hx : xs[i]? = some x) : ∃ z, zs[i]? = some z ∧ dd z = encD P.W c x := by
  have h1 : (dds zs)[i]? = some (encD P.W c x) := by rw [h, List.getElem?_map, hx]; rfl
  rw [dds_map, List.getElem?_map] at h1
  cases hz : zs[i]? with
  | none => rw [hz] at h1; cases h1
  | some z => rw [hz] at h1; exact ⟨z, rfl, by simpa using h1⟩

/-- A row's cells from an element on. -/
theorem row_drop {z i : Nat} {ys : List AV} {w : AV} (h : ∀ y ∈ ys, (cellsOf y).length = z) (hw : ys[i]? = some w) (off : Nat) (ho : off ≤ z) : (ys.flatMap cellsOf).drop (i * z + off) = (cellsOf w).drop off ++ (ys.drop (i + 1)).flatMap cellsOf := by
  obtain ⟨hi, rfl⟩ := List.getElem?_eq_some_iff.1 hw
  rw [← List.drop_drop, fl_drop' i h, List.drop_eq_getElem_cons hi, List.flatMap_cons, List.drop_append, h _ (List.getElem_mem hi), show off - z = 0 by omega, List.drop_zero]

theorem row_load {ti : TI} {z i off : Nat} {ys : List AV} {w v : AV} (h : ∀ y ∈ ys, (cellsOf y).length = z) (hw : ys[i]? = some w) (hl : loadCellsA ti (cellsOf w) off = some v) (hle : off + (if ti.agg = true then ti.size else 1) ≤ (cellsOf w).length) :
    loadCellsA ti (ys.flatMap cellsOf) (i * z + off) = some v := by
  have hwz := h w (List.mem_of_getElem? hw)
  have hi := (List.getElem?_eq_some_iff.1 hw).1
  have hlen := fl_length' h
  have hmul : i * z + z ≤ ys.length * z := by rw [← Nat.succ_mul]; exact Nat.mul_le_mul_right _ hi
  unfold loadCellsA at hl ⊢
  split at hl
  · rename_i hag
    rw [if_pos hag] at hle
    split at hl
    · rename_i hd
      cases hl
      rw [show decide (i * z + off + ti.size ≤ (ys.flatMap cellsOf).length) = true by rw [hlen]; simp; omega]
      simp only []
      rw [row_drop h hw off (by omega), List.take_append, show ti.size - ((cellsOf w).drop off).length = 0 by rw [List.length_drop]; omega, List.take_zero, List.append_nil]
    · cases hl
  · rename_i hag
    rw [if_neg (by rw [hag]; simp)] at hle
    have : ((ys.flatMap cellsOf).drop (i * z + off))[0]? = (((cellsOf w).drop off) ++ (ys.drop (i + 1)).flatMap cellsOf)[0]? := by rw [row_drop h hw off (by omega)]
    rw [List.getElem?_drop, List.getElem?_append_left (by rw [List.length_drop]; omega), List.getElem?_drop] at this
    simp only [Nat.add_zero] at this
    rw [this]
    exact hl

theorem xload_ok (hW : P.W.Ok) (hX : XSR P h0 X θ s) {t : Nat} {p : XV P.W.U} {a : AV} (h : xload P X t p K = some y) (hp : XR P.W θ p a) :
    ∃ v c, (∀ h' : Tr Blk, (∀ b off, p = .ptr b off → h'.get b = s.heap.get b) → (∀ b c i off, p = .mel b c i off → h'.get b = s.heap.get b) → loadA P.T h' t a = some c) ∧ XR P.W θ v c ∧ K v = some y := by
  unfold xload at h
  cases ht : P.T.get t with
  | none => rw [ht] at h; cases h
  | some ti =>
    rw [ht] at h
    simp only [] at h
    split at h
    · rename_i b off
      simp only [XR] at hp
      subst hp
      split at h
      · rename_i cs hcs
        obtain ⟨asq, h1, h2, _, _⟩ := xblk_ok hX hcs
        split at h
        · rename_i hag
          split at h
          · rename_i hle
            refine ⟨_, .agg ((asq.drop off).take ti.size), fun h' hh _ => ?_, XR.mkAgg ((h2.drop off).take _), h⟩
            simp only [loadA, ht, hh b off rfl, h1, loadCellsA, hag]
            rw [show decide (off + ti.size ≤ asq.length) = true by rw [XRs.length h2]; exact hle]
          · cases h
        · rename_i hag
          split at h
          · rename_i v hv
            obtain ⟨c, h3, h4⟩ := h2.get hv
            refine ⟨v, c, fun h' hh _ => ?_, h4, h⟩
            simp only [loadA, ht, hh b off rfl, h1, loadCellsA, hag, h3]
          · cases h
      · cases h
    · rename_i c x off
      simp only [XR] at hp
      obtain ⟨ys, i, z, rfl, hi, hz, _⟩ := hp
      obtain ⟨v, w, h1, _, h2, h3⟩ := xelem_ok (θ := θ) hW h hz
      exact ⟨v, w, fun h' _ _ => by simp only [loadA, ht, hi, h1], h2, h3⟩
    · rename_i b c i off
      simp only [XR] at hp
      subst hp
      split at h
      · rename_i xs hxs
        obtain ⟨ys, h1, h2, _, _⟩ := xarr_ok hX hxs
        obtain ⟨x, hx, h⟩ := bindO_some h
        obtain ⟨z, hz, hdz⟩ := map_get_dd h2 hx
        obtain ⟨v, w, h3, h4, h5, h6⟩ := xelem_ok (θ := θ) hW h hdz
        refine ⟨v, w, fun h' _ hh => ?_, h5, h6⟩
        simp only [loadA, ht, hh b c i off rfl, h1]
        exact row_load (dds_cells hW h2) hz h3 h4
      · cases h
    · cases h

theorem xpart_ok {ty off : Nat} {cs : List (XV P.W.U)} {asq : List AV} {v : XV P.W.U} (h : xpart P ty cs off = some v) (hc : XRs P.W θ cs asq) : ∃ c, partA P.T ty asq off = some c ∧ XR P.W θ v c := by
  unfold xpart at h
  cases ht : P.T.get ty with
  | none => rw [ht] at h; cases h
  | some ti =>
    rw [ht] at h
    simp only [] at h
    split at h
    · rename_i hag
      cases h
      exact ⟨_, by simp only [partA, ht, hag], XR.mkAgg ((hc.drop off).take _)⟩
    · rename_i hag
      obtain ⟨c, h1, h2⟩ := hc.get h
      exact ⟨c, by simp only [partA, ht, hag, h1], h2⟩

theorem xbuild_ok (hW : P.W.Ok) {t : Nat} {ps : List (Nat × XV P.W.U)} {qs : List (Nat × AV)} {v : XV P.W.U} (h : xbuild P t ps = some v) (hp : XRp P.W θ ps qs) : ∃ c, buildA P.T t qs = some c ∧ XR P.W θ v c := by
  unfold xbuild at h
  cases ht : P.T.get t with
  | none => rw [ht] at h; cases h
  | some ti =>
    rw [ht] at h
    simp only [] at h
    split at h
    · rename_i z hz
      have hz' := xofs_ok (W := P.W) (θ := θ) hz
      split at h
      · rename_i fs hkd
        split at h
        · rename_i cs h1 h2
          cases h
          obtain ⟨bs, h3, h4⟩ := xfill_ok hW h2 hz' hp
          exact ⟨.agg bs, by simp only [buildA, ht, hkd, h1, h3], XR.mkAgg h4⟩
        · cases h
      · rename_i n el hkd
        split at h
        · rename_i te hte
          split at h
          · rename_i cs h2
            cases h
            obtain ⟨bs, h3, h4⟩ := xfill_ok hW h2 hz' hp
            exact ⟨.agg bs, by simp only [buildA, ht, hkd, hte, h3], XR.mkAgg h4⟩
          · cases h
        · cases h
      · cases h
    · cases h

theorem dds_set (l : List AV) (i : Nat) (a : AV) : dds (l.set i a) = (dds l).set i (dd a) := by
  simp [dds_map, List.map_set]

theorem xset_ok (hW : P.W.Ok) {c : SC} {size : Nat} {ag : Bool} (hs : scSize P.W c = size) (hg : ag = scAgg c) : ∀ {ps : List (Nat × XV P.W.U)} {qs : List (Nat × AV)} {xs r : List (c.D P.W.U)} {asq : List AV},
    xset (fun c v => asD (W := P.W) c v) c xs ps = some r → dds asq = xs.map (encD P.W c) → XRp P.W θ ps qs → ∃ bs, setAll size ag asq qs = some bs ∧ dds bs = r.map (encD P.W c)
  | [], qs, xs, r, asq, h, ha, hp => by
    simp only [XRp] at hp
    subst hp
    simp only [xset, Option.some.injEq] at h
    subst h
    exact ⟨asq, rfl, ha⟩
  | (i, v) :: ps, qs, xs, r, asq, h, ha, hp => by
    simp only [XRp] at hp
    obtain ⟨a, qs', rfl, hv, hp⟩ := hp
    simp only [xset] at h
    split at h
    · rename_i x hi hx
      have hd := asD_ok hW hx hv
      have hlen : asq.length = xs.length := by rw [← dds_length asq, ha, List.length_map]
      obtain ⟨bs, h1, h2⟩ := xset_ok hW hs hg h (asq := asq.set i a) (by rw [dds_set, ha, hd, List.map_set]) hp
      refine ⟨bs, ?_, h2⟩
      have e1 : (cellsOf a).length = size := by rw [cells_len hW hd, hs]
      have e2 : isFlat a = !scAgg c := by
        cases c with
        | st n => obtain ⟨asq, rfl, _⟩ := XR.st_cells hW (θ := θ) hd; rfl
        | _ => exact XR.flat hW (θ := θ) (x := .v _ x) (by simpa only [XR] using hd) rfl
      have e3 : ((cellsOf a).length == size && decide (i < asq.length) && (ag == !isFlat a)) = true := by
        simp only [e1, e2, hg, hlen, hi, beq_self_eq_true, Bool.and_true, Bool.not_not]
      simp only [setAll, e3]
      exact h1
    · cases h

theorem codeOf_triv {T : Tr TI} {stt : List (Nat × Nat)} {n t : Nat} {c : SC} (_ : codeOf T stt n t = some c) : True := trivial

theorem xelems_ok (hW : P.W.Ok) (h0' : θ 0 = none) {t len : Nat} {ps : List (Nat × XV P.W.U)} {qs : List (Nat × AV)} {v : XV P.W.U} (h : xelems P t len ps = some v) (hp : XRp P.W θ ps qs) : ∃ xs te c zs, elemsA P.T t len qs = some (xs, te) ∧ XR P.W θ v (.sl xs .full) ∧ v = .lin c zs 0 ∧ te.size = scSize P.W c ∧ xs.length = len ∧ dds xs = zs.map (encD P.W c) := by
  unfold xelems at h
  cases ht : P.T.get t with
  | none => rw [ht] at h; cases h
  | some ti =>
    rw [ht] at h
    simp only [] at h
    split at h
    · rename_i el hkd
      split at h
      · rename_i te c hte hc
        split at h
        · rename_i z hok hz
          split at h
          · rename_i zx hzx
            split at h
            · rename_i xs hxs
              cases h
              simp only [Bool.and_eq_true] at hok
              have hz' := asD_ok hW hzx (xofV_ok (θ := θ) hz)
              have hag : te.agg = scAgg c := by have := hok.2; revert this; cases te.agg <;> cases scAgg c <;> simp
              obtain ⟨bs, h1, h2⟩ := xset_ok hW (natbeq hok.1.2).symm hag hxs (asq := List.replicate len te.zero) (by rw [dds_map, List.map_replicate, List.map_replicate, hz']) hp
              have hlen : ∀ {size : Nat} {ag : Bool} {qs : List (Nat × AV)} {l r : List AV}, setAll size ag l qs = some r → r.length = l.length := by
                intro size ag qs
                induction qs with
                | nil => intro l r h; simp only [setAll, Option.some.injEq] at h; subst h; rfl
                | cons q qs ih =>
                  intro l r h
                  obtain ⟨i, v⟩ := q
                  simp only [setAll] at h
                  split at h
                  · rw [ih h, List.length_set]
                  · cases h
              refine ⟨bs, te, c, xs, ?_, ?_, rfl, natbeq hok.1.2, by rw [hlen h1, List.length_replicate], h2⟩
              · simp only [elemsA, ht, hkd, hte]
                rw [show (decide (0 < te.size) && decide (len * te.size ≤ 2 ^ 24)) = true by rw [Bool.and_eq_true]; exact hok.1.1]
                simp only [h1]
              · simp only [XR]
                exact ⟨bs, h2, .inr (.inl rfl)⟩
            · cases h
          · cases h
        · cases h
      · cases h
    · cases h
end
end Go.Am
namespace Go.Am

section
variable {P : XP} {h0 : Tr Blk} {X : XSt P.W.U} {θ : Nat → Option Nat} {s : St} {e : XEnv P.W.U} {env : Env} {ρ : Type} {K : XV P.W.U → Option ρ} {y : ρ}

theorem encD_int {k : IntKind} (xs : List Int) : List.map (encD P.W (.int k)) xs = xs.map (AV.int k) := rfl

theorem bytes_enc (s : ByteArray) : List.map (encD P.W (.int .u8)) (bytesL s) = ofBytes s := by
  rw [encD_int, bytesL, ofBytes, List.map_map]
  rfl

theorem dds_ofBytes (s : ByteArray) : dds (ofBytes s) = ofBytes s := by
  simp only [dds_map, ofBytes, List.map_map]
  rfl

theorem dds_ints {k : IntKind} : ∀ {zs : List AV} {xs : List Int}, dds zs = xs.map (AV.int k) → zs = xs.map (AV.int k)
  | [], xs, h => by
    cases xs with
    | nil => rfl
    | cons => simp [dds] at h
  | z :: zs, xs, h => by
    cases xs with
    | nil => simp [dds] at h
    | cons x xs =>
      simp only [dds, List.map_cons, List.cons.injEq] at h
      rw [dd_int h.1, dds_ints h.2]
      rfl

theorem bytesOf_ints : ∀ xs : List Int, bytesOf (xs.map (AV.int .u8)) = some (xs.map fun n => UInt8.ofNat n.toNat)
  | [] => rfl
  | x :: xs => by simp only [List.map_cons, bytesOf, bytesOf_ints xs]

theorem xconv_ok (hW : P.W.Ok) {src dst : Nat} {x : XV P.W.U} {a : AV} (hX : XSR P h0 X θ s) (h : xconv P X src dst x K = some y) (hx : XR P.W θ x a) :
    ∃ v c, (∀ h' : Tr Blk, (∀ b c lo n, x = .ms b c lo n → h'.get b = s.heap.get b) → convA P.T h' src dst a = some c) ∧ XR P.W θ v c ∧ K v = some y := by
  unfold xconv at h
  split at h
  · rename_i ts td hts htd
    split at h
    · rename_i k hkd
      split at h
      · rename_i j n hn
        have := xasI_ok hn hx
        subst this
        exact ⟨_, _, fun h' _ => by simp only [convA, hts, htd, hkd]; rfl, XR.mkI, h⟩
      · cases h
    · rename_i hkd
      split at h
      · rename_i s hs
        have := xasS_ok hs hx
        subst this
        exact ⟨_, _, fun h' _ => by simp only [convA, hts, htd, hkd], XR.mkS, h⟩
      · split at h
        · rename_i el hks
          split at h
          · rename_i te hte
            split at h
            · rename_i hku
              split at h
              · rename_i b lo n _
                simp only [XR] at hx
                subst hx
                split at h
                · rename_i xs hxs
                  obtain ⟨ys, h1, h2, _, _⟩ := xarr_ok hX hxs
                  obtain ⟨hle, h⟩ := chk_some h
                  have hle : lo + n ≤ List.length xs := of_decide_eq_true hle
                  have h3 : dds ys = List.map (AV.int .u8) (show List Int from xs) := h2
                  have h4 := dds_ints h3
                  subst h4
                  have h5 : (List.map (AV.int .u8) (show List Int from xs)).flatMap cellsOf = List.map (AV.int .u8) (show List Int from xs) := by
                    generalize (show List Int from xs) = zs
                    induction zs with
                    | nil => rfl
                    | cons z zs ih => simp only [List.map_cons, List.flatMap_cons, cellsOf, ih]; rfl
                  rw [h5] at h1
                  refine ⟨_, _, fun h' hh => ?_, XR.mkS, h⟩
                  have h6 : msCells h' b (lo * scSize P.W (.int .u8)) n = some (List.map (AV.int .u8) (cutL (show List Int from xs) lo n)) := by
                    simp only [msCells, hh b _ lo n rfl, h1, scSize, Nat.mul_one]
                    rw [show decide (lo + n ≤ (List.map (AV.int .u8) (show List Int from xs)).length) = true by rw [List.length_map]; exact decide_eq_true hle]
                    simp only [cutL]
                    exact congrArg some (by rw [List.map_take]; exact congrArg (List.take n) (List.map_drop (f := AV.int .u8) (l := (show List Int from xs)) (i := lo)).symm)
                  simp only [convA, hts, htd, hkd, hks, hte, hku, h6]
                  rw [bytesOf_ints]
                  rfl
                · cases h
              · split at h
                · rename_i xs hxs
                  rcases asList_ok hW hxs hx with ⟨rfl, rfl⟩ | ⟨zs, k, rfl, h1⟩
                  · exact ⟨_, _, fun h' _ => by simp only [convA, hts, htd, hkd, hks, hte, hku]; rfl, XR.mkS, h⟩
                  · have h1 : dds zs = List.map (AV.int .u8) (show List Int from xs) := h1
                    have := dds_ints h1
                    subst this
                    exact ⟨_, _, fun h' _ => by
                      simp only [convA, hts, htd, hkd, hks, hte, hku]
                      rw [show bytesOf (List.map (AV.int IntKind.u8) xs) = _ from bytesOf_ints xs]
                      rfl, XR.mkS, h⟩
                · cases h
            · cases h
          · cases h
        · cases h
    · rename_i el hkd
      split at h
      · rename_i te s hks hte hs
        split at h
        · rename_i hku
          have := xasS_ok hs hx
          subst this
          refine ⟨_, .sl (ofBytes s) .dead, fun h' _ => by simp only [convA, hts, htd, hkd, hks, hte, hku], ?_, h⟩
          simp only [XR, encD, dd, dds_ofBytes]
          exact congrArg (fun l => AV.sl l .dead) (bytes_enc (P := P) s).symm
        · cases h
      · cases h
    · cases h
  · cases h

theorem bndOk_spec {len lo hi : Int} (h : bndOk len lo hi = true) : 0 ≤ lo ∧ lo ≤ hi ∧ hi ≤ len := by
  simp only [bndOk, Bool.and_eq_true, decide_eq_true_eq] at h
  exact ⟨h.1.1, h.1.2, h.2⟩

theorem xbound_ok {x : Option (XV P.W.U)} {a : Option AV} {dflt n : Int} (h : xbound x dflt = some n) (hx : (x = none ∧ a = none) ∨ ∃ u b, x = some u ∧ a = some b ∧ XR P.W θ u b) {d most : Nat} (hd : dflt = (d : Int)) (h1 : 0 ≤ n) (h2 : n ≤ most) :
    bound a d most = some n.toNat := by
  rcases hx with ⟨rfl, rfl⟩ | ⟨u, b, rfl, rfl, hu⟩
  · simp only [xbound, Option.some.injEq] at h
    subst h; subst hd
    simp [bound]
  · simp only [xbound] at h
    split at h
    · rename_i k m hm
      cases h
      have := xasI_ok hm hu
      subst this
      simp only [bound, h1, h2, decide_true, Bool.and_self]
    · cases h

theorem bounds_ok {lo hi : Option (XV P.W.U)} {a b : Option AV} {len : Nat} {l h : Int} (hh : xbound hi (len : Int) = some h) (hl : xbound lo 0 = some l) (hb : bndOk (len : Int) l h = true)
    (hx : (lo = none ∧ a = none) ∨ ∃ u c, lo = some u ∧ a = some c ∧ XR P.W θ u c) (hy : (hi = none ∧ b = none) ∨ ∃ u c, hi = some u ∧ b = some c ∧ XR P.W θ u c) : bounds len a b none = some (l.toNat, h.toNat, none) := by
  obtain ⟨h1, h2, h3⟩ := bndOk_spec hb
  have e1 := xbound_ok (θ := θ) hh hy (d := len) (most := len) rfl (by omega) h3
  have e2 := xbound_ok (θ := θ) hl hx (d := 0) (most := h.toNat) rfl h1 (by omega)
  simp only [bounds, e1, e2]

theorem headIs_ok (hW : P.W.Ok) {c : SC} {zs : List AV} {xs : List (c.D P.W.U)} (h : dds zs = xs.map (encD P.W c)) : headIs (scSize P.W c) zs = true := by
  cases zs with
  | nil => rfl
  | cons z zs =>
    cases xs with
    | nil => simp [dds] at h
    | cons x xs =>
      simp only [dds, List.map_cons, List.cons.injEq] at h
      simp only [headIs, cells_len hW h.1, beq_self_eq_true]

theorem xslice_ok (hW : P.W.Ok) {t : Nat} {x : XV P.W.U} {a : AV} {lo hi : Option (XV P.W.U)} {b c : Option AV} (h : xslice P t x lo hi K = some y) (hx : XR P.W θ x a)
    (hlo : (lo = none ∧ b = none) ∨ ∃ u z, lo = some u ∧ b = some z ∧ XR P.W θ u z) (hhi : (hi = none ∧ c = none) ∨ ∃ u z, hi = some u ∧ c = some z ∧ XR P.W θ u z) :
    ∃ v d, (∀ h' : Tr Blk, sliceA P.T h' t a b c none = some d) ∧ XR P.W θ v d ∧ K v = some y := by
  unfold xslice at h
  cases ht : P.T.get t with
  | none => rw [ht] at h; cases h
  | some ti =>
    rw [ht] at h
    simp only [] at h
    split at h
    · rename_i hkd
      split at h
      · rename_i s hs
        have := xasS_ok hs hx
        subst this
        split at h
        · rename_i hh hhh
          split at h
          · rename_i l hl
            obtain ⟨hb, h⟩ := chk_some h
            have := bounds_ok (θ := θ) hhh hl hb hlo hhi
            exact ⟨_, _, fun h' => by simp only [sliceA, ht, hkd, this]; rfl, XR.mkS, h⟩
          · cases h
        · cases h
      · cases h
    · rename_i el hkd
      split at h
      · rename_i te cc hte hcc
        split at h
        · rename_i hsz
          have rest : ∀ {xs : List (cc.D P.W.U)}, asList cc x = some xs → (match xbound hi (lenL xs) with
              | some h => match xbound lo 0 with
                | some l => chk (bndOk (lenL xs) l h) (K (.v (.sl cc) (subL xs l h)))
                | none => none
              | none => none) = some y → ∃ v d, (∀ h' : Tr Blk, sliceA P.T h' t a b c none = some d) ∧ XR P.W θ v d ∧ K v = some y := fun {xs} hxs h => by
           split at h
           · rename_i hh hhh
             split at h
             · rename_i l hl
               obtain ⟨hb, h⟩ := chk_some h
               rcases asList_ok hW hxs hx with ⟨rfl, rfl⟩ | ⟨zs, k, rfl, h1⟩
               · have := bounds_ok (θ := θ) (len := 0) hhh hl hb hlo hhi
                 refine ⟨_, .nils, fun h' => by simp only [sliceA, ht, hkd, hte, this], ?_, h⟩
                 simp only [XR, encD, dd, subL]
                 congr 1
                 simp
               · have hlen : zs.length = xs.length := by rw [← dds_length zs, h1, List.length_map]
                 have := bounds_ok (θ := θ) (len := zs.length) (by rw [hlen]; exact hhh) hl (by rw [hlen]; exact hb) hlo hhi
                 refine ⟨_, _, fun h' => by simp only [sliceA, ht, hkd, hte, this]; rw [natbeq hsz, headIs_ok hW h1], ?_, h⟩
                 simp only [XR, encD, dd, subL]
                 congr 1
                 rw [dds_map, List.map_take, List.map_drop, ← dds_map, h1, List.map_take, List.map_drop]
             · cases h
           · cases h
          split at h
          · rename_i bb c' lo0 n
            split at h
            · rename_i hcc'
              have hcc' : c' = cc := of_decide_eq_true hcc'
              subst hcc'
              simp only [XR] at hx
              subst hx
              split at h
              · rename_i hh hhh
                split at h
                · rename_i l hl
                  obtain ⟨hb, h⟩ := chk_some h
                  have hbb := bounds_ok (θ := θ) (len := n) hhh hl hb hlo hhi
                  obtain ⟨b1, b2, b3⟩ := bndOk_spec hb
                  rcases brB_some h with ⟨e1, h⟩ | ⟨e1, h⟩
                  · have e1 : l = hh := by simpa [eqI] using e1
                    refine ⟨_, .sl [] .dead, fun h' => ?_, by simp [XR, encD, dd, dds], h⟩
                    simp only [sliceA, ht, hkd, hte, hbb, natbeq hsz, beq_self_eq_true, e1]
                  · have e1 : ¬ l = hh := by simpa [eqI] using e1
                    refine ⟨_, .ms bb (lo0 * scSize P.W c' + l.toNat * scSize P.W c') (hh.toNat - l.toNat) (scSize P.W c'), fun h' => ?_, ?_, h⟩
                    · have e2 : (l.toNat == hh.toNat) = false := by
                        cases hq : l.toNat == hh.toNat with
                        | false => rfl
                        | true => rw [beq_iff_eq] at hq; omega
                      simp only [sliceA, ht, hkd, hte, hbb, natbeq hsz, beq_self_eq_true, e2]
                    · simp only [XR, addN, posN, subN]
                      rw [Nat.add_mul]
                · cases h
              · cases h
            · cases h
          · split at h
            · rename_i xs hxs
              exact rest hxs h
            · cases h
        · cases h
      · cases h
    · cases h

theorem atL_some {α : Type} {xs : List α} {i : Int} {x : α} (h : atL xs i = some x) : 0 ≤ i ∧ xs[i.toNat]? = some x := by
  unfold atL at h
  split at h
  · rename_i h0; exact ⟨by simpa using h0, h⟩
  · cases h

theorem xcases_some {i : Int} {f : Nat → Option ρ} : ∀ {n j : Nat}, xcases i f n j = some y → ∃ k, i = ((k : Nat) : Int) ∧ j ≤ k ∧ k < j + n ∧ f k = some y
  | 0, j, h => by cases h
  | n + 1, j, h => by
    simp only [xcases] at h
    rcases brB_some h with ⟨h1, h2⟩ | ⟨_, h2⟩
    · exact ⟨j, by simpa [eqI] using h1, Nat.le_refl _, by omega, h2⟩
    · obtain ⟨k, e1, e2, e3, e4⟩ := xcases_some h2
      exact ⟨k, e1, by omega, by omega, e4⟩

theorem xidxA_ok (hW : P.W.Ok) {t : Nat} {x ix : XV P.W.U} {a b : AV} (h : xidxA P t x ix K = some y) (hx : XR P.W θ x a) (hi : XR P.W θ ix b) : ∃ v c, indexAddrA P.T t a b = some c ∧ XR P.W θ v c ∧ K v = some y := by
  unfold xidxA at h
  split at h
  · rename_i ti k i ht hn
    have := xasI_ok hn hi
    subst this
    split at h
    · rename_i el hkd
      split at h
      · rename_i te c hte hc
        split at h
        · rename_i hsz
          split at h
          · rename_i bb c' lo n
            split at h
            · rename_i hcc
              have hcc : c' = c := of_decide_eq_true hcc
              subst hcc
              simp only [XR] at hx
              subst hx
              obtain ⟨hr, h⟩ := chk_some h
              refine ⟨_, .ptr bb (lo * scSize P.W c' + i.toNat * te.size), ?_, ?_, h⟩
              · simp only [inR] at hr
                simp only [indexAddrA, ht, asIdx, hkd, hte, hr, natbeq hsz, beq_self_eq_true, Bool.and_self]
              · simp only [XR, addN, posN, natbeq hsz]
                rw [Nat.add_mul, Nat.add_zero]
            · cases h
          · split at h
            · rename_i xs hxs
              obtain ⟨z, hz, h⟩ := bindO_some h
              obtain ⟨h1, h2⟩ := atL_some hz
              rcases asList_ok hW hxs hx with ⟨rfl, rfl⟩ | ⟨zs, k', rfl, h3⟩
              · simp at h2
              · obtain ⟨w, h4, h5⟩ := map_get_dd h3 h2
                refine ⟨_, .elem zs i.toNat 0, ?_, ?_, h⟩
                · simp only [indexAddrA, ht, asIdx, hkd, hte, h1, decide_true, h4, cells_len hW h5, natbeq hsz, beq_self_eq_true]
                · simp only [XR]; exact ⟨zs, _, w, rfl, h4, h5, pures_enc hW h3⟩
            · cases h
        · cases h
      · cases h
    · rename_i n el hkd
      split at h
      · rename_i bb off te hte
        obtain ⟨j, rfl, h1, h2, h⟩ := xcases_some h
        simp only [XR] at hx
        subst hx
        refine ⟨_, .ptr bb (off + j * te.size), ?_, by simp only [XR], h⟩
        have e1 : decide (0 ≤ (j : Int)) = true := by simp
        have e2 : decide ((j : Int) < (n : Int)) = true := by simp; omega
        simp only [indexAddrA, ht, asIdx, hkd, hte, e1, e2, Bool.and_self, Int.toNat_natCast]
      · cases h
    · cases h
  · cases h

theorem atS_some {s : ByteArray} {i n : Int} (h : atS s i = some n) : ∃ b : UInt8, (if 0 ≤ i then s[i.toNat]? else none) = some b ∧ n = (b.toNat : Int) := by
  unfold atS at h
  split at h
  · rename_i b hb; cases h; exact ⟨b, hb, rfl⟩
  · cases h

theorem xisAgg_ok (hW : P.W.Ok) {x : XV P.W.U} {a : AV} (h : xisAgg x = true) (hx : XR P.W θ x a) : ∃ asq, a = .agg asq ∧ XRs P.W θ (xcells x) asq := by
  cases x with
  | v c z =>
    cases c with
    | st n =>
      simp only [XR, encD] at hx
      obtain ⟨asq, rfl, h1⟩ := XR.st_cells hW (θ := θ) hx
      exact ⟨asq, rfl, h1⟩
    | _ => cases h
  | agg cs => simp only [XR] at hx; exact hx
  | _ => cases h

theorem xidx_ok (hW : P.W.Ok) {t : Nat} {x ix : XV P.W.U} {a b : AV} (h : xidx P t x ix K = some y) (hx : XR P.W θ x a) (hi : XR P.W θ ix b) : ∃ v c, indexA P.T t a b = some c ∧ XR P.W θ v c ∧ K v = some y := by
  unfold xidx at h
  split at h
  · rename_i ti k i ht hn
    have := xasI_ok hn hi
    subst this
    split at h
    · rename_i hkd
      split at h
      · rename_i s hs
        have := xasS_ok hs hx
        subst this
        obtain ⟨n, hn', h⟩ := bindO_some h
        obtain ⟨c, h1, rfl⟩ := atS_some hn'
        exact ⟨_, _, by simp only [indexA, ht, asIdx, hkd, h1], XR.mkI, h⟩
      · cases h
    · rename_i n el hkd
      split at h
      · rename_i te hte hag
        obtain ⟨j, rfl, h1, h2, h⟩ := xcases_some h
        obtain ⟨asq, rfl, h3⟩ := xisAgg_ok hW hag hx
        split at h
        · rename_i v hv
          obtain ⟨c, h4, h5⟩ := xpart_ok hv h3
          refine ⟨v, c, ?_, h5, h⟩
          have e1 : decide (0 ≤ (j : Int)) = true := by simp
          have e2 : decide ((j : Int) < (n : Int)) = true := by simp; omega
          simp only [indexA, ht, asIdx, hkd, hte, e1, e2, Bool.and_self, Int.toNat_natCast, h4]
        · cases h
      · cases h
    · cases h
  · cases h
theorem xfieldAddr_ok {t f : Nat} {x v : XV P.W.U} {a : AV} (h : xfieldAddr P t x f = some v) (hx : XR P.W θ x a) : ∃ c, fieldAddrA P.T t a f = some c ∧ XR P.W θ v c := by
  unfold xfieldAddr at h
  split at h
  · rename_i ti ht
    split at h
    · rename_i fs hkd
      split at h
      · rename_i off size hfs
        split at h
        · cases h
        · rename_i hsz
          have hs : (size == 0) = false := by
            cases hh : size == 0 with
            | false => rfl
            | true =>
              rw [beq_iff_eq] at hh
              subst hh
              cases hsz
          split at h
          · rename_i b o
            simp only [XR] at hx
            subst hx
            cases h
            exact ⟨.ptr b (o + off), by simp only [fieldAddrA, ht, hkd, hfs, hs], by simp only [XR]⟩
          · rename_i c z o
            simp only [XR] at hx
            obtain ⟨ys, i, w, rfl, h1, h2⟩ := hx
            cases h
            exact ⟨.elem ys i (o + off), by simp only [fieldAddrA, ht, hkd, hfs, hs], by simp only [XR]; exact ⟨ys, i, w, rfl, h1, h2⟩⟩
          · rename_i b c i o
            simp only [XR] at hx
            subst hx
            cases h
            exact ⟨.ptr b (i * scSize P.W c + o + off), by simp only [fieldAddrA, ht, hkd, hfs, hs], by simp only [XR, Nat.add_assoc]⟩
          · cases h
      · cases h
    · cases h
  · cases h

theorem xfield_ok (hW : P.W.Ok) {t f : Nat} {x v : XV P.W.U} {a : AV} (h : xfield P t x f = some v) (hx : XR P.W θ x a) : ∃ c, fieldA P.T t a f = some c ∧ XR P.W θ v c := by
  unfold xfield at h
  split at h
  · rename_i ti ht
    split at h
    · rename_i fs hkd
      split at h
      · rename_i off ty z hag hf
        obtain ⟨asq, rfl, h1⟩ := xisAgg_ok hW hag hx
        obtain ⟨c, h2, h3⟩ := xpart_ok h h1
        exact ⟨c, by simp only [fieldA, ht, hkd, hf, h2], h3⟩
      · cases h
    · cases h
  · cases h

theorem xlen_ok (hW : P.W.Ok) {t : Nat} {x : XV P.W.U} {a : AV} (h : xlen P t x K = some y) (hx : XR P.W θ x a) : ∃ v n, lenA P.T t a = some n ∧ XR P.W θ v (.int .i64 (n : Nat)) ∧ K v = some y := by
  unfold xlen at h
  cases ht : P.T.get t with
  | none => rw [ht] at h; cases h
  | some ti =>
    rw [ht] at h
    simp only [] at h
    split at h
    · rename_i hkd
      split at h
      · rename_i s hs
        have := xasS_ok hs hx
        subst this
        exact ⟨_, s.size, by simp only [lenA, ht, hkd], XR.mkI, h⟩
      · cases h
    · rename_i n el hkd
      exact ⟨_, n, by simp only [lenA, ht, hkd], XR.mkI, h⟩
    · rename_i el hkd
      split at h
      · rename_i c xs
        have hx : dd a = .sl (List.map (encD P.W c) xs) .dead := by simpa only [XR, encD] using hx
        rcases dd_sl hx with ⟨rfl, h1⟩ | ⟨zs, k, rfl, h1⟩
        · refine ⟨_, 0, by simp only [lenA, ht, hkd], ?_, h⟩
          have : xs = [] := by
            cases xs with
            | nil => rfl
            | cons => cases h1
          subst this
          exact XR.mkI
        · refine ⟨_, zs.length, by simp only [lenA, ht, hkd], ?_, h⟩
          have : zs.length = List.length xs := by rw [← dds_length zs, h1]; exact List.length_map _
          rw [this]
          exact XR.mkI
      · rename_i c xs tg
        simp only [XR] at hx
        obtain ⟨zs, h1, h2⟩ := hx
        have hl : zs.length = xs.length := by rw [← dds_length zs, h1, List.length_map]
        have hlen : XR P.W θ (.v (.int .i64) (lenL xs)) (.int .i64 (zs.length : Nat)) := by rw [hl]; exact XR.mkI
        rcases h2 with ⟨rfl, rfl⟩ | rfl | ⟨u, _, rfl⟩
        · exact ⟨_, 0, by simp only [lenA, ht, hkd], hlen, h⟩
        · exact ⟨_, _, by simp only [lenA, ht, hkd], hlen, h⟩
        · exact ⟨_, _, by simp only [lenA, ht, hkd], hlen, h⟩
      · simp only [XR] at hx
        subst hx
        exact ⟨_, _, by simp only [lenA, ht, hkd], XR.mkI, h⟩
      · simp only [XR] at hx
        obtain ⟨rfl, _⟩ := hx
        exact ⟨_, 0, by simp only [lenA, ht, hkd], XR.mkI, h⟩
      · cases h
    · cases h

theorem xminmax_ok {mx : Bool} : ∀ {r : List (XV P.W.U)} {asq : List AV} {k : IntKind} {n : Int}, xminmax mx k n r K = some y → XRs P.W θ r asq → ∃ v c, minMaxA mx (.int k n) asq = some c ∧ XR P.W θ v c ∧ K v = some y
  | [], asq, k, n, h, hr => by
    simp only [XRs] at hr
    subst hr
    exact ⟨_, _, rfl, XR.mkI, h⟩
  | z :: r, asq, k, n, h, hr => by
    simp only [XRs] at hr
    obtain ⟨a, asq', rfl, h1, h2⟩ := hr
    simp only [xminmax] at h
    split at h
    · rename_i j m hm
      have := xasI_ok hm h1
      subst this
      obtain ⟨v, c, h3, h4, h5⟩ := xminmax_ok h h2
      refine ⟨v, c, ?_, h4, h5⟩
      cases mx <;> exact h3
    · cases h

/-- An operation that changes nothing. -/
theorem xstill_ok (hW : P.W.Ok) (hX : XSR P h0 X θ s) (he : EnvX P.W θ e env) (o : Op) (h : xstill P X e o K = some y) :
    ∃ v c, (∀ h' : Tr Blk, (∀ b, xreads e o = some b → h'.get b = s.heap.get b) → stillOp P.T h' env o = some c) ∧ XR P.W θ v c ∧ K v = some y := by
  have t0 : θ 0 = none := by
    cases h1 : θ 0 with
    | none => rfl
    | some u => exact absurd rfl (hX.tag _ _ h1).2.2.1
  cases o with
  | move x =>
    simp only [xstill] at h
    split at h
    · rename_i v hv
      obtain ⟨a, h1, h2⟩ := xev_ok he hv
      exact ⟨v, a, fun _ _ => h1, h2, h⟩
    · cases h
  | assign x =>
    simp only [xstill] at h
    split at h
    · rename_i v hv
      obtain ⟨a, h1, h2⟩ := xev_ok he hv
      exact ⟨v, a, fun _ _ => h1, h2, h⟩
    · cases h
  | pick c a b =>
    simp only [xstill] at h
    split at h
    · rename_i hc
      obtain ⟨ca, h1, h2⟩ := xev_ok he hc
      simp only [XR] at h2
      subst h2
      split at h
      · rename_i v hv
        obtain ⟨a', h3, h4⟩ := xev_ok he hv
        exact ⟨v, a', fun _ _ => by simp only [stillOp, h1, h3], h4, h⟩
      · cases h
    · rename_i hc
      obtain ⟨ca, h1, h2⟩ := xev_ok he hc
      simp only [XR] at h2
      subst h2
      split at h
      · rename_i v hv
        obtain ⟨a', h3, h4⟩ := xev_ok he hv
        exact ⟨v, a', fun _ _ => by simp only [stillOp, h1, h3], h4, h⟩
      · cases h
    · cases h
  | build t ps =>
    simp only [xstill] at h
    split at h
    · rename_i l hl
      obtain ⟨asq, h1, h2⟩ := xevParts_ok he hl
      split at h
      · rename_i v hv
        obtain ⟨c, h3, h4⟩ := xbuild_ok hW hv h2
        exact ⟨v, c, fun _ _ => by simp only [stillOp, h1, h3], h4, h⟩
      · cases h
    · cases h
  | buildSlice t len ps =>
    simp only [xstill] at h
    split at h
    · rename_i l hl
      obtain ⟨asq, h1, h2⟩ := xevParts_ok he hl
      split at h
      · rename_i v hv
        obtain ⟨xs, te, _, _, h3, h4, _⟩ := xelems_ok hW t0 hv h2
        exact ⟨v, _, fun _ _ => by simp only [stillOp, h1, h3], h4, h⟩
      · cases h
    · cases h
  | load t a =>
    simp only [xstill] at h
    split at h
    · rename_i p hp
      obtain ⟨pa, h1, h2⟩ := xev_ok he hp
      obtain ⟨v, c, h3, h4, h5⟩ := xload_ok hW hX h h2
      refine ⟨v, c, fun h' hh => ?_, h4, h5⟩
      simp only [stillOp, h1]
      refine h3 h' (fun b off hb => hh b ?_) (fun b c i off hb => hh b ?_) <;>
        (subst hb; simp only [xreads, hp])
    · cases h
  | nilCheck x =>
    simp only [xstill] at h
    split at h
    · rename_i b o hp
      obtain ⟨pa, h1, h2⟩ := xev_ok he hp
      have h3 := h2
      simp only [XR] at h3
      subst h3
      exact ⟨_, _, fun _ _ => by simp only [stillOp, h1, nilCheckA], h2, h⟩
    · rename_i c z o hp
      obtain ⟨pa, h1, h2⟩ := xev_ok he hp
      have h3 := h2
      simp only [XR] at h3
      obtain ⟨ys, i, w, rfl, _⟩ := h3
      exact ⟨_, _, fun _ _ => by simp only [stillOp, h1, nilCheckA], h2, h⟩
    · rename_i b c i o hp
      obtain ⟨pa, h1, h2⟩ := xev_ok he hp
      have h3 := h2
      simp only [XR] at h3
      subst h3
      exact ⟨_, _, fun _ _ => by simp only [stillOp, h1, nilCheckA], h2, h⟩
    · cases h
  | binOp op t x z q =>
    simp only [xstill] at h
    split at h
    · rename_i a b ha hb
      obtain ⟨a', h1, h2⟩ := xev_ok he ha
      obtain ⟨b', h3, h4⟩ := xev_ok he hb
      obtain ⟨v, c, h5, h6, h7⟩ := xbin_ok h h2 h4
      exact ⟨v, c, fun _ _ => by simp only [stillOp, h1, h3, h5], h6, h7⟩
    · cases h
  | unOp op t x =>
    simp only [xstill] at h
    split at h
    · rename_i a ha
      obtain ⟨a', h1, h2⟩ := xev_ok he ha
      obtain ⟨v, c, h5, h6, h7⟩ := xun_ok h h2
      exact ⟨v, c, fun _ _ => by simp only [stillOp, h1, h5], h6, h7⟩
    · cases h
  | convert sr d x =>
    simp only [xstill] at h
    split at h
    · rename_i a ha
      obtain ⟨a', h1, h2⟩ := xev_ok he ha
      obtain ⟨v, c, h5, h6, h7⟩ := xconv_ok hW hX h h2
      refine ⟨v, c, fun h' hh => ?_, h6, h7⟩
      simp only [stillOp, h1]
      refine h5 h' fun b c lo n hb => hh b ?_
      subst hb
      simp only [xreads, ha]
    · cases h
  | makeFunc fn a b =>
    simp only [xstill] at h
    split at h
    · rename_i xs ys h1 h2
      obtain ⟨asq, h3, h4⟩ := xevs_ok he h1
      obtain ⟨bs, h5, h6⟩ := xevs_ok he h2
      exact ⟨_, .fn fn asq bs, fun _ _ => by simp only [stillOp, h3, h5], by simp only [XR]; exact ⟨asq, bs, rfl, h4, h6⟩, h⟩
    · cases h
  | slice t x lo hi mx =>
    cases mx with
    | some m => simp [xstill] at h
    | none =>
      simp only [xstill] at h
      split at h
      · rename_i a l hh h1 h2 h3
        obtain ⟨a', h4, h5⟩ := xev_ok he h1
        obtain ⟨l', h6, h7⟩ := xevOpt_ok he h2
        obtain ⟨m', h8, h9⟩ := xevOpt_ok he h3
        obtain ⟨v, c, h10, h11, h12⟩ := xslice_ok hW h h5 h7 h9
        exact ⟨v, c, fun h' _ => by
          have e0 : evOpt env none = some none := rfl
          simp only [stillOp, h4, h6, h8, e0, h10 h'], h11, h12⟩
      · cases h
  | fieldAddr st x f =>
    simp only [xstill] at h
    split at h
    · rename_i a ha
      obtain ⟨a', h1, h2⟩ := xev_ok he ha
      split at h
      · rename_i v hv
        obtain ⟨c, h3, h4⟩ := xfieldAddr_ok hv h2
        exact ⟨v, c, fun _ _ => by simp only [stillOp, h1, h3], h4, h⟩
      · cases h
    · cases h
  | field st x f =>
    simp only [xstill] at h
    split at h
    · rename_i a ha
      obtain ⟨a', h1, h2⟩ := xev_ok he ha
      split at h
      · rename_i v hv
        obtain ⟨c, h3, h4⟩ := xfield_ok hW hv h2
        exact ⟨v, c, fun _ _ => by simp only [stillOp, h1, h3], h4, h⟩
      · cases h
    · cases h
  | indexAddr t x i =>
    simp only [xstill] at h
    split at h
    · rename_i a b ha hb
      obtain ⟨a', h1, h2⟩ := xev_ok he ha
      obtain ⟨b', h3, h4⟩ := xev_ok he hb
      obtain ⟨v, c, h5, h6, h7⟩ := xidxA_ok hW h h2 h4
      exact ⟨v, c, fun _ _ => by simp only [stillOp, h1, h3, h5], h6, h7⟩
    · cases h
  | index t x i =>
    simp only [xstill] at h
    split at h
    · rename_i a b ha hb
      obtain ⟨a', h1, h2⟩ := xev_ok he ha
      obtain ⟨b', h3, h4⟩ := xev_ok he hb
      obtain ⟨v, c, h5, h6, h7⟩ := xidx_ok hW h h2 h4
      exact ⟨v, c, fun _ _ => by simp only [stillOp, h1, h3, h5], h6, h7⟩
    · cases h
  | extract x i =>
    simp only [xstill] at h
    split at h
    · rename_i vs hv
      obtain ⟨a, h1, h2⟩ := xev_ok he hv
      simp only [XR] at h2
      obtain ⟨asq, rfl, h3⟩ := h2
      split at h
      · rename_i v hi
        obtain ⟨c, h4, h5⟩ := h3.get hi
        exact ⟨v, c, fun _ _ => by simp only [stillOp, h1, h4], h5, h⟩
      · cases h
    · cases h
  | call c =>
    simp only [xstill] at h
    split at h
    · rename_i x r hc hargs
      obtain ⟨asq, h1, h2⟩ := xevs_ok he hargs
      simp only [XRs] at h2
      obtain ⟨a, asq', rfl, h3, h4⟩ := h2
      split at h
      · rename_i t ts hts
        obtain ⟨v, n, h5, h6, h7⟩ := xlen_ok hW h h3
        exact ⟨v, _, fun _ _ => by simp only [stillOp, hc, h1, builtinStill, hts, h5], h6, h7⟩
      · cases h
    · rename_i x r hc hargs
      obtain ⟨asq, h1, h2⟩ := xevs_ok he hargs
      simp only [XRs] at h2
      obtain ⟨a, asq', rfl, h3, h4⟩ := h2
      split at h
      · rename_i k n hn
        have := xasI_ok hn h3
        subst this
        obtain ⟨v, c', h5, h6, h7⟩ := xminmax_ok h h4
        exact ⟨v, c', fun _ _ => by simp only [stillOp, hc, h1, builtinStill, h5], h6, h7⟩
      · cases h
    · rename_i x r hc hargs
      obtain ⟨asq, h1, h2⟩ := xevs_ok he hargs
      simp only [XRs] at h2
      obtain ⟨a, asq', rfl, h3, h4⟩ := h2
      split at h
      · rename_i k n hn
        have := xasI_ok hn h3
        subst this
        obtain ⟨v, c', h5, h6, h7⟩ := xminmax_ok h h4
        exact ⟨v, c', fun _ _ => by simp only [stillOp, hc, h1, builtinStill, h5], h6, h7⟩
      · cases h
    · cases h
  | _ => simp [xstill] at h
end
end Go.Am
