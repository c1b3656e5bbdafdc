/- The abstract machine: the evaluator. Definitions only. -/
import Derived.Test.YtmbkcjnjjlkidaaGreatDoorAmDef
import GoSem.Extern.Table
namespace Go.Am

inductive TK where
  | bool
  | int (k : IntKind)
  | str
  | ptr (e : Nat)
  | slice (e : Nat)
  | arr (n e : Nat)
  | map (k e : Nat)
  | struct (fs : List (Nat × Nat × Bool))
  | func
  | iface
  | other

/-- What is known of a type: its underlying kind, its cells, its bytes, its zero value; plain: a struct or array that may be compared with '=='. -/
structure TI where
  kd : TK
  size : Nat
  bytes : Nat
  zero : AV
  plain : Bool

def TI.agg (t : TI) : Bool := match t.kd with
  | .struct _ => true
  | .arr _ _ => true
  | _ => false

structure AFun where
  body : Code
  results : List ResultVar
  mutDst : List Nat := []
  frz : Option Nat := none

inductive Blk where
  | cells (cs : List AV) (frz : Bool)
  | siter (s : ByteArray) (pos : Nat)

structure St where
  heap : Tr Blk
  next : Nat
  live : Tr Bool
  nt : Nat

abbrev Env := Tr AV

inductive Res where
  | ret (v : AV)
  | pan (v : AV)

inductive Ext where
  | cmpString
  | indexByteString
  | indexString
  | noEscape
  | makeNoZero
  | join
  | fn (g : List AV → St → Option (Res × St))

structure Ctx where
  T : Tr TI
  F : Tr AFun
  X : Tr Ext

inductive Ex where
  | normal
  | exit (id : Nat)
  | goto (l : Nat)
  | ret
  | pan (v : AV)

def undefA : AV := .tup []

def optMap {α β : Type} (f : α → Option β) : List α → Option (List β)
  | [] => some []
  | x :: xs => match f x, optMap f xs with
    | some y, some ys => some (y :: ys)
    | _, _ => none

def ofV : Nat → Value → Option AV
  | 0, _ => none
  | n + 1, v => match v with
    | .bool b => some (.bool b)
    | .int k i => some (.int k i)
    | .string s => some (.str s)
    | .pointer none => some .nilp
    | .slice none 0 0 => some .nils
    | .map none => some .nilm
    | .nilFunc => some .nilf
    | .nilIface => some .nili
    | .agg cs => match optMap (ofV n) cs.toList with
      | some l => some (.agg l)
      | none => none
    | .tuple cs => match optMap (ofV n) cs.toList with
      | some l => some (.tup l)
      | none => none
    | .iface t v => match ofV n v with
      | some a => some (.ifc t a)
      | none => none
    | _ => none

def ev (e : Env) : Operand → Option AV
  | .tmp t => e.get t
  | .const v => ofV 8 v
  | .global g => some (.ptr g 0)
  | .func f => some (.fn (.func f) [] [])

def evs (e : Env) : List Operand → Option (List AV)
  | [] => some []
  | x :: xs => match ev e x, evs e xs with
    | some a, some as => some (a :: as)
    | _, _ => none

def evParts (e : Env) : List (Nat × Operand) → Option (List (Nat × AV))
  | [] => some []
  | (i, x) :: xs => match ev e x, evParts e xs with
    | some a, some as => some ((i, a) :: as)
    | _, _ => none

def yieldedA (ops : List Oper) (e : Env) (j : Nat) : Option (Option Bool) :=
  match (ops[j]?).bind (·.dst) with
  | none => some none
  | some d => match e.get d with
    | some (.bool b) => some (some b)
    | some _ => some none
    | none => none

/-- Is an operation carried out? none: that hangs on a slot of which nothing is known. -/
def wantedA (ops : List Oper) (e : Env) (o : Oper) : Option Bool :=
  match o.guard with
  | none => some true
  | some (j, want) => match yieldedA ops e j with
    | some (some b) => some (b == want)
    | some none => some false
    | none => none

def cellsOf : AV → List AV
  | .agg cs => cs
  | v => [v]

def isFlat : AV → Bool
  | .agg _ => false
  | .tup _ => false
  | _ => true

def partA (T : Tr TI) (ty : Nat) (cs : List AV) (off : Nat) : Option AV :=
  match T.get ty with
  | none => none
  | some ti => match ti.agg with
    | true => some (.agg ((cs.drop off).take ti.size))
    | false => cs[off]?

/-- A part out of a row of cells that must bear it whole. -/
def loadCellsA (ti : TI) (cs : List AV) (off : Nat) : Option AV :=
  match ti.agg with
  | true => match decide (off + ti.size ≤ cs.length) with
    | true => some (.agg ((cs.drop off).take ti.size))
    | false => none
  | false => cs[off]?

def splice (cs : List AV) (off : Nat) (vs : List AV) : List AV := cs.take off ++ vs ++ cs.drop (off + vs.length)

def fillA (place : Nat → Option (Nat × Nat)) : List AV → List (Nat × AV) → Option (List AV)
  | cs, [] => some cs
  | cs, (i, v) :: rest => match place i with
    | none => none
    | some (off, size) =>
      match (cellsOf v).length == size && decide (off + size ≤ cs.length) with
      | true => fillA place (splice cs off (cellsOf v)) rest
      | false => none

def fieldSize (T : Tr TI) (fs : List (Nat × Nat × Bool)) (i : Nat) : Option (Nat × Nat) :=
  match fs[i]? with
  | some (off, ty, _) => match T.get ty with
    | some ti => some (off, ti.size)
    | none => none
  | none => none

def setAll (size : Nat) (agg : Bool) : List AV → List (Nat × AV) → Option (List AV)
  | xs, [] => some xs
  | xs, (i, v) :: rest =>
    match (cellsOf v).length == size && decide (i < xs.length) && (agg == !isFlat v) with
    | true => setAll size agg (xs.set i v) rest
    | false => none

def arithA (op : BinOp) (k : IntKind) (a b : Int) : Option AV :=
  match op with
  | .add => some (.int k (k.wrap (a + b)))
  | .sub => some (.int k (k.wrap (a - b)))
  | .mul => some (.int k (k.wrap (a * b)))
  | .quo => match b == 0 with
    | true => none
    | false => some (.int k (k.wrap (a.tdiv b)))
  | .rem => match b == 0 with
    | true => none
    | false => some (.int k (a.tmod b))
  | .and => some (.int k (k.wrap (BitVec.ofInt k.bits a &&& BitVec.ofInt k.bits b).toNat))
  | .or => some (.int k (k.wrap (BitVec.ofInt k.bits a ||| BitVec.ofInt k.bits b).toNat))
  | .xor => some (.int k (k.wrap (BitVec.ofInt k.bits a ^^^ BitVec.ofInt k.bits b).toNat))
  | .andNot => some (.int k (k.wrap (BitVec.ofInt k.bits a &&& ~~~(BitVec.ofInt k.bits b)).toNat))
  | .eql => some (.bool (a == b))
  | .neq => some (.bool (a != b))
  | .lss => some (.bool (a < b))
  | .leq => some (.bool (a ≤ b))
  | .gtr => some (.bool (a > b))
  | .geq => some (.bool (a ≥ b))
  | _ => none

def shiftA (op : BinOp) (k : IntKind) (x y : Int) : Option AV :=
  match decide (y < 0) with
  | true => none
  | false => match op with
    | .shl => some (.int k (k.wrap (x * 2 ^ (min y.toNat k.bits))))
    | .shr => some (.int k (x.fdiv (2 ^ (min y.toNat k.bits))))
    | _ => none

def strA (op : BinOp) (x y : ByteArray) : Option AV :=
  match op with
  | .add => match decide (((x.size + y.size : Nat) : Int) > IntKind.i64.max) with
    | true => none
    | false => some (.str (x ++ y))
  | .eql => some (.bool (x.toList == y.toList))
  | .neq => some (.bool !(x.toList == y.toList))
  | .lss => some (.bool (Op.bytesLess x.toList y.toList))
  | .leq => some (.bool (Op.bytesLess x.toList y.toList || x.toList == y.toList))
  | .gtr => some (.bool !(Op.bytesLess x.toList y.toList || x.toList == y.toList))
  | .geq => some (.bool !(Op.bytesLess x.toList y.toList))
  | _ => none

def eqFs (T : Tr TI) (c : Nat → AV → AV → Option Bool) (xs ys : List AV) : List (Nat × Nat × Bool) → Option Bool
  | [] => some true
  | (off, ty, blank) :: fs => match blank with
    | true => eqFs T c xs ys fs
    | false => match partA T ty xs off, partA T ty ys off with
      | some x, some y => match c ty x y with
        | some true => eqFs T c xs ys fs
        | some false => some false
        | none => none
      | _, _ => none

def eqAt (T : Tr TI) (c : Nat → AV → AV → Option Bool) (xs ys : List AV) (e size : Nat) : Nat → Nat → Option Bool
  | 0, _ => some true
  | n + 1, i => match partA T e xs (i * size), partA T e ys (i * size) with
    | some x, some y => match c e x y with
      | some true => eqAt T c xs ys e size n (i + 1)
      | some false => some false
      | none => none
    | _, _ => none

def eqA (T : Tr TI) : Nat → Nat → AV → AV → Option Bool
  | 0, _, _, _ => none
  | n + 1, t, x, y => match T.get t with
    | none => none
    | some ti => match ti.kd, x, y with
      | .bool, .bool a, .bool b => some (a == b)
      | .int _, .int k a, .int j b => match decide (k = j) with
        | true => some (a == b)
        | false => none
      | .str, .str a, .str b => some (a == b)
      | .ptr _, .nilp, .nilp => some true
      | .ptr _, .nilp, .ptr _ _ => some false
      | .ptr _, .nilp, .elem _ _ _ => some false
      | .ptr _, .ptr _ _, .nilp => some false
      | .ptr _, .elem _ _ _, .nilp => some false
      | .slice _, .nils, .nils => some true
      | .slice _, .nils, .sl _ _ => some false
      | .slice _, .nils, .ms _ _ _ _ => some false
      | .slice _, .sl _ _, .nils => some false
      | .slice _, .ms _ _ _ _, .nils => some false
      | .iface, .nili, .ifc _ _ => some false
      | .iface, .ifc _ _, .nili => some false
      | .iface, .ifc u a, .ifc v b => match u == v with
        | false => some false
        | true => match T.get u with
          | some tu => match tu.plain with
            | true => eqA T n u a b
            | false => none
          | none => none
      | .ptr e, .ptr a o, .ptr b q => match a == b, T.get e with
        | true, some te => match te.size == 0 with
          | false => some (o == q)
          | true => none
        | _, _ => none
      | .func, .nilf, .nilf => some true
      | .func, .nilf, .fn _ _ _ => some false
      | .func, .fn _ _ _, .nilf => some false
      | .map _ _, .nilm, .nilm => some true
      | .map _ _, .nilm, .map _ => some false
      | .map _ _, .map _, .nilm => some false
      | .struct fs, .agg xs, .agg ys => match ti.plain with
        | true => eqFs T (eqA T n) xs ys fs
        | false => none
      | .arr len e, .agg xs, .agg ys => match ti.plain, T.get e with
        | true, some te => eqAt T (eqA T n) xs ys e te.size len 0
        | _, _ => none
      | _, _, _ => none

def isConstO : Operand → Bool
  | .const _ => true
  | _ => false

/-- Two nil values of an interface type may be compared where one is the literal nil. -/
def eqTop (T : Tr TI) (t : Nat) (ox oy : Operand) (x y : AV) : Option Bool :=
  match x, y with
  | .nili, .nili => match isConstO ox || isConstO oy, T.get t with
    | true, some ti => match ti.kd with
      | .iface => some true
      | _ => none
    | _, _ => none
  | x, y => eqA T 12 t x y

def binA (T : Tr TI) (op : BinOp) (t : Nat) (ox oy : Operand) (x y : AV) : Option AV :=
  match x, y with
  | .int k a, .int j b => match op with
    | .shl => shiftA op k a b
    | .shr => shiftA op k a b
    | _ => match decide (k = j) with
      | true => arithA op k a b
      | false => none
  | .str a, .str b => strA op a b
  | x, y => match op with
    | .eql => match eqTop T t ox oy x y with
      | some b => some (.bool b)
      | none => none
    | .neq => match eqTop T t ox oy x y with
      | some b => some (.bool !b)
      | none => none
    | _ => none

def unA (op : UnOp) (x : AV) : Option AV :=
  match op, x with
  | .neg, .int k n => arithA .sub k 0 n
  | .xor, .int k n => arithA .xor k (if k.signed then -1 else k.max) n
  | .not, .bool b => some (.bool !b)
  | _, _ => none

/-- The bytes of a row of bytes. -/
def bytesOf : List AV → Option (List UInt8)
  | [] => some []
  | .int .u8 n :: xs => match bytesOf xs with
    | some l => some (UInt8.ofNat n.toNat :: l)
    | none => none
  | _ => none

def ofBytes (s : ByteArray) : List AV := s.data.toList.map fun b => .int .u8 b.toNat

/-- Consecutive elements out of a row of cells. -/
def chunkHead (size : Nat) (agg : Bool) (cs : List AV) : AV := match agg with
  | true => .agg (cs.take size)
  | false => cs.headD undefA

def chunk (size : Nat) (agg : Bool) : Nat → List AV → List AV
  | 0, _ => []
  | n + 1, cs => chunkHead size agg cs :: chunk size agg n (cs.drop size)

def msCells (h : Tr Blk) (b off n : Nat) : Option (List AV) :=
  match h.get b with
  | some (.cells cs _) => match decide (off + n ≤ cs.length) with
    | true => some ((cs.drop off).take n)
    | false => none
  | _ => none

def convA (T : Tr TI) (h : Tr Blk) (src dst : Nat) (x : AV) : Option AV :=
  match T.get src, T.get dst with
  | some ts, some td => match td.kd, x with
    | .int k, .int _ n => some (.int k (k.wrap n))
    | .str, .str s => some (.str s)
    | .slice e, .str s => match ts.kd, T.get e with
      | .str, some te => match te.kd with
        | .int .u8 => some (.sl (ofBytes s) .dead)
        | _ => none
      | _, _ => none
    | .str, x => match ts.kd with
      | .slice e => match T.get e with
        | some te => match te.kd, x with
          | .int .u8, .nils => some (.str .empty)
          | .int .u8, .sl xs _ => match bytesOf xs with
            | some l => some (.str ⟨l.toArray⟩)
            | none => none
          | .int .u8, .ms b off n _ => match msCells h b off n with
            | some xs => match bytesOf xs with
              | some l => some (.str ⟨l.toArray⟩)
              | none => none
            | none => none
          | _, _ => none
        | none => none
      | _ => none
    | _, _ => none
  | _, _ => none

/-- A bound of a slice expression. -/
def bound (x : Option AV) (dflt most : Nat) : Option Nat :=
  match x with
  | none => some dflt
  | some (.int _ i) => match decide (0 ≤ i) && decide (i ≤ (most : Int)) with
    | true => some i.toNat
    | false => none
  | some _ => none

def evOpt (e : Env) : Option Operand → Option (Option AV)
  | none => some none
  | some x => match ev e x with
    | some a => some (some a)
    | none => none

/-- low, high, max of a slice of so many elements; none reaches beyond its length. -/
def bounds (len : Nat) (lo hi mx : Option AV) : Option (Nat × Nat × Option Nat) :=
  match mx with
  | none => match bound hi len len with
    | some h => match bound lo 0 h with
      | some l => some (l, h, none)
      | none => none
    | none => none
  | some m => match bound (some m) 0 len, hi with
    | some m, some hv => match bound (some hv) 0 m with
      | some h => match bound lo 0 h with
        | some l => some (l, h, some m)
        | none => none
      | none => none
    | _, _ => none

def subKind (k : SK) (len l h : Nat) (m : Option Nat) : SK :=
  match m with
  | some m => match m == h with
    | true => .full
    | false => .dead
  | none => match h == len with
    | true => match k with
      | .full => .full
      | .tag t => match l == h with
        | true => .dead
        | false => .tag t
      | .dead => .dead
    | false => .dead

/-- The first element, if there is one, has so many cells. -/
def headIs (size : Nat) : List AV → Bool
  | [] => true
  | x :: _ => (cellsOf x).length == size

def sliceA (T : Tr TI) (hp : Tr Blk) (t : Nat) (x : AV) (lo hi mx : Option AV) : Option AV :=
  match T.get t with
  | none => none
  | some ti => match ti.kd, x with
    | .str, .str s => match mx, bounds s.size lo hi none with
      | none, some (l, h, _) => some (.str (s.extract l h))
      | _, _ => none
    | .slice e, .nils => match bounds 0 lo hi mx, T.get e with
      | some _, some _ => some .nils
      | _, _ => none
    | .slice e, .sl xs k => match bounds xs.length lo hi mx, T.get e with
      | some (l, h, m), some te => match headIs te.size xs with
        | true => some (.sl ((xs.drop l).take (h - l)) (subKind k xs.length l h m))
        | false => none
      | _, _ => none
    | .slice e, .ms b off n z => match bounds n lo hi mx, T.get e with
      | some (l, h, _), some te => match z == te.size with
        | true => match l == h with
          | true => some (.sl [] .dead)
          | false => some (.ms b (off + l * z) (h - l) z)
        | false => none
      | _, _ => none
    | .arr n e, .ptr b off => match mx, bounds n lo hi none, T.get e with
      | none, some (l, h, _), some te => match msCells hp b off (n * te.size) with
        | some _ => match l == h with
          | true => some (.sl [] .dead)
          | false => some (.ms b (off + l * te.size) (h - l) te.size)
        | none => none
      | _, _, _ => none
    | _, _ => none

def asIdx : AV → Option Int
  | .int _ i => some i
  | _ => none

def indexAddrA (T : Tr TI) (t : Nat) (x ix : AV) : Option AV :=
  match T.get t, asIdx ix with
  | some ti, some i => match ti.kd, x with
    | .arr n e, .ptr b off => match T.get e with
      | some te => match decide (0 ≤ i) && decide (i < (n : Int)) with
        | true => some (.ptr b (off + i.toNat * te.size))
        | false => none
      | none => none
    | .slice e, .ms b off n z => match T.get e with
      | some te => match decide (0 ≤ i) && decide (i < (n : Int)) && z == te.size with
        | true => some (.ptr b (off + i.toNat * te.size))
        | false => none
      | none => none
    | .slice e, .sl xs _ => match T.get e with
      | some te => match decide (0 ≤ i) with
        | true => match xs[i.toNat]? with
          | some v => match (cellsOf v).length == te.size with
            | true => some (.elem xs i.toNat 0)
            | false => none
          | none => none
        | false => none
      | none => none
    | _, _ => none
  | _, _ => none

def indexA (T : Tr TI) (t : Nat) (x ix : AV) : Option AV :=
  match T.get t, asIdx ix with
  | some ti, some i => match ti.kd, x with
    | .arr n e, .agg cs => match T.get e with
      | some te => match decide (0 ≤ i) && decide (i < (n : Int)) with
        | true => partA T e cs (i.toNat * te.size)
        | false => none
      | none => none
    | .str, .str s => match (if 0 ≤ i then s[i.toNat]? else none) with
      | some b => some (.int .u8 b.toNat)
      | none => none
    | _, _ => none
  | _, _ => none

def loadA (T : Tr TI) (h : Tr Blk) (t : Nat) (p : AV) : Option AV :=
  match T.get t with
  | none => none
  | some ti => match p with
    | .ptr b off => match h.get b with
      | some (.cells cs _) => loadCellsA ti cs off
      | _ => none
    | .elem xs i off => match xs[i]? with
      | some v => loadCellsA ti (cellsOf v) off
      | none => none
    | _ => none

def fieldAddrA (T : Tr TI) (s : Nat) (p : AV) (f : Nat) : Option AV :=
  match T.get s with
  | some ti => match ti.kd with
    | .struct fs => match fieldSize T fs f with
      | some (off, size) => match size == 0 with
        | true => none
        | false => match p with
          | .ptr b o => some (.ptr b (o + off))
          | .elem xs i o => some (.elem xs i (o + off))
          | _ => none
      | none => none
    | _ => none
  | none => none

def fieldA (T : Tr TI) (s : Nat) (x : AV) (f : Nat) : Option AV :=
  match T.get s with
  | some ti => match ti.kd, x with
    | .struct fs, .agg cs => match fs[f]? with
      | some (off, ty, _) => partA T ty cs off
      | none => none
    | _, _ => none
  | none => none

def buildA (T : Tr TI) (t : Nat) (ps : List (Nat × AV)) : Option AV :=
  match T.get t with
  | some ti => match ti.kd with
    | .struct fs => match fs.all (fun f => (T.get f.2.1).isSome), fillA (fieldSize T fs) (cellsOf ti.zero) ps with
      | true, some cs => some (.agg cs)
      | _, _ => none
    | .arr _ e => match T.get e with
      | some te => match fillA (fun i => some (i * te.size, te.size)) (cellsOf ti.zero) ps with
        | some cs => some (.agg cs)
        | none => none
      | none => none
    | _ => none
  | none => none

/-- The elements of a slice that is written out. -/
def elemsA (T : Tr TI) (t len : Nat) (ps : List (Nat × AV)) : Option (List AV × TI) :=
  match T.get t with
  | some ti => match ti.kd with
    | .slice e => match T.get e with
      | some te => match decide (0 < te.size) && decide (len * te.size ≤ 2 ^ 24) with
        | true => match setAll te.size te.agg (List.replicate len te.zero) ps with
          | some xs => some (xs, te)
          | none => none
        | false => none
      | none => none
    | _ => none
  | none => none

def typeAssertA (T : Tr TI) (x : AV) (asserted : Nat) (ok : Bool) : Option AV :=
  match T.get asserted with
  | none => none
  | some ti => match ti.kd with
    | .iface => none
    | _ => match x with
      | .ifc t v => match t == asserted with
        | true => match ok with
          | true => some (.tup [v, .bool true])
          | false => some v
        | false => match ok with
          | true => some (.tup [ti.zero, .bool false])
          | false => none
      | .nili => match ok with
        | true => some (.tup [ti.zero, .bool false])
        | false => none
      | _ => none

def lenA (T : Tr TI) (t : Nat) (x : AV) : Option Nat :=
  match T.get t with
  | none => none
  | some ti => match ti.kd, x with
    | .str, .str s => some s.size
    | .arr n _, _ => some n
    | .slice _, .nils => some 0
    | .slice _, .sl xs _ => some xs.length
    | .slice _, .ms _ _ n _ => some n
    | .map _ _, .nilm => some 0
    | _, _ => none

def minMaxA (isMax : Bool) : AV → List AV → Option AV
  | v, [] => some v
  | .int k x, .int _ y :: rest => minMaxA isMax (.int k (match isMax with
      | true => if y > x then y else x
      | false => if y < x then y else x)) rest
  | _, _ => none

def nilCheckA : AV → Option AV
  | .ptr b o => some (.ptr b o)
  | .elem xs i o => some (.elem xs i o)
  | _ => none

def builtinStill (T : Tr TI) (b : Builtin) (ts : List Nat) (args : List AV) : Option AV :=
  match b with
  | .len => match ts, args with
    | t :: _, x :: _ => match lenA T t x with
      | some n => some (.int .i64 n)
      | none => none
    | _, _ => none
  | .min => match args with
    | x :: rest => minMaxA false x rest
    | [] => none
  | .max => match args with
    | x :: rest => minMaxA true x rest
    | [] => none
  | .unsafeSliceData => match args with
    | [.nils] => some .nilp
    | [.sl (x :: xs) _] => some (.elem (x :: xs) 0 0)
    | _ => none
  | _ => none

def stillOp (T : Tr TI) (h : Tr Blk) (e : Env) (o : Op) : Option AV :=
  match o with
  | .move x => ev e x
  | .assign x => ev e x
  | .pick c a b => match ev e c with
    | some (.bool true) => ev e a
    | some (.bool false) => ev e b
    | _ => none
  | .build t ps => match evParts e ps.toList with
    | some l => buildA T t l
    | none => none
  | .buildSlice t len ps => match evParts e ps.toList with
    | some l => match elemsA T t len l with
      | some (xs, _) => some (.sl xs .full)
      | none => none
    | none => none
  | .load t a => match ev e a with
    | some p => loadA T h t p
    | none => none
  | .nilCheck x => match ev e x with
    | some p => nilCheckA p
    | none => none
  | .binOp op t x y _ => match ev e x, ev e y with
    | some a, some b => binA T op t x y a b
    | _, _ => none
  | .unOp op _ x => match ev e x with
    | some a => unA op a
    | none => none
  | .convert s d x => match ev e x with
    | some a => convA T h s d a
    | none => none
  | .makeInterface t x => match ev e x, T.get t with
    | some a, some ti => match ti.kd with
      | .iface => none
      | _ => some (.ifc t a)
    | _, _ => none
  | .makeFunc fn a b => match evs e a.toList, evs e b.toList with
    | some xs, some ys => some (.fn fn xs ys)
    | _, _ => none
  | .slice t x lo hi mx => match ev e x, evOpt e lo, evOpt e hi, evOpt e mx with
    | some a, some l, some hh, some m => sliceA T h t a l hh m
    | _, _, _, _ => none
  | .fieldAddr s x f => match ev e x with
    | some a => fieldAddrA T s a f
    | none => none
  | .field s x f => match ev e x with
    | some a => fieldA T s a f
    | none => none
  | .indexAddr t x i => match ev e x, ev e i with
    | some a, some j => indexAddrA T t a j
    | _, _ => none
  | .index t x i => match ev e x, ev e i with
    | some a, some j => indexA T t a j
    | _, _ => none
  | .typeAssert x _ asserted ok => match ev e x with
    | some a => typeAssertA T a asserted ok
    | none => none
  | .extract x i => match ev e x with
    | some (.tup vs) => vs[i]?
    | _ => none
  | .call c => match c.callee, evs e c.args.toList with
    | .builtin b, some args => builtinStill T b c.argTypes.toList args
    | _, _ => none
  | _ => none

def isStill (mutDst : List Nat) (o : Oper) : Bool :=
  match o.op with
  | .move _ | .assign _ | .pick .. | .build .. | .load .. | .nilCheck _ | .binOp .. | .unOp .. | .convert .. | .makeInterface .. | .makeFunc ..
  | .slice .. | .fieldAddr .. | .field .. | .indexAddr .. | .index .. | .typeAssert .. | .extract .. => true
  | .buildSlice .. => match o.dst with
    | some d => !mutDst.contains d
    | none => true
  | .call c => match c.callee with
    | .builtin .len | .builtin .min | .builtin .max | .builtin .unsafeSliceData => true
    | _ => false
  | _ => false

/-- Does a still operation read the heap? -/
def readsHeap (o : Op) : Bool :=
  match o with
  | .load .. | .convert .. | .slice .. => true
  | _ => false

def St.alloc (s : St) (b : Blk) : St := { s with heap := s.heap.set s.next b, next := s.next + 1 }

def newMs (s : St) (size : Nat) (xs : List AV) : AV × St :=
  (.ms s.next 0 xs.length size, s.alloc (.cells (xs.flatMap cellsOf) false))

def storeA (T : Tr TI) (s : St) (t : Nat) (p v : AV) : Option St :=
  match T.get t, p with
  | some ti, .ptr b off => match s.heap.get b with
    | some (.cells cs false) =>
      match (cellsOf v).length == ti.size && decide (off + ti.size ≤ cs.length) && (cellsOf v).all isFlat with
      | true => some { s with heap := s.heap.set b (.cells (splice cs off (cellsOf v)) false) }
      | false => none
    | _ => none
  | _, _ => none

/-- The elements that are appended or copied. -/
def srcElems (s : St) (te : TI) : AV → Option (List AV)
  | .nils => some []
  | .sl xs _ => match xs with
    | [] => some []
    | x :: r => match (cellsOf x).length == te.size with
      | true => some (x :: r)
      | false => none
  | .str b => match te.kd with
    | .int .u8 => some (ofBytes b)
    | _ => none
  | .ms b off n z => match msCells s.heap b off (n * te.size) with
    | some cs => match z == te.size && cs.all isFlat with
      | true => some (chunk te.size te.agg n cs)
      | false => none
    | none => none
  | _ => none

def newTag (s : St) (xs : List AV) : AV × St := (.sl xs (.tag s.nt), { s with live := s.live.set s.nt true, nt := s.nt + 1 })

def roomA (te : TI) (n : Nat) : Bool := decide (n * te.bytes ≤ 2 ^ 47) && decide (n < 2 ^ 62)

def appendA (te : TI) (mut_ : Bool) (s : St) (base : AV) (ys : List AV) : Option (AV × St) :=
  match ys with
  | [] => match base with
    | .nils => some (base, s)
    | .sl _ _ => some (base, s)
    | _ => none
  | _ :: _ => match base with
    | .nils => match roomA te ys.length with
      | true => match mut_ with
        | true => some (newMs s te.size ys)
        | false => some (newTag s ys)
      | false => none
    | .sl xs k => match roomA te (xs.length + ys.length) && headIs te.size xs with
      | true => match k with
        | .full => match mut_ with
          | true => some (newMs s te.size (xs ++ ys))
          | false => some (newTag s (xs ++ ys))
        | .tag t => match s.live.get t, mut_, (ys.flatMap cellsOf).all isFlat with
          | some true, false, true => some (newTag { s with live := s.live.set t false } (xs ++ ys))
          | _, _, _ => none
        | .dead => none
      | false => none
    | _ => none

def elemTI (T : Tr TI) (t : Nat) : Option TI :=
  match T.get t with
  | some ti => match ti.kd with
    | .slice e => T.get e
    | _ => none
  | none => none

def notInt (T : Tr TI) (t : Nat) : Bool :=
  match T.get t with
  | some ti => match ti.kd with
    | .slice _ => true
    | .str => true
    | _ => false
  | none => false

def builtinLoud (T : Tr TI) (b : Builtin) (mut_ : Bool) (ts : List Nat) (args : List AV) (s : St) : Option (Res × St) :=
  match b with
  | .append => match ts, args with
    | t :: u :: _, x :: y :: _ => match elemTI T t with
      | some te => match notInt T u && decide (0 < te.size), srcElems s te y with
        | true, some ys => match appendA te mut_ s x ys with
          | some (v, s') => some (.ret v, s')
          | none => none
        | _, _ => none
      | none => none
    | _, _ => none
  | .copy => match ts, args with
    | t :: _, .ms b off n z :: y :: _ => match elemTI T t with
      | some te => match decide (0 < te.size) && z == te.size, srcElems s te y, s.heap.get b with
        | true, some ys, some (.cells cs false) =>
          let vs := (ys.take n).flatMap cellsOf
          match decide (off + vs.length ≤ cs.length) && vs.all isFlat with
          | true => some (.ret (.int .i64 (min ys.length n : Nat)), { s with heap := s.heap.set b (.cells (splice cs off vs) false) })
          | false => none
        | _, _, _ => none
      | none => none
    | _, _ => none
  | .clear => match ts, args with
    | t :: _, .ms b off n _ :: _ => match elemTI T t with
      | some te => match s.heap.get b with
        | some (.cells cs false) =>
          let vs := (List.replicate n te.zero).flatMap cellsOf
          match decide (off + vs.length ≤ cs.length) && vs.all isFlat with
          | true => some (.ret undefA, { s with heap := s.heap.set b (.cells (splice cs off vs) false) })
          | false => none
        | _ => none
      | none => none
    | t :: _, .sl [] _ :: _ => match elemTI T t with
      | some _ => some (.ret undefA, s)
      | none => none
    | t :: _, .nils :: _ => match elemTI T t with
      | some _ => some (.ret undefA, s)
      | none => none
    | _, _ => none
  | .panic => match args with
    | [.ifc t v] => some (.pan (.ifc t v), s)
    | _ => none
  | .unsafeString => match ts, args with
    | _ :: _, [.nilp, .int _ n] => match n == 0 with
      | true => some (.ret (.str .empty), s)
      | false => none
    | _, _ => none
  | _ => none

def strsOf : List AV → Option (List ByteArray)
  | [] => some []
  | .str s :: xs => match strsOf xs with
    | some l => some (s :: l)
    | none => none
  | _ => none

def joinL (sep : List UInt8) : List (List UInt8) → List UInt8
  | [] => []
  | [x] => x
  | x :: y :: r => x ++ sep ++ joinL sep (y :: r)

def extA (x : Ext) (args : List AV) (s : St) : Option (Res × St) :=
  match x, args with
  | .noEscape, [v] => some (.ret v, s)
  | .cmpString, [.str a, .str b] => some (.ret (.int .i64 (Extern.BytealgCompare.cmp a b)), s)
  | .indexByteString, [.str a, .int .u8 c] => match (List.range a.size).find? fun i => a[i]! == UInt8.ofNat c.toNat with
    | some i => some (.ret (.int .i64 i), s)
    | none => some (.ret (.int .i64 (-1)), s)
  | .fn g, args => g args s
  | .join, [.nils, .str _] => some (.ret (.str ⟨#[]⟩), s)
  | .join, [.sl xs _, .str sep] => match strsOf xs with
    | some l => let r := joinL sep.data.toList (l.map (·.data.toList))
      match decide (r.length ≤ 2 ^ 47) && decide (l.length ≤ 2 ^ 47) with
      | true => some (.ret (.str ⟨r.toArray⟩), s)
      | false => none
    | none => none
  | _, _ => none

def loudOp (C : Ctx) (mutDst : List Nat) (call : Nat → List AV → St → Option (Res × St)) (e : Env) (s : St) (o : Oper) : Option (Res × St) :=
  match o.op with
  | .alloc t => match C.T.get t with
    | some ti => some (.ret (.ptr s.next 0), s.alloc (.cells (cellsOf ti.zero) false))
    | none => none
  | .box _ x => match ev e x with
    | some v => match (cellsOf v).all isFlat with
      | true => some (.ret (.ptr s.next 0), s.alloc (.cells (cellsOf v) false))
      | false => none
    | none => none
  | .buildSlice t len ps => match evParts e ps.toList with
    | some l => match elemsA C.T t len l with
      | some (xs, te) => match xs with
        | [] => some (.ret (.sl [] .full), s)
        | _ :: _ => match (xs.flatMap cellsOf).all isFlat with
          | true => let r := newMs s te.size xs
            some (.ret r.1, r.2)
          | false => none
      | none => none
    | none => none
  | .store t a x => match ev e a, ev e x with
    | some p, some v => match storeA C.T s t p v with
      | some s' => some (.ret undefA, s')
      | none => none
    | _, _ => none
  | .range t x => match C.T.get t, ev e x with
    | some ti, some (.str b) => match ti.kd with
      | .str => some (.ret (.ptr s.next 0), s.alloc (.siter b 0))
      | _ => none
    | _, _ => none
  | .next x true => match ev e x with
    | some (.ptr b 0) => match s.heap.get b with
      | some (.siter str pos) => match decide (pos < str.size) with
        | true => let r := Utf8.decode str pos
          some (.ret (.tup [.bool true, .int .i64 pos, .int .i32 r.1]), { s with heap := s.heap.set b (.siter str (pos + r.2)) })
        | false => some (.ret (.tup [.bool false]), s)
      | _ => none
    | _ => none
  | .makeSlice t l c => match elemTI C.T t, ev e l, ev e c with
    | some te, some (.int _ n), some (.int _ m) =>
      match decide (0 ≤ n) && decide (n ≤ m) && decide (m < 2 ^ 46) && decide (m.toNat * te.bytes ≤ 2 ^ 47) && decide (0 < te.size) with
      | true => match m == 0 with
        | true => some (.ret (.sl [] .full), s)
        | false => some (.ret (.ms s.next 0 n.toNat te.size), s.alloc (.cells ((List.replicate m.toNat te.zero).flatMap cellsOf) false))
      | false => none
    | _, _, _ => none
  | .panic x => match ev e x with
    | some (.ifc t v) => some (.pan (.ifc t v), s)
    | _ => none
  | .call c => match evs e c.args.toList with
    | none => none
    | some args => match c.callee with
      | .builtin b => builtinLoud C.T b (match o.dst with | some d => mutDst.contains d | none => false) c.argTypes.toList args s
      | .value f => match ev e f with
        | some (.fn (.func fid) first cap) => call fid (first ++ args ++ cap) s
        | _ => none
      | .invoke _ _ => none
  | _ => none

/-- What a region that draws its order has met: a still operation that read the heap (number, operation, frame, value); a loud one (number, the state that it found). -/
inductive Met where
  | rd (i : Nat) (o : Op) (e : Env) (v : AV)
  | ld (i : Nat) (s : St)

def optBeq : Option AV → AV → Bool
  | some x, y => AV.beq x y
  | none, _ => false

/-- The masks: which operations come before each one. -/
def bit (m i : Nat) : Bool := m.testBit i

def okRead (C : Ctx) (mask : Nat) (e : Env) (o : Op) (v : AV) : List Met → Bool
  | [] => true
  | .rd _ _ _ _ :: l => okRead C mask e o v l
  | .ld j s :: l => (bit mask j || optBeq (stillOp C.T s.heap e o) v) && okRead C mask e o v l

def okLoud (C : Ctx) (mask : Nat) (s : St) : List Met → Bool
  | [] => true
  | .ld _ _ :: l => okLoud C mask s l
  | .rd i o e v :: l => (bit mask i || optBeq (stillOp C.T s.heap e o) v) && okLoud C mask s l

def maskFold (acc : List Nat) : List Edge → Nat → Nat
  | [], m => m
  | e :: es, m => match Region.binds .any e with
    | true => maskFold acc es (m ||| 2 ^ e.on ||| acc.getD e.on 0)
    | false => maskFold acc es m

def masksL : List Nat → List Oper → List Nat
  | acc, [] => acc
  | acc, o :: r => masksL (acc ++ [maskFold acc o.after.toList 0]) r

def allBehind (i : Nat) (masks : List Nat) : Bool := masks.all fun m => bit m i

def initEnv : List AV → Nat → Env → Env
  | [], _, e => e
  | v :: vs, i, e => initEnv vs (i + 1) (e.set i v)

def resultsA (T : Tr TI) (s : St) (e : Env) : List ResultVar → Option (List AV)
  | [] => some []
  | .tmp t :: rs => match e.get t, resultsA T s e rs with
    | some v, some vs => some (v :: vs)
    | _, _ => none
  | .cell a t :: rs => match e.get a with
    | some p => match loadA T s.heap t p, resultsA T s e rs with
      | some v, some vs => some (v :: vs)
      | _, _ => none
    | none => none

def packA : List AV → AV
  | [v] => v
  | vs => .tup vs

/-- A slice of one's own that will not be written any more. -/
def freezeA (T : Tr TI) (s : St) (ty : Nat) : AV → Option (AV × St)
  | .ms b off n z => match T.get ty, s.heap.get b with
    | some te, some (.cells cs false) =>
      match decide (off + n * te.size ≤ cs.length) && decide (0 < te.size) && decide (0 < n) && z == te.size && ((cs.drop off).take (n * te.size)).all isFlat with
      | true => some (.sl (chunk te.size te.agg n ((cs.drop off).take (n * te.size))) (.tag s.nt),
          { s with heap := s.heap.set b (.cells (cs.take (off + n * te.size)) true), live := s.live.set s.nt true, nt := s.nt + 1 })
      | false => none
    | _, _ => none
  | v => some (v, s)

def finishA (C : Ctx) (fn : AFun) (e : Env) (s : St) : Option (Res × St) :=
  match resultsA C.T s e fn.results with
  | some vs => match fn.frz with
    | none => some (.ret (packA vs), s)
    | some ty => match freezeA C.T s ty (packA vs) with
      | some (v, s') => some (.ret v, s')
      | none => none
  | none => none

def putA (e : Env) (d : Option Nat) (v : AV) : Env := match d with
  | some d => e.set d v
  | none => e

mutual
def callA (C : Ctx) : Nat → Nat → List AV → St → Option (Res × St)
  | 0, _, _, _ => none
  | n + 1, f, args, s => match C.X.get f with
    | some x => extA x args s
    | none => match C.F.get f with
      | none => none
      | some fn => match evCode C fn n fn.body (initEnv args 0 .nil) s with
        | some (.normal, e, s') => finishA C fn e s'
        | some (.ret, e, s') => finishA C fn e s'
        | some (.pan v, _, s') => some (.pan v, s')
        | _ => none

def evCode (C : Ctx) (fn : AFun) : Nat → Code → Env → St → Option (Ex × Env × St)
  | 0, _, _, _ => none
  | n + 1, c, e, s => match c with
    | .skip => some (.normal, e, s)
    | .label _ => some (.normal, e, s)
    | .exit id => some (.exit id, e, s)
    | .goto l => some (.goto l, e, s)
    | .ret => some (.ret, e, s)
    | .seq a b => match evCode C fn n a e s with
      | some (.normal, e', s') => evCode C fn n b e' s'
      | r => r
    | .cond x a b => match ev e x with
      | some (.bool true) => evCode C fn n a e s
      | some (.bool false) => evCode C fn n b e s
      | _ => none
    | .block id a => match evCode C fn n a e s with
      | some (.exit j, e', s') => match j == id with
        | true => some (.normal, e', s')
        | false => some (.exit j, e', s')
      | r => r
    | .loop a => match evCode C fn n a e s with
      | some (.normal, e', s') => evCode C fn n (.loop a) e' s'
      | r => r
    | .region _ ops draw => evOps C fn n ops.toList draw (masksL [] ops.toList) ops.toList 0 [] e s
    | _ => none

def evOps (C : Ctx) (fn : AFun) : Nat → List Oper → Bool → List Nat → List Oper → Nat → List Met → Env → St → Option (Ex × Env × St)
  | 0, _, _, _, _, _, _, _, _ => none
  | _ + 1, _, _, _, [], _, _, e, s => some (.normal, e, s)
  | n + 1, all, draw, masks, o :: rest, i, met, e, s =>
    match wantedA all e o with
    | none => none
    | some false => evOps C fn n all draw masks.tail rest (i + 1) met (putA e o.dst undefA) s
    | some true => match isStill fn.mutDst o with
      | true => match stillOp C.T s.heap e o.op with
        | none => none
        | some v => match draw && readsHeap o.op with
          | false => evOps C fn n all draw masks.tail rest (i + 1) met (putA e o.dst v) s
          | true => match okRead C (masks.headD 0) e o.op v met with
            | true => evOps C fn n all draw masks.tail rest (i + 1) (.rd i o.op e v :: met) (putA e o.dst v) s
            | false => none
      | false => match loudOp C fn.mutDst (callA C n) e s o with
        | none => none
        | some (r, s') => match !draw || okLoud C (masks.headD 0) s' met with
          | false => none
          | true => match r with
            | .ret v => evOps C fn n all draw masks.tail rest (i + 1) (match draw with | true => .ld i s :: met | false => met) (putA e o.dst v) s'
            | .pan v => match !draw || allBehind i masks.tail with
              | true => some (.pan v, e, s')
              | false => none
end

end Go.Am
