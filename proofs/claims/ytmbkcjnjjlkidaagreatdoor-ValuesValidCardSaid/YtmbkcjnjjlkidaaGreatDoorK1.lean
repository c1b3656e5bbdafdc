/- The abstract machine: a deterministic evaluator of loaded Go functions over abstract values. Definitions only. -/
import Derived.Calls
import Derived.Orders
import GoSem.Extern.Table
import Derived.Below
import Derived.ChangeKeysEq
import Derived.Laws.StructEq
set_option linter.all false
namespace Go.Am

/-- A finite map from numbers, asq a binary tree. -/
inductive Tr (α : Type) where
  | nil
  | node (v : Option α) (l r : Tr α)
  | cnil
  | cons (k : Nat) (v : α) (t : Tr α)

namespace Tr
def get {α : Type} : Tr α → Nat → Option α
  | .nil, _ => none
  | .node v _ _, 0 => v
  | .node _ l r, k + 1 => match k % 2 with
    | 0 => l.get (k / 2)
    | _ => r.get (k / 2)
  | .cnil, _ => none
  | .cons k v t, j => match Nat.beq j k with
    | true => some v
    | false => t.get j

def setF {α : Type} : Nat → Tr α → Nat → α → Tr α
  | 0, t, _, _ => t
  | _ + 1, .nil, 0, x => .node (some x) .nil .nil
  | _ + 1, .node _ l r, 0, x => .node (some x) l r
  | f + 1, .nil, k + 1, x => match k % 2 with
    | 0 => .node none (setF f .nil (k / 2) x) .nil
    | _ => .node none .nil (setF f .nil (k / 2) x)
  | f + 1, .node v l r, k + 1, x => match k % 2 with
    | 0 => .node v (setF f l (k / 2) x) r
    | _ => .node v l (setF f r (k / 2) x)
  | _ + 1, .cnil, k, x => .cons k x .cnil
  | _ + 1, .cons a b t, k, x => .cons k x (.cons a b t)

def set {α : Type} (t : Tr α) (k : Nat) (x : α) : Tr α := match t with
  | .cnil => .cons k x .cnil
  | .cons a b t => .cons k x (.cons a b t)
  | t => setF (k + 1) t k x

theorem get_cons {α : Type} (k : Nat) (v : α) (t : Tr α) (j : Nat) : (Tr.cons k v t).get j = if j = k then some v else t.get j := by
  simp only [get]
  by_cases h : j = k
  · subst h
    rw [if_pos rfl, show Nat.beq j j = true from Nat.beq_refl j]
  · rw [if_neg h]
    cases hb : Nat.beq j k with
    | true => exact absurd (Nat.eq_of_beq_eq_true hb) h
    | false => rfl

theorem get_nil {α : Type} (k : Nat) : (Tr.nil : Tr α).get k = none := by cases k <;> rfl

theorem get_setF {α : Type} (x : α) : ∀ (f : Nat) (t : Tr α) (k j : Nat), k < f → (setF f t k x).get j = if j = k then some x else t.get j := by
  intro f
  induction f with
  | zero => intro t k j h; omega
  | succ f ih =>
    intro t k j h
    cases t with
    | nil =>
      cases k with
      | zero =>
        cases j with
        | zero => simp [setF, get]
        | succ j => simp only [setF, get]; rw [if_neg (by omega)]; split <;> rfl
      | succ k =>
        simp only [setF]
        cases hk : k % 2 with
        | zero =>
          cases j with
          | zero => simp [get]
          | succ j =>
            simp only [get]
            cases hj : j % 2 with
            | zero =>
              simp only []
              rw [ih _ _ _ (by omega)]
              by_cases e : j = k
              · subst e; simp
              · rw [if_neg (by omega), if_neg (by omega), get_nil]
            | succ m => simp only []; rw [if_neg (by omega)]
        | succ m =>
          cases j with
          | zero => simp [get]
          | succ j =>
            simp only [get]
            cases hj : j % 2 with
            | zero => simp only []; rw [if_neg (by omega)]
            | succ m' =>
              simp only []
              rw [ih _ _ _ (by omega)]
              by_cases e : j = k
              · subst e; simp
              · rw [if_neg (by omega), if_neg (by omega), get_nil]
    | node v l r =>
      cases k with
      | zero => cases j <;> simp [setF, get]
      | succ k =>
        simp only [setF]
        cases hk : k % 2 with
        | zero =>
          cases j with
          | zero => simp [get]
          | succ j =>
            simp only [get]
            cases hj : j % 2 with
            | zero =>
              simp only []
              rw [ih _ _ _ (by omega)]
              by_cases e : j = k
              · subst e; simp
              · rw [if_neg (by omega), if_neg (by omega)]
            | succ m => simp only []; rw [if_neg (by omega)]
        | succ m =>
          cases j with
          | zero => simp [get]
          | succ j =>
            simp only [get]
            cases hj : j % 2 with
            | zero => simp only []; rw [if_neg (by omega)]
            | succ m' =>
              simp only []
              rw [ih _ _ _ (by omega)]
              by_cases e : j = k
              · subst e; simp
              · rw [if_neg (by omega), if_neg (by omega)]
    | cnil => simp only [setF]; exact get_cons k x .cnil j
    | cons a b t => simp only [setF]; exact get_cons k x (.cons a b t) j

theorem get_set {α : Type} (t : Tr α) (k : Nat) (x : α) (j : Nat) : (t.set k x).get j = if j = k then some x else t.get j := by
  cases t with
  | nil => exact get_setF x (k + 1) .nil k j (by omega)
  | node v l r => exact get_setF x (k + 1) (.node v l r) k j (by omega)
  | cnil => exact get_cons k x .cnil j
  | cons a b t => exact get_cons k x (.cons a b t) j
theorem get_set_same {α : Type} (t : Tr α) (k : Nat) (x : α) : (t.set k x).get k = some x := by rw [get_set, if_pos rfl]
theorem get_set_ne {α : Type} (t : Tr α) (k : Nat) (x : α) (j : Nat) (h : j ≠ k) : (t.set k x).get j = t.get j := by rw [get_set, if_neg h]

/-- The pairs of a list. -/
def ofList {α : Type} : List (Nat × α) → Tr α
  | [] => .cnil
  | (k, x) :: rest => .cons k x (ofList rest)
end Tr

/-- May a slice be appended to? full: its capacity is its length; tag t: while t lives; dead: no. -/
inductive SK where
  | full
  | tag (t : Nat)
  | dead

inductive AV where
  | bool (b : Bool)
  | int (k : IntKind) (n : Int)
  | str (s : ByteArray)
  | nilp
  | ptr (b off : Nat)
  | elem (xs : List AV) (i off : Nat)
  | nils
  | sl (xs : List AV) (k : SK)
  | ms (b off len sz : Nat)
  | nilm
  | map (b : Nat)
  | nilf
  | fn (f : Fn) (first cap : List AV)
  | nili
  | ifc (t : Nat) (v : AV)
  | agg (cs : List AV)
  | tup (vs : List AV)
  deriving Inhabited

def SK.beq : SK → SK → Bool
  | .full, .full => true
  | .tag a, .tag b => a == b
  | .dead, .dead => true
  | _, _ => false

theorem SK.eq_of_beq : ∀ {a b : SK}, SK.beq a b = true → a = b := by
  intro a b h; cases a <;> cases b <;> simp_all [SK.beq]
theorem SK.beq_refl (a : SK) : SK.beq a a = true := by cases a <;> simp [SK.beq]

mutual
def AV.beq : AV → AV → Bool
  | .bool a, .bool b => a == b
  | .int k a, .int j b => decide (k = j) && decide (a = b)
  | .str a, .str b => decide (a.data.toList = b.data.toList)
  | .nilp, .nilp => true
  | .ptr a b, .ptr c d => a == c && b == d
  | .elem xs i o, .elem ys j p => AV.beqs xs ys && i == j && o == p
  | .nils, .nils => true
  | .sl xs k, .sl ys j => AV.beqs xs ys && SK.beq k j
  | .ms a b c z, .ms d e f y => a == d && b == e && c == f && z == y
  | .nilm, .nilm => true
  | .map a, .map b => a == b
  | .nilf, .nilf => true
  | .fn f xs ys, .fn g us vs => decide (f = g) && AV.beqs xs us && AV.beqs ys vs
  | .nili, .nili => true
  | .ifc t v, .ifc u w => t == u && AV.beq v w
  | .agg xs, .agg ys => AV.beqs xs ys
  | .tup xs, .tup ys => AV.beqs xs ys
  | _, _ => false
def AV.beqs : List AV → List AV → Bool
  | [], [] => true
  | x :: xs, y :: ys => AV.beq x y && AV.beqs xs ys
  | _, _ => false
end

mutual
theorem AV.eq_of_beq : ∀ (a b : AV), AV.beq a b = true → a = b
  | .bool a, b, h => by cases b <;> simp_all [AV.beq]
  | .int k a, b, h => by cases b <;> simp_all [AV.beq]
  | .str a, b, h => by
    cases b <;> simp only [AV.beq, Bool.false_eq_true, decide_eq_true_eq] at h
    rename_i b
    obtain ⟨⟨a⟩⟩ := a; obtain ⟨⟨b⟩⟩ := b
    simp at h; rw [h]
  | .nilp, b, h => by cases b <;> simp_all [AV.beq]
  | .ptr a c, b, h => by cases b <;> simp_all [AV.beq]
  | .elem xs i o, b, h => by
    cases b <;> simp only [AV.beq, Bool.false_eq_true, Bool.and_eq_true, beq_iff_eq] at h
    rw [AV.eq_of_beqs _ _ h.1.1, h.1.2, h.2]
  | .nils, b, h => by cases b <;> simp_all [AV.beq]
  | .sl xs k, b, h => by
    cases b <;> simp only [AV.beq, Bool.false_eq_true, Bool.and_eq_true] at h
    rw [AV.eq_of_beqs _ _ h.1, SK.eq_of_beq h.2]
  | .ms a c d z, b, h => by cases b <;> simp_all [AV.beq]
  | .nilm, b, h => by cases b <;> simp_all [AV.beq]
  | .map a, b, h => by cases b <;> simp_all [AV.beq]
  | .nilf, b, h => by cases b <;> simp_all [AV.beq]
  | .fn f xs ys, b, h => by
    cases b <;> simp only [AV.beq, Bool.false_eq_true, Bool.and_eq_true, decide_eq_true_eq] at h
    rw [h.1.1, AV.eq_of_beqs _ _ h.1.2, AV.eq_of_beqs _ _ h.2]
  | .nili, b, h => by cases b <;> simp_all [AV.beq]
  | .ifc t v, b, h => by
    cases b <;> simp only [AV.beq, Bool.false_eq_true, Bool.and_eq_true, beq_iff_eq] at h
    rw [h.1, AV.eq_of_beq _ _ h.2]
  | .agg xs, b, h => by
    cases b <;> simp only [AV.beq, Bool.false_eq_true] at h
    rw [AV.eq_of_beqs _ _ h]
  | .tup xs, b, h => by
    cases b <;> simp only [AV.beq, Bool.false_eq_true] at h
    rw [AV.eq_of_beqs _ _ h]
theorem AV.eq_of_beqs : ∀ (a b : List AV), AV.beqs a b = true → a = b
  | [], b, h => by cases b <;> simp_all [AV.beqs]
  | x :: xs, b, h => by
    cases b <;> simp only [AV.beqs, Bool.false_eq_true, Bool.and_eq_true] at h
    rw [AV.eq_of_beq _ _ h.1, AV.eq_of_beqs _ _ h.2]
end

mutual
theorem AV.beq_refl : ∀ (a : AV), AV.beq a a = true
  | .bool a => by simp [AV.beq]
  | .int k a => by simp [AV.beq]
  | .str a => by simp [AV.beq]
  | .nilp => by simp [AV.beq]
  | .ptr a c => by simp [AV.beq]
  | .elem xs i o => by simp [AV.beq, AV.beqs_refl xs]
  | .nils => by simp [AV.beq]
  | .sl xs k => by simp [AV.beq, AV.beqs_refl xs, SK.beq_refl]
  | .ms a c d z => by simp [AV.beq]
  | .nilm => by simp [AV.beq]
  | .map a => by simp [AV.beq]
  | .nilf => by simp [AV.beq]
  | .fn f xs ys => by simp [AV.beq, AV.beqs_refl xs, AV.beqs_refl ys]
  | .nili => by simp [AV.beq]
  | .ifc t v => by simp [AV.beq, AV.beq_refl v]
  | .agg xs => by simp [AV.beq, AV.beqs_refl xs]
  | .tup xs => by simp [AV.beq, AV.beqs_refl xs]
theorem AV.beqs_refl : ∀ (a : List AV), AV.beqs a a = true
  | [] => by simp [AV.beqs]
  | x :: xs => by simp [AV.beqs, AV.beq_refl x, AV.beqs_refl xs]
end

end Go.Am
namespace Go.Am

inductive TK where
  | bool
  | int (k : IntKind)
  | str
  | ptr (e : Nat)
  | slice (e : Nat)
  | arr (n e : Nat)
  | map (k e : Nat)
  | struct (fs : List (Nat × Nat × Bool))
  | func
  | iface
  | other

/-- What is known of a type: its underlying kind, its cells, its bytes, its zero value; plain: a struct or array that may be compared with '=='. -/
structure TI where
  kd : TK
  size : Nat
  bytes : Nat
  zero : AV
  plain : Bool

def TI.agg (t : TI) : Bool := match t.kd with
  | .struct _ => true
  | .arr _ _ => true
  | _ => false

structure AFun where
  body : Code
  results : List ResultVar
  mutDst : List Nat := []
  frz : Option Nat := none

inductive Blk where
  | cells (cs : List AV) (frz : Bool)
  | siter (s : ByteArray) (pos : Nat)

structure St where
  heap : Tr Blk
  next : Nat
  live : Tr Bool
  nt : Nat

abbrev Env := Tr AV

inductive Res where
  | ret (v : AV)
  | pan (v : AV)

inductive Ext where
  | cmpString
  | indexByteString
  | indexString
  | noEscape
  | makeNoZero
  | join
  | fn (g : List AV → St → Option (Res × St))

structure Ctx where
  T : Tr TI
  F : Tr AFun
  X : Tr Ext

inductive Ex where
  | normal
  | exit (id : Nat)
  | goto (l : Nat)
  | ret
  | pan (v : AV)

def undefA : AV := .tup []

def optMap {α β : Type} (f : α → Option β) : List α → Option (List β)
  | [] => some []
  | x :: xs => match f x, optMap f xs with
    | some y, some ys => some (y :: ys)
    | _, _ => none

def ofV : Nat → Value → Option AV
  | 0, _ => none
  | n + 1, v => match v with
    | .bool b => some (.bool b)
    | .int k i => some (.int k i)
    | .string s => some (.str s)
    | .pointer none => some .nilp
    | .slice none 0 0 => some .nils
    | .map none => some .nilm
    | .nilFunc => some .nilf
    | .nilIface => some .nili
    | .agg cs => match optMap (ofV n) cs.toList with
      | some l => some (.agg l)
      | none => none
    | .tuple cs => match optMap (ofV n) cs.toList with
      | some l => some (.tup l)
      | none => none
    | .iface t v => match ofV n v with
      | some a => some (.ifc t a)
      | none => none
    | _ => none

def ev (e : Env) : Operand → Option AV
  | .tmp t => e.get t
  | .const v => ofV 8 v
  | .global g => some (.ptr g 0)
  | .func f => some (.fn (.func f) [] [])

def evs (e : Env) : List Operand → Option (List AV)
  | [] => some []
  | x :: xs => match ev e x, evs e xs with
    | some a, some asq => some (a :: asq)
    | _, _ => none

def evParts (e : Env) : List (Nat × Operand) → Option (List (Nat × AV))
  | [] => some []
  | (i, x) :: xs => match ev e x, evParts e xs with
    | some a, some asq => some ((i, a) :: asq)
    | _, _ => none

def yieldedA (ops : List Oper) (e : Env) (j : Nat) : Option (Option Bool) :=
  match (ops[j]?).bind (·.dst) with
  | none => some none
  | some d => match e.get d with
    | some (.bool b) => some (some b)
    | some _ => some none
    | none => none

/-- Is an operation carried out? none: that hangs on a slot of which nothing is known. -/
def wantedA (ops : List Oper) (e : Env) (o : Oper) : Option Bool :=
  match o.guard with
  | none => some true
  | some (j, want) => match yieldedA ops e j with
    | some (some b) => some (b == want)
    | some none => some false
    | none => none

def cellsOf : AV → List AV
  | .agg cs => cs
  | v => [v]

def isFlat : AV → Bool
  | .agg _ => false
  | .tup _ => false
  | _ => true

def partA (T : Tr TI) (ty : Nat) (cs : List AV) (off : Nat) : Option AV :=
  match T.get ty with
  | none => none
  | some ti => match ti.agg with
    | true => some (.agg ((cs.drop off).take ti.size))
    | false => cs[off]?

/-- A part out of a row of cells that must bear it whole. -/
def loadCellsA (ti : TI) (cs : List AV) (off : Nat) : Option AV :=
  match ti.agg with
  | true => match decide (off + ti.size ≤ cs.length) with
    | true => some (.agg ((cs.drop off).take ti.size))
    | false => none
  | false => cs[off]?

def splice (cs : List AV) (off : Nat) (vs : List AV) : List AV := cs.take off ++ vs ++ cs.drop (off + vs.length)

def fillA (place : Nat → Option (Nat × Nat)) : List AV → List (Nat × AV) → Option (List AV)
  | cs, [] => some cs
  | cs, (i, v) :: rest => match place i with
    | none => none
    | some (off, size) =>
      match (cellsOf v).length == size && decide (off + size ≤ cs.length) with
      | true => fillA place (splice cs off (cellsOf v)) rest
      | false => none

def fieldSize (T : Tr TI) (fs : List (Nat × Nat × Bool)) (i : Nat) : Option (Nat × Nat) :=
  match fs[i]? with
  | some (off, ty, _) => match T.get ty with
    | some ti => some (off, ti.size)
    | none => none
  | none => none

def setAll (size : Nat) (agg : Bool) : List AV → List (Nat × AV) → Option (List AV)
  | xs, [] => some xs
  | xs, (i, v) :: rest =>
    match (cellsOf v).length == size && decide (i < xs.length) && (agg == !isFlat v) with
    | true => setAll size agg (xs.set i v) rest
    | false => none

def arithA (op : BinOp) (k : IntKind) (a b : Int) : Option AV :=
  match op with
  | .add => some (.int k (k.wrap (a + b)))
  | .sub => some (.int k (k.wrap (a - b)))
  | .mul => some (.int k (k.wrap (a * b)))
  | .quo => match b == 0 with
    | true => none
    | false => some (.int k (k.wrap (a.tdiv b)))
  | .rem => match b == 0 with
    | true => none
    | false => some (.int k (a.tmod b))
  | .and => some (.int k (k.wrap (BitVec.ofInt k.bits a &&& BitVec.ofInt k.bits b).toNat))
  | .or => some (.int k (k.wrap (BitVec.ofInt k.bits a ||| BitVec.ofInt k.bits b).toNat))
  | .xor => some (.int k (k.wrap (BitVec.ofInt k.bits a ^^^ BitVec.ofInt k.bits b).toNat))
  | .andNot => some (.int k (k.wrap (BitVec.ofInt k.bits a &&& ~~~(BitVec.ofInt k.bits b)).toNat))
  | .eql => some (.bool (a == b))
  | .neq => some (.bool (a != b))
  | .lss => some (.bool (a < b))
  | .leq => some (.bool (a ≤ b))
  | .gtr => some (.bool (a > b))
  | .geq => some (.bool (a ≥ b))
  | _ => none

def shiftA (op : BinOp) (k : IntKind) (x y : Int) : Option AV :=
  match decide (y < 0) with
  | true => none
  | false => match op with
    | .shl => some (.int k (k.wrap (x * 2 ^ (min y.toNat k.bits))))
    | .shr => some (.int k (x.fdiv (2 ^ (min y.toNat k.bits))))
    | _ => none

def strA (op : BinOp) (x y : ByteArray) : Option AV :=
  match op with
  | .add => match decide (((x.size + y.size : Nat) : Int) > IntKind.i64.max) with
    | true => none
    | false => some (.str (x ++ y))
  | .eql => some (.bool (x.toList == y.toList))
  | .neq => some (.bool !(x.toList == y.toList))
  | .lss => some (.bool (Op.bytesLess x.toList y.toList))
  | .leq => some (.bool (Op.bytesLess x.toList y.toList || x.toList == y.toList))
  | .gtr => some (.bool !(Op.bytesLess x.toList y.toList || x.toList == y.toList))
  | .geq => some (.bool !(Op.bytesLess x.toList y.toList))
  | _ => none

def eqFs (T : Tr TI) (c : Nat → AV → AV → Option Bool) (xs ys : List AV) : List (Nat × Nat × Bool) → Option Bool
  | [] => some true
  | (off, ty, blank) :: fs => match blank with
    | true => eqFs T c xs ys fs
    | false => match partA T ty xs off, partA T ty ys off with
      | some x, some y => match c ty x y with
        | some true => eqFs T c xs ys fs
        | some false => some false
        | none => none
      | _, _ => none

def eqAt (T : Tr TI) (c : Nat → AV → AV → Option Bool) (xs ys : List AV) (e size : Nat) : Nat → Nat → Option Bool
  | 0, _ => some true
  | n + 1, i => match partA T e xs (i * size), partA T e ys (i * size) with
    | some x, some y => match c e x y with
      | some true => eqAt T c xs ys e size n (i + 1)
      | some false => some false
      | none => none
    | _, _ => none

def eqA (T : Tr TI) : Nat → Nat → AV → AV → Option Bool
  | 0, _, _, _ => none
  | n + 1, t, x, y => match T.get t with
    | none => none
    | some ti => match ti.kd, x, y with
      | .bool, .bool a, .bool b => some (a == b)
      | .int _, .int k a, .int j b => match decide (k = j) with
        | true => some (a == b)
        | false => none
      | .str, .str a, .str b => some (a == b)
      | .ptr _, .nilp, .nilp => some true
      | .ptr _, .nilp, .ptr _ _ => some false
      | .ptr _, .nilp, .elem _ _ _ => some false
      | .ptr _, .ptr _ _, .nilp => some false
      | .ptr _, .elem _ _ _, .nilp => some false
      | .slice _, .nils, .nils => some true
      | .slice _, .nils, .sl _ _ => some false
      | .slice _, .nils, .ms _ _ _ _ => some false
      | .slice _, .sl _ _, .nils => some false
      | .slice _, .ms _ _ _ _, .nils => some false
      | .iface, .nili, .ifc _ _ => some false
      | .iface, .ifc _ _, .nili => some false
      | .iface, .ifc u a, .ifc v b => match u == v with
        | false => some false
        | true => match T.get u with
          | some tu => match tu.plain with
            | true => eqA T n u a b
            | false => none
          | none => none
      | .ptr e, .ptr a o, .ptr b q => match a == b, T.get e with
        | true, some te => match te.size == 0 with
          | false => some (o == q)
          | true => none
        | _, _ => none
      | .func, .nilf, .nilf => some true
      | .func, .nilf, .fn _ _ _ => some false
      | .func, .fn _ _ _, .nilf => some false
      | .map _ _, .nilm, .nilm => some true
      | .map _ _, .nilm, .map _ => some false
      | .map _ _, .map _, .nilm => some false
      | .struct fs, .agg xs, .agg ys => match ti.plain with
        | true => eqFs T (eqA T n) xs ys fs
        | false => none
      | .arr len e, .agg xs, .agg ys => match ti.plain, T.get e with
        | true, some te => eqAt T (eqA T n) xs ys e te.size len 0
        | _, _ => none
      | _, _, _ => none

def isConstO : Operand → Bool
  | .const _ => true
  | _ => false

/-- Two nil values of an interface type may be compared where one is the literal nil. -/
def eqTop (T : Tr TI) (t : Nat) (ox oy : Operand) (x y : AV) : Option Bool :=
  match x, y with
  | .nili, .nili => match isConstO ox || isConstO oy, T.get t with
    | true, some ti => match ti.kd with
      | .iface => some true
      | _ => none
    | _, _ => none
  | x, y => eqA T 12 t x y

def binA (T : Tr TI) (op : BinOp) (t : Nat) (ox oy : Operand) (x y : AV) : Option AV :=
  match x, y with
  | .int k a, .int j b => match op with
    | .shl => shiftA op k a b
    | .shr => shiftA op k a b
    | _ => match decide (k = j) with
      | true => arithA op k a b
      | false => none
  | .str a, .str b => strA op a b
  | x, y => match op with
    | .eql => match eqTop T t ox oy x y with
      | some b => some (.bool b)
      | none => none
    | .neq => match eqTop T t ox oy x y with
      | some b => some (.bool !b)
      | none => none
    | _ => none

def unA (op : UnOp) (x : AV) : Option AV :=
  match op, x with
  | .neg, .int k n => arithA .sub k 0 n
  | .xor, .int k n => arithA .xor k (if k.signed then -1 else k.max) n
  | .not, .bool b => some (.bool !b)
  | _, _ => none

/-- The bytes of a row of bytes. -/
def bytesOf : List AV → Option (List UInt8)
  | [] => some []
  | .int .u8 n :: xs => match bytesOf xs with
    | some l => some (UInt8.ofNat n.toNat :: l)
    | none => none
  | _ => none

def ofBytes (s : ByteArray) : List AV := s.data.toList.map fun b => .int .u8 b.toNat

/-- Consecutive elements out of a row of cells. -/
def chunkHead (size : Nat) (agg : Bool) (cs : List AV) : AV := match agg with
  | true => .agg (cs.take size)
  | false => cs.headD undefA

def chunk (size : Nat) (agg : Bool) : Nat → List AV → List AV
  | 0, _ => []
  | n + 1, cs => chunkHead size agg cs :: chunk size agg n (cs.drop size)

def msCells (h : Tr Blk) (b off n : Nat) : Option (List AV) :=
  match h.get b with
  | some (.cells cs _) => match decide (off + n ≤ cs.length) with
    | true => some ((cs.drop off).take n)
    | false => none
  | _ => none

def convA (T : Tr TI) (h : Tr Blk) (src dst : Nat) (x : AV) : Option AV :=
  match T.get src, T.get dst with
  | some ts, some td => match td.kd, x with
    | .int k, .int _ n => some (.int k (k.wrap n))
    | .str, .str s => some (.str s)
    | .slice e, .str s => match ts.kd, T.get e with
      | .str, some te => match te.kd with
        | .int .u8 => some (.sl (ofBytes s) .dead)
        | _ => none
      | _, _ => none
    | .str, x => match ts.kd with
      | .slice e => match T.get e with
        | some te => match te.kd, x with
          | .int .u8, .nils => some (.str .empty)
          | .int .u8, .sl xs _ => match bytesOf xs with
            | some l => some (.str ⟨l.toArray⟩)
            | none => none
          | .int .u8, .ms b off n _ => match msCells h b off n with
            | some xs => match bytesOf xs with
              | some l => some (.str ⟨l.toArray⟩)
              | none => none
            | none => none
          | _, _ => none
        | none => none
      | _ => none
    | _, _ => none
  | _, _ => none

/-- A bound of a slice expression. -/
def bound (x : Option AV) (dflt most : Nat) : Option Nat :=
  match x with
  | none => some dflt
  | some (.int _ i) => match decide (0 ≤ i) && decide (i ≤ (most : Int)) with
    | true => some i.toNat
    | false => none
  | some _ => none

def evOpt (e : Env) : Option Operand → Option (Option AV)
  | none => some none
  | some x => match ev e x with
    | some a => some (some a)
    | none => none

/-- low, high, max of a slice of so many elements; none reaches beyond its length. -/
def bounds (len : Nat) (lo hi mx : Option AV) : Option (Nat × Nat × Option Nat) :=
  match mx with
  | none => match bound hi len len with
    | some h => match bound lo 0 h with
      | some l => some (l, h, none)
      | none => none
    | none => none
  | some m => match bound (some m) 0 len, hi with
    | some m, some hv => match bound (some hv) 0 m with
      | some h => match bound lo 0 h with
        | some l => some (l, h, some m)
        | none => none
      | none => none
    | _, _ => none

def subKind (k : SK) (len l h : Nat) (m : Option Nat) : SK :=
  match m with
  | some m => match m == h with
    | true => .full
    | false => .dead
  | none => match h == len with
    | true => match k with
      | .full => .full
      | .tag t => match l == h with
        | true => .dead
        | false => .tag t
      | .dead => .dead
    | false => .dead

/-- The first element, if there is one, has so many cells. -/
def headIs (size : Nat) : List AV → Bool
  | [] => true
  | x :: _ => (cellsOf x).length == size

def sliceA (T : Tr TI) (hp : Tr Blk) (t : Nat) (x : AV) (lo hi mx : Option AV) : Option AV :=
  match T.get t with
  | none => none
  | some ti => match ti.kd, x with
    | .str, .str s => match mx, bounds s.size lo hi none with
      | none, some (l, h, _) => some (.str (s.extract l h))
      | _, _ => none
    | .slice e, .nils => match bounds 0 lo hi mx, T.get e with
      | some _, some _ => some .nils
      | _, _ => none
    | .slice e, .sl xs k => match bounds xs.length lo hi mx, T.get e with
      | some (l, h, m), some te => match headIs te.size xs with
        | true => some (.sl ((xs.drop l).take (h - l)) (subKind k xs.length l h m))
        | false => none
      | _, _ => none
    | .slice e, .ms b off n z => match bounds n lo hi mx, T.get e with
      | some (l, h, _), some te => match z == te.size with
        | true => match l == h with
          | true => some (.sl [] .dead)
          | false => some (.ms b (off + l * z) (h - l) z)
        | false => none
      | _, _ => none
    | .arr n e, .ptr b off => match mx, bounds n lo hi none, T.get e with
      | none, some (l, h, _), some te => match msCells hp b off (n * te.size) with
        | some _ => match l == h with
          | true => some (.sl [] .dead)
          | false => some (.ms b (off + l * te.size) (h - l) te.size)
        | none => none
      | _, _, _ => none
    | _, _ => none

def asIdx : AV → Option Int
  | .int _ i => some i
  | _ => none

def indexAddrA (T : Tr TI) (t : Nat) (x ix : AV) : Option AV :=
  match T.get t, asIdx ix with
  | some ti, some i => match ti.kd, x with
    | .arr n e, .ptr b off => match T.get e with
      | some te => match decide (0 ≤ i) && decide (i < (n : Int)) with
        | true => some (.ptr b (off + i.toNat * te.size))
        | false => none
      | none => none
    | .slice e, .ms b off n z => match T.get e with
      | some te => match decide (0 ≤ i) && decide (i < (n : Int)) && z == te.size with
        | true => some (.ptr b (off + i.toNat * te.size))
        | false => none
      | none => none
    | .slice e, .sl xs _ => match T.get e with
      | some te => match decide (0 ≤ i) with
        | true => match xs[i.toNat]? with
          | some v => match (cellsOf v).length == te.size with
            | true => some (.elem xs i.toNat 0)
            | false => none
          | none => none
        | false => none
      | none => none
    | _, _ => none
  | _, _ => none

def indexA (T : Tr TI) (t : Nat) (x ix : AV) : Option AV :=
  match T.get t, asIdx ix with
  | some ti, some i => match ti.kd, x with
    | .arr n e, .agg cs => match T.get e with
      | some te => match decide (0 ≤ i) && decide (i < (n : Int)) with
        | true => partA T e cs (i.toNat * te.size)
        | false => none
      | none => none
    | .str, .str s => match (if 0 ≤ i then s[i.toNat]? else none) with
      | some b => some (.int .u8 b.toNat)
      | none => none
    | _, _ => none
  | _, _ => none

def loadA (T : Tr TI) (h : Tr Blk) (t : Nat) (p : AV) : Option AV :=
  match T.get t with
  | none => none
  | some ti => match p with
    | .ptr b off => match h.get b with
      | some (.cells cs _) => loadCellsA ti cs off
      | _ => none
    | .elem xs i off => match xs[i]? with
      | some v => loadCellsA ti (cellsOf v) off
      | none => none
    | _ => none

def fieldAddrA (T : Tr TI) (s : Nat) (p : AV) (f : Nat) : Option AV :=
  match T.get s with
  | some ti => match ti.kd with
    | .struct fs => match fieldSize T fs f with
      | some (off, size) => match size == 0 with
        | true => none
        | false => match p with
          | .ptr b o => some (.ptr b (o + off))
          | .elem xs i o => some (.elem xs i (o + off))
          | _ => none
      | none => none
    | _ => none
  | none => none

def fieldA (T : Tr TI) (s : Nat) (x : AV) (f : Nat) : Option AV :=
  match T.get s with
  | some ti => match ti.kd, x with
    | .struct fs, .agg cs => match fs[f]? with
      | some (off, ty, _) => partA T ty cs off
      | none => none
    | _, _ => none
  | none => none

def buildA (T : Tr TI) (t : Nat) (ps : List (Nat × AV)) : Option AV :=
  match T.get t with
  | some ti => match ti.kd with
    | .struct fs => match fs.all (fun f => (T.get f.2.1).isSome), fillA (fieldSize T fs) (cellsOf ti.zero) ps with
      | true, some cs => some (.agg cs)
      | _, _ => none
    | .arr _ e => match T.get e with
      | some te => match fillA (fun i => some (i * te.size, te.size)) (cellsOf ti.zero) ps with
        | some cs => some (.agg cs)
        | none => none
      | none => none
    | _ => none
  | none => none

/-- The elements of a slice that is written out. -/
def elemsA (T : Tr TI) (t len : Nat) (ps : List (Nat × AV)) : Option (List AV × TI) :=
  match T.get t with
  | some ti => match ti.kd with
    | .slice e => match T.get e with
      | some te => match decide (0 < te.size) && decide (len * te.size ≤ 2 ^ 24) with
        | true => match setAll te.size te.agg (List.replicate len te.zero) ps with
          | some xs => some (xs, te)
          | none => none
        | false => none
      | none => none
    | _ => none
  | none => none

def typeAssertA (T : Tr TI) (x : AV) (asserted : Nat) (ok : Bool) : Option AV :=
  match T.get asserted with
  | none => none
  | some ti => match ti.kd with
    | .iface => none
    | _ => match x with
      | .ifc t v => match t == asserted with
        | true => match ok with
          | true => some (.tup [v, .bool true])
          | false => some v
        | false => match ok with
          | true => some (.tup [ti.zero, .bool false])
          | false => none
      | .nili => match ok with
        | true => some (.tup [ti.zero, .bool false])
        | false => none
      | _ => none

def lenA (T : Tr TI) (t : Nat) (x : AV) : Option Nat :=
  match T.get t with
  | none => none
  | some ti => match ti.kd, x with
    | .str, .str s => some s.size
    | .arr n _, _ => some n
    | .slice _, .nils => some 0
    | .slice _, .sl xs _ => some xs.length
    | .slice _, .ms _ _ n _ => some n
    | .map _ _, .nilm => some 0
    | _, _ => none

def minMaxA (isMax : Bool) : AV → List AV → Option AV
  | v, [] => some v
  | .int k x, .int _ y :: rest => minMaxA isMax (.int k (match isMax with
      | true => if y > x then y else x
      | false => if y < x then y else x)) rest
  | _, _ => none

def nilCheckA : AV → Option AV
  | .ptr b o => some (.ptr b o)
  | .elem xs i o => some (.elem xs i o)
  | _ => none

def builtinStill (T : Tr TI) (b : Builtin) (ts : List Nat) (args : List AV) : Option AV :=
  match b with
  | .len => match ts, args with
    | t :: _, x :: _ => match lenA T t x with
      | some n => some (.int .i64 n)
      | none => none
    | _, _ => none
  | .min => match args with
    | x :: rest => minMaxA false x rest
    | [] => none
  | .max => match args with
    | x :: rest => minMaxA true x rest
    | [] => none
  | .unsafeSliceData => match args with
    | [.nils] => some .nilp
    | [.sl (x :: xs) _] => some (.elem (x :: xs) 0 0)
    | _ => none
  | _ => none

def stillOp (T : Tr TI) (h : Tr Blk) (e : Env) (o : Op) : Option AV :=
  match o with
  | .move x => ev e x
  | .assign x => ev e x
  | .pick c a b => match ev e c with
    | some (.bool true) => ev e a
    | some (.bool false) => ev e b
    | _ => none
  | .build t ps => match evParts e ps.toList with
    | some l => buildA T t l
    | none => none
  | .buildSlice t len ps => match evParts e ps.toList with
    | some l => match elemsA T t len l with
      | some (xs, _) => some (.sl xs .full)
      | none => none
    | none => none
  | .load t a => match ev e a with
    | some p => loadA T h t p
    | none => none
  | .nilCheck x => match ev e x with
    | some p => nilCheckA p
    | none => none
  | .binOp op t x y _ => match ev e x, ev e y with
    | some a, some b => binA T op t x y a b
    | _, _ => none
  | .unOp op _ x => match ev e x with
    | some a => unA op a
    | none => none
  | .convert s d x => match ev e x with
    | some a => convA T h s d a
    | none => none
  | .makeInterface t x => match ev e x, T.get t with
    | some a, some ti => match ti.kd with
      | .iface => none
      | _ => some (.ifc t a)
    | _, _ => none
  | .makeFunc fn a b => match evs e a.toList, evs e b.toList with
    | some xs, some ys => some (.fn fn xs ys)
    | _, _ => none
  | .slice t x lo hi mx => match ev e x, evOpt e lo, evOpt e hi, evOpt e mx with
    | some a, some l, some hh, some m => sliceA T h t a l hh m
    | _, _, _, _ => none
  | .fieldAddr s x f => match ev e x with
    | some a => fieldAddrA T s a f
    | none => none
  | .field s x f => match ev e x with
    | some a => fieldA T s a f
    | none => none
  | .indexAddr t x i => match ev e x, ev e i with
    | some a, some j => indexAddrA T t a j
    | _, _ => none
  | .index t x i => match ev e x, ev e i with
    | some a, some j => indexA T t a j
    | _, _ => none
  | .typeAssert x _ asserted ok => match ev e x with
    | some a => typeAssertA T a asserted ok
    | none => none
  | .extract x i => match ev e x with
    | some (.tup vs) => vs[i]?
    | _ => none
  | .call c => match c.callee, evs e c.args.toList with
    | .builtin b, some args => builtinStill T b c.argTypes.toList args
    | _, _ => none
  | _ => none

def isStill (mutDst : List Nat) (o : Oper) : Bool :=
  match o.op with
  | .move _ | .assign _ | .pick .. | .build .. | .load .. | .nilCheck _ | .binOp .. | .unOp .. | .convert .. | .makeInterface .. | .makeFunc ..
  | .slice .. | .fieldAddr .. | .field .. | .indexAddr .. | .index .. | .typeAssert .. | .extract .. => true
  | .buildSlice .. => match o.dst with
    | some d => !mutDst.contains d
    | none => true
  | .call c => match c.callee with
    | .builtin .len | .builtin .min | .builtin .max | .builtin .unsafeSliceData => true
    | _ => false
  | _ => false

/-- Does a still operation read the heap? -/
def readsHeap (o : Op) : Bool :=
  match o with
  | .load .. | .convert .. | .slice .. => true
  | _ => false

def St.alloc (s : St) (b : Blk) : St := { s with heap := s.heap.set s.next b, next := s.next + 1 }

def newMs (s : St) (size : Nat) (xs : List AV) : AV × St :=
  (.ms s.next 0 xs.length size, s.alloc (.cells (xs.flatMap cellsOf) false))

def storeA (T : Tr TI) (s : St) (t : Nat) (p v : AV) : Option St :=
  match T.get t, p with
  | some ti, .ptr b off => match s.heap.get b with
    | some (.cells cs false) =>
      match (cellsOf v).length == ti.size && decide (off + ti.size ≤ cs.length) && (cellsOf v).all isFlat with
      | true => some { s with heap := s.heap.set b (.cells (splice cs off (cellsOf v)) false) }
      | false => none
    | _ => none
  | _, _ => none

/-- The elements that are appended or copied. -/
def srcElems (s : St) (te : TI) : AV → Option (List AV)
  | .nils => some []
  | .sl xs _ => match xs with
    | [] => some []
    | x :: r => match (cellsOf x).length == te.size with
      | true => some (x :: r)
      | false => none
  | .str b => match te.kd with
    | .int .u8 => some (ofBytes b)
    | _ => none
  | .ms b off n z => match msCells s.heap b off (n * te.size) with
    | some cs => match z == te.size && cs.all isFlat with
      | true => some (chunk te.size te.agg n cs)
      | false => none
    | none => none
  | _ => none

def newTag (s : St) (xs : List AV) : AV × St := (.sl xs (.tag s.nt), { s with live := s.live.set s.nt true, nt := s.nt + 1 })

def roomA (te : TI) (n : Nat) : Bool := decide (n * te.bytes ≤ 2 ^ 47) && decide (n < 2 ^ 62)

def appendA (te : TI) (mut_ : Bool) (s : St) (base : AV) (ys : List AV) : Option (AV × St) :=
  match ys with
  | [] => match base with
    | .nils => some (base, s)
    | .sl _ _ => some (base, s)
    | _ => none
  | _ :: _ => match base with
    | .nils => match roomA te ys.length with
      | true => match mut_ with
        | true => some (newMs s te.size ys)
        | false => some (newTag s ys)
      | false => none
    | .sl xs k => match roomA te (xs.length + ys.length) && headIs te.size xs with
      | true => match k with
        | .full => match mut_ with
          | true => some (newMs s te.size (xs ++ ys))
          | false => some (newTag s (xs ++ ys))
        | .tag t => match s.live.get t, mut_, (ys.flatMap cellsOf).all isFlat with
          | some true, false, true => some (newTag { s with live := s.live.set t false } (xs ++ ys))
          | _, _, _ => none
        | .dead => none
      | false => none
    | _ => none

def elemTI (T : Tr TI) (t : Nat) : Option TI :=
  match T.get t with
  | some ti => match ti.kd with
    | .slice e => T.get e
    | _ => none
  | none => none

def notInt (T : Tr TI) (t : Nat) : Bool :=
  match T.get t with
  | some ti => match ti.kd with
    | .slice _ => true
    | .str => true
    | _ => false
  | none => false

def builtinLoud (T : Tr TI) (b : Builtin) (mut_ : Bool) (ts : List Nat) (args : List AV) (s : St) : Option (Res × St) :=
  match b with
  | .append => match ts, args with
    | t :: u :: _, x :: y :: _ => match elemTI T t with
      | some te => match notInt T u && decide (0 < te.size), srcElems s te y with
        | true, some ys => match appendA te mut_ s x ys with
          | some (v, s') => some (.ret v, s')
          | none => none
        | _, _ => none
      | none => none
    | _, _ => none
  | .copy => match ts, args with
    | t :: _, .ms b off n z :: y :: _ => match elemTI T t with
      | some te => match decide (0 < te.size) && z == te.size, srcElems s te y, s.heap.get b with
        | true, some ys, some (.cells cs false) =>
          let vs := (ys.take n).flatMap cellsOf
          match decide (off + vs.length ≤ cs.length) && vs.all isFlat with
          | true => some (.ret (.int .i64 (min ys.length n : Nat)), { s with heap := s.heap.set b (.cells (splice cs off vs) false) })
          | false => none
        | _, _, _ => none
      | none => none
    | _, _ => none
  | .clear => match ts, args with
    | t :: _, .ms b off n _ :: _ => match elemTI T t with
      | some te => match s.heap.get b with
        | some (.cells cs false) =>
          let vs := (List.replicate n te.zero).flatMap cellsOf
          match decide (off + vs.length ≤ cs.length) && vs.all isFlat with
          | true => some (.ret undefA, { s with heap := s.heap.set b (.cells (splice cs off vs) false) })
          | false => none
        | _ => none
      | none => none
    | t :: _, .sl [] _ :: _ => match elemTI T t with
      | some _ => some (.ret undefA, s)
      | none => none
    | t :: _, .nils :: _ => match elemTI T t with
      | some _ => some (.ret undefA, s)
      | none => none
    | _, _ => none
  | .panic => match args with
    | [.ifc t v] => some (.pan (.ifc t v), s)
    | _ => none
  | .unsafeString => match ts, args with
    | _ :: _, [.nilp, .int _ n] => match n == 0 with
      | true => some (.ret (.str .empty), s)
      | false => none
    | _, _ => none
  | _ => none

def strsOf : List AV → Option (List ByteArray)
  | [] => some []
  | .str s :: xs => match strsOf xs with
    | some l => some (s :: l)
    | none => none
  | _ => none

def joinL (sep : List UInt8) : List (List UInt8) → List UInt8
  | [] => []
  | [x] => x
  | x :: y :: r => x ++ sep ++ joinL sep (y :: r)

def extA (x : Ext) (args : List AV) (s : St) : Option (Res × St) :=
  match x, args with
  | .noEscape, [v] => some (.ret v, s)
  | .cmpString, [.str a, .str b] => some (.ret (.int .i64 (Extern.BytealgCompare.cmp a b)), s)
  | .indexByteString, [.str a, .int .u8 c] => match (List.range a.size).find? fun i => a[i]! == UInt8.ofNat c.toNat with
    | some i => some (.ret (.int .i64 i), s)
    | none => some (.ret (.int .i64 (-1)), s)
  | .fn g, args => g args s
  | .join, [.nils, .str _] => some (.ret (.str ⟨#[]⟩), s)
  | .join, [.sl xs _, .str sep] => match strsOf xs with
    | some l => let r := joinL sep.data.toList (l.map (·.data.toList))
      match decide (r.length ≤ 2 ^ 47) && decide (l.length ≤ 2 ^ 47) with
      | true => some (.ret (.str ⟨r.toArray⟩), s)
      | false => none
    | none => none
  | _, _ => none

def loudOp (C : Ctx) (mutDst : List Nat) (call : Nat → List AV → St → Option (Res × St)) (e : Env) (s : St) (o : Oper) : Option (Res × St) :=
  match o.op with
  | .alloc t => match C.T.get t with
    | some ti => some (.ret (.ptr s.next 0), s.alloc (.cells (cellsOf ti.zero) false))
    | none => none
  | .box _ x => match ev e x with
    | some v => match (cellsOf v).all isFlat with
      | true => some (.ret (.ptr s.next 0), s.alloc (.cells (cellsOf v) false))
      | false => none
    | none => none
  | .buildSlice t len ps => match evParts e ps.toList with
    | some l => match elemsA C.T t len l with
      | some (xs, te) => match xs with
        | [] => some (.ret (.sl [] .full), s)
        | _ :: _ => match (xs.flatMap cellsOf).all isFlat with
          | true => let r := newMs s te.size xs
            some (.ret r.1, r.2)
          | false => none
      | none => none
    | none => none
  | .store t a x => match ev e a, ev e x with
    | some p, some v => match storeA C.T s t p v with
      | some s' => some (.ret undefA, s')
      | none => none
    | _, _ => none
  | .range t x => match C.T.get t, ev e x with
    | some ti, some (.str b) => match ti.kd with
      | .str => some (.ret (.ptr s.next 0), s.alloc (.siter b 0))
      | _ => none
    | _, _ => none
  | .next x true => match ev e x with
    | some (.ptr b 0) => match s.heap.get b with
      | some (.siter str pos) => match decide (pos < str.size) with
        | true => let r := Utf8.decode str pos
          some (.ret (.tup [.bool true, .int .i64 pos, .int .i32 r.1]), { s with heap := s.heap.set b (.siter str (pos + r.2)) })
        | false => some (.ret (.tup [.bool false]), s)
      | _ => none
    | _ => none
  | .makeSlice t l c => match elemTI C.T t, ev e l, ev e c with
    | some te, some (.int _ n), some (.int _ m) =>
      match decide (0 ≤ n) && decide (n ≤ m) && decide (m < 2 ^ 46) && decide (m.toNat * te.bytes ≤ 2 ^ 47) && decide (0 < te.size) with
      | true => match m == 0 with
        | true => some (.ret (.sl [] .full), s)
        | false => some (.ret (.ms s.next 0 n.toNat te.size), s.alloc (.cells ((List.replicate m.toNat te.zero).flatMap cellsOf) false))
      | false => none
    | _, _, _ => none
  | .panic x => match ev e x with
    | some (.ifc t v) => some (.pan (.ifc t v), s)
    | _ => none
  | .call c => match evs e c.args.toList with
    | none => none
    | some args => match c.callee with
      | .builtin b => builtinLoud C.T b (match o.dst with | some d => mutDst.contains d | none => false) c.argTypes.toList args s
      | .value f => match ev e f with
        | some (.fn (.func fid) first cap) => call fid (first ++ args ++ cap) s
        | _ => none
      | .invoke _ _ => none
  | _ => none

/-- What a region that draws its order has met: a still operation that read the heap (number, operation, frame, value); a loud one (number, the state that it found). -/
inductive Met where
  | rd (i : Nat) (o : Op) (e : Env) (v : AV)
  | ld (i : Nat) (s : St)

def optBeq : Option AV → AV → Bool
  | some x, y => AV.beq x y
  | none, _ => false

/-- The masks: which operations come before each one. -/
def bit (m i : Nat) : Bool := m.testBit i

def okRead (C : Ctx) (mask : Nat) (e : Env) (o : Op) (v : AV) : List Met → Bool
  | [] => true
  | .rd _ _ _ _ :: l => okRead C mask e o v l
  | .ld j s :: l => (bit mask j || optBeq (stillOp C.T s.heap e o) v) && okRead C mask e o v l

def okLoud (C : Ctx) (mask : Nat) (s : St) : List Met → Bool
  | [] => true
  | .ld _ _ :: l => okLoud C mask s l
  | .rd i o e v :: l => (bit mask i || optBeq (stillOp C.T s.heap e o) v) && okLoud C mask s l

def maskFold (acc : List Nat) : List Edge → Nat → Nat
  | [], m => m
  | e :: es, m => match Region.binds .any e with
    | true => maskFold acc es (m ||| 2 ^ e.on ||| acc.getD e.on 0)
    | false => maskFold acc es m

def masksL : List Nat → List Oper → List Nat
  | acc, [] => acc
  | acc, o :: r => masksL (acc ++ [maskFold acc o.after.toList 0]) r

def allBehind (i : Nat) (masks : List Nat) : Bool := masks.all fun m => bit m i

def initEnv : List AV → Nat → Env → Env
  | [], _, e => e
  | v :: vs, i, e => initEnv vs (i + 1) (e.set i v)

def resultsA (T : Tr TI) (s : St) (e : Env) : List ResultVar → Option (List AV)
  | [] => some []
  | .tmp t :: rs => match e.get t, resultsA T s e rs with
    | some v, some vs => some (v :: vs)
    | _, _ => none
  | .cell a t :: rs => match e.get a with
    | some p => match loadA T s.heap t p, resultsA T s e rs with
      | some v, some vs => some (v :: vs)
      | _, _ => none
    | none => none

def packA : List AV → AV
  | [v] => v
  | vs => .tup vs

/-- A slice of one's own that will not be written any more. -/
def freezeA (T : Tr TI) (s : St) (ty : Nat) : AV → Option (AV × St)
  | .ms b off n z => match T.get ty, s.heap.get b with
    | some te, some (.cells cs false) =>
      match decide (off + n * te.size ≤ cs.length) && decide (0 < te.size) && decide (0 < n) && z == te.size && ((cs.drop off).take (n * te.size)).all isFlat with
      | true => some (.sl (chunk te.size te.agg n ((cs.drop off).take (n * te.size))) (.tag s.nt),
          { s with heap := s.heap.set b (.cells (cs.take (off + n * te.size)) true), live := s.live.set s.nt true, nt := s.nt + 1 })
      | false => none
    | _, _ => none
  | v => some (v, s)

def finishA (C : Ctx) (fn : AFun) (e : Env) (s : St) : Option (Res × St) :=
  match resultsA C.T s e fn.results with
  | some vs => match fn.frz with
    | none => some (.ret (packA vs), s)
    | some ty => match freezeA C.T s ty (packA vs) with
      | some (v, s') => some (.ret v, s')
      | none => none
  | none => none

def putA (e : Env) (d : Option Nat) (v : AV) : Env := match d with
  | some d => e.set d v
  | none => e

mutual
def callA (C : Ctx) : Nat → Nat → List AV → St → Option (Res × St)
  | 0, _, _, _ => none
  | n + 1, f, args, s => match C.X.get f with
    | some x => extA x args s
    | none => match C.F.get f with
      | none => none
      | some fn => match evCode C fn n fn.body (initEnv args 0 .nil) s with
        | some (.normal, e, s') => finishA C fn e s'
        | some (.ret, e, s') => finishA C fn e s'
        | some (.pan v, _, s') => some (.pan v, s')
        | _ => none

def evCode (C : Ctx) (fn : AFun) : Nat → Code → Env → St → Option (Ex × Env × St)
  | 0, _, _, _ => none
  | n + 1, c, e, s => match c with
    | .skip => some (.normal, e, s)
    | .label _ => some (.normal, e, s)
    | .exit id => some (.exit id, e, s)
    | .goto l => some (.goto l, e, s)
    | .ret => some (.ret, e, s)
    | .seq a b => match evCode C fn n a e s with
      | some (.normal, e', s') => evCode C fn n b e' s'
      | r => r
    | .cond x a b => match ev e x with
      | some (.bool true) => evCode C fn n a e s
      | some (.bool false) => evCode C fn n b e s
      | _ => none
    | .block id a => match evCode C fn n a e s with
      | some (.exit j, e', s') => match j == id with
        | true => some (.normal, e', s')
        | false => some (.exit j, e', s')
      | r => r
    | .loop a => match evCode C fn n a e s with
      | some (.normal, e', s') => evCode C fn n (.loop a) e' s'
      | r => r
    | .region _ ops draw => evOps C fn n ops.toList draw (masksL [] ops.toList) ops.toList 0 [] e s
    | _ => none

def evOps (C : Ctx) (fn : AFun) : Nat → List Oper → Bool → List Nat → List Oper → Nat → List Met → Env → St → Option (Ex × Env × St)
  | 0, _, _, _, _, _, _, _, _ => none
  | _ + 1, _, _, _, [], _, _, e, s => some (.normal, e, s)
  | n + 1, all, draw, masks, o :: rest, i, met, e, s =>
    match wantedA all e o with
    | none => none
    | some false => evOps C fn n all draw masks.tail rest (i + 1) met (putA e o.dst undefA) s
    | some true => match isStill fn.mutDst o with
      | true => match stillOp C.T s.heap e o.op with
        | none => none
        | some v => match draw && readsHeap o.op with
          | false => evOps C fn n all draw masks.tail rest (i + 1) met (putA e o.dst v) s
          | true => match okRead C (masks.headD 0) e o.op v met with
            | true => evOps C fn n all draw masks.tail rest (i + 1) (.rd i o.op e v :: met) (putA e o.dst v) s
            | false => none
      | false => match loudOp C fn.mutDst (callA C n) e s o with
        | none => none
        | some (r, s') => match !draw || okLoud C (masks.headD 0) s' met with
          | false => none
          | true => match r with
            | .ret v => evOps C fn n all draw masks.tail rest (i + 1) (match draw with | true => .ld i s :: met | false => met) (putA e o.dst v) s'
            | .pan v => match !draw || allBehind i masks.tail with
              | true => some (.pan v, e, s')
              | false => none
end

end Go.Am
namespace Go.Am
open Go.RowKit

/-- Nothing turned in the blocks of K. -/
structure Kept (K : Nat → Prop) (w w' : World) : Prop where
  os : w'.os = w.os
  tape : w'.tape = w.tape
  output : w'.output = w.output
  size : w.heap.size ≤ w'.heap.size
  block : ∀ k, K k → w'.heap[k]? = w.heap[k]?
  shape : ∀ (k : Nat) arr T fr, w.heap[k]? = some (.cells arr T fr) → ∃ arr' T' fr', w'.heap[k]? = some (.cells arr' T' fr') ∧ arr'.size = arr.size

theorem Kept.refl (K : Nat → Prop) (w : World) : Kept K w w := ⟨rfl, rfl, rfl, Nat.le_refl _, fun _ _ => rfl, fun _ arr T fr h => ⟨arr, T, fr, h, rfl⟩⟩
theorem Kept.trans {K : Nat → Prop} {a b c : World} (h : Kept K a b) (k : Kept K b c) : Kept K a c :=
  ⟨k.os.trans h.os, k.tape.trans h.tape, k.output.trans h.output, Nat.le_trans h.size k.size, fun i hi => (k.block i hi).trans (h.block i hi), fun i arr T fr hi =>
    let ⟨arr1, T1, fr1, h1, h2⟩ := h.shape i arr T fr hi
    let ⟨arr2, T2, fr2, h3, h4⟩ := k.shape i arr1 T1 fr1 h1
    ⟨arr2, T2, fr2, h3, h4.trans h2⟩⟩
theorem Kept.mono {K L : Nat → Prop} {w w' : World} (h : Kept K w w') (hL : ∀ c, L c → K c) : Kept L w w' := ⟨h.os, h.tape, h.output, h.size, fun k hk => h.block k (hL k hk), h.shape⟩
theorem Kept.drew {K : Nat → Prop} {a w : World} (h : Kept K a w) : Kept K a w.drew := ⟨h.os, h.tape, h.output, h.size, h.block, h.shape⟩
theorem Kept.alloc {K : Nat → Prop} {a w : World} (h : Kept K a w) (hK : ∀ c, K c → c < w.heap.size) (o : Obj) : Kept K a (w.alloc o) :=
  h.trans ⟨rfl, rfl, rfl, by simp, fun k hk => Below.heap_alloc _ _ _ (hK k hk), fun k arr T fr hk => ⟨arr, T, fr, by rw [Below.heap_alloc _ _ _ (Array.getElem?_eq_some_iff.1 hk).1]; exact hk, rfl⟩⟩
theorem Kept.of_below {K : Nat → Prop} {w w' : World} (h : Below w.heap.size w w') (hK : ∀ c, K c → c < w.heap.size) : Kept K w w' :=
  ⟨h.os, h.tape, h.output, h.size, fun k hk => h.block k (hK k hk), fun k arr T fr hk => ⟨arr, T, fr, (h.block k (Array.getElem?_eq_some_iff.1 hk).1).trans hk, rfl⟩⟩
theorem Kept.below {K : Nat → Prop} {n : Nat} {w w' : World} (h : Kept K w w') (hK : ∀ c, c < n → K c) : Below n w w' := ⟨h.os, h.tape, h.output, h.size, fun k hk => h.block k (hK k hk)⟩

/-- Where the abstract things lie: ρ: an abstract block's block and its cells; I: cells that nobody will write any more; τ: a tag's block, its first free cell, its end; J: what I knew of the first world. -/
structure Gh where
  ρ : Nat → Option (Nat × Nat)
  I : Nat → Nat → Option Value
  τ : Nat → Option (Nat × Nat × Nat)
  J : (Nat → Nat → Option Value) × (Nat → Option (Nat × Nat))

structure Gh.Le (G H : Gh) : Prop where
  ρ : ∀ b x, G.ρ b = some x → H.ρ b = some x
  I : ∀ c o v, G.I c o = some v → H.I c o = some v
  τ : ∀ t x, G.τ t = some x → H.τ t = some x
  J : H.J = G.J

theorem Gh.Le.refl (G : Gh) : G.Le G := ⟨fun _ _ h => h, fun _ _ _ h => h, fun _ _ h => h, rfl⟩
theorem Gh.Le.trans {G H K : Gh} (a : G.Le H) (b : H.Le K) : G.Le K :=
  ⟨fun _ _ h => b.ρ _ _ (a.ρ _ _ h), fun _ _ _ h => b.I _ _ _ (a.I _ _ _ h), fun _ _ h => b.τ _ _ (a.τ _ _ h), b.J.trans a.J⟩

def KOk (G : Gh) (k : SK) (c base sz len cap : Nat) : Prop := match k with
  | .full => cap = len
  | .tag t => 0 < len ∧ G.τ t = some (c, base + len * sz, base + cap * sz)
  | .dead => True

theorem KOk.mono {G H : Gh} (h : G.Le H) {k : SK} {c base sz len cap : Nat} (hk : KOk G k c base sz len cap) : KOk H k c base sz len cap := by
  cases k with
  | full => exact hk
  | tag t => exact ⟨hk.1, h.τ _ _ hk.2⟩
  | dead => trivial

mutual
inductive VR (G : Gh) : AV → Value → Prop
  | bool (b : Bool) : VR G (.bool b) (.bool b)
  | int (k : IntKind) (n : Int) : VR G (.int k n) (.int k n)
  | str (s : ByteArray) : VR G (.str s) (.string s)
  | nilp : VR G .nilp (.pointer none)
  | ptr (b off c n : Nat) (h : G.ρ b = some (c, n)) : VR G (.ptr b off) (.pointer (some ⟨c, off, none⟩))
  | elem (xs : List AV) (i off c base sz : Nat) (vs : List Value) (hsz : ∀ x ∈ xs, (cellsOf x).length = sz) (hv : VRs G (xs.flatMap cellsOf) vs)
      (hI : ∀ j, j < vs.length → G.I c (base + j) = vs[j]?) : VR G (.elem xs i off) (.pointer (some ⟨c, base + i * sz + off, none⟩))
  | nils : VR G .nils (.slice none 0 0)
  | sl (xs : List AV) (k : SK) (c base sz len cap : Nat) (vs : List Value) (hsz : ∀ x ∈ xs, (cellsOf x).length = sz) (hv : VRs G (xs.flatMap cellsOf) vs)
      (hI : ∀ j, j < vs.length → G.I c (base + j) = vs[j]?) (hlen : len = xs.length) (hcap : len ≤ cap) (hk : KOk G k c base sz xs.length cap) : VR G (.sl xs k) (.slice (some ⟨c, base, none⟩) len cap)
  | ms (b off len sz c n cap : Nat) (h : G.ρ b = some (c, n)) (hl : len ≤ cap) (hc : off + cap * sz ≤ n) : VR G (.ms b off len sz) (.slice (some ⟨c, off, none⟩) len cap)
  | nilm : VR G .nilm (.map none)
  | map (b c n : Nat) (h : G.ρ b = some (c, n)) : VR G (.map b) (.map (some c))
  | nilf : VR G .nilf .nilFunc
  | fn (f : Fn) (a b : List AV) (asq bs : List Value) (ha : VRs G a asq) (hb : VRs G b bs) : VR G (.fn f a b) (.func f asq.toArray bs.toArray)
  | nili : VR G .nili .nilIface
  | ifc (t : Nat) (a : AV) (v : Value) (h : VR G a v) : VR G (.ifc t a) (.iface t v)
  | agg (cs : List AV) (vs : List Value) (h : VRs G cs vs) : VR G (.agg cs) (.agg vs.toArray)
  | tup (cs : List AV) (vs : List Value) (h : VRs G cs vs) : VR G (.tup cs) (.tuple vs.toArray)
inductive VRs (G : Gh) : List AV → List Value → Prop
  | nil : VRs G [] []
  | cons (a : AV) (v : Value) (asq : List AV) (vs : List Value) (h : VR G a v) (hs : VRs G asq vs) : VRs G (a :: asq) (v :: vs)
end

mutual
theorem VR.mono {G H : Gh} (h : G.Le H) : ∀ {a : AV} {v : Value}, VR G a v → VR H a v
  | _, _, .bool b => .bool b
  | _, _, .int k n => .int k n
  | _, _, .str s => .str s
  | _, _, .nilp => .nilp
  | _, _, .ptr b off c n e => .ptr b off c n (h.ρ _ _ e)
  | _, _, .elem xs i off c base sz vs hsz hv hI => .elem xs i off c base sz vs hsz (VRs.mono h hv) (fun j hj => by
      have e := hI j hj
      rw [List.getElem?_eq_getElem hj] at e ⊢
      exact h.I _ _ _ e)
  | _, _, .nils => .nils
  | _, _, .sl xs k c base sz len cap vs hsz hv hI hl hc hk => .sl xs k c base sz len cap vs hsz (VRs.mono h hv) (fun j hj => by
      have e := hI j hj
      rw [List.getElem?_eq_getElem hj] at e ⊢
      exact h.I _ _ _ e) hl hc (KOk.mono h hk)
  | _, _, .ms b off len sz c n cap e hl hc => .ms b off len sz c n cap (h.ρ _ _ e) hl hc
  | _, _, .nilm => .nilm
  | _, _, .map b c n e => .map b c n (h.ρ _ _ e)
  | _, _, .nilf => .nilf
  | _, _, .fn f a b asq bs ha hb => .fn f a b asq bs (VRs.mono h ha) (VRs.mono h hb)
  | _, _, .nili => .nili
  | _, _, .ifc t a v e => .ifc t a v (VR.mono h e)
  | _, _, .agg cs vs e => .agg cs vs (VRs.mono h e)
  | _, _, .tup cs vs e => .tup cs vs (VRs.mono h e)
theorem VRs.mono {G H : Gh} (h : G.Le H) : ∀ {a : List AV} {v : List Value}, VRs G a v → VRs H a v
  | _, _, .nil => .nil
  | _, _, .cons a v asq vs e es => .cons a v asq vs (VR.mono h e) (VRs.mono h es)
end

section lists
variable {G : Gh}
theorem VRs.length : ∀ {asq : List AV} {vs : List Value}, VRs G asq vs → asq.length = vs.length
  | _, _, .nil => rfl
  | _, _, .cons _ _ _ _ _ hs => by simp [hs.length]
theorem VRs.append : ∀ {asq : List AV} {vs : List Value} {bs : List AV} {us : List Value}, VRs G asq vs → VRs G bs us → VRs G (asq ++ bs) (vs ++ us)
  | _, _, _, _, .nil, h => h
  | _, _, _, _, .cons a v asq vs h hs, h' => .cons a v _ _ h (hs.append h')
theorem VRs.drop : ∀ (n : Nat) {asq : List AV} {vs : List Value}, VRs G asq vs → VRs G (asq.drop n) (vs.drop n)
  | 0, _, _, h => by simpa using h
  | n + 1, _, _, .nil => by simpa using VRs.nil
  | n + 1, _, _, .cons _ _ _ _ _ hs => by simpa using hs.drop n
theorem VRs.take : ∀ (n : Nat) {asq : List AV} {vs : List Value}, VRs G asq vs → VRs G (asq.take n) (vs.take n)
  | 0, _, _, _ => by simpa using VRs.nil
  | n + 1, _, _, .nil => by simpa using VRs.nil
  | n + 1, _, _, .cons a v asq vs h hs => by simpa using VRs.cons a v _ _ h (hs.take n)
theorem VRs.get : ∀ {asq : List AV} {vs : List Value} {i : Nat} {a : AV}, VRs G asq vs → asq[i]? = some a → ∃ v, vs[i]? = some v ∧ VR G a v
  | _, _, i, _, .nil, h => by simp at h
  | _, _, 0, _, .cons a v asq vs h hs, e => by simp at e; subst e; exact ⟨v, by simp, h⟩
  | _, _, i + 1, _, .cons a v asq vs h hs, e => by simp at e; obtain ⟨u, hu, hr⟩ := hs.get e; exact ⟨u, by simpa using hu, hr⟩
theorem VRs.get' : ∀ {asq : List AV} {vs : List Value} {i : Nat} {v : Value}, VRs G asq vs → vs[i]? = some v → ∃ a, asq[i]? = some a ∧ VR G a v
  | _, _, i, _, .nil, h => by simp at h
  | _, _, 0, _, .cons a v asq vs h hs, e => by simp at e; subst e; exact ⟨a, by simp, h⟩
  | _, _, i + 1, _, .cons a v asq vs h hs, e => by simp at e; obtain ⟨u, hu, hr⟩ := hs.get' e; exact ⟨u, by simpa using hu, hr⟩
theorem VRs.set : ∀ {asq : List AV} {vs : List Value} (i : Nat) {a : AV} {v : Value}, VRs G asq vs → VR G a v → VRs G (asq.set i a) (vs.set i v)
  | _, _, i, _, _, .nil, _ => by simpa using VRs.nil
  | _, _, 0, _, _, .cons a v asq vs h hs, e => by simpa using VRs.cons _ _ _ _ e hs
  | _, _, i + 1, _, _, .cons a v asq vs h hs, e => by simpa using VRs.cons _ _ _ _ h (hs.set i e)
theorem VRs.splice {asq : List AV} {vs : List Value} {bs : List AV} {us : List Value} (off : Nat) (h : VRs G asq vs) (h' : VRs G bs us) :
    VRs G (splice asq off bs) (vs.take off ++ us ++ vs.drop (off + us.length)) := by
  unfold Am.splice
  rw [h'.length]
  exact ((h.take off).append h').append (h.drop _)
theorem VRs.replicate (n : Nat) {a : AV} {v : Value} (h : VR G a v) : VRs G (List.replicate n a) (List.replicate n v) := by
  induction n with
  | zero => exact .nil
  | succ n ih => simpa [List.replicate_succ] using VRs.cons _ _ _ _ h ih

/-- The model's cells of a value, asq a list. -/
def cellsV (v : Value) : List Value := v.cells.toList

theorem VR.cells : ∀ {a : AV} {v : Value}, VR G a v → VRs G (cellsOf a) (cellsV v) := by
  intro a v h
  cases h <;> simp only [cellsOf, cellsV, Value.cells] <;> first
    | assumption
    | (refine .cons _ _ _ _ ?_ .nil; first | constructor | (constructor <;> assumption))
  all_goals first | assumption | skip

theorem VR.flat {a : AV} {v : Value} (h : VR G a v) : isFlat a = v.oneCell' := by cases h <;> rfl
end lists

theorem VRs.allFlat {G : Gh} : ∀ {asq : List AV} {vs : List Value}, VRs G asq vs → asq.all isFlat = true → ∀ v ∈ vs, v.oneCell' = true
  | _, _, .nil, _ => by simp
  | _, _, .cons a v asq vs h hs, e => by
    simp only [List.all_cons, Bool.and_eq_true] at e
    intro u hu
    rcases List.mem_cons.1 hu with rfl | hu
    · rw [← h.flat]; exact e.1
    · exact hs.allFlat e.2 u hu

theorem optMap_VRs {G : Gh} {f : Value → Option AV} (hf : ∀ v a, f v = some a → VR G a v) : ∀ (l : List Value) (asq : List AV), optMap f l = some asq → VRs G asq l
  | [], asq, h => by simp [optMap] at h; subst h; exact .nil
  | v :: l, asq, h => by
    simp only [optMap] at h
    split at h
    · rename_i y ys hy hys
      cases h
      exact .cons _ _ _ _ (hf _ _ hy) (optMap_VRs hf l ys hys)
    · cases h

theorem ofV_VR (G : Gh) : ∀ (n : Nat) (v : Value) (a : AV), ofV n v = some a → VR G a v := by
  intro n
  induction n with
  | zero => intro v a h; simp [ofV] at h
  | succ n ih =>
    intro v a h
    cases v <;> unfold ofV at h <;> (try simp only [] at h) <;> (try cases h) <;> (try constructor)
    case pointer p => cases p <;> simp at h; subst h; exact .nilp
    case slice p l c =>
      cases p with
      | some x => simp at h
      | none =>
        cases l with
        | succ l => simp at h
        | zero =>
          cases c with
          | succ c => simp at h
          | zero => simp at h; subst h; exact .nils
    case map r => cases r <;> simp at h; subst h; exact .nilm
    case iface t v =>
      split at h <;> simp at h
      subst h; rename_i a' ha; exact .ifc _ _ _ (ih _ _ ha)
    case agg cs =>
      split at h <;> simp at h
      subst h; rename_i l hl
      have := optMap_VRs ih _ _ hl
      have e := VR.agg l cs.toList this
      simpa using e
    case tuple cs =>
      split at h <;> simp at h
      subst h; rename_i l hl
      have := optMap_VRs ih _ _ hl
      have e := VR.tup l cs.toList this
      simpa using e

end Go.Am
namespace Go.Am
open Go.RowKit

structure WR (B : Nat → Prop) (w0 : World) (G : Gh) (s : St) (w : World) : Prop where
  below : Kept B w0 w
  hB : ∀ c, B c → c < w.heap.size
  cells : ∀ b cs f c n, s.heap.get b = some (.cells cs f) → G.ρ b = some (c, n) →
    ∃ arr T fr, w.heap[c]? = some (.cells arr T fr) ∧ arr.size = n ∧ cs.length ≤ n ∧ VRs G cs (arr.toList.take cs.length) ∧
      (f = false → fr = (0, 0) ∧ ¬ B c ∧ ∀ o, G.I c o = none)
  siter : ∀ b str pos c n, s.heap.get b = some (.siter str pos) → G.ρ b = some (c, n) → w.heap[c]? = some (.stringIter str pos) ∧ ¬ B c
  inj : ∀ b b' c n n', ¬ B c → G.ρ b = some (c, n) → G.ρ b' = some (c, n') → b = b'
  lt : ∀ b c n, G.ρ b = some (c, n) → b < s.next ∧ c < w.heap.size
  imm : ∀ c o v, G.I c o = some v → w.cell? ⟨c, o, none⟩ = some v
  tags : ∀ t c e ce, s.live.get t = some true → G.τ t = some (c, e, ce) → ¬ B c ∧ (∀ o, e ≤ o → G.I c o = none) ∧
    (∃ arr T lo hi, w.heap[c]? = some (.cells arr T (lo, hi)) ∧ ce ≤ arr.size ∧ (hi ≤ e ∨ hi ≤ lo)) ∧
    (∀ b n, G.ρ b = some (c, n) → ∃ cs, s.heap.get b = some (.cells cs true) ∧ cs.length ≤ e)
  tdist : ∀ t t' c e ce e' ce', s.live.get t = some true → s.live.get t' = some true → G.τ t = some (c, e, ce) → G.τ t' = some (c, e', ce') → t = t'
  tlt : ∀ t x, G.τ t = some x → t < s.nt
  hlt : ∀ b blk, s.heap.get b = some blk → b < s.next
  old : ∀ c o v, B c → G.I c o = some v → G.J.1 c o = some v
  hmap : ∀ b blk, s.heap.get b = some blk → ∃ x, G.ρ b = some x
  oldρ : ∀ b c n, c < w0.heap.size → G.ρ b = some (c, n) → G.J.2 b = some (c, n)
  tdef : ∀ t, s.live.get t = some true → ∃ x, G.τ t = some x
  tlow : ∀ t c e ce, s.live.get t = some true → G.τ t = some (c, e, ce) → ∀ o, o < e → ∃ v, G.I c o = some v

section
variable {B : Nat → Prop} {w0 : World} {G : Gh} {s : St} {w : World}

theorem hmap_set {ρ : Nat → Option (Nat × Nat)} {hp : Tr Blk} {b : Nat} {x : Nat × Nat} {blk0 : Blk} (h : ∀ b blk, hp.get b = some blk → ∃ x, ρ b = some x) (hr : ρ b = some x) (b' : Nat) (blk : Blk) (hb' : (hp.set b blk0).get b' = some blk) : ∃ x, ρ b' = some x := by
  rw [Tr.get_set] at hb'
  split at hb'
  · rename_i e; subst e; exact ⟨_, hr⟩
  · exact h b' blk hb'

theorem WR.drew (h : WR B w0 G s w) : WR B w0 G s w.drew :=
  { below := h.below.drew, hB := h.hB, cells := h.cells, siter := h.siter, inj := h.inj, lt := h.lt, imm := fun c o v e => by simpa using h.imm c o v e, tags := h.tags, tdist := h.tdist, tlt := h.tlt, hlt := h.hlt, old := h.old, hmap := h.hmap, oldρ := h.oldρ, tdef := h.tdef, tlow := h.tlow }

theorem WR.drawn (h : WR B w0 G s w) : WR B w0 G s { w with drawn := w.drawn + 1 } := h.drew

/-- A new block of the model's, of which some first cells are taken asq never to be written again. -/
def Gh.withI (G : Gh) (c : Nat) (k : Nat) (f : Nat → Option Value) : Gh := { G with I := fun c' o => if c' = c ∧ o < k then f o else G.I c' o }

theorem heap_alloc_lt {w : World} {o : Obj} {k : Nat} (h : k < w.heap.size) : (w.alloc o).heap[k]? = w.heap[k]? := Below.heap_alloc w o k h
theorem heap_alloc_new {w : World} {o : Obj} : (w.alloc o).heap[w.heap.size]? = some o := by
  show (w.heap.push o)[w.heap.size]? = _
  simp
theorem heap_alloc_size {w : World} {o : Obj} : (w.alloc o).heap.size = w.heap.size + 1 := by
  show (w.heap.push o).size = _
  simp

theorem WR.imm_lt (h : WR B w0 G s w) {c o : Nat} {v : Value} (e : G.I c o = some v) : c < w.heap.size := by
  have := h.imm c o v e
  unfold World.cell? at this
  cases hh : w.heap[c]? with
  | none => simp [hh] at this
  | some x => exact (Array.getElem?_eq_some_iff.1 hh).1

theorem Gh.le_withI (h : WR B w0 G s w) (k : Nat) (f : Nat → Option Value) : G.Le (G.withI w.heap.size k f) :=
  ⟨fun _ _ e => e, fun c o v e => by
    have hc := h.imm_lt e
    simp only [Gh.withI]
    rw [if_neg (by omega)]; exact e, fun _ _ e => e, rfl⟩

/-- A new row of the model's, of which the first k cells will not be written any more. -/
theorem WR.allocImm (h : WR B w0 G s w) (arr : Array Value) (T : TypeId) (k : Nat) (fr : Nat × Nat := (0, 0)) :
    WR B w0 (G.withI w.heap.size k (fun o => arr[o]?)) s (w.alloc (.cells arr T fr)) := by
  have hle := Gh.le_withI h k (fun o => arr[o]?)
  have hI : ∀ c o, c ≠ w.heap.size → (G.withI w.heap.size k (fun o => arr[o]?)).I c o = G.I c o := fun c o hc => by
    simp only [Gh.withI]; rw [if_neg (by omega)]
  refine { below := h.below.alloc h.hB _, hB := fun c hc => by rw [heap_alloc_size]; exact Nat.lt_succ_of_lt (h.hB c hc), cells := ?_, siter := ?_, inj := h.inj, lt := ?_, imm := ?_, tags := ?_, tdist := h.tdist, tlt := h.tlt, hlt := h.hlt, old := fun c o v hc e => h.old c o v hc (by have := h.hB c hc; rwa [hI c o (by omega)] at e), oldρ := h.oldρ, hmap := h.hmap, tdef := h.tdef, tlow := fun t c e ce hl ht o ho => by obtain ⟨v, hv⟩ := h.tlow t c e ce hl ht o ho; exact ⟨v, hle.I _ _ _ hv⟩ }
  · intro b cs f c n hb hr
    obtain ⟨arr', T', fr, h1, h2, h3, h4, h5⟩ := h.cells b cs f c n hb hr
    have hc := (h.lt b c n hr).2
    refine ⟨arr', T', fr, by rw [heap_alloc_lt hc]; exact h1, h2, h3, h4.mono hle, fun hf => ?_⟩
    obtain ⟨q1, q2, q3⟩ := h5 hf
    exact ⟨q1, q2, fun o => by rw [hI _ _ (by omega)]; exact q3 o⟩
  · intro b str pos c n hb hr
    have hc := (h.lt b c n hr).2
    rw [heap_alloc_lt hc]
    exact h.siter b str pos c n hb hr
  · intro b c n hr
    have := h.lt b c n hr
    rw [heap_alloc_size]; omega
  · intro c o v e
    simp only [Gh.withI] at e
    split at e
    · rename_i hc
      obtain ⟨rfl, _⟩ := hc
      unfold World.cell?
      rw [heap_alloc_new]
      simpa using e
    · rw [World.cell?_alloc_lt _ _ _ (h.imm_lt e)]; exact h.imm c o v e
  · intro t c e ce hl ht
    obtain ⟨q1, q2, ⟨arr', T', lo, hi, q3, q4, q5⟩, q6⟩ := h.tags t c e ce hl ht
    have hc : c < w.heap.size := (Array.getElem?_eq_some_iff.1 q3).1
    exact ⟨q1, fun o ho => by rw [hI _ _ (by omega)]; exact q2 o ho, ⟨arr', T', lo, hi, by rw [heap_alloc_lt hc]; exact q3, q4, q5⟩, q6⟩

/-- A new block that the abstract heap bears, too. -/
def Gh.withρ (G : Gh) (b c n : Nat) : Gh := { G with ρ := fun b' => if b' = b then some (c, n) else G.ρ b' }

theorem Gh.le_withρ (h : WR B w0 G s w) (c n : Nat) : G.Le (G.withρ s.next c n) :=
  ⟨fun b x e => by
    simp only [Gh.withρ]
    obtain ⟨x1, x2⟩ := x
    have := (h.lt b x1 x2 e).1
    rw [if_neg (by omega)]; exact e, fun _ _ _ e => e, fun _ _ e => e, rfl⟩

theorem WR.allocMut (h : WR B w0 G s w) (cs : List AV) (vs : List Value) (rest : List Value) (T : TypeId) (hv : VRs G cs vs) :
    WR B w0 (G.withρ s.next w.heap.size (vs ++ rest).length) (s.alloc (.cells cs false)) (w.alloc (.cells (vs ++ rest).toArray T)) := by
  have hle := Gh.le_withρ h w.heap.size (vs ++ rest).length
  have hlen := hv.length
  refine { below := h.below.alloc h.hB _, hB := fun c hc => by rw [heap_alloc_size]; exact Nat.lt_succ_of_lt (h.hB c hc), cells := ?_, siter := ?_, inj := ?_, lt := ?_, imm := ?_, tags := ?_, tdist := h.tdist, tlt := h.tlt, hlt := ?_, old := h.old, tdef := h.tdef, tlow := h.tlow, oldρ := ?oldρ, hmap := ?hmap }
  case hmap =>
    intro b blk hb
    simp only [St.alloc, Tr.get_set] at hb
    simp only [Gh.withρ]
    split at hb
    · rename_i e; rw [if_pos e]; exact ⟨_, rfl⟩
    · rename_i e; rw [if_neg e]; exact h.hmap b blk hb
  case oldρ =>
    intro b c n hc hr
    simp only [Gh.withρ] at hr
    have := h.below.size
    split at hr
    · cases hr; omega
    · exact h.oldρ b c n hc hr
  · intro b cs' f c n hb hr
    simp only [St.alloc, Tr.get_set] at hb
    simp only [Gh.withρ] at hr
    split at hb
    · rename_i hbn
      subst hbn
      simp only [if_true, Option.some.injEq, Prod.mk.injEq] at hr
      obtain ⟨rfl, rfl⟩ := hr
      cases hb
      refine ⟨(vs ++ rest).toArray, T, (0, 0), heap_alloc_new, by simp, by simp; omega, ?_, fun _ => ⟨rfl, fun hc => absurd (h.hB _ hc) (Nat.lt_irrefl _), fun o => ?_⟩⟩
      · rw [hlen]; simpa using hv.mono hle
      · cases hI : (G.withρ s.next w.heap.size (vs ++ rest).length).I w.heap.size o with
        | none => rfl
        | some v => exact absurd (h.imm_lt (c := w.heap.size) (o := o) (v := v) hI) (Nat.lt_irrefl _)
    · rename_i hbn
      rw [if_neg hbn] at hr
      obtain ⟨arr', T', fr, h1, h2, h3, h4, h5⟩ := h.cells b cs' f c n hb hr
      have hc := (h.lt b c n hr).2
      exact ⟨arr', T', fr, by rw [heap_alloc_lt hc]; exact h1, h2, h3, h4.mono hle, h5⟩
  · intro b str pos c n hb hr
    simp only [St.alloc, Tr.get_set] at hb
    simp only [Gh.withρ] at hr
    split at hb
    · cases hb
    · rename_i hbn
      rw [if_neg hbn] at hr
      have hc := (h.lt b c n hr).2
      rw [heap_alloc_lt hc]
      exact h.siter b str pos c n hb hr
  · intro b b' c n n' hBc hr hr'
    simp only [Gh.withρ] at hr hr'
    split at hr <;> split at hr'
    · omega
    · rename_i h1 h2
      cases hr
      have := (h.lt _ _ _ hr').2
      omega
    · rename_i h1 h2
      cases hr'
      have := (h.lt _ _ _ hr).2
      omega
    · exact h.inj b b' c n n' hBc hr hr'
  · intro b c n hr
    simp only [Gh.withρ] at hr
    rw [heap_alloc_size]
    simp only [St.alloc]
    split at hr
    · cases hr; omega
    · have := h.lt b c n hr; omega
  · intro c o v e
    have e' : G.I c o = some v := e
    rw [World.cell?_alloc_lt _ _ _ (h.imm_lt e')]; exact h.imm c o v e'
  · intro t c e ce hl ht
    obtain ⟨q1, q2, ⟨arr', T', lo, hi, q3, q4, q5⟩, q6⟩ := h.tags t c e ce hl ht
    have hc : c < w.heap.size := (Array.getElem?_eq_some_iff.1 q3).1
    refine ⟨q1, q2, ⟨arr', T', lo, hi, by rw [heap_alloc_lt hc]; exact q3, q4, q5⟩, fun b n hr => ?_⟩
    simp only [Gh.withρ] at hr
    split at hr
    · cases hr; omega
    · rename_i hbn
      obtain ⟨cs', hcs, hl'⟩ := q6 b n hr
      exact ⟨cs', by simp only [St.alloc]; rw [Tr.get_set_ne _ _ _ _ hbn]; exact hcs, hl'⟩
  · intro b blk hb
    simp only [St.alloc, Tr.get_set] at hb ⊢
    split at hb
    · omega
    · have := h.hlt b blk hb; omega

theorem WR.allocIter (h : WR B w0 G s w) (str : ByteArray) (pos : Nat) :
    WR B w0 (G.withρ s.next w.heap.size 0) (s.alloc (.siter str pos)) (w.alloc (.stringIter str pos)) := by
  have hle := Gh.le_withρ h w.heap.size 0
  refine { below := h.below.alloc h.hB _, hB := fun c hc => by rw [heap_alloc_size]; exact Nat.lt_succ_of_lt (h.hB c hc), cells := ?_, siter := ?_, inj := ?_, lt := ?_, imm := ?_, tags := ?_, tdist := h.tdist, tlt := h.tlt, hlt := ?_, old := h.old, tdef := h.tdef, tlow := h.tlow, oldρ := ?oldρ, hmap := ?hmap }
  case hmap =>
    intro b blk hb
    simp only [St.alloc, Tr.get_set] at hb
    simp only [Gh.withρ]
    split at hb
    · rename_i e; rw [if_pos e]; exact ⟨_, rfl⟩
    · rename_i e; rw [if_neg e]; exact h.hmap b blk hb
  case oldρ =>
    intro b c n hc hr
    simp only [Gh.withρ] at hr
    have := h.below.size
    split at hr
    · cases hr; omega
    · exact h.oldρ b c n hc hr
  · intro b cs' f c n hb hr
    simp only [St.alloc, Tr.get_set] at hb
    simp only [Gh.withρ] at hr
    split at hb
    · cases hb
    · rename_i hbn
      rw [if_neg hbn] at hr
      obtain ⟨arr', T', fr, h1, h2, h3, h4, h5⟩ := h.cells b cs' f c n hb hr
      have hc := (h.lt b c n hr).2
      exact ⟨arr', T', fr, by rw [heap_alloc_lt hc]; exact h1, h2, h3, h4.mono hle, h5⟩
  · intro b str' pos' c n hb hr
    simp only [St.alloc, Tr.get_set] at hb
    simp only [Gh.withρ] at hr
    split at hb
    · rename_i hbn
      subst hbn
      simp only [if_true, Option.some.injEq, Prod.mk.injEq] at hr
      obtain ⟨rfl, rfl⟩ := hr
      cases hb
      exact ⟨heap_alloc_new, fun hc => absurd (h.hB _ hc) (Nat.lt_irrefl _)⟩
    · rename_i hbn
      rw [if_neg hbn] at hr
      have hc := (h.lt b c n hr).2
      rw [heap_alloc_lt hc]
      exact h.siter b str' pos' c n hb hr
  · intro b b' c n n' hBc hr hr'
    simp only [Gh.withρ] at hr hr'
    split at hr <;> split at hr'
    · omega
    · cases hr
      have := (h.lt _ _ _ hr').2
      omega
    · cases hr'
      have := (h.lt _ _ _ hr).2
      omega
    · exact h.inj b b' c n n' hBc hr hr'
  · intro b c n hr
    simp only [Gh.withρ] at hr
    rw [heap_alloc_size]
    simp only [St.alloc]
    split at hr
    · cases hr; omega
    · have := h.lt b c n hr; omega
  · intro c o v e
    have e' : G.I c o = some v := e
    rw [World.cell?_alloc_lt _ _ _ (h.imm_lt e')]; exact h.imm c o v e'
  · intro t c e ce hl ht
    obtain ⟨q1, q2, ⟨arr', T', lo, hi, q3, q4, q5⟩, q6⟩ := h.tags t c e ce hl ht
    have hc : c < w.heap.size := (Array.getElem?_eq_some_iff.1 q3).1
    refine ⟨q1, q2, ⟨arr', T', lo, hi, by rw [heap_alloc_lt hc]; exact q3, q4, q5⟩, fun b n hr => ?_⟩
    simp only [Gh.withρ] at hr
    split at hr
    · cases hr; omega
    · rename_i hbn
      obtain ⟨cs', hcs, hl'⟩ := q6 b n hr
      exact ⟨cs', by simp only [St.alloc]; rw [Tr.get_set_ne _ _ _ _ hbn]; exact hcs, hl'⟩
  · intro b blk hb
    simp only [St.alloc, Tr.get_set] at hb ⊢
    split at hb
    · omega
    · have := h.hlt b blk hb; omega

theorem Kept.setRow {K : Nat → Prop} {w : World} {c : Nat} {arr row : Array Value} {T : TypeId} {fr : Nat × Nat} (hw : w.heap[c]? = some (.cells arr T fr)) (hsz : row.size = arr.size) (hc : ¬ K c) : Kept K w (w.setRow c row) :=
  ⟨rfl, rfl, rfl, by simp, fun k hk => setRow_other w c k _ (fun e => hc (e ▸ hk)), fun k arr2 T2 fr2 hk => by
    by_cases h : k = c
    · subst h
      rw [hw] at hk; cases hk
      exact ⟨row, T, fr, setRow_heap w k arr row T fr hw, hsz⟩
    · exact ⟨arr2, T2, fr2, (setRow_other w c k _ h).trans hk, rfl⟩⟩

/-- A row of one's own is written. -/
theorem WR.write (h : WR B w0 G s w) {b c n : Nat} {cs cs' : List AV} {arr : Array Value} {T : TypeId} {fr : Nat × Nat} {vs' : List Value} (hb : s.heap.get b = some (.cells cs false)) (hr : G.ρ b = some (c, n))
    (hw : w.heap[c]? = some (.cells arr T fr)) (hlen : cs'.length = cs.length) (hv : VRs G cs' (vs'.take cs'.length)) (hvl : vs'.length = n) :
    WR B w0 G { s with heap := s.heap.set b (.cells cs' false) } (w.setRow c vs'.toArray) := by
  obtain ⟨arr0, T0, fr0, h1, h2, h3, h4, h5⟩ := h.cells b cs false c n hb hr
  obtain ⟨q1, q2, q3⟩ := h5 rfl
  rw [hw] at h1
  cases h1
  have hcell : ∀ c' o, c' ≠ c → (w.setRow c vs'.toArray).cell? ⟨c', o, none⟩ = w.cell? ⟨c', o, none⟩ := fun c' o hne =>
    World.cell?_of_block (w := w) (setRow_other w c c' _ hne)
  refine { below := h.below.trans (Kept.setRow hw (by simp; omega) q2), hB := fun c hc => by simpa using h.hB c hc, cells := ?_, siter := ?_, inj := h.inj, lt := ?_, imm := ?_, tags := ?_, tdist := h.tdist, tlt := h.tlt, hlt := ?_, old := h.old, hmap := hmap_set h.hmap hr, oldρ := h.oldρ, tdef := h.tdef, tlow := h.tlow }
  · intro b' cs2 f c' n' hb' hr'
    simp only [Tr.get_set] at hb'
    split at hb'
    · rename_i e
      subst e
      cases hb'
      rw [hr] at hr'; cases hr'
      exact ⟨vs'.toArray, T, fr, setRow_heap w c arr _ T fr hw, by simpa using hvl, by omega, by simpa using hv, fun _ => ⟨q1, q2, q3⟩⟩
    · rename_i e
      have hne : c' ≠ c := fun hc => e (by subst hc; exact h.inj b' b c' n' n (by omega) hr' hr)
      obtain ⟨arr', T', fr', g1, g2, g3, g4, g5⟩ := h.cells b' cs2 f c' n' hb' hr'
      exact ⟨arr', T', fr', by rw [setRow_other w c c' _ hne]; exact g1, g2, g3, g4, g5⟩
  · intro b' str pos c' n' hb' hr'
    simp only [Tr.get_set] at hb'
    split at hb'
    · cases hb'
    · rename_i e
      have hne : c' ≠ c := fun hc => e (by subst hc; exact h.inj b' b c' n' n (by omega) hr' hr)
      rw [setRow_other w c c' _ hne]
      exact h.siter b' str pos c' n' hb' hr'
  · intro b' c' n' hr'
    simpa using h.lt b' c' n' hr'
  · intro c' o v e
    by_cases hc : c' = c
    · subst hc; rw [q3 o] at e; cases e
    · rw [hcell c' o hc]; exact h.imm c' o v e
  · intro t c' e ce hl ht
    obtain ⟨p1, p2, ⟨arr', T', lo, hi, p3, p4, p5⟩, p6⟩ := h.tags t c' e ce hl ht
    have hne : c' ≠ c := fun hc => by
      subst hc
      obtain ⟨cs2, hcs, _⟩ := p6 b n hr
      rw [hb] at hcs; cases hcs
    refine ⟨p1, p2, ⟨arr', T', lo, hi, by rw [setRow_other w c c' _ hne]; exact p3, p4, p5⟩, fun b' n' hr' => ?_⟩
    obtain ⟨cs2, hcs, hl'⟩ := p6 b' n' hr'
    have : b' ≠ b := fun hbb => hne (by subst hbb; rw [hr] at hr'; cases hr'; rfl)
    exact ⟨cs2, by rw [Tr.get_set_ne _ _ _ _ this]; exact hcs, hl'⟩
  · intro b' blk hb'
    simp only [Tr.get_set] at hb'
    split at hb'
    · rename_i e; subst e; exact h.hlt _ _ hb
    · exact h.hlt b' blk hb'

/-- The stores into a row, none of which meets a frozen cell. -/
theorem run_storeCells_fr (P : Program) (g o : Nat) (t : TypeId) (lo hi : Nat) : ∀ (vs : List Value) (i : Nat) (cur : Array Value) (w : World), w.heap[g]? = some (.cells cur t (lo, hi)) → o + i + vs.length ≤ cur.size →
    (∀ j, o + i ≤ j → j < o + i + vs.length → ¬ (lo ≤ j ∧ j < hi)) → (∀ v ∈ vs, v.oneCell' = true) →
    (storeCells ⟨g, o, none⟩ vs i).run P w = .ok () (w.setRow g (cur.toList.take (o + i) ++ vs ++ cur.toList.drop (o + i + vs.length)).toArray)
  | [], i, cur, w, hg, _, _, _ => by
    simp only [storeCells, List.append_nil, List.length_nil, Nat.add_zero, List.take_append_drop, Array.toArray_toList]
    rw [setRow_self w g cur t (lo, hi) hg]
    rfl
  | v :: rest, i, cur, w, hg, hl, hfz, h1 => by
    have hi' : o + i < cur.size := by simp at hl; omega
    have hadd : (⟨g, o, none⟩ : Addr).add i = ⟨g, o + i, none⟩ := by unfold Addr.add; split <;> simp_all
    have hcell : w.cell? ⟨g, o + i, none⟩ = some cur[o + i] := by simp [World.cell?, hg, hi']
    have hfro : w.frozen? ⟨g, o + i, none⟩ = false := by
      have := hfz (o + i) (by omega) (by simp)
      simp [World.frozen?, hg]; omega
    have hst : (store ((⟨g, o, none⟩ : Addr).add i) v).run P w = .ok () (w.setRow g (cur.setIfInBounds (o + i) v)) := by
      rw [hadd, run_store P w _ v _ (h1 v (by simp)), hcell]
      simp [hfro, setCell_eq_setRow w g (o + i) cur t (lo, hi) v hg]
    have ih := run_storeCells_fr P g o t lo hi rest (i + 1) (cur.setIfInBounds (o + i) v) (w.setRow g (cur.setIfInBounds (o + i) v)) (setRow_heap w g cur _ t _ hg) (by simp at hl ⊢; omega)
      (fun j hj1 hj2 => hfz j (by omega) (by simp; omega)) (fun x hx => h1 x (by simp [hx]))
    simp only [storeCells, Sem.run_bind, hst, Result.andThen_ok, ih, setRow_setRow]
    congr 3
    have e := list_seg_step cur.toList (o + i) v rest (by simp at hl ⊢; omega)
    simpa [Array.toList_setIfInBounds, Nat.add_assoc] using e

/-- A new tag over a new row. -/
theorem WR.newTag (h : WR B w0 G s w) (arr : Array Value) (T : TypeId) (k ce : Nat) (hce : ce ≤ arr.size) (hka : k ≤ arr.size) :
    WR B w0 { (G.withI w.heap.size k (fun o => arr[o]?)) with τ := fun t => if t = s.nt then some (w.heap.size, k, ce) else G.τ t }
      { s with live := s.live.set s.nt true, nt := s.nt + 1 } (w.alloc (.cells arr T)) := by
  have h1 := h.allocImm arr T k
  have hle := Gh.le_withI h k (fun o => arr[o]?)
  generalize hG1 : G.withI w.heap.size k (fun o => arr[o]?) = G1 at *
  have hτ : G1.τ = G.τ := by subst hG1; rfl
  have hρ : G1.ρ = G.ρ := by subst hG1; rfl
  have hle2 : G1.Le { G1 with τ := fun t => if t = s.nt then some (w.heap.size, k, ce) else G.τ t } :=
    ⟨fun _ _ e => e, fun _ _ _ e => e, fun t x e => by
      simp only []
      have := h1.tlt t x e
      rw [if_neg (by omega), ← hτ]; exact e, rfl⟩
  refine { below := h1.below, hB := h1.hB, cells := ?_, siter := h1.siter, inj := h1.inj, lt := h1.lt, imm := h1.imm, tags := ?_, tdist := ?_, tlt := ?_, hlt := h1.hlt, old := h1.old, hmap := h1.hmap, oldρ := h1.oldρ, tdef := ?tdef, tlow := ?tlow }
  case tdef =>
    intro t hl
    simp only [Tr.get_set] at hl
    simp only []
    split at hl
    · rename_i he; rw [if_pos he]; exact ⟨_, rfl⟩
    · rename_i he; rw [if_neg he]; exact h.tdef t hl
  case tlow =>
    intro t c e ce' hl ht o ho
    simp only [Tr.get_set] at hl
    simp only [] at ht
    split at hl
    · rename_i he
      rw [if_pos he] at ht
      cases ht
      subst hG1
      have ho' : o < arr.size := by omega
      exact ⟨arr[o], by simp [Gh.withI, ho, ho']⟩
    · rename_i he
      rw [if_neg he, ← hτ] at ht
      exact h1.tlow t c e ce' hl ht o ho
  · intro b cs f c n hb hr
    obtain ⟨arr', T', fr, g1, g2, g3, g4, g5⟩ := h1.cells b cs f c n hb hr
    exact ⟨arr', T', fr, g1, g2, g3, g4.mono hle2, g5⟩
  · intro t c e ce' hl ht
    simp only [Tr.get_set] at hl
    simp only [] at ht
    split at hl
    · rename_i he
      subst he
      rw [if_pos rfl] at ht
      cases ht
      refine ⟨fun hc => absurd (h.hB _ hc) (Nat.lt_irrefl _), fun o ho => ?_, ⟨arr, T, 0, 0, heap_alloc_new, hce, .inl (Nat.zero_le _)⟩, fun b n hr => ?_⟩
      · subst hG1
        simp only [Gh.withI]
        rw [if_neg (by omega)]
        cases hI : G.I w.heap.size o with
        | none => rfl
        | some v => exact absurd (h.imm_lt hI) (Nat.lt_irrefl _)
      · simp only [] at hr
        rw [hρ] at hr
        have := (h.lt b _ n hr).2
        omega
    · rename_i he
      rw [if_neg he, ← hτ] at ht
      exact h1.tags t c e ce' hl ht
  · intro t t' c e ce1 e' ce2 hl hl' ht ht'
    simp only [Tr.get_set] at hl hl'
    simp only [] at ht ht'
    have hnew : ∀ t c e ce, s.live.get t = some true → G1.τ t = some (c, e, ce) → c < w.heap.size := fun t c e ce hl ht => by
      obtain ⟨_, _, ⟨_, _, _, _, q3, _, _⟩, _⟩ := h.tags t c e ce hl (by rw [← hτ]; exact ht)
      exact (Array.getElem?_eq_some_iff.1 q3).1
    by_cases ha : t = s.nt <;> by_cases hb : t' = s.nt
    · omega
    · rw [if_neg hb] at hl' ht'; rw [if_pos ha] at ht
      cases ht
      have := hnew t' _ _ _ hl' (by rw [hτ]; exact ht')
      omega
    · rw [if_neg ha] at hl ht; rw [if_pos hb] at ht'
      cases ht'
      have := hnew t _ _ _ hl (by rw [hτ]; exact ht)
      omega
    · rw [if_neg ha] at hl ht; rw [if_neg hb] at hl' ht'
      exact h.tdist t t' c e ce1 e' ce2 hl hl' ht ht'
  · intro t x ht
    simp only [] at ht ⊢
    split at ht
    · omega
    · have := h.tlt t x ht; omega

/-- Behind a tag's last cell: new cells that will not be written any more, and a new tag. -/
def Gh.onward (G : Gh) (c e : Nat) (vs : List Value) (nt ce : Nat) : Gh :=
  { G with I := fun c' o => if c' = c ∧ e ≤ o ∧ o < e + vs.length then vs[o - e]? else G.I c' o, τ := fun t => if t = nt then some (c, e + vs.length, ce) else G.τ t }

theorem Gh.le_onward (h : WR B w0 G s w) {t c e ce : Nat} (hl : s.live.get t = some true) (ht : G.τ t = some (c, e, ce)) (vs : List Value) (ce' : Nat) : G.Le (G.onward c e vs s.nt ce') := by
  obtain ⟨_, q2, _, _⟩ := h.tags t c e ce hl ht
  refine ⟨fun _ _ e => e, fun c' o v hI => ?_, fun t x hx => ?_, rfl⟩
  · simp only [Gh.onward]
    split
    · rename_i hc
      obtain ⟨rfl, h1, _⟩ := hc
      rw [q2 o h1] at hI; cases hI
    · exact hI
  · simp only [Gh.onward]
    have := h.tlt t x hx
    rw [if_neg (by omega)]; exact hx

theorem WR.onward (h : WR B w0 G s w) {t c e ce : Nat} (hl : s.live.get t = some true) (ht : G.τ t = some (c, e, ce)) (vs : List Value) (hfit : e + vs.length ≤ ce)
    {arr : Array Value} {T : TypeId} {fr : Nat × Nat} (hw : w.heap[c]? = some (.cells arr T fr)) :
    WR B w0 (G.onward c e vs s.nt ce) { s with live := (s.live.set t false).set s.nt true, nt := s.nt + 1 } (w.setRow c (arr.toList.take e ++ vs ++ arr.toList.drop (e + vs.length)).toArray) := by
  have hle := Gh.le_onward h hl ht vs ce
  obtain ⟨q1, q2, ⟨arr0, T0, lo, hi, q3, q4, q5⟩, q6⟩ := h.tags t c e ce hl ht
  rw [hw] at q3; cases q3
  have hsz : (arr.toList.take e ++ vs ++ arr.toList.drop (e + vs.length)).length = arr.size := by simp; omega
  have hlow : ∀ o, o < e → (arr.toList.take e ++ vs ++ arr.toList.drop (e + vs.length))[o]? = arr.toList[o]? := fun o ho => by
    rw [List.append_assoc, List.getElem?_append_left (by simp; omega), List.getElem?_take]; simp [ho]
  have hmid : ∀ o, e ≤ o → o < e + vs.length → (arr.toList.take e ++ vs ++ arr.toList.drop (e + vs.length))[o]? = vs[o - e]? := fun o h1 h2 => by
    have hte : (arr.toList.take e).length = e := by simp; omega
    rw [List.append_assoc, List.getElem?_append_right (by omega), hte, List.getElem?_append_left (by omega)]
  generalize (arr.toList.take e ++ vs ++ arr.toList.drop (e + vs.length)) = row at *
  have hcell : ∀ c' o, c' ≠ c → (w.setRow c row.toArray).cell? ⟨c', o, none⟩ = w.cell? ⟨c', o, none⟩ := fun c' o hne =>
    World.cell?_of_block (w := w) (setRow_other w c c' _ hne)
  have hrow := setRow_heap w c arr row.toArray T (lo, hi) hw
  refine { below := h.below.trans (Kept.setRow hw (by simpa using hsz) q1), hB := fun c hc => by simpa using h.hB c hc, cells := ?_, siter := ?_, inj := h.inj, lt := ?_, imm := ?_, tags := ?_, tdist := ?_, tlt := ?_, hlt := h.hlt, old := ?old, hmap := h.hmap, oldρ := h.oldρ, tdef := ?tdef, tlow := ?tlow }
  case tdef =>
    intro t2 hl2
    simp only [Tr.get_set] at hl2
    simp only [Gh.onward]
    split at hl2
    · rename_i he; rw [if_pos he]; exact ⟨_, rfl⟩
    · rename_i he
      rw [if_neg he]
      split at hl2
      · cases hl2
      · exact h.tdef t2 hl2
  case tlow =>
    intro t2 c2 e2 ce2 hl2 ht2 o ho
    simp only [Tr.get_set] at hl2
    have ht2' := ht2
    simp only [Gh.onward] at ht2'
    split at hl2
    · rename_i he
      rw [if_pos he] at ht2'
      cases ht2'
      by_cases hoe : o < e
      · obtain ⟨v, hv⟩ := h.tlow t c e ce hl ht o hoe
        exact ⟨v, hle.I _ _ _ hv⟩
      · have hlt : o - e < vs.length := by omega
        exact ⟨vs[o - e], by simp only [Gh.onward]; rw [if_pos (by refine ⟨?_, ?_, ?_⟩ <;> first | trivial | omega)]; simp [hlt]⟩
    · rename_i he
      rw [if_neg he] at ht2'
      split at hl2
      · cases hl2
      · obtain ⟨v, hv⟩ := h.tlow t2 c2 e2 ce2 hl2 ht2' o ho
        exact ⟨v, hle.I _ _ _ hv⟩
  case old =>
    intro c' o v hc e
    simp only [Gh.onward] at e
    have hcc : c' ≠ c := fun hh => q1 (hh ▸ hc)
    rw [if_neg (fun hh => hcc hh.1)] at e
    exact h.old c' o v hc e
  · intro b cs f c' n hb hr
    have hr : G.ρ b = some (c', n) := hr
    obtain ⟨arr', T', fr', g1, g2, g3, g4, g5⟩ := h.cells b cs f c' n hb hr
    by_cases hc : c' = c
    · subst hc
      obtain ⟨cs2, hcs, hl2⟩ := q6 b n hr
      rw [hb] at hcs; cases hcs
      rw [hw] at g1; cases g1
      refine ⟨_, T, (lo, hi), hrow, by simp; omega, g3, ?_, fun hf => by cases hf⟩
      have : row.toArray.toList.take cs.length = arr.toList.take cs.length := by
        apply List.ext_getElem?
        intro j
        simp only [List.getElem?_take]
        split
        · exact hlow j (by omega)
        · rfl
      rw [this]; exact g4.mono hle
    · refine ⟨arr', T', fr', by rw [setRow_other w c c' _ hc]; exact g1, g2, g3, g4.mono hle, fun hf => ?_⟩
      obtain ⟨p1, p2, p3⟩ := g5 hf
      refine ⟨p1, p2, fun o => ?_⟩
      simp only [Gh.onward]
      rw [if_neg (by intro hh; exact hc hh.1)]; exact p3 o
  · intro b str pos c' n hb hr
    have hr : G.ρ b = some (c', n) := hr
    have g := h.siter b str pos c' n hb hr
    have hc : c' ≠ c := fun hc => by subst hc; rw [hw] at g; cases g.1
    rw [setRow_other w c c' _ hc]; exact g
  · intro b c' n hr
    simpa using h.lt b c' n hr
  · intro c' o v hI
    simp only [Gh.onward] at hI
    split at hI
    · rename_i hc
      obtain ⟨rfl, h1, h2⟩ := hc
      unfold World.cell?
      rw [hrow]
      simpa [hmid o h1 h2] using hI
    · rename_i hc
      by_cases hcc : c' = c
      · subst hcc
        have ho : o < e := by
          by_cases h1 : e ≤ o
          · rw [q2 o h1] at hI; cases hI
          · omega
        have := h.imm c' o v hI
        unfold World.cell? at this ⊢
        rw [hw] at this; rw [hrow]
        have e1 : arr.toList[o]? = some v := by simpa using this
        have e2 := hlow o ho
        rw [e1] at e2
        simpa using e2
      · rw [hcell c' o hcc]; exact h.imm c' o v hI
  · intro t' c' e' ce' hl' ht'
    simp only [Tr.get_set] at hl'
    simp only [Gh.onward] at ht'
    split at hl'
    · rename_i he
      subst he
      rw [if_pos rfl] at ht'
      cases ht'
      refine ⟨q1, fun o ho => ?_, ⟨_, T, lo, hi, hrow, by simp; omega, by omega⟩, fun b n hr => ?_⟩
      · simp only [Gh.onward]
        rw [if_neg (by omega)]; exact q2 o (by omega)
      · obtain ⟨cs2, hcs, hl2⟩ := q6 b n hr
        exact ⟨cs2, hcs, by omega⟩
    · rename_i he
      rw [if_neg he] at ht'
      split at hl'
      · cases hl'
      · rename_i he2
        have hc : c' ≠ c := fun hc => he2 (by subst hc; exact h.tdist t' t c' e' ce' e ce hl' hl ht' ht)
        obtain ⟨p1, p2, ⟨arr', T', lo', hi', p3, p4, p5⟩, p6⟩ := h.tags t' c' e' ce' hl' ht'
        refine ⟨p1, fun o ho => ?_, ⟨arr', T', lo', hi', by rw [setRow_other w c c' _ hc]; exact p3, p4, p5⟩, p6⟩
        simp only [Gh.onward]
        rw [if_neg (by intro hh; exact hc hh.1)]; exact p2 o ho
  · intro t1 t2 c' e1 ce1 e2 ce2 hl1 hl2 ht1 ht2
    simp only [Tr.get_set] at hl1 hl2
    simp only [Gh.onward] at ht1 ht2
    by_cases ha : t1 = s.nt <;> by_cases hb : t2 = s.nt
    · omega
    · rw [if_neg hb] at hl2 ht2; rw [if_pos ha] at ht1
      cases ht1
      split at hl2
      · cases hl2
      · rename_i he2; exact absurd (h.tdist t2 t c e2 ce2 e ce hl2 hl ht2 ht) he2
    · rw [if_neg ha] at hl1 ht1; rw [if_pos hb] at ht2
      cases ht2
      split at hl1
      · cases hl1
      · rename_i he2; exact absurd (h.tdist t1 t c e1 ce1 e ce hl1 hl ht1 ht) he2
    · rw [if_neg ha] at hl1 ht1; rw [if_neg hb] at hl2 ht2
      split at hl1
      · cases hl1
      · split at hl2
        · cases hl2
        · exact h.tdist t1 t2 c' e1 ce1 e2 ce2 hl1 hl2 ht1 ht2
  · intro t' x hx
    simp only [Gh.onward] at hx ⊢
    split at hx
    · omega
    · have := h.tlt t' x hx; omega

/-- A tag may be given up. -/
theorem WR.dropTag (h : WR B w0 G s w) (t : Nat) : WR B w0 G { s with live := s.live.set t false } w := by
  refine { below := h.below, hB := h.hB, cells := h.cells, siter := h.siter, inj := h.inj, lt := h.lt, imm := h.imm, tags := ?_, tdist := ?_, tlt := h.tlt, hlt := h.hlt, old := h.old, hmap := h.hmap, oldρ := h.oldρ, tdef := ?tdef, tlow := ?tlow }
  case tdef =>
    intro t' hl
    simp only [Tr.get_set] at hl
    split at hl
    · cases hl
    · exact h.tdef t' hl
  case tlow =>
    intro t' c e ce hl ht
    simp only [Tr.get_set] at hl
    split at hl
    · cases hl
    · exact h.tlow t' c e ce hl ht
  · intro t' c e ce hl ht
    simp only [Tr.get_set] at hl
    split at hl
    · cases hl
    · exact h.tags t' c e ce hl ht
  · intro t1 t2 c e1 ce1 e2 ce2 hl1 hl2 ht1 ht2
    simp only [Tr.get_set] at hl1 hl2
    split at hl1
    · cases hl1
    · split at hl2
      · cases hl2
      · exact h.tdist t1 t2 c e1 ce1 e2 ce2 hl1 hl2 ht1 ht2

/-- A row of one's own that will not be written any more. -/
def Gh.frozen (G : Gh) (c k : Nat) (f : Nat → Option Value) (nt ce : Nat) : Gh :=
  { G with I := fun c' o => if c' = c then (if o < k then f o else none) else G.I c' o, τ := fun t => if t = nt then some (c, k, ce) else G.τ t }

theorem Gh.le_frozen (h : WR B w0 G s w) {b c n : Nat} {cs : List AV} (hb : s.heap.get b = some (.cells cs false)) (hr : G.ρ b = some (c, n)) (k : Nat) (f : Nat → Option Value) (ce : Nat) : G.Le (G.frozen c k f s.nt ce) := by
  obtain ⟨_, _, _, _, _, _, _, h5⟩ := h.cells b cs false c n hb hr
  refine ⟨fun _ _ e => e, fun c' o v hI => ?_, fun t x hx => ?_, rfl⟩
  · simp only [Gh.frozen]
    split
    · rename_i hc
      subst hc
      rw [(h5 rfl).2.2 o] at hI; cases hI
    · exact hI
  · simp only [Gh.frozen]
    have := h.tlt t x hx
    rw [if_neg (by omega)]; exact hx

theorem WR.freeze (h : WR B w0 G s w) {b c n : Nat} {cs : List AV} (hb : s.heap.get b = some (.cells cs false)) (hr : G.ρ b = some (c, n)) (k ce : Nat) (hk : k ≤ cs.length) (hce : ce ≤ n)
    {arr : Array Value} {T : TypeId} {fr : Nat × Nat} (hw : w.heap[c]? = some (.cells arr T fr)) :
    WR B w0 (G.frozen c k (fun o => arr[o]?) s.nt ce) { s with heap := s.heap.set b (.cells (cs.take k) true), live := s.live.set s.nt true, nt := s.nt + 1 } w := by
  have hle := Gh.le_frozen h hb hr k (fun o => arr[o]?) ce
  obtain ⟨arr0, T0, fr0, h1, h2, h3, h4, h5⟩ := h.cells b cs false c n hb hr
  rw [hw] at h1; cases h1
  obtain ⟨q1, q2, q3⟩ := h5 rfl
  subst q1
  have hother : ∀ t' c' e' ce', s.live.get t' = some true → G.τ t' = some (c', e', ce') → c' ≠ c := fun t' c' e' ce' hl' ht' hc => by
    subst hc
    obtain ⟨_, _, _, p6⟩ := h.tags t' c' e' ce' hl' ht'
    obtain ⟨cs2, hcs, _⟩ := p6 b n hr
    rw [hb] at hcs; cases hcs
  refine { below := h.below, hB := h.hB, cells := ?_, siter := ?_, inj := h.inj, lt := h.lt, imm := ?_, tags := ?_, tdist := ?_, tlt := ?_, hlt := ?_, old := ?old, hmap := hmap_set h.hmap hr, oldρ := h.oldρ, tdef := ?tdef, tlow := ?tlow }
  case tdef =>
    intro t2 hl2
    simp only [Tr.get_set] at hl2
    simp only [Gh.frozen]
    split at hl2
    · rename_i he; rw [if_pos he]; exact ⟨_, rfl⟩
    · rename_i he; rw [if_neg he]; exact h.tdef t2 hl2
  case tlow =>
    intro t2 c2 e2 ce2 hl2 ht2 o ho
    simp only [Tr.get_set] at hl2
    have ht2' := ht2
    simp only [Gh.frozen] at ht2'
    split at hl2
    · rename_i he
      rw [if_pos he] at ht2'
      cases ht2'
      have hlt : o < arr.size := by omega
      exact ⟨arr[o], by simp only [Gh.frozen]; rw [if_pos (by first | rfl | trivial), if_pos ho]; simp [hlt]⟩
    · rename_i he
      rw [if_neg he] at ht2'
      obtain ⟨v, hv⟩ := h.tlow t2 c2 e2 ce2 hl2 ht2' o ho
      exact ⟨v, hle.I _ _ _ hv⟩
  case old =>
    intro c' o v hc e
    simp only [Gh.frozen] at e
    have hcc : c' ≠ c := fun hh => q2 (hh ▸ hc)
    rw [if_neg hcc] at e
    exact h.old c' o v hc e
  · intro b' cs2 f c' n' hb' hr'
    have hr' : G.ρ b' = some (c', n') := hr'
    simp only [Tr.get_set] at hb'
    split at hb'
    · rename_i e
      subst e
      cases hb'
      rw [hr] at hr'; cases hr'
      refine ⟨arr, T, (0, 0), hw, h2, by simp; omega, ?_, fun hf => by cases hf⟩
      have := (h4.take k).mono hle
      rw [List.take_take, Nat.min_eq_left hk] at this
      rw [List.length_take, Nat.min_eq_left hk]; exact this
    · rename_i e
      obtain ⟨arr', T', fr', g1, g2, g3, g4, g5⟩ := h.cells b' cs2 f c' n' hb' hr'
      have hne : c' ≠ c := fun hc => e (by subst hc; exact h.inj b' b c' n' n (by omega) hr' hr)
      refine ⟨arr', T', fr', g1, g2, g3, g4.mono hle, fun hf => ?_⟩
      obtain ⟨p1, p2, p3⟩ := g5 hf
      refine ⟨p1, p2, fun o => ?_⟩
      simp only [Gh.frozen]
      rw [if_neg hne]; exact p3 o
  · intro b' str pos c' n' hb' hr'
    simp only [Tr.get_set] at hb'
    split at hb'
    · cases hb'
    · exact h.siter b' str pos c' n' hb' hr'
  · intro c' o v hI
    simp only [Gh.frozen] at hI
    split at hI
    · rename_i hc
      subst hc
      split at hI
      · unfold World.cell?; rw [hw]; simpa using hI
      · cases hI
    · exact h.imm c' o v hI
  · intro t' c' e' ce' hl' ht'
    simp only [Tr.get_set] at hl'
    simp only [Gh.frozen] at ht'
    split at hl'
    · rename_i he
      subst he
      rw [if_pos rfl] at ht'
      cases ht'
      refine ⟨q2, fun o ho => ?_, ⟨arr, T, 0, 0, hw, by omega, .inl (Nat.zero_le _)⟩, fun b' n' hr' => ?_⟩
      · simp only [Gh.frozen]
        rw [if_neg (show ¬ o < k by omega)]; simp
      · have hr' : G.ρ b' = some (c, n') := hr'
        have : b' = b := h.inj b' b c n' n q2 hr' hr
        subst this
        exact ⟨cs.take k, by rw [Tr.get_set_same], by simp; omega⟩
    · rename_i he
      rw [if_neg he] at ht'
      have hc := hother t' c' e' ce' hl' ht'
      obtain ⟨p1, p2, p3, p6⟩ := h.tags t' c' e' ce' hl' ht'
      refine ⟨p1, fun o ho => ?_, p3, fun b' n' hr' => ?_⟩
      · simp only [Gh.frozen]
        rw [if_neg hc]; exact p2 o ho
      · have hr' : G.ρ b' = some (c', n') := hr'
        obtain ⟨cs2, hcs, hl2⟩ := p6 b' n' hr'
        have hne : b' ≠ b := fun e => hc (by subst e; rw [hr] at hr'; cases hr'; rfl)
        exact ⟨cs2, by rw [Tr.get_set_ne _ _ _ _ hne]; exact hcs, hl2⟩
  · intro t1 t2 c' e1 ce1 e2 ce2 hl1 hl2 ht1 ht2
    simp only [Tr.get_set] at hl1 hl2
    simp only [Gh.frozen] at ht1 ht2
    by_cases ha : t1 = s.nt <;> by_cases hb2 : t2 = s.nt
    · omega
    · rw [if_neg hb2] at hl2 ht2; rw [if_pos ha] at ht1
      cases ht1
      exact absurd rfl (hother t2 _ _ _ hl2 ht2)
    · rw [if_neg ha] at hl1 ht1; rw [if_pos hb2] at ht2
      cases ht2
      exact absurd rfl (hother t1 _ _ _ hl1 ht1)
    · rw [if_neg ha] at hl1 ht1; rw [if_neg hb2] at hl2 ht2
      exact h.tdist t1 t2 c' e1 ce1 e2 ce2 hl1 hl2 ht1 ht2
  · intro t' x hx
    simp only [Gh.frozen] at hx ⊢
    split at hx
    · omega
    · have := h.tlt t' x hx; omega
  · intro b' blk hb'
    simp only [Tr.get_set] at hb'
    split at hb'
    · rename_i e; subst e; exact h.hlt _ _ hb
    · exact h.hlt b' blk hb'

end
end Go.Am
namespace Go.Am
open Go.RowKit

def tkOf : TypeDesc → TK
  | .bool => .bool
  | .int k => .int k
  | .string => .str
  | .pointer e => .ptr e
  | .slice e => .slice e
  | .array n e => .arr n e
  | .map k e => .map k e
  | .struct fs => .struct (fs.toList.map fun f => (f.offset, f.type, f.name == "_"))
  | .func _ _ _ => .func
  | .interface _ => .iface
  | _ => .other

def TOk1 (P : Program) (t : Nat) (ti : TI) : Prop :=
  ∃ i d z, P.info? t = some i ∧ P.underlying t = some d ∧ ti.kd = tkOf d ∧ i.size = ti.size ∧ i.bytes = ti.bytes ∧ i.zero = some z ∧ ofV 8 z = some ti.zero ∧
    (cellsOf ti.zero).length = ti.size ∧ (!isFlat ti.zero) = ti.agg ∧ (cellsOf ti.zero).all isFlat = true ∧
    (ti.plain = true → i.comparable = true ∧ P.stoodInHeld t = false ∧ P.eqGuardType P.depth t = false)

def TOk (P : Program) (T : Tr TI) : Prop := ∀ t ti, T.get t = some ti → TOk1 P t ti

section
variable {P : Program} {T : Tr TI} {B : Nat → Prop} {w0 : World} {G : Gh} {s : St} {w : World} {t : Nat} {ti : TI}

theorem tk_int {d : TypeDesc} {k : IntKind} (h : TK.int k = tkOf d) : d = .int k := by cases d <;> simp [tkOf] at h; rw [h]
theorem tk_bool {d : TypeDesc} (h : TK.bool = tkOf d) : d = .bool := by cases d <;> simp [tkOf] at h; rfl
theorem tk_str {d : TypeDesc} (h : TK.str = tkOf d) : d = .string := by cases d <;> simp [tkOf] at h; rfl
theorem tk_ptr {d : TypeDesc} {e : Nat} (h : TK.ptr e = tkOf d) : d = .pointer e := by cases d <;> simp [tkOf] at h; rw [h]
theorem tk_slice {d : TypeDesc} {e : Nat} (h : TK.slice e = tkOf d) : d = .slice e := by cases d <;> simp [tkOf] at h; rw [h]
theorem tk_arr {d : TypeDesc} {n e : Nat} (h : TK.arr n e = tkOf d) : d = .array n e := by cases d <;> simp [tkOf] at h; rw [h.1, h.2]
theorem tk_map {d : TypeDesc} {n e : Nat} (h : TK.map n e = tkOf d) : d = .map n e := by cases d <;> simp [tkOf] at h; rw [h.1, h.2]
theorem tk_struct {d : TypeDesc} {fs : List (Nat × Nat × Bool)} (h : TK.struct fs = tkOf d) : ∃ fl : Array Field, d = .struct fl ∧ fs = fl.toList.map fun f => (f.offset, f.type, f.name == "_") := by
  cases d <;> simp [tkOf] at h; exact ⟨_, rfl, h⟩
theorem tk_func {d : TypeDesc} (h : TK.func = tkOf d) : ∃ a b c, d = .func a b c := by cases d <;> simp [tkOf] at h; exact ⟨_, _, _, rfl⟩
theorem tk_iface {d : TypeDesc} (h : TK.iface = tkOf d) : ∃ m, d = .interface m := by cases d <;> simp [tkOf] at h; exact ⟨_, rfl⟩

theorem r_typeInfo {i : TypeInfo} (h : P.info? t = some i) (w : World) : (typeInfo t).run P w = .ok i w := by simp [typeInfo, h]
theorem r_sizeOf (hT : TOk P T) (h : T.get t = some ti) (w : World) : (sizeOf t).run P w = .ok ti.size w := by
  obtain ⟨i, d, z, h1, h2, h3, h4, _⟩ := hT t ti h
  simp [sizeOf, r_typeInfo h1, h4]
theorem r_isAgg (hT : TOk P T) (h : T.get t = some ti) (w : World) : (isAgg t).run P w = .ok ti.agg w := by
  obtain ⟨i, d, z, h1, h2, h3, h4, _⟩ := hT t ti h
  simp only [isAgg, Sem.run_bind, run_underlying h2, Result.andThen_ok]
  unfold TI.agg
  rw [h3]
  cases d <;> simp [tkOf]
theorem r_zero (hT : TOk P T) (h : T.get t = some ti) (w : World) : ∃ z, (zeroValue t).run P w = .ok z w ∧ ∀ G, VR G ti.zero z := by
  obtain ⟨i, d, z, h1, h2, h3, h4, h5, h6, h7, _⟩ := hT t ti h
  exact ⟨z, by simp [zeroValue, r_typeInfo h1, h6], fun G => ofV_VR G _ _ _ h7⟩

theorem extract_list (vs : List Value) (a n : Nat) : vs.toArray.extract a (a + n) = ((vs.drop a).take n).toArray := by
  simp [List.extract_toArray, List.extract]

theorem part_sim (hT : TOk P T) {cs : List AV} {vs : List Value} {off : Nat} {x : AV} (h : partA T t cs off = some x) (hv : VRs G cs vs) (w : World) :
    ∃ v, (part t vs.toArray off).run P w = .ok v w ∧ VR G x v := by
  unfold partA at h
  split at h
  · cases h
  · rename_i ti hti
    simp only [part, Sem.run_bind, r_isAgg hT hti, Result.andThen_ok]
    split at h
    · rename_i ha
      cases h
      refine ⟨.agg ((vs.drop off).take ti.size).toArray, ?_, .agg _ _ ((hv.drop off).take ti.size)⟩
      simp [ha, r_sizeOf hT hti]
    · rename_i ha
      obtain ⟨v, h1, h2⟩ := hv.get h
      exact ⟨v, by simp [ha, h1], h2⟩

/-- A variable that lies in a row of known cells. -/
theorem load_sim (hT : TOk P T) (hti : T.get t = some ti) {cs : List AV} {vs : List Value} {off : Nat} {x : AV} (h : loadCellsA ti cs off = some x) (hv : VRs G cs vs)
    {c base : Nat} (hc : ∀ j v, vs[j]? = some v → w.cell? ⟨c, base + j, none⟩ = some v) :
    ∃ v, (loadVar t ⟨c, base + off, none⟩).run P w = .ok v w ∧ VR G x v := by
  unfold loadCellsA at h
  simp only [loadVar, Sem.run_bind, r_isAgg hT hti, Result.andThen_ok]
  split at h
  · rename_i ha
    split at h
    · rename_i hl
      cases h
      have hl' : off + ti.size ≤ cs.length := by simpa using hl
      refine ⟨.agg ((vs.drop off).take ti.size).toArray, ?_, .agg _ _ ((hv.drop off).take ti.size)⟩
      have hlen : ((vs.drop off).take ti.size).length = ti.size := by have := hv.length; simp; omega
      have hld := run_loadCells_list (P := P) w ⟨c, base + off, none⟩ ((vs.drop off).take ti.size) (fun j v hj => by
        have hj' : vs[off + j]? = some v := by
          rw [List.getElem?_take] at hj
          split at hj
          · simpa using hj
          · cases hj
        have := hc (off + j) v hj'
        rw [Addr.add_lit, show base + off + j = base + (off + j) by omega]; exact this)
      rw [hlen] at hld
      simp [ha, r_sizeOf hT hti, hld]
    · cases h
  · rename_i ha
    obtain ⟨v, h1, h2⟩ := hv.get h
    have := hc off v h1
    exact ⟨v, by simp [ha, this], h2⟩

theorem flat_length {sz : Nat} : ∀ {xs : List AV}, (∀ x ∈ xs, (cellsOf x).length = sz) → (xs.flatMap cellsOf).length = xs.length * sz
  | [], _ => by simp
  | x :: xs, h => by
    have := flat_length (xs := xs) (fun y hy => h y (by simp [hy]))
    simp [h x (by simp), Nat.succ_mul, this]; omega

theorem flat_drop {sz : Nat} : ∀ (i : Nat) {xs : List AV}, (∀ x ∈ xs, (cellsOf x).length = sz) → (xs.flatMap cellsOf).drop (i * sz) = (xs.drop i).flatMap cellsOf
  | 0, xs, _ => by simp
  | i + 1, [], _ => by simp
  | i + 1, x :: xs, h => by
    have ih := flat_drop i (xs := xs) (fun y hy => h y (by simp [hy]))
    rw [List.flatMap_cons, List.drop_append, Nat.succ_mul]
    have hx := h x (by simp)
    rw [List.drop_eq_nil_of_le (by omega), List.nil_append, hx, Nat.add_sub_cancel]
    simpa using ih

theorem flat_take {sz : Nat} : ∀ (i : Nat) {xs : List AV}, (∀ x ∈ xs, (cellsOf x).length = sz) → (xs.flatMap cellsOf).take (i * sz) = (xs.take i).flatMap cellsOf
  | 0, xs, _ => by simp
  | i + 1, [], _ => by simp
  | i + 1, x :: xs, h => by
    have ih := flat_take i (xs := xs) (fun y hy => h y (by simp [hy]))
    rw [List.flatMap_cons, List.take_append, Nat.succ_mul]
    have hx := h x (by simp)
    rw [List.take_of_length_le (by omega), hx, Nat.add_sub_cancel, ih]
    simp

theorem flat_elem {sz i : Nat} {xs : List AV} {x : AV} (h : ∀ x ∈ xs, (cellsOf x).length = sz) (hx : xs[i]? = some x) : ((xs.flatMap cellsOf).drop (i * sz)).take sz = cellsOf x := by
  rw [flat_drop i h]
  have hlt : i < xs.length := (List.getElem?_eq_some_iff.1 hx).1
  have he : xs[i] = x := (List.getElem?_eq_some_iff.1 hx).2
  rw [List.drop_eq_getElem_cons hlt, List.flatMap_cons, he]
  have := h x (List.mem_of_getElem? hx)
  rw [List.take_append_of_le_length (by omega), List.take_of_length_le (by omega)]

/-- The cells of an abstract row of one's heap. -/
theorem WR.row (h : WR B w0 G s w) {b c n : Nat} {cs : List AV} {f : Bool} (hb : s.heap.get b = some (.cells cs f)) (hr : G.ρ b = some (c, n)) :
    ∃ vs, VRs G cs vs ∧ ∀ j v, vs[j]? = some v → w.cell? ⟨c, j, none⟩ = some v := by
  obtain ⟨arr, T, fr, h1, h2, h3, h4, _⟩ := h.cells b cs f c n hb hr
  refine ⟨_, h4, fun j v hj => ?_⟩
  rw [List.getElem?_take] at hj
  split at hj
  · unfold World.cell?; simp [h1]; simpa using hj
  · cases hj

theorem WR.immRow (h : WR B w0 G s w) {c base : Nat} {vs : List Value} (hI : ∀ j, j < vs.length → G.I c (base + j) = vs[j]?) : ∀ j v, vs[j]? = some v → w.cell? ⟨c, base + j, none⟩ = some v :=
  fun j v hj => h.imm c (base + j) v (by rw [hI j ((List.getElem?_eq_some_iff.1 hj).1)]; exact hj)

theorem loadA_sim (hT : TOk P T) (h : WR B w0 G s w) {p x : AV} {v : Value} (hl : loadA T s.heap t p = some x) (hp : VR G p v) :
    ∃ u, (Instr.loadAt t v).run P w = .ok u w ∧ VR G x u := by
  unfold loadA at hl
  split at hl
  · cases hl
  · rename_i ti hti
    cases hp <;> simp only [] at hl <;> (try cases hl)
    case ptr b off c n hr =>
      split at hl
      · rename_i cs f hb
        obtain ⟨vs, h1, h2⟩ := h.row hb hr
        have := load_sim hT hti hl h1 (c := c) (base := 0) (w := w) (fun j v hj => by simpa using h2 j v hj)
        obtain ⟨u, hu, hx⟩ := this
        exact ⟨u, by simpa [Instr.loadAt, Instr.sureAddr] using hu, hx⟩
      · cases hl
    case elem xs i off c base sz vs hsz hv hI =>
      split at hl
      · rename_i y hy
        have h1 : VRs G (cellsOf y) ((vs.drop (i * sz)).take sz) := by
          have := (hv.drop (i * sz)).take sz
          rwa [flat_elem hsz hy] at this
        have h2 := h.immRow hI
        obtain ⟨u, hu, hx⟩ := load_sim hT hti hl h1 (c := c) (base := base + i * sz) (w := w) (fun j v hj => by
          have hj' : vs[i * sz + j]? = some v := by
            rw [List.getElem?_take] at hj
            split at hj
            · simpa using hj
            · cases hj
          have := h2 _ _ hj'
          rwa [← Nat.add_assoc] at this)
        exact ⟨u, by simpa [Instr.loadAt, Instr.sureAddr] using hu, hx⟩
      · cases hl

theorem fieldSize_sim (hT : TOk P T) {fl : Array Field} {i off size : Nat} (h : fieldSize T (fl.toList.map fun f => (f.offset, f.type, f.name == "_")) i = some (off, size)) :
    ∃ f, fl[i]? = some f ∧ f.offset = off ∧ ∀ w, (sizeOf f.type).run P w = .ok size w := by
  unfold fieldSize at h
  split at h
  · rename_i o ty bl he
    simp only [List.getElem?_map, Option.map_eq_some_iff] at he
    obtain ⟨f, hf, hx⟩ := he
    cases hx
    split at h
    · rename_i ti hti
      cases h
      exact ⟨f, by simpa using hf, rfl, fun w => r_sizeOf hT hti w⟩
    · cases h
  · cases h

theorem fieldAddrA_sim (hT : TOk P T) {p x : AV} {v : Value} {st f : Nat} (hl : fieldAddrA T st p f = some x) (hp : VR G p v) (w : World) :
    ∃ u, (Instr.fieldAt st v f).run P w = .ok u w ∧ VR G x u := by
  unfold fieldAddrA at hl
  split at hl
  · rename_i ti hti
    obtain ⟨i, d, z, h1, h2, h3, _⟩ := hT st ti hti
    split at hl
    · rename_i fs hk
      rw [hk] at h3
      obtain ⟨fl, hd, rfl⟩ := tk_struct h3
      subst hd
      split at hl
      · rename_i off size hfs
        obtain ⟨fd, g1, g2, g3⟩ := fieldSize_sim hT hfs
        split at hl
        · cases hl
        · rename_i hsz
          have hsz' : ¬ size = 0 := by simpa using hsz
          cases hp <;> simp only [Option.some.injEq, reduceCtorEq] at hl
          case ptr b o c n hr =>
            subst hl
            refine ⟨.pointer (some ⟨c, o + off, none⟩), ?_, .ptr b (o + off) c n hr⟩
            simp [Instr.fieldAt, run_underlying h2, g1, Instr.sureAddr, fieldPlace, g3, hsz', g2, Addr.add_lit]
          case elem xs j o c base sz vs hs hv hI =>
            subst hl
            refine ⟨.pointer (some ⟨c, base + j * sz + (o + off), none⟩), ?_, .elem xs j (o + off) c base sz vs hs hv hI⟩
            simp [Instr.fieldAt, run_underlying h2, g1, Instr.sureAddr, fieldPlace, g3, hsz', g2, Addr.add_lit, Nat.add_assoc]
      · cases hl
    · cases hl
  · cases hl

theorem fieldA_sim (hT : TOk P T) {p x : AV} {v : Value} {st f : Nat} (hl : fieldA T st p f = some x) (hp : VR G p v) (w : World) :
    ∃ u, (Instr.field st v f).run P w = .ok u w ∧ VR G x u := by
  unfold fieldA at hl
  split at hl
  · rename_i ti hti
    obtain ⟨i, d, z, h1, h2, h3, _⟩ := hT st ti hti
    split at hl
    · rename_i fs cs hk
      rw [hk] at h3
      obtain ⟨fl, hd, rfl⟩ := tk_struct h3
      subst hd
      cases hp
      rename_i vs hv
      split at hl
      · rename_i off ty bl he
        simp only [List.getElem?_map, Option.map_eq_some_iff] at he
        obtain ⟨fd, hf, hx⟩ := he
        cases hx
        obtain ⟨u, hu, hx⟩ := part_sim hT hl hv w
        have hf' : fl[f]? = some fd := by simpa using hf
        exact ⟨u, by simp [Instr.field, run_underlying h2, hf', asAgg, hu], hx⟩
      · cases hl
    · cases hl
  · cases hl

theorem asIdx_sim {ix : AV} {vi : Value} {i : Int} (h : asIdx ix = some i) (hv : VR G ix vi) : ∃ k, vi = .int k i := by
  cases hv <;> simp [asIdx] at h
  subst h; exact ⟨_, rfl⟩

theorem indexAddrA_sim (hT : TOk P T) {p ix x : AV} {v vi : Value} (hl : indexAddrA T t p ix = some x) (hp : VR G p v) (hi : VR G ix vi) (w : World) :
    ∃ u, (Instr.indexAt t v vi).run P w = .ok u w ∧ VR G x u := by
  unfold indexAddrA at hl
  split at hl
  · rename_i ti i hti hix
    obtain ⟨k, rfl⟩ := asIdx_sim hix hi
    obtain ⟨inf, d, z, h1, h2, h3, _⟩ := hT t ti hti
    split at hl
    · rename_i n e b off hk
      rw [hk] at h3
      have hd := tk_arr h3
      subst hd
      cases hp
      rename_i c m hr
      split at hl
      · rename_i te hte
        split at hl
        · rename_i hb
          cases hl
          simp only [Bool.and_eq_true, decide_eq_true_eq] at hb
          refine ⟨.pointer (some ⟨c, off + i.toNat * te.size, none⟩), ?_, .ptr b _ c m hr⟩
          simp [Instr.indexAt, asIntOf, run_underlying h2, Instr.sureAddr, hb, r_sizeOf hT hte, Addr.add_lit]
        · cases hl
      · cases hl
    · rename_i e b off n zz hk
      rw [hk] at h3
      have hd := tk_slice h3
      subst hd
      cases hp
      rename_i c m cap hr hlc hc
      split at hl
      · rename_i te hte
        split at hl
        · rename_i hb
          cases hl
          simp only [Bool.and_eq_true, decide_eq_true_eq] at hb
          refine ⟨.pointer (some ⟨c, off + i.toNat * te.size, none⟩), ?_, .ptr b _ c m hr⟩
          simp [Instr.indexAt, asIntOf, run_underlying h2, hb, r_sizeOf hT hte, Addr.add_lit]
        · cases hl
      · cases hl
    · rename_i e xs kk hk
      rw [hk] at h3
      have hd := tk_slice h3
      subst hd
      split at hl
      · rename_i te hte
        split at hl
        · rename_i hb
          have hb' : 0 ≤ i := by simpa using hb
          split at hl
          · rename_i y hy
            split at hl
            · rename_i hs
              cases hl
              have hs' : (cellsOf y).length = te.size := by simpa using hs
              cases hp
              rename_i c base sz len cap vs hI hcap hsz hv hlen hk
              subst hlen
              have hlt : i.toNat < xs.length := (List.getElem?_eq_some_iff.1 hy).1
              have hilt : i < (xs.length : Int) := by omega
              have hszte : sz = te.size := by rw [← hs']; exact (hsz y (List.mem_of_getElem? hy)).symm
              refine ⟨.pointer (some ⟨c, base + i.toNat * sz + 0, none⟩), ?_, .elem xs _ 0 c base sz vs hsz hv hI⟩
              simp [Instr.indexAt, asIntOf, run_underlying h2, hb', hilt, r_sizeOf hT hte, Addr.add_lit, hszte]
            · cases hl
          · cases hl
        · cases hl
      · cases hl
    · cases hl
  · cases hl

theorem indexA_sim (hT : TOk P T) {p ix x : AV} {v vi : Value} (hl : indexA T t p ix = some x) (hp : VR G p v) (hi : VR G ix vi) (w : World) :
    ∃ u, (Instr.index t v vi).run P w = .ok u w ∧ VR G x u := by
  unfold indexA at hl
  split at hl
  · rename_i ti i hti hix
    obtain ⟨k, rfl⟩ := asIdx_sim hix hi
    obtain ⟨inf, d, z, h1, h2, h3, _⟩ := hT t ti hti
    split at hl
    · rename_i n e cs hk
      rw [hk] at h3
      have hd := tk_arr h3
      subst hd
      cases hp
      rename_i vs hv
      split at hl
      · rename_i te hte
        split at hl
        · rename_i hb
          simp only [Bool.and_eq_true, decide_eq_true_eq] at hb
          obtain ⟨u, hu, hx⟩ := part_sim hT hl hv w
          exact ⟨u, by simp [Instr.index, asIntOf, run_underlying h2, hb, r_sizeOf hT hte, hu], hx⟩
        · cases hl
      · cases hl
    · rename_i str hk
      rw [hk] at h3
      have hd := tk_str h3
      subst hd
      cases hp
      split at hl
      · rename_i b hb
        cases hl
        refine ⟨.int .u8 b.toNat, ?_, .int _ _⟩
        simp only [Instr.index, asIntOf, Sem.run_bind, Sem.run_pure, Result.andThen_ok, run_underlying h2, hb]
      · cases hl
    · cases hl
  · cases hl

end
end Go.Am
namespace Go.Am
open Go.RowKit

inductive OR (G : Gh) : Option AV → Option Value → Prop
  | none : OR G none none
  | some (a : AV) (v : Value) (h : VR G a v) : OR G (some a) (some v)

section
variable {P : Program} {T : Tr TI} {B : Nat → Prop} {w0 : World} {G : Gh} {s : St} {w : World} {t : Nat} {ti : TI}

theorem bound_sim {a : AV} {v : Value} {d most most' r : Nat} (h : bound (some a) d most = some r) (hv : VR G a v) (hm : most ≤ most') (code : BoundsCode) (w : World) :
    (Instr.sliceBound v most' code).run P w = .ok r w ∧ r ≤ most := by
  unfold bound at h
  cases hv <;> simp only [reduceCtorEq] at h
  rename_i k n
  split at h
  · rename_i hb
    cases h
    simp only [Bool.and_eq_true, decide_eq_true_eq] at hb
    refine ⟨?_, by omega⟩
    have : n ≤ (most' : Int) := by omega
    simp [Instr.sliceBound, asIntOf, hb.1, this]
  · cases h

theorem bounds_sim {len cap l h : Nat} {m : Option Nat} {lo hi mx : Option AV} {lo' hi' mx' : Option Value} (hb : bounds len lo hi mx = some (l, h, m)) (h1 : OR G lo lo') (h2 : OR G hi hi') (h3 : OR G mx mx')
    (hc : len ≤ cap) (isS : Bool) (w : World) :
    (Instr.sliceBounds isS len cap lo' hi' mx').run P w = .ok (l, h, m.getD cap) w ∧ l ≤ h ∧ h ≤ len ∧ (∀ m', m = some m' → h ≤ m' ∧ m' ≤ len) := by
  unfold bounds at hb
  cases h3 with
  | none =>
    simp only [] at hb
    split at hb
    · rename_i hh hhe
      split at hb
      · rename_i ll lle
        cases hb
        have e1 : ∃ q, q = h ∧ h ≤ len ∧ ∀ w, (match hi' with | some v => Instr.sliceBound v cap (if isS then .sliceAcap else .sliceAlen) | none => pure len : Sem Nat).run P w = .ok q w := by
          cases h2 with
          | none => simp only [bound, Option.some.injEq] at hhe; exact ⟨len, hhe, by omega, fun w => rfl⟩
          | some a v hv =>
            refine ⟨h, rfl, (bound_sim (P := P) hhe hv (Nat.le_refl _) .index w).2, fun w => ?_⟩
            exact (bound_sim hhe hv hc _ w).1
        obtain ⟨q, rfl, hle, er⟩ := e1
        have e2 : l ≤ q ∧ ∀ w, (match lo' with | some v => Instr.sliceBound v q (if false then .slice3C else .sliceB) | none => pure 0 : Sem Nat).run P w = .ok l w := by
          cases h1 with
          | none => simp only [bound, Option.some.injEq] at lle; subst lle; exact ⟨Nat.zero_le _, fun w => rfl⟩
          | some a v hv => exact ⟨(bound_sim (P := P) lle hv (Nat.le_refl _) .index w).2, fun w => (bound_sim lle hv (Nat.le_refl _) _ w).1⟩
        refine ⟨?_, e2.1, hle, by simp⟩
        cases h1 with
        | none =>
          have e3 := e2.2 w
          simp only [Sem.run_pure, Result.ok.injEq, and_true] at e3
          subst e3
          cases h2 with
          | none => have := er w; simp only [Sem.run_pure, Result.ok.injEq, and_true] at this; subst this; simp [Instr.sliceBounds]
          | some a v hv => have := er w; simp only [] at this; simp [Instr.sliceBounds, this]
        | some a v hv =>
          have e3 := e2.2 w
          simp only [Bool.false_eq_true, if_false] at e3
          cases h2 with
          | none => have := er w; simp only [Sem.run_pure, Result.ok.injEq, and_true] at this; subst this; simp [Instr.sliceBounds, e3]
          | some a' v' hv' => have := er w; simp only [] at this; simp [Instr.sliceBounds, this, e3]
      · cases hb
    · cases hb
  | some am vm hvm =>
    simp only [] at hb
    split at hb
    · rename_i mm ah hme
      split at hb
      · rename_i hh hhe
        split at hb
        · rename_i ll lle
          cases hb
          cases h2 with
          | some ah vh hvh =>
            have b1 := fun w => bound_sim (P := P) hme hvm hc (if isS then .slice3Acap else .slice3Alen) w
            have b2 := fun w => bound_sim (P := P) hhe hvh (Nat.le_refl _) .slice3B w
            have e2 : l ≤ h ∧ ∀ w, (match lo' with | some v => Instr.sliceBound v h (if true then .slice3C else .sliceB) | none => pure 0 : Sem Nat).run P w = .ok l w := by
              cases h1 with
              | none => simp only [bound, Option.some.injEq] at lle; subst lle; exact ⟨Nat.zero_le _, fun w => rfl⟩
              | some a v hv => exact ⟨(bound_sim (P := P) lle hv (Nat.le_refl _) .index w).2, fun w => (bound_sim lle hv (Nat.le_refl _) _ w).1⟩
            refine ⟨?_, e2.1, Nat.le_trans (b2 w).2 (b1 w).2, fun m' hm' => by cases hm'; exact ⟨(b2 w).2, (b1 w).2⟩⟩
            cases h1 with
            | none =>
              have e3 := e2.2 w
              simp only [Sem.run_pure, Result.ok.injEq, and_true] at e3
              subst e3
              simp [Instr.sliceBounds, (b1 w).1, (b2 w).1]
            | some a v hv =>
              have e3 := e2.2 w
              simp only [if_true] at e3
              simp [Instr.sliceBounds, (b1 w).1, (b2 w).1, e3]
        · cases hb
      · cases hb
    · cases hb

/-- A part of an immutable row is one. -/
theorem VR.sub {xs : List AV} {k : SK} {c base sz cap : Nat} {vs : List Value} (hsz : ∀ x ∈ xs, (cellsOf x).length = sz) (hv : VRs G (xs.flatMap cellsOf) vs)
    (hI : ∀ j, j < vs.length → G.I c (base + j) = vs[j]?) (hcap : xs.length ≤ cap) (hk : KOk G k c base sz xs.length cap) {l h : Nat} {m : Option Nat} (hlh : l ≤ h) (hh : h ≤ xs.length) (hm : ∀ m', m = some m' → h ≤ m' ∧ m' ≤ xs.length)
    {a : Option Addr} (ha : a = some ⟨c, base + l * sz, none⟩ ∨ (m.getD cap = l ∧ a = some ⟨c, base, none⟩)) :
    VR G (.sl ((xs.drop l).take (h - l)) (subKind k xs.length l h m)) (.slice a (h - l) (m.getD cap - l)) := by
  have hsz' : ∀ x ∈ (xs.drop l).take (h - l), (cellsOf x).length = sz := fun x hx => hsz x (List.mem_of_mem_drop (List.mem_of_mem_take hx))
  have hlen' : ((xs.drop l).take (h - l)).length = h - l := by simp; omega
  have hflat : ((xs.drop l).take (h - l)).flatMap cellsOf = ((xs.flatMap cellsOf).drop (l * sz)).take ((h - l) * sz) := by
    rw [flat_drop l hsz, flat_take (h - l) (fun x hx => hsz x (List.mem_of_mem_drop hx))]
  have hvs : VRs G (((xs.drop l).take (h - l)).flatMap cellsOf) ((vs.drop (l * sz)).take ((h - l) * sz)) := by
    rw [hflat]; exact (hv.drop _).take _
  have hcapm : h ≤ m.getD cap := by
    cases m with
    | none => simp; omega
    | some m' => exact (hm m' rfl).1
  have hIs : ∀ j, j < ((vs.drop (l * sz)).take ((h - l) * sz)).length → G.I c (base + l * sz + j) = ((vs.drop (l * sz)).take ((h - l) * sz))[j]? := fun j hj => by
    have hj' : j < (h - l) * sz ∧ l * sz + j < vs.length := by simp at hj; omega
    have := hI (l * sz + j) hj'.2
    rw [List.getElem?_take, if_pos hj'.1, List.getElem?_drop, ← this, Nat.add_assoc]
  rcases ha with rfl | ⟨hml, rfl⟩
  · refine .sl _ _ c (base + l * sz) sz (h - l) _ _ hsz' hvs hIs hlen'.symm (by omega) ?_
    rw [hlen']
    unfold subKind
    cases m with
    | some m' =>
      simp only [Option.getD_some]
      split
      · rename_i e; simp at e; subst e; rfl
      · trivial
    | none =>
      simp only [Option.getD_none]
      split
      · rename_i e; simp at e; subst e
        cases k with
        | full => have : cap = xs.length := hk; subst this; rfl
        | dead => trivial
        | tag t =>
          simp only []
          split
          · trivial
          · rename_i e2
            have e2' : l ≠ xs.length := by simpa using e2
            refine ⟨by omega, ?_⟩
            have hq := hk.2
            rw [hq]
            have a1 : base + l * sz + (xs.length - l) * sz = base + xs.length * sz := by rw [Nat.add_assoc, ← Nat.add_mul]; congr 2; omega
            have a2 : base + l * sz + (cap - l) * sz = base + cap * sz := by rw [Nat.add_assoc, ← Nat.add_mul]; congr 2; omega
            rw [a1, a2]
      · trivial
  · have hl0 : h - l = 0 := by omega
    have hx0 : (xs.drop l).take (h - l) = [] := by simp [hl0]
    rw [hx0]
    refine .sl _ _ c base sz (h - l) _ [] (by simp) (by simpa using VRs.nil) (by simp) (by simpa using hl0) (by omega) ?_
    have hm0 : m.getD cap - l = 0 := by omega
    unfold subKind
    cases m with
    | some m' =>
      simp only [Option.getD_some] at *
      split
      · simp [KOk, hm0]
      · trivial
    | none =>
      simp only [Option.getD_none] at *
      split
      · rename_i e; simp at e; subst e
        cases k with
        | full => simp [KOk, hm0]
        | dead => trivial
        | tag t =>
          simp only []
          split
          · trivial
          · rename_i e2
            have e2' : l ≠ xs.length := by simpa using e2
            omega
      · trivial

theorem sliceA_sim (hT : TOk P T) (hw : WR B w0 G s w) {x y : AV} {v : Value} {lo hi mx : Option AV} {lo' hi' mx' : Option Value} (hl : sliceA T s.heap t x lo hi mx = some y) (hv : VR G x v) (h1 : OR G lo lo') (h2 : OR G hi hi') (h3 : OR G mx mx') :
    ∃ u, (Instr.sliceAt t v lo' hi' mx').run P w = .ok u w ∧ VR G y u := by
  unfold sliceA at hl
  split at hl
  · cases hl
  · rename_i ti hti
    obtain ⟨inf, d, z, g1, g2, g3, _⟩ := hT t ti hti
    split at hl
    · rename_i str hk
      rw [hk] at g3
      have hd := tk_str g3
      subst hd
      cases hv
      split at hl
      · rename_i l h m hb
        cases hl
        cases h3
        obtain ⟨e, b1, b2, b3⟩ := bounds_sim (P := P) hb h1 h2 .none (Nat.le_refl _) false w
        refine ⟨_, ?_, .str _⟩
        simp [Instr.sliceAt, run_underlying g2, Instr.slice, e]
      · cases hl
    · rename_i e hk
      rw [hk] at g3
      have hd := tk_slice g3
      subst hd
      cases hv
      split at hl
      · rename_i b te hb hte
        cases hl
        obtain ⟨l, h, m⟩ := b
        obtain ⟨er, b1, b2, b3⟩ := bounds_sim (P := P) hb h1 h2 h3 (Nat.le_refl _) true w
        have hh : h = 0 := by omega
        have hl0 : l = 0 := by omega
        subst hh; subst hl0
        refine ⟨_, ?_, .nils⟩
        have hm0 : m.getD 0 = 0 := by
          cases m with
          | none => rfl
          | some m' => have := (b3 m' rfl).2; simp; omega
        rw [hm0] at er
        simp [Instr.sliceAt, run_underlying g2, Instr.slice, er, r_sizeOf hT hte]
      · cases hl
    · rename_i e xs k hk
      rw [hk] at g3
      have hd := tk_slice g3
      subst hd
      cases hv
      rename_i c base sz len cap vs hI hcap hsz hv hlen hkk
      subst hlen
      split at hl
      · rename_i l h m te hb hte
        split at hl
        · rename_i hhd
          cases hl
          obtain ⟨er, b1, b2, b3⟩ := bounds_sim (P := P) hb h1 h2 h3 hcap true w
          have hsize : l * te.size = l * sz := by
            cases xs with
            | nil =>
              have : l = 0 := by simp at b2; omega
              simp [this]
            | cons x r =>
              have e1 : (cellsOf x).length = te.size := by simpa [headIs] using hhd
              have e2 := hsz x (by simp)
              rw [← e1, e2]
          refine ⟨_, ?_, VR.sub hsz hv hI hcap hkk b1 b2 b3 (a := if m.getD cap = l then some ⟨c, base, none⟩ else some ⟨c, base + l * sz, none⟩) ?_⟩
          · simp only [Instr.sliceAt, Sem.run_bind, run_underlying g2, Result.andThen_ok, Instr.slice, er, r_sizeOf hT hte, Sem.run_pure, Option.map_some, Addr.add_lit, hsize]
          · by_cases e : m.getD cap = l
            · exact .inr ⟨e, by simp [e]⟩
            · exact .inl (by simp [e])
        · cases hl
      · cases hl
    · rename_i e b off n zz hk
      rw [hk] at g3
      have hd := tk_slice g3
      subst hd
      cases hv
      rename_i c nn cap hr hlc hc
      split at hl
      · rename_i l h m te hb hte
        split at hl
        · rename_i hz
          have hz' : zz = te.size := by simpa using hz
          subst hz'
          obtain ⟨er, b1, b2, b3⟩ := bounds_sim (P := P) hb h1 h2 h3 hlc true w
          have hmc : m.getD cap ≤ cap ∧ h ≤ m.getD cap := by
            cases m with
            | none => simp; omega
            | some m' => have := b3 m' rfl; simp; omega
          refine ⟨.slice (if m.getD cap = l then some ⟨c, off, none⟩ else some ⟨c, off + l * te.size, none⟩) (h - l) (m.getD cap - l), ?_, ?_⟩
          · simp only [Instr.sliceAt, Sem.run_bind, run_underlying g2, Result.andThen_ok, Instr.slice, er, r_sizeOf hT hte, Sem.run_pure, Option.map_some, Addr.add_lit]
          · split at hl
            · rename_i e
              cases hl
              have e' : l = h := by simpa using e
              subst e'
              have : ∃ o, (if m.getD cap = l then some (⟨c, off, none⟩ : Addr) else some ⟨c, off + l * te.size, none⟩) = some ⟨c, o, none⟩ := by split <;> exact ⟨_, rfl⟩
              obtain ⟨o, ho⟩ := this
              rw [ho, Nat.sub_self]
              exact .sl [] _ c o 0 0 _ [] (by simp) (by simpa using VRs.nil) (by simp) rfl (Nat.zero_le _) trivial
            · rename_i e
              cases hl
              have e' : l ≠ h := by simpa using e
              rw [if_neg (by omega)]
              refine .ms b _ _ _ c nn _ hr (by omega) ?_
              have : off + l * te.size + (m.getD cap - l) * te.size = off + m.getD cap * te.size := by rw [Nat.add_assoc, ← Nat.add_mul]; congr 2; omega
              rw [this]
              exact Nat.le_trans (Nat.add_le_add_left (Nat.mul_le_mul_right _ hmc.1) _) hc
        · cases hl
      · cases hl
    · rename_i n e b off hk
      rw [hk] at g3
      have hd := tk_arr g3
      subst hd
      cases hv
      rename_i c nn hr
      split at hl
      · rename_i l h m te hb hte
        cases h3
        obtain ⟨er, b1, b2, b3⟩ := bounds_sim (P := P) hb h1 h2 .none (Nat.le_refl _) false w
        have hm0 : m = none := by
          unfold bounds at hb
          simp only [] at hb
          split at hb
          · split at hb
            · cases hb; rfl
            · cases hb
          · cases hb
        subst hm0
        split at hl
        · rename_i cells hcells
          have hfit : off + n * te.size ≤ nn := by
            unfold msCells at hcells
            split at hcells
            · rename_i cs f hb2
              split at hcells
              · rename_i hle
                have hle' : off + n * te.size ≤ cs.length := by simpa using hle
                obtain ⟨arr, _, _, _, _, q3, _⟩ := hw.cells b cs f c nn hb2 hr
                omega
              · cases hcells
            · cases hcells
          refine ⟨.slice (if n = l then some ⟨c, off, none⟩ else some ⟨c, off + l * te.size, none⟩) (h - l) (n - l), ?_, ?_⟩
          · simp only [Option.getD_none] at er
            by_cases e : n = l
            · subst e; simp [Instr.sliceAt, run_underlying g2, Instr.sureAddr, er, r_sizeOf hT hte]
            · simp [Instr.sliceAt, run_underlying g2, Instr.sureAddr, er, r_sizeOf hT hte, e, Addr.add_lit]
          · split at hl
            · rename_i e
              cases hl
              have e' : l = h := by simpa using e
              subst e'
              have : ∃ o, (if n = l then some (⟨c, off, none⟩ : Addr) else some ⟨c, off + l * te.size, none⟩) = some ⟨c, o, none⟩ := by split <;> exact ⟨_, rfl⟩
              obtain ⟨o, ho⟩ := this
              rw [ho, Nat.sub_self]
              exact .sl [] _ c o 0 0 _ [] (by simp) (by simpa using VRs.nil) (by simp) rfl (Nat.zero_le _) trivial
            · rename_i e
              cases hl
              have e' : l ≠ h := by simpa using e
              rw [if_neg (by omega)]
              refine .ms b _ _ _ c nn _ hr (by omega) ?_
              have : off + l * te.size + (n - l) * te.size = off + n * te.size := by rw [Nat.add_assoc, ← Nat.add_mul]; congr 2; omega
              omega
        · cases hl
      · cases hl
    · cases hl

end
end Go.Am
namespace Go.Am
open Go.RowKit

section
variable {P : Program} {T : Tr TI} {B : Nat → Prop} {w0 : World} {G : Gh} {s : St} {w : World} {t : Nat} {ti : TI}

theorem arithA_sim {op : BinOp} {k : IntKind} {a b : Int} {x : AV} (h : arithA op k a b = some x) (t : Nat) (w : World) :
    ∃ v, (binOp op t (.int k a) (.int k b)).run P w = .ok v w ∧ VR G x v := by
  cases op <;> simp only [arithA, reduceCtorEq, Option.some.injEq] at h
  case quo =>
    split at h
    · cases h
    · rename_i hb
      cases h
      have hb' : ¬ b = 0 := by simpa using hb
      exact ⟨_, by simp [binOp_quo, Op.intDiv, hb'], .int _ _⟩
  case rem =>
    split at h
    · cases h
    · rename_i hb
      cases h
      have hb' : ¬ b = 0 := by simpa using hb
      exact ⟨_, by simp [binOp_rem, Op.intDiv, hb'], .int _ _⟩
  all_goals subst h
  case add => exact ⟨_, by simp [binOp_add, Op.intArith], .int _ _⟩
  case sub => exact ⟨_, by simp [binOp_sub, Op.intArith], .int _ _⟩
  case mul => exact ⟨_, by simp [binOp_mul, Op.intArith], .int _ _⟩
  case and => exact ⟨_, by rw [binOp_and]; rfl, .int _ _⟩
  case or => exact ⟨_, by rw [binOp_or]; rfl, .int _ _⟩
  case xor => exact ⟨_, by rw [binOp_xor]; rfl, .int _ _⟩
  case andNot => exact ⟨_, by rw [binOp_andNot]; rfl, .int _ _⟩
  case eql => exact ⟨_, by rw [binOp_eql]; rfl, .bool _⟩
  case neq => exact ⟨_, by rw [binOp_neq]; rfl, .bool _⟩
  case lss => exact ⟨_, by rw [binOp_lss]; rfl, .bool _⟩
  case leq => exact ⟨_, by rw [binOp_leq]; rfl, .bool _⟩
  case gtr => exact ⟨_, by rw [binOp_gtr]; rfl, .bool _⟩
  case geq => exact ⟨_, by rw [binOp_geq]; rfl, .bool _⟩

theorem shiftA_sim {op : BinOp} {k j : IntKind} {a b : Int} {x : AV} (h : shiftA op k a b = some x) (w : World) :
    ∃ v, (Op.shift op k a j b).run P w = .ok v w ∧ VR G x v := by
  unfold shiftA at h
  split at h
  · cases h
  · rename_i hb
    have hb' : ¬ b < 0 := by simpa using hb
    split at h
    · cases h; exact ⟨_, by simp [Op.shift, hb'], .int _ _⟩
    · cases h; exact ⟨_, by simp [Op.shift, hb'], .int _ _⟩
    · cases h

theorem strA_sim {op : BinOp} {a b : ByteArray} {x : AV} (h : strA op a b = some x) (t : Nat) (w : World) :
    ∃ v, (binOp op t (.string a) (.string b)).run P w = .ok v w ∧ VR G x v := by
  have hb : binOp op t (.string a) (.string b) = Op.stringOp op a b := by cases op <;> rfl
  rw [hb]
  cases op <;> simp only [strA, reduceCtorEq, Option.some.injEq] at h
  case add =>
    split at h
    · cases h
    · rename_i hs
      cases h
      have hs' : ¬ ((a.size + b.size : Nat) : Int) > IntKind.i64.max := by simpa using hs
      refine ⟨.string (a ++ b), ?_, .str _⟩
      simp only [Op.stringOp]
      rw [if_neg hs']; rfl
  all_goals (subst h; exact ⟨_, rfl, .bool _⟩)

theorem unA_sim {op : UnOp} {a x : AV} {v : Value} (h : unA op a = some x) (hv : VR G a v) (w : World) : ∃ u, (Op.unary op v).run P w = .ok u w ∧ VR G x u := by
  unfold unA at h
  split at h
  · cases hv
    simp only [arithA, Option.some.injEq] at h
    subst h
    exact ⟨_, rfl, .int _ _⟩
  · cases hv
    simp only [arithA, Option.some.injEq] at h
    subst h
    exact ⟨_, rfl, .int _ _⟩
  · cases hv
    cases h
    exact ⟨_, rfl, .bool _⟩
  · cases h

theorem eqFs_sim (hT : TOk P T) {c : Nat → AV → AV → Option Bool} {d : Nat} (hc : ∀ t x y b u v, c t x y = some b → VR G x u → VR G y v → (Op.equalIn d t u v).run P w = .ok b w) {xs ys : List AV} {us vs : List Value} (hx : VRs G xs us) (hy : VRs G ys vs) :
    ∀ (fl : List Field) (b : Bool), eqFs T c xs ys (fl.map fun f => (f.offset, f.type, f.name == "_")) = some b → (Op.eqFields d us.toArray vs.toArray fl).run P w = .ok b w
  | [], b, h => by simp only [List.map_nil, eqFs, Option.some.injEq] at h; subst h; rfl
  | f :: fl, b, h => by
    simp only [List.map_cons, eqFs] at h
    split at h
    · rename_i hn
      have hn' : f.name = "_" := by simpa using hn
      have ih := eqFs_sim hT hc hx hy fl b h
      simp only [Op.eqFields]
      rw [if_neg (by simp [hn'])]
      exact ih
    · rename_i hn
      have hn' : f.name ≠ "_" := by simpa using hn
      simp only [Op.eqFields]
      rw [if_pos hn']
      split at h
      · rename_i x y hpx hpy
        obtain ⟨u, hu, hxu⟩ := part_sim hT hpx hx w
        obtain ⟨v, hv, hyv⟩ := part_sim hT hpy hy w
        split at h
        · rename_i he
          have e := hc _ _ _ _ _ _ he hxu hyv
          have ih := eqFs_sim hT hc hx hy fl b h
          simp [hu, hv, e, ih]
        · rename_i he
          cases h
          have e := hc _ _ _ _ _ _ he hxu hyv
          simp [hu, hv, e]
        · cases h
      · cases h

theorem eqAt_sim (hT : TOk P T) {c : Nat → AV → AV → Option Bool} {d e size : Nat} (hc : ∀ t x y b u v, c t x y = some b → VR G x u → VR G y v → (Op.equalIn d t u v).run P w = .ok b w) {xs ys : List AV} {us vs : List Value} (hx : VRs G xs us) (hy : VRs G ys vs) :
    ∀ (n i : Nat) (b : Bool), eqAt T c xs ys e size n i = some b → (Op.eqItems d e size us.toArray vs.toArray (List.range' i n)).run P w = .ok b w
  | 0, i, b, h => by simp only [eqAt, Option.some.injEq] at h; subst h; rfl
  | n + 1, i, b, h => by
    simp only [eqAt] at h
    simp only [List.range'_succ, Op.eqItems]
    split at h
    · rename_i x y hpx hpy
      obtain ⟨u, hu, hxu⟩ := part_sim hT hpx hx w
      obtain ⟨v, hv, hyv⟩ := part_sim hT hpy hy w
      split at h
      · rename_i he
        have e := hc _ _ _ _ _ _ he hxu hyv
        have ih := eqAt_sim hT hc hx hy n (i + 1) b h
        simp [hu, hv, e, ih]
      · rename_i he
        cases h
        have e := hc _ _ _ _ _ _ he hxu hyv
        simp [hu, hv, e]
      · cases h
    · cases h

set_option maxHeartbeats 4000000 in
theorem eqA_sim (hT : TOk P T) : ∀ (n d t : Nat) (x y : AV) (b : Bool) (u v : Value), n ≤ d → eqA T n t x y = some b → VR G x u → VR G y v → (Op.equalIn d t u v).run P w = .ok b w := by
  intro n
  induction n with
  | zero => intro d t x y b u v _ h; simp [eqA] at h
  | succ n ih =>
    intro d t x y b u v hd h hx hy
    obtain ⟨d, rfl⟩ : ∃ m, d = m + 1 := ⟨d - 1, by omega⟩
    simp only [eqA] at h
    split at h
    · cases h
    · rename_i ti hti
      obtain ⟨inf, de, z, g1, g2, g3, g4, g5, g6, g7, g8, g9, g10, g11⟩ := hT t ti hti
      split at h
      · rename_i a c hk
        rw [hk] at g3; have hd := tk_bool g3; subst hd
        cases hx; cases hy; cases h
        simp [Op.equalIn, run_underlying g2]
      · rename_i kk k a j c hk
        rw [hk] at g3; have hd := tk_int g3; subst hd
        cases hx; cases hy
        split at h
        · rename_i hkj
          cases h
          have : k = j := by simpa using hkj
          subst this
          simp [Op.equalIn, run_underlying g2]
        · cases h
      · rename_i a c hk
        rw [hk] at g3; have hd := tk_str g3; subst hd
        cases hx; cases hy; cases h
        simp [Op.equalIn, run_underlying g2]
      · rename_i e hk
        rw [hk] at g3; have hd := tk_ptr g3; subst hd
        cases hx; cases hy; cases h
        simp [Op.equalIn, run_underlying g2]
      · rename_i e _ _ hk
        rw [hk] at g3; have hd := tk_ptr g3; subst hd
        cases hx; cases hy; cases h
        simp [Op.equalIn, run_underlying g2]
      · rename_i e _ _ _ hk
        rw [hk] at g3; have hd := tk_ptr g3; subst hd
        cases hx; cases hy; cases h
        simp [Op.equalIn, run_underlying g2]
      · rename_i e _ _ hk
        rw [hk] at g3; have hd := tk_ptr g3; subst hd
        cases hx; cases hy; cases h
        simp [Op.equalIn, run_underlying g2]
      · rename_i e _ _ _ hk
        rw [hk] at g3; have hd := tk_ptr g3; subst hd
        cases hx; cases hy; cases h
        simp [Op.equalIn, run_underlying g2]
      · rename_i e hk
        rw [hk] at g3; have hd := tk_slice g3; subst hd
        cases hx; cases hy; cases h
        simp [Op.equalIn, run_underlying g2]
      · rename_i e _ _ hk
        rw [hk] at g3; have hd := tk_slice g3; subst hd
        cases hx; cases hy; cases h
        simp [Op.equalIn, run_underlying g2]
      · rename_i e _ _ _ _ hk
        rw [hk] at g3; have hd := tk_slice g3; subst hd
        cases hx; cases hy; cases h
        simp [Op.equalIn, run_underlying g2]
      · rename_i e _ _ hk
        rw [hk] at g3; have hd := tk_slice g3; subst hd
        cases hx; cases hy; cases h
        simp [Op.equalIn, run_underlying g2]
      · rename_i e _ _ _ _ hk
        rw [hk] at g3; have hd := tk_slice g3; subst hd
        cases hx; cases hy; cases h
        simp [Op.equalIn, run_underlying g2]
      · rename_i _ _ hk
        rw [hk] at g3; obtain ⟨m, hd⟩ := tk_iface g3; subst hd
        cases hx; cases hy; cases h
        simp [Op.equalIn, run_underlying g2]
      · rename_i _ _ hk
        rw [hk] at g3; obtain ⟨m, hd⟩ := tk_iface g3; subst hd
        cases hx; cases hy; cases h
        simp [Op.equalIn, run_underlying g2]
      · rename_i u' a v' c hk
        rw [hk] at g3; obtain ⟨m, hd⟩ := tk_iface g3; subst hd
        cases hx; cases hy
        rename_i va hva vb hvb
        split at h
        · rename_i hne
          cases h
          have hne' : u' ≠ v' := by simpa using hne
          simp [Op.equalIn, run_underlying g2, hne']
        · rename_i heq
          have heq' : u' = v' := by simpa using heq
          subst heq'
          split at h
          · rename_i tu htu
            split at h
            · rename_i hpl
              obtain ⟨inf', de', z', q1, _, _, _, _, _, _, _, _, _, q11⟩ := hT u' tu htu
              have hcmp := (q11 hpl).1
              have e := ih d u' a c b _ _ (by omega) h hva hvb
              simp [Op.equalIn, run_underlying g2, r_typeInfo q1, hcmp, e]
            · cases h
          · cases h
      · rename_i e a o c q hk
        rw [hk] at g3; have hd := tk_ptr g3; subst hd
        cases hx; cases hy
        rename_i c1 n1 hr1 c2 n2 hr2
        split at h
        · rename_i te hab hte
          have hab' : a = c := by simpa using hab
          subst hab'
          rw [hr1] at hr2; cases hr2
          split at h
          · rename_i hsz
            have hsz' : te.size ≠ 0 := by simpa using hsz
            cases h
            simp only [Op.equalIn, Sem.run_bind, run_underlying g2, Result.andThen_ok, r_sizeOf hT hte, ne_eq, hsz', not_false_eq_true, if_true, Sem.run_ite, sameAddr]
            simp
            rw [Bool.eq_iff_iff]; simp
          · cases h
        · cases h
      · rename_i hk
        rw [hk] at g3; obtain ⟨a, b', c, hd⟩ := tk_func g3; subst hd
        cases hx; cases hy; cases h
        simp [Op.equalIn, run_underlying g2]
      · rename_i _ _ _ hk
        rw [hk] at g3; obtain ⟨a, b', c, hd⟩ := tk_func g3; subst hd
        cases hx; cases hy; cases h
        simp [Op.equalIn, run_underlying g2]
      · rename_i _ _ _ hk
        rw [hk] at g3; obtain ⟨a, b', c, hd⟩ := tk_func g3; subst hd
        cases hx; cases hy; cases h
        simp [Op.equalIn, run_underlying g2]
      · rename_i hk
        rw [hk] at g3; have hd := tk_map g3; subst hd
        cases hx; cases hy; cases h
        simp [Op.equalIn, run_underlying g2]
      · rename_i hk
        rw [hk] at g3; have hd := tk_map g3; subst hd
        cases hx; cases hy; cases h
        simp [Op.equalIn, run_underlying g2]
      · rename_i hk
        rw [hk] at g3; have hd := tk_map g3; subst hd
        cases hx; cases hy; cases h
        simp [Op.equalIn, run_underlying g2]
      · rename_i fs xs ys hk
        split at h
        · rename_i hpl
          rw [hk] at g3; obtain ⟨fl, hd, hfs⟩ := tk_struct g3; subst hd
          cases hx; cases hy
          rename_i us hx vs hy
          have hst := (g11 hpl).2.1
          have hfo : P.fieldsOf t = fl := by simp [Program.fieldsOf, g2]
          rw [run_equalIn_struct w d t _ _ (by rw [hfo]; exact g2) hst, hfo]
          rw [hfs] at h
          exact eqFs_sim hT (fun t x y b u v h1 h2 h3 => ih d t x y b u v (by omega) h1 h2 h3) hx hy _ b h
        · cases h
      · rename_i len e xs ys hk
        split at h
        · rename_i te hpl hte
          rw [hk] at g3; have hd := tk_arr g3; subst hd
          cases hx; cases hy
          rename_i us hx vs hy
          obtain ⟨inf', de', z', q1, q2, q3, q4, _⟩ := hT e te hte
          rw [run_equalIn_array w d _ _ g2 q1]
          have hcs : P.cellsOf e = te.size := by simp [Program.cellsOf, q1, q4]
          rw [hcs, List.range_eq_range']
          exact eqAt_sim hT (fun t x y b u v h1 h2 h3 => ih d t x y b u v (by omega) h1 h2 h3) hx hy _ _ b h
        · cases h
      · cases h

end
end Go.Am
