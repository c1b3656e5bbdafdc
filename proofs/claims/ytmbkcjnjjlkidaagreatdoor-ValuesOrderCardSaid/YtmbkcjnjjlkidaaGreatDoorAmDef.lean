/- The abstract machine: a deterministic evaluator of loaded Go functions over abstract values. Definitions only. -/
import Derived.Calls
import Derived.Orders
namespace Go.Am

/-- A finite map from numbers, as a binary tree. -/
inductive Tr (α : Type) where
  | nil
  | node (v : Option α) (l r : Tr α)
  | cnil
  | cons (k : Nat) (v : α) (t : Tr α)

namespace Tr
def get {α : Type} : Tr α → Nat → Option α
  | .nil, _ => none
  | .node v _ _, 0 => v
  | .node _ l r, k + 1 => match k % 2 with
    | 0 => l.get (k / 2)
    | _ => r.get (k / 2)
  | .cnil, _ => none
  | .cons k v t, j => match Nat.beq j k with
    | true => some v
    | false => t.get j

def setF {α : Type} : Nat → Tr α → Nat → α → Tr α
  | 0, t, _, _ => t
  | _ + 1, .nil, 0, x => .node (some x) .nil .nil
  | _ + 1, .node _ l r, 0, x => .node (some x) l r
  | f + 1, .nil, k + 1, x => match k % 2 with
    | 0 => .node none (setF f .nil (k / 2) x) .nil
    | _ => .node none .nil (setF f .nil (k / 2) x)
  | f + 1, .node v l r, k + 1, x => match k % 2 with
    | 0 => .node v (setF f l (k / 2) x) r
    | _ => .node v l (setF f r (k / 2) x)
  | _ + 1, .cnil, k, x => .cons k x .cnil
  | _ + 1, .cons a b t, k, x => .cons k x (.cons a b t)

def set {α : Type} (t : Tr α) (k : Nat) (x : α) : Tr α := match t with
  | .cnil => .cons k x .cnil
  | .cons a b t => .cons k x (.cons a b t)
  | t => setF (k + 1) t k x

theorem get_cons {α : Type} (k : Nat) (v : α) (t : Tr α) (j : Nat) : (Tr.cons k v t).get j = if j = k then some v else t.get j := by
  simp only [get]
  by_cases h : j = k
  · subst h
    rw [if_pos rfl, show Nat.beq j j = true from Nat.beq_refl j]
  · rw [if_neg h]
    cases hb : Nat.beq j k with
    | true => exact absurd (Nat.eq_of_beq_eq_true hb) h
    | false => rfl

theorem get_nil {α : Type} (k : Nat) : (Tr.nil : Tr α).get k = none := by cases k <;> rfl

theorem get_setF {α : Type} (x : α) : ∀ (f : Nat) (t : Tr α) (k j : Nat), k < f → (setF f t k x).get j = if j = k then some x else t.get j := by
  intro f
  induction f with
  | zero => intro t k j h; omega
  | succ f ih =>
    intro t k j h
    cases t with
    | nil =>
      cases k with
      | zero =>
        cases j with
        | zero => simp [setF, get]
        | succ j => simp only [setF, get]; rw [if_neg (by omega)]; split <;> rfl
      | succ k =>
        simp only [setF]
        cases hk : k % 2 with
        | zero =>
          cases j with
          | zero => simp [get]
          | succ j =>
            simp only [get]
            cases hj : j % 2 with
            | zero =>
              simp only []
              rw [ih _ _ _ (by omega)]
              by_cases e : j = k
              · subst e; simp
              · rw [if_neg (by omega), if_neg (by omega), get_nil]
            | succ m => simp only []; rw [if_neg (by omega)]
        | succ m =>
          cases j with
          | zero => simp [get]
          | succ j =>
            simp only [get]
            cases hj : j % 2 with
            | zero => simp only []; rw [if_neg (by omega)]
            | succ m' =>
              simp only []
              rw [ih _ _ _ (by omega)]
              by_cases e : j = k
              · subst e; simp
              · rw [if_neg (by omega), if_neg (by omega), get_nil]
    | node v l r =>
      cases k with
      | zero => cases j <;> simp [setF, get]
      | succ k =>
        simp only [setF]
        cases hk : k % 2 with
        | zero =>
          cases j with
          | zero => simp [get]
          | succ j =>
            simp only [get]
            cases hj : j % 2 with
            | zero =>
              simp only []
              rw [ih _ _ _ (by omega)]
              by_cases e : j = k
              · subst e; simp
              · rw [if_neg (by omega), if_neg (by omega)]
            | succ m => simp only []; rw [if_neg (by omega)]
        | succ m =>
          cases j with
          | zero => simp [get]
          | succ j =>
            simp only [get]
            cases hj : j % 2 with
            | zero => simp only []; rw [if_neg (by omega)]
            | succ m' =>
              simp only []
              rw [ih _ _ _ (by omega)]
              by_cases e : j = k
              · subst e; simp
              · rw [if_neg (by omega), if_neg (by omega)]
    | cnil => simp only [setF]; exact get_cons k x .cnil j
    | cons a b t => simp only [setF]; exact get_cons k x (.cons a b t) j

theorem get_set {α : Type} (t : Tr α) (k : Nat) (x : α) (j : Nat) : (t.set k x).get j = if j = k then some x else t.get j := by
  cases t with
  | nil => exact get_setF x (k + 1) .nil k j (by omega)
  | node v l r => exact get_setF x (k + 1) (.node v l r) k j (by omega)
  | cnil => exact get_cons k x .cnil j
  | cons a b t => exact get_cons k x (.cons a b t) j
theorem get_set_same {α : Type} (t : Tr α) (k : Nat) (x : α) : (t.set k x).get k = some x := by rw [get_set, if_pos rfl]
theorem get_set_ne {α : Type} (t : Tr α) (k : Nat) (x : α) (j : Nat) (h : j ≠ k) : (t.set k x).get j = t.get j := by rw [get_set, if_neg h]

/-- The pairs of a list. -/
def ofList {α : Type} : List (Nat × α) → Tr α
  | [] => .cnil
  | (k, x) :: rest => .cons k x (ofList rest)
end Tr

/-- May a slice be appended to? full: its capacity is its length; tag t: while t lives; dead: no. -/
inductive SK where
  | full
  | tag (t : Nat)
  | dead

inductive AV where
  | bool (b : Bool)
  | int (k : IntKind) (n : Int)
  | str (s : ByteArray)
  | nilp
  | ptr (b off : Nat)
  | elem (xs : List AV) (i off : Nat)
  | nils
  | sl (xs : List AV) (k : SK)
  | ms (b off len sz : Nat)
  | nilm
  | map (b : Nat)
  | nilf
  | fn (f : Fn) (first cap : List AV)
  | nili
  | ifc (t : Nat) (v : AV)
  | agg (cs : List AV)
  | tup (vs : List AV)
  deriving Inhabited

def SK.beq : SK → SK → Bool
  | .full, .full => true
  | .tag a, .tag b => a == b
  | .dead, .dead => true
  | _, _ => false

theorem SK.eq_of_beq : ∀ {a b : SK}, SK.beq a b = true → a = b := by
  intro a b h; cases a <;> cases b <;> simp_all [SK.beq]
theorem SK.beq_refl (a : SK) : SK.beq a a = true := by cases a <;> simp [SK.beq]

mutual
def AV.beq : AV → AV → Bool
  | .bool a, .bool b => a == b
  | .int k a, .int j b => decide (k = j) && decide (a = b)
  | .str a, .str b => decide (a.data.toList = b.data.toList)
  | .nilp, .nilp => true
  | .ptr a b, .ptr c d => a == c && b == d
  | .elem xs i o, .elem ys j p => AV.beqs xs ys && i == j && o == p
  | .nils, .nils => true
  | .sl xs k, .sl ys j => AV.beqs xs ys && SK.beq k j
  | .ms a b c z, .ms d e f y => a == d && b == e && c == f && z == y
  | .nilm, .nilm => true
  | .map a, .map b => a == b
  | .nilf, .nilf => true
  | .fn f xs ys, .fn g us vs => decide (f = g) && AV.beqs xs us && AV.beqs ys vs
  | .nili, .nili => true
  | .ifc t v, .ifc u w => t == u && AV.beq v w
  | .agg xs, .agg ys => AV.beqs xs ys
  | .tup xs, .tup ys => AV.beqs xs ys
  | _, _ => false
def AV.beqs : List AV → List AV → Bool
  | [], [] => true
  | x :: xs, y :: ys => AV.beq x y && AV.beqs xs ys
  | _, _ => false
end

mutual
theorem AV.eq_of_beq : ∀ (a b : AV), AV.beq a b = true → a = b
  | .bool a, b, h => by cases b <;> simp_all [AV.beq]
  | .int k a, b, h => by cases b <;> simp_all [AV.beq]
  | .str a, b, h => by
    cases b <;> simp only [AV.beq, Bool.false_eq_true, decide_eq_true_eq] at h
    rename_i b
    obtain ⟨⟨a⟩⟩ := a; obtain ⟨⟨b⟩⟩ := b
    simp at h; rw [h]
  | .nilp, b, h => by cases b <;> simp_all [AV.beq]
  | .ptr a c, b, h => by cases b <;> simp_all [AV.beq]
  | .elem xs i o, b, h => by
    cases b <;> simp only [AV.beq, Bool.false_eq_true, Bool.and_eq_true, beq_iff_eq] at h
    rw [AV.eq_of_beqs _ _ h.1.1, h.1.2, h.2]
  | .nils, b, h => by cases b <;> simp_all [AV.beq]
  | .sl xs k, b, h => by
    cases b <;> simp only [AV.beq, Bool.false_eq_true, Bool.and_eq_true] at h
    rw [AV.eq_of_beqs _ _ h.1, SK.eq_of_beq h.2]
  | .ms a c d z, b, h => by cases b <;> simp_all [AV.beq]
  | .nilm, b, h => by cases b <;> simp_all [AV.beq]
  | .map a, b, h => by cases b <;> simp_all [AV.beq]
  | .nilf, b, h => by cases b <;> simp_all [AV.beq]
  | .fn f xs ys, b, h => by
    cases b <;> simp only [AV.beq, Bool.false_eq_true, Bool.and_eq_true, decide_eq_true_eq] at h
    rw [h.1.1, AV.eq_of_beqs _ _ h.1.2, AV.eq_of_beqs _ _ h.2]
  | .nili, b, h => by cases b <;> simp_all [AV.beq]
  | .ifc t v, b, h => by
    cases b <;> simp only [AV.beq, Bool.false_eq_true, Bool.and_eq_true, beq_iff_eq] at h
    rw [h.1, AV.eq_of_beq _ _ h.2]
  | .agg xs, b, h => by
    cases b <;> simp only [AV.beq, Bool.false_eq_true] at h
    rw [AV.eq_of_beqs _ _ h]
  | .tup xs, b, h => by
    cases b <;> simp only [AV.beq, Bool.false_eq_true] at h
    rw [AV.eq_of_beqs _ _ h]
theorem AV.eq_of_beqs : ∀ (a b : List AV), AV.beqs a b = true → a = b
  | [], b, h => by cases b <;> simp_all [AV.beqs]
  | x :: xs, b, h => by
    cases b <;> simp only [AV.beqs, Bool.false_eq_true, Bool.and_eq_true] at h
    rw [AV.eq_of_beq _ _ h.1, AV.eq_of_beqs _ _ h.2]
end

mutual
theorem AV.beq_refl : ∀ (a : AV), AV.beq a a = true
  | .bool a => by simp [AV.beq]
  | .int k a => by simp [AV.beq]
  | .str a => by simp [AV.beq]
  | .nilp => by simp [AV.beq]
  | .ptr a c => by simp [AV.beq]
  | .elem xs i o => by simp [AV.beq, AV.beqs_refl xs]
  | .nils => by simp [AV.beq]
  | .sl xs k => by simp [AV.beq, AV.beqs_refl xs, SK.beq_refl]
  | .ms a c d z => by simp [AV.beq]
  | .nilm => by simp [AV.beq]
  | .map a => by simp [AV.beq]
  | .nilf => by simp [AV.beq]
  | .fn f xs ys => by simp [AV.beq, AV.beqs_refl xs, AV.beqs_refl ys]
  | .nili => by simp [AV.beq]
  | .ifc t v => by simp [AV.beq, AV.beq_refl v]
  | .agg xs => by simp [AV.beq, AV.beqs_refl xs]
  | .tup xs => by simp [AV.beq, AV.beqs_refl xs]
theorem AV.beqs_refl : ∀ (a : List AV), AV.beqs a a = true
  | [] => by simp [AV.beqs]
  | x :: xs => by simp [AV.beqs, AV.beq_refl x, AV.beqs_refl xs]
end

end Go.Am
