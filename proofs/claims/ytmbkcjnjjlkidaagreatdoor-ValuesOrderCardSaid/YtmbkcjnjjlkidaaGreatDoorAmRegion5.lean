/- The abstract machine: a region that draws its order does what its run in the order of the text does. -/
import Derived.Test.YtmbkcjnjjlkidaaGreatDoorAmRegion4
namespace Go.Am
open Go.RowKit

def edgesOk (ops : List Oper) : Bool := (List.range ops.length).all fun j => match ops[j]? with
  | some o => o.after.toList.all fun e => !Region.binds .any e || decide (e.on < j)
  | none => true

def pairsOk (m : List Nat) (ops : Array Oper) : Bool := (List.range ops.size).all fun j => match ops[j]? with
  | some y => let mask := (masksL [] ops.toList).getD j 0
    (List.range j).all fun i => match ops[i]? with
      | some x => mask.testBit i || (x.apart ops y && (isStill m x || isStill m y))
      | none => true
  | none => true

def regionOk (m : List Nat) (ops : Array Oper) : Bool := edgesOk ops.toList && pairsOk m ops

section
variable {P : Program} {B : Nat → Prop} {NG : Nat} {w0 : World} {C : Ctx} {m : List Nat} {good : (Nat → List AV → St → Option (Res × St)) → Prop} {ops : Array Oper}

theorem edgesOk_spec {l : List Oper} (h : edgesOk l = true) {j : Nat} {o : Oper} (ho : l[j]? = some o) : ∀ e ∈ o.after.toList, Region.binds .any e = true → e.on < j := by
  intro e he hb
  unfold edgesOk at h
  rw [List.all_eq_true] at h
  have := h j (by rw [List.mem_range]; exact (List.getElem?_eq_some_iff.1 ho).1)
  rw [ho] at this
  simp only [List.all_eq_true] at this
  have := this e he
  rw [hb] at this
  simpa using this

theorem pairsOk_spec (h : pairsOk m ops = true) {i j : Nat} {x y : Oper} (hij : i < j) (hx : ops[i]? = some x) (hy : ops[j]? = some y) (hb : ((masksL [] ops.toList).getD j 0).testBit i = false) :
    x.apart ops y = true ∧ (isStill m x = true ∨ isStill m y = true) := by
  unfold pairsOk at h
  rw [List.all_eq_true] at h
  have := h j (by rw [List.mem_range]; exact (Array.getElem?_eq_some_iff.1 hy).1)
  rw [hy] at this
  simp only [List.all_eq_true] at this
  have := this i (by rw [List.mem_range]; exact hij)
  rw [hx] at this
  simp only [hb, Bool.false_or, Bool.and_eq_true, Bool.or_eq_true] at this
  exact this

def listedD (listed : Array Bool) (j : Nat) : Bool := listed.getD j false

/-- What holds when just the operations that are listed have been carried out. -/
structure Inv (P : Program) (B : Nat → Prop) (NG : Nat) (w0 : World) (C : Ctx) (m : List Nat) (ops : Array Oper) (R : List Rec) (e0 : Env) (s0 : St) (G : Gh) (a0 : Act) (listed : Array Bool) (a : Act) (w : World) : Prop where
  size : listed.size = ops.size
  closed : ∀ j o, ops.toList[j]? = some o → listedD listed j = true → ∀ e ∈ o.after.toList, Region.binds .any e = true → listedD listed e.on = true
  inside : ∀ j, listedD listed j = true → j < R.length
  rel : ∃ G', G.Le G' ∧ WR B w0 G' (stD m (listedD listed) 0 R s0) w ∧ GOk NG G' ∧ EnvR G' (envD (listedD listed) 0 R e0) a
  tmps : a.tmps.size = a0.tmps.size
  defers : a.defers = a0.defers

def left (listed : Array Bool) (n : Nat) : Nat := ((List.range n).filter fun i => !listed.getD i true).length

theorem filter_one {p q : Nat → Bool} {i : Nat} : ∀ (l : List Nat), l.Nodup → i ∈ l → p i = true → (∀ j, q j = (p j && decide (j ≠ i))) → (l.filter p).length = (l.filter q).length + 1
  | [], _, h, _, _ => by cases h
  | x :: l, hn, h, hp, hq => by
    rw [List.nodup_cons] at hn
    by_cases hx : x = i
    · subst hx
      have hqx : q x = false := by rw [hq]; simp
      have hrest : l.filter q = l.filter p := by
        apply List.filter_congr
        intro y hy
        have : y ≠ x := fun e => hn.1 (e ▸ hy)
        rw [hq]; simp [this]
      rw [List.filter_cons_of_pos hp, List.filter_cons_of_neg (by simp [hqx]), hrest]
      rfl
    · have hil : i ∈ l := by
        rcases List.mem_cons.1 h with h | h
        · exact absurd h.symm hx
        · exact h
      have ih := filter_one l hn.2 hil hp hq
      have hqx : q x = p x := by rw [hq]; simp [hx]
      cases hpx : p x with
      | true => rw [List.filter_cons_of_pos hpx, List.filter_cons_of_pos (by rw [hqx]; exact hpx)]; simp [ih]
      | false => rw [List.filter_cons_of_neg (by simp [hpx]), List.filter_cons_of_neg (by simp [hqx, hpx])]; exact ih

theorem left_set {listed : Array Bool} {n i : Nat} (hs : listed.size = n) (hi : listed.getD i true = false) : left listed n = left (listed.setIfInBounds i true) n + 1 := by
  have hlt : i < listed.size := by
    rcases Nat.lt_or_ge i listed.size with h | h
    · exact h
    · simp [Array.getElem?_eq_none h] at hi
  refine filter_one (i := i) (List.range n) List.nodup_range (by rw [List.mem_range]; omega) (by simp at hi ⊢; exact hi) (fun j => ?_)
  by_cases hj : j = i
  · subst hj; simp [hlt]
  · rw [getD_set_ne true (fun e => hj e.symm)]; simp [hj]

theorem left_zero {listed : Array Bool} {n : Nat} (h : left listed n = 0) : ∀ j, j < n → listed.getD j true = true := by
  intro j hj
  unfold left at h
  have := List.eq_nil_of_length_eq_zero h
  rw [List.filter_eq_nil_iff] at this
  have := this j (by rw [List.mem_range]; exact hj)
  simpa using this

end
end Go.Am
