/- The abstract machine: a region that draws its order, whatever order. -/
import Derived.Test.YtmbkcjnjjlkidaaGreatDoorAmRegion3
namespace Go.Am
set_option linter.unusedVariables false
set_option linter.unusedSimpArgs false
open Go.RowKit

/-! ### What an operation looks at -/
section
variable {T : Tr TI} {h : Tr Blk} {e e' : Env}

theorem ev_congr {x : Operand} (hx : ∀ t, x = .tmp t → e.get t = e'.get t) : ev e x = ev e' x := by
  cases x with
  | tmp t => simp only [ev, hx t rfl]
  | _ => rfl

theorem evs_congr : ∀ (xs : List Operand), (∀ t, .tmp t ∈ xs → e.get t = e'.get t) → evs e xs = evs e' xs
  | [], _ => rfl
  | x :: xs, hx => by
    simp only [evs]
    rw [ev_congr (x := x) (fun t ht => hx t (by simp [ht])), evs_congr xs (fun t ht => hx t (by simp [ht]))]

theorem evParts_congr : ∀ (xs : List (Nat × Operand)), (∀ t, .tmp t ∈ xs.map (·.2) → e.get t = e'.get t) → evParts e xs = evParts e' xs
  | [], _ => rfl
  | (i, x) :: xs, hx => by
    simp only [evParts]
    rw [ev_congr (x := x) (fun t ht => hx t (by simp [ht])), evParts_congr xs (fun t ht => hx t (by simp only [List.map_cons, List.mem_cons]; exact .inr ht))]

theorem evOpt_congr {x : Option Operand} (hx : ∀ t, .tmp t ∈ x.toList → e.get t = e'.get t) : evOpt e x = evOpt e' x := by
  cases x with
  | none => rfl
  | some x => simp only [evOpt]; rw [ev_congr (x := x) (fun t ht => hx t (by simp [ht]))]

theorem stillOp_congr {o : Op} (hx : ∀ t, .tmp t ∈ o.operands.toList → e.get t = e'.get t) : stillOp T h e o = stillOp T h e' o := by
  cases o <;> simp only [Op.operands] at hx <;> simp only [stillOp]
  case move x => exact ev_congr fun t ht => hx t (by simp [ht])
  case assign x => exact ev_congr fun t ht => hx t (by simp [ht])
  case pick c a b =>
    rw [ev_congr (x := c) (e := e) (e' := e') fun t ht => hx t (by simp [ht]), ev_congr (x := a) (e := e) (e' := e') fun t ht => hx t (by simp [ht]), ev_congr (x := b) (e := e) (e' := e') fun t ht => hx t (by simp [ht])]
  case build t ps => rw [evParts_congr ps.toList fun t ht => hx t (by simpa using ht)]
  case buildSlice t n ps => rw [evParts_congr ps.toList fun t ht => hx t (by simpa using ht)]
  case load t x => rw [ev_congr (x := x) fun t ht => hx t (by simp [ht])]
  case nilCheck x => rw [ev_congr (x := x) fun t ht => hx t (by simp [ht])]
  case binOp op t x y t2 => rw [ev_congr (x := x) (e := e) (e' := e') fun t ht => hx t (by simp [ht]), ev_congr (x := y) (e := e) (e' := e') fun t ht => hx t (by simp [ht])]
  case unOp op t x => rw [ev_congr (x := x) fun t ht => hx t (by simp [ht])]
  case convert s d x => rw [ev_congr (x := x) fun t ht => hx t (by simp [ht])]
  case makeInterface t x => rw [ev_congr (x := x) fun t ht => hx t (by simp [ht])]
  case makeFunc fn a b => rw [evs_congr a.toList (e := e) (e' := e') fun t ht => hx t (by simp; exact .inl (by simpa using ht)), evs_congr b.toList (e := e) (e' := e') fun t ht => hx t (by simp; exact .inr (by simpa using ht))]
  case slice t x lo hi mx =>
    rw [ev_congr (x := x) (e := e) (e' := e') fun t ht => hx t (by simp [ht]), evOpt_congr (x := lo) (e := e) (e' := e') fun t ht => hx t (by simp at ht ⊢; simp [ht]), evOpt_congr (x := hi) (e := e) (e' := e') fun t ht => hx t (by simp at ht ⊢; simp [ht]),
      evOpt_congr (x := mx) (e := e) (e' := e') fun t ht => hx t (by simp at ht ⊢; simp [ht])]
  case fieldAddr s x f => rw [ev_congr (x := x) fun t ht => hx t (by simp [ht])]
  case field s x f => rw [ev_congr (x := x) fun t ht => hx t (by simp [ht])]
  case indexAddr t x i => rw [ev_congr (x := x) (e := e) (e' := e') fun t ht => hx t (by simp [ht]), ev_congr (x := i) (e := e) (e' := e') fun t ht => hx t (by simp [ht])]
  case index t x i => rw [ev_congr (x := x) (e := e) (e' := e') fun t ht => hx t (by simp [ht]), ev_congr (x := i) (e := e) (e' := e') fun t ht => hx t (by simp [ht])]
  case typeAssert x t u ok => rw [ev_congr (x := x) fun t ht => hx t (by simp [ht])]
  case extract x i => rw [ev_congr (x := x) fun t ht => hx t (by simp [ht])]
  case call c => rw [evs_congr c.args.toList fun t ht => hx t (by simp [Call.operands]; exact .inr (by simpa using ht))]

theorem loudOp_congr {C : Ctx} {m : List Nat} {call : Nat → List AV → St → Option (Res × St)} {s : St} {o : Oper} (hx : ∀ t, .tmp t ∈ o.op.operands.toList → e.get t = e'.get t) : loudOp C m call e s o = loudOp C m call e' s o := by
  obtain ⟨dst, op, type, pos, after, guard⟩ := o
  cases op <;> simp only [Op.operands] at hx <;> simp only [loudOp]
  case box t x => rw [ev_congr (x := x) fun t ht => hx t (by simp [ht])]
  case buildSlice t n ps => rw [evParts_congr ps.toList fun t ht => hx t (by simpa using ht)]
  case store t x y => rw [ev_congr (x := x) (e := e) (e' := e') fun t ht => hx t (by simp [ht]), ev_congr (x := y) (e := e) (e' := e') fun t ht => hx t (by simp [ht])]
  case range t x => rw [ev_congr (x := x) fun t ht => hx t (by simp [ht])]
  case next x b => cases b <;> simp only [] <;> rw [ev_congr (x := x) fun t ht => hx t (by simp [ht])]
  case makeSlice t x y => rw [ev_congr (x := x) (e := e) (e' := e') fun t ht => hx t (by simp [ht]), ev_congr (x := y) (e := e) (e' := e') fun t ht => hx t (by simp [ht])]
  case panic x => rw [ev_congr (x := x) fun t ht => hx t (by simp [ht])]
  case call c =>
    rw [evs_congr c.args.toList fun t ht => hx t (by simp [Call.operands]; exact .inr (by simpa using ht))]
    split
    · rfl
    · split
      · rfl
      · rename_i f hf
        rw [ev_congr (x := f) (e := e) (e' := e') fun t ht => hx t (by simp [Call.operands, hf, ht])]
      · rfl

theorem wantedA_congr {ops : Array Oper} {o : Oper} (hx : ∀ t ∈ o.looksAt ops, e.get t = e'.get t) : wantedA ops.toList e o = wantedA ops.toList e' o := by
  unfold wantedA
  cases hg : o.guard with
  | none => rfl
  | some g =>
    obtain ⟨j, want⟩ := g
    have : yieldedA ops.toList e j = yieldedA ops.toList e' j := by
      simp only [yieldedA]
      cases hj : ops.toList[j]? with
      | none => rfl
      | some q =>
        simp only [Option.bind_some]
        cases hd : q.dst with
        | none => rfl
        | some d =>
          simp only [Option.bind_some]
          have hj' : ops[j]? = some q := by simpa using hj
          rw [hx d (by simp [Oper.looksAt, hg, hj', hd])]
    simp only [this]

theorem looks_operand {ops : Array Oper} {o : Oper} {t : Nat} (h : .tmp t ∈ o.op.operands.toList) : t ∈ o.looksAt ops := by
  unfold Oper.looksAt
  refine List.mem_append_left _ ?_
  rw [List.mem_filterMap]
  exact ⟨.tmp t, h, rfl⟩
end

end Go.Am
