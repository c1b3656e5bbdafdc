/- The abstract machine: more fuel tells the same. -/
import Derived.Test.YtmbkcjnjjlkidaaGreatDoorAmEval
namespace Go.Am

theorem loudOp_mono {C : Ctx} {m : List Nat} {call call' : Nat → List AV → St → Option (Res × St)} (hc : ∀ f args s x, call f args s = some x → call' f args s = some x) {e : Env} {s : St} {o : Oper} {x : Res × St}
    (h : loudOp C m call e s o = some x) : loudOp C m call' e s o = some x := by
  cases hop : o.op with
  | call c =>
    simp only [loudOp, hop] at h ⊢
    cases hargs : evs e c.args.toList with
    | none => simp only [hargs] at h; cases h
    | some args =>
      simp only [hargs] at h ⊢
      cases hcal : c.callee with
      | builtin b => simp only [hcal] at h ⊢; exact h
      | invoke a b => simp only [hcal] at h; cases h
      | value f =>
        simp only [hcal] at h ⊢
        split at h
        · rename_i fid first cap hv
          exact hc _ _ _ _ h
        · cases h
  | next it b => cases b <;> simp only [loudOp, hop] at h ⊢ <;> exact h
  | _ => simp only [loudOp, hop] at h ⊢; exact h

section
variable {C : Ctx} {fn : AFun} {n : Nat} {e : Env} {s : St}
theorem evCode_seq {a b : Code} : evCode C fn (n + 1) (.seq a b) e s = (match evCode C fn n a e s with
  | some (.normal, e', s') => evCode C fn n b e' s'
  | r => r) := rfl
theorem evCode_cond {x : Operand} {a b : Code} : evCode C fn (n + 1) (.cond x a b) e s = (match ev e x with
  | some (.bool true) => evCode C fn n a e s
  | some (.bool false) => evCode C fn n b e s
  | _ => none) := rfl
theorem evCode_block {id : Nat} {a : Code} : evCode C fn (n + 1) (.block id a) e s = (match evCode C fn n a e s with
  | some (.exit j, e', s') => match j == id with
    | true => some (.normal, e', s')
    | false => some (.exit j, e', s')
  | r => r) := rfl
theorem evCode_loop {a : Code} : evCode C fn (n + 1) (.loop a) e s = (match evCode C fn n a e s with
  | some (.normal, e', s') => evCode C fn n (.loop a) e' s'
  | r => r) := rfl
theorem evCode_region {id : Nat} {ops : Array Oper} {draw : Bool} : evCode C fn (n + 1) (.region id ops draw) e s = evOps C fn n ops.toList draw (masksL [] ops.toList) ops.toList 0 [] e s := rfl
end

theorem fuel_mono {C : Ctx} : ∀ n, (∀ f args s x, callA C n f args s = some x → callA C (n + 1) f args s = some x) ∧ (∀ fn c e s x, evCode C fn n c e s = some x → evCode C fn (n + 1) c e s = some x) ∧
    (∀ fn all draw masks ops i met e s x, evOps C fn n all draw masks ops i met e s = some x → evOps C fn (n + 1) all draw masks ops i met e s = some x) := by
  intro n
  induction n with
  | zero => exact ⟨fun _ _ _ _ h => by simp [callA] at h, fun _ _ _ _ _ h => by simp [evCode] at h, fun _ _ _ _ _ _ _ _ _ _ h => by simp [evOps] at h⟩
  | succ n ih =>
    obtain ⟨ih1, ih2, ih3⟩ := ih
    refine ⟨fun f args s x h => ?_, fun fn c e s x h => ?_, fun fn all draw masks ops i met e s x h => ?_⟩
    · simp only [callA] at h ⊢
      split at h
      · exact h
      · split at h
        · cases h
        · rename_i fn hfn
          cases hr : evCode C fn n fn.body (initEnv args 0 .nil) s with
          | none => rw [hr] at h; cases h
          | some y => rw [hr] at h; rw [ih2 _ _ _ _ _ hr]; exact h
    · cases c
      case region id ops draw => rw [evCode_region] at h ⊢; exact ih3 _ _ _ _ _ _ _ _ _ _ h
      case seq a b =>
        rw [evCode_seq] at h ⊢
        cases hr : evCode C fn n a e s with
        | none => rw [hr] at h; cases h
        | some y =>
          rw [hr] at h; rw [ih2 _ _ _ _ _ hr]
          obtain ⟨ex, e', s'⟩ := y
          cases ex <;> first | exact h | exact ih2 _ _ _ _ _ h
      case cond c a b =>
        rw [evCode_cond] at h ⊢
        split at h
        · exact ih2 _ _ _ _ _ h
        · exact ih2 _ _ _ _ _ h
        · cases h
      case block id a =>
        rw [evCode_block] at h ⊢
        cases hr : evCode C fn n a e s with
        | none => rw [hr] at h; cases h
        | some y => rw [hr] at h; rw [ih2 _ _ _ _ _ hr]; exact h
      case loop a =>
        rw [evCode_loop] at h ⊢
        cases hr : evCode C fn n a e s with
        | none => rw [hr] at h; cases h
        | some y =>
          rw [hr] at h; rw [ih2 _ _ _ _ _ hr]
          obtain ⟨ex, e', s'⟩ := y
          cases ex <;> first | exact h | exact ih2 _ _ _ _ _ h
      all_goals exact h
    · cases ops with
      | nil => simp only [evOps] at h ⊢; exact h
      | cons o rest =>
        simp only [evOps] at h ⊢
        split at h
        · cases h
        · rename_i hw; (try simp only [hw]); exact ih3 _ _ _ _ _ _ _ _ _ _ h
        · rename_i hw
          (try simp only [hw])
          split at h
          · rename_i hs
            (try simp only [hs])
            split at h
            · cases h
            · rename_i v hv
              (try simp only [hv])
              split at h
              · rename_i hd; (try simp only [hd]); exact ih3 _ _ _ _ _ _ _ _ _ _ h
              · rename_i hd
                (try simp only [hd])
                split at h
                · rename_i ho; (try simp only [ho]); exact ih3 _ _ _ _ _ _ _ _ _ _ h
                · cases h
          · rename_i hs
            (try simp only [hs])
            cases hl : loudOp C fn.mutDst (callA C n) e s o with
            | none => rw [hl] at h; cases h
            | some y =>
              rw [hl] at h
              rw [loudOp_mono ih1 hl]
              obtain ⟨r, s'⟩ := y
              simp only [] at h ⊢
              split at h
              · cases h
              · rename_i ho
                (try simp only [ho])
                cases r with
                | ret v => exact ih3 _ _ _ _ _ _ _ _ _ _ h
                | pan v => exact h

theorem callA_mono {C : Ctx} {n m f : Nat} {args : List AV} {s : St} {x : Res × St} (hnm : n ≤ m) (h : callA C n f args s = some x) : callA C m f args s = some x := by
  induction hnm with
  | refl => exact h
  | step _ ih => exact (fuel_mono _).1 _ _ _ _ ih
theorem evCode_mono {C : Ctx} {fn : AFun} {n m : Nat} {c : Code} {e : Env} {s : St} {x : Ex × Env × St} (hnm : n ≤ m) (h : evCode C fn n c e s = some x) : evCode C fn m c e s = some x := by
  induction hnm with
  | refl => exact h
  | step _ ih => exact (fuel_mono _).2.1 _ _ _ _ _ ih
theorem evOps_mono {C : Ctx} {fn : AFun} {n m : Nat} {all : List Oper} {draw : Bool} {masks : List Nat} {ops : List Oper} {i : Nat} {met : List Met} {e : Env} {s : St} {x : Ex × Env × St} (hnm : n ≤ m)
    (h : evOps C fn n all draw masks ops i met e s = some x) : evOps C fn m all draw masks ops i met e s = some x := by
  induction hnm with
  | refl => exact h
  | step _ ih => exact (fuel_mono _).2.2 _ _ _ _ _ _ _ _ _ _ ih

end Go.Am
