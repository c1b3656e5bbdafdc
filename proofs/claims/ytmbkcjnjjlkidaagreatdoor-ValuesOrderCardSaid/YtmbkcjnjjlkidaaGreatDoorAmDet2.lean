/- The abstract machine: a function's body; the evaluator's runs. -/
import Derived.Test.YtmbkcjnjjlkidaaGreatDoorAmDet
import Derived.Test.YtmbkcjnjjlkidaaGreatDoorAmMono
namespace Go.Am
open Go.RowKit

/-- How a body ends. -/
def bodyQ (S : Sys) (fn : AFun) (R : Res → St → Prop) : Ex → Env → St → Prop := fun ex e s => match ex with
  | .normal => ∃ r, finishA S.C fn e s = some r ∧ R r.1 r.2
  | .ret => ∃ r, finishA S.C fn e s = some r ∧ R r.1 r.2
  | .pan v => R (.pan v) s
  | _ => False

section
variable {S : Sys}

theorem init_get : ∀ (xs : List AV) (i : Nat) (e : Env) (t : Nat), (initEnv xs i e).get t = if i ≤ t ∧ t < i + xs.length then xs[t - i]? else e.get t := by
  intro xs
  induction xs with
  | nil => intro i e t; simp only [initEnv, List.length_nil]; rw [if_neg (by omega)]
  | cons x xs ih =>
    intro i e t
    simp only [initEnv, ih, List.length_cons, Tr.get_set]
    by_cases h1 : i + 1 ≤ t ∧ t < i + 1 + xs.length
    · rw [if_pos h1, if_pos (by omega), show t - i = (t - (i + 1)) + 1 by omega, List.getElem?_cons_succ]
    · rw [if_neg h1]
      by_cases h2 : t = i
      · subst h2; rw [if_pos rfl, if_pos (by omega)]; simp
      · rw [if_neg h2, if_neg (by omega)]

theorem body_det (hS : S.Ok) {f : Nat} {fn : AFun} (hf : S.F.get f = some fn) {args : List AV} {s : St} {ex : Ex} {e' : Env} {s2 : St} (h : Det S fn.mutDst fn.body (initEnv args 0 .nil) s ex e' s2) {r : Res} {s' : St}
    (hfin : match ex with
      | .normal => finishA S.C fn e' s2 = some (r, s')
      | .ret => finishA S.C fn e' s2 = some (r, s')
      | .pan v => r = .pan v ∧ s' = s2
      | _ => False) : CallDet S f args s r s' := by
  intro K w0 hK G w vs hw hg hvs
  obtain ⟨gfn, f1, f2, f3, f4, f5⟩ := hS.F f fn hf
  have hrun : (callFunc f vs.toArray).run S.P w = .ok (.enter f vs.toArray) w := by
    have f2' : ¬ gfn.name = "runtime.NumGoroutine" := by simpa using f2
    simp [callFunc, f1, f2', f3]
  unfold CallDoes
  rw [hrun]
  simp only []
  let a0 : Act := { tmps := vs.toArray ++ Array.replicate (gfn.ntmps - vs.toArray.size) undef, defers := [] }
  have hN : gfn.ntmps ≤ a0.tmps.size := by simp [a0]; omega
  have he : EnvR G (initEnv args 0 .nil) a0 := by
    intro t x hx
    rw [init_get] at hx
    have hl := hvs.length
    by_cases ht : t < args.length
    · rw [if_pos (by omega), Nat.sub_zero] at hx
      obtain ⟨v, h1, h2⟩ := hvs.get hx
      have hlt : t < vs.length := by omega
      have : a0.tmps.getD t undef = v := by
        simp only [a0, Array.getD_eq_getD_getElem?]
        rw [Array.getElem?_append_left (by simpa using hlt)]
        simp [h1]
      rw [this]; exact h2
    · rw [if_neg (by omega), Tr.get_nil] at hx
      cases hx
  refine calls_of_wp f1 f3 ?_
  refine wp_mono (h gfn.ntmps f5 K w0 hK G a0 w hw hg he hN) ?_
  rintro x a1 w1 ⟨G1, q1, q2, q3, q4⟩
  have done : EnvR G1 e' a1 → finishA S.C fn e' s2 = some (r, s') → a1.defers = [] ∧ ∃ v, (results gfn a1.tmps).run S.P w1 = .ok v w1 ∧ CallPost K w0 G s' r (.returned v) w1 := by
    intro he1 hfin
    refine ⟨q3, ?_⟩
    unfold finishA at hfin
    split at hfin
    · rename_i xs hxs
      obtain ⟨us, h1, h2⟩ := results_sim hS.T q2 he1 fn.results xs hxs
      have hres : (results gfn a1.tmps).run S.P w1 = .ok (if h : us.toArray.size = 1 then us.toArray[0] else .tuple us.toArray) w1 := by
        rw [results_eq, Sem.run_bind, Array.mapM_eq_mapM_toList, Sem.run_map, f4, h1]
        simp only [Result.andThen_ok, Sem.run_pure]
      refine ⟨_, hres, ?_⟩
      have hpk := pack_sim h2
      split at hfin
      · cases hfin
        exact ⟨G1, q1, q2, _, rfl, hpk⟩
      · split at hfin
        · rename_i x' s3 hfz
          cases hfin
          obtain ⟨G2, p1, p2, p3⟩ := freeze_sim hS.T q2 hfz hpk
          exact ⟨G2, q1.trans p1, p2, _, rfl, p3⟩
        · cases hfin
    · cases hfin
  cases ex with
  | normal => obtain ⟨rfl, q5, _⟩ := q4; exact done q5 hfin
  | ret => obtain ⟨rfl, q5, _⟩ := q4; exact done q5 hfin
  | pan v =>
    obtain ⟨u, rfl, q5⟩ := q4
    obtain ⟨rfl, rfl⟩ := hfin
    exact ⟨q3, G1, q1, q2, u, rfl, q5⟩
  | exit id => exact hfin.elim
  | goto l => exact hfin.elim

/-- A call of a function whose body is run. -/
theorem CallsTo.fn_ (hS : S.Ok) {f : Nat} {fn : AFun} (hf : S.F.get f = some fn) {args : List AV} {s : St} {R : Res → St → Prop} (h : EvC S fn.mutDst fn.body (initEnv args 0 .nil) s (bodyQ S fn R)) : CallsTo S f args s R := by
  obtain ⟨ex, e', s2, h1, h2⟩ := h
  cases ex with
  | normal => obtain ⟨⟨r, s'⟩, h3, h4⟩ := h2; exact ⟨r, s', body_det hS hf h1 h3, h4⟩
  | ret => obtain ⟨⟨r, s'⟩, h3, h4⟩ := h2; exact ⟨r, s', body_det hS hf h1 h3, h4⟩
  | pan v => exact ⟨_, s2, body_det hS hf h1 ⟨rfl, rfl⟩, h2⟩
  | exit id => exact h2.elim
  | goto l => exact h2.elim

/-- What the evaluator finds is true. -/
theorem eval_det (hS : S.Ok) {C : Ctx} (hT : C.T = S.T) (hF : ∀ f fn, C.F.get f = some fn → S.F.get f = some fn) (hX : ∀ f x, C.X.get f = some x → ∀ args s r s', extA x args s = some (r, s') → CallDet S f args s r s') :
    ∀ n, (∀ f args s r s', callA C n f args s = some (r, s') → CallDet S f args s r s') ∧ (∀ fn c e s ex e' s', evCode C fn n c e s = some (ex, e', s') → Det S fn.mutDst c e s ex e' s') ∧
      (∀ fn all draw masks ops i met e s ex e' s', evOps C fn n all draw masks ops i met e s = some (ex, e', s') → EvO S fn.mutDst all draw (fun x y z => x = ex ∧ y = e' ∧ z = s') masks ops i met e s) := by
  have hC : ∀ (m : List Nat) (call : Nat → List AV → St → Option (Res × St)) (e : Env) (s : St) (o : Oper), loudOp C m call e s o = loudOp S.C m call e s o := fun m call e s o => by
    obtain ⟨T, F, X⟩ := C
    subst hT
    obtain ⟨dst, op, type, pos, after, guard⟩ := o
    cases op <;> rfl
  have hR : ∀ (mask : Nat) (e : Env) (o : Op) (v : AV) (met : List Met), okRead C mask e o v met = okRead S.C mask e o v met := fun mask e o v met => by
    induction met with
    | nil => rfl
    | cons x l ih => cases x <;> simp only [okRead, ih, hT, Sys.C]
  have hL : ∀ (mask : Nat) (s : St) (met : List Met), okLoud C mask s met = okLoud S.C mask s met := fun mask s met => by
    induction met with
    | nil => rfl
    | cons x l ih => cases x <;> simp only [okLoud, ih, hT, Sys.C]
  have hfin : ∀ fn e s, finishA C fn e s = finishA S.C fn e s := fun fn e s => by simp only [finishA, hT, Sys.C]
  intro n
  induction n with
  | zero => exact ⟨fun _ _ _ _ _ h => by simp [callA] at h, fun _ _ _ _ _ _ _ h => by simp [evCode] at h, fun _ _ _ _ _ _ _ _ _ _ _ _ h => by simp [evOps] at h⟩
  | succ n ih =>
    obtain ⟨ih1, ih2, ih3⟩ := ih
    have get : ∀ {m : List Nat} {c : Code} {e : Env} {s : St} {Q : Ex → Env → St → Prop}, EvC S m c e s Q → ∃ ex e' s', Det S m c e s ex e' s' ∧ Q ex e' s' := fun h => h
    refine ⟨fun f args s r s' h => ?_, fun fn c e s ex e' s' h => ?_, fun fn all draw masks ops i met e s ex e' s' h => ?_⟩
    · simp only [callA] at h
      split at h
      · rename_i x hx; exact hX f x hx _ _ _ _ h
      · split at h
        · cases h
        · rename_i fn hf
          cases hr : evCode C fn n fn.body (initEnv args 0 .nil) s with
          | none => rw [hr] at h; cases h
          | some y =>
            obtain ⟨ex, e', s2⟩ := y
            rw [hr] at h
            refine body_det hS (hF f fn hf) (ih2 _ _ _ _ _ _ _ hr) ?_
            cases ex with
            | normal => exact (hfin _ _ _).symm.trans h
            | ret => exact (hfin _ _ _).symm.trans h
            | pan v => cases h; exact ⟨rfl, rfl⟩
            | exit id => cases h
            | goto l => cases h
    · have fin : ∀ {Q : Ex → Env → St → Prop}, EvC S fn.mutDst c e s (fun x y z => x = ex ∧ y = e' ∧ z = s') → Det S fn.mutDst c e s ex e' s' := fun h => by
        obtain ⟨_, _, _, h1, rfl, rfl, rfl⟩ := h; exact h1
      refine fin (Q := fun _ _ _ => True) ?_
      cases c with
      | skip => simp only [evCode, Option.some.injEq, Prod.mk.injEq] at h; exact .skip h
      | label l => simp only [evCode, Option.some.injEq, Prod.mk.injEq] at h; exact .label h
      | exit id => simp only [evCode, Option.some.injEq, Prod.mk.injEq] at h; exact .exit h
      | goto l => simp only [evCode, Option.some.injEq, Prod.mk.injEq] at h; exact .goto h
      | ret => simp only [evCode, Option.some.injEq, Prod.mk.injEq] at h; exact .ret h
      | seq a b =>
        simp only [evCode] at h
        cases hr : evCode C fn n a e s with
        | none => rw [hr] at h; cases h
        | some y =>
          obtain ⟨ex1, e1, s1⟩ := y
          rw [hr] at h
          refine .seq ⟨ex1, e1, s1, ih2 _ _ _ _ _ _ _ hr, ?_⟩
          cases ex1 with
          | normal => exact ⟨ex, e', s', ih2 _ _ _ _ _ _ _ h, rfl, rfl, rfl⟩
          | _ => cases h; exact ⟨rfl, rfl, rfl⟩
      | cond x a b =>
        simp only [evCode] at h
        split at h
        · rename_i hx; exact .cond true hx (fun _ => ⟨_, _, _, ih2 _ _ _ _ _ _ _ h, rfl, rfl, rfl⟩) (fun hb => by cases hb)
        · rename_i hx; exact .cond false hx (fun hb => by cases hb) (fun _ => ⟨_, _, _, ih2 _ _ _ _ _ _ _ h, rfl, rfl, rfl⟩)
        · cases h
      | block id a =>
        simp only [evCode] at h
        cases hr : evCode C fn n a e s with
        | none => rw [hr] at h; cases h
        | some y =>
          obtain ⟨ex1, e1, s1⟩ := y
          rw [hr] at h
          refine .block ⟨ex1, e1, s1, ih2 _ _ _ _ _ _ _ hr, ?_⟩
          cases ex1 with
          | exit j =>
            simp only [] at h
            simp only [blockQ]
            split at h
            · rename_i hj; cases h; rw [hj]; exact ⟨rfl, rfl, rfl⟩
            · rename_i hj; cases h; rw [hj]; exact ⟨rfl, rfl, rfl⟩
          | _ => cases h; exact ⟨rfl, rfl, rfl⟩
      | loop a =>
        have main : ∀ (k : Nat), k ≤ n + 1 → ∀ (e : Env) (s : St), evCode C fn k (.loop a) e s = some (ex, e', s') → (∀ j, j < k → ∀ e s ex e' s', evCode C fn j a e s = some (ex, e', s') → Det S fn.mutDst a e s ex e' s') → ∃ r, DetR S fn.mutDst a r e s ex e' s' := by
          intro k
          induction k with
          | zero => intro _ e s h; simp [evCode] at h
          | succ k ihk =>
            intro hk e s h hall
            simp only [evCode] at h
            cases hr : evCode C fn k a e s with
            | none => rw [hr] at h; cases h
            | some y =>
              obtain ⟨ex1, e1, s1⟩ := y
              rw [hr] at h
              have h1 := hall k (by omega) _ _ _ _ _ hr
              cases ex1 with
              | normal =>
                obtain ⟨r, h2⟩ := ihk (by omega) e1 s1 h (fun j hj => hall j (by omega))
                exact ⟨r + 1, DetR.succ h1 .refl h2⟩
              | _ => cases h; exact ⟨1, DetR.zero h1 (fun h => by cases h)⟩
        have low : ∀ j, j < n + 1 → ∀ e s ex e' s', evCode C fn j a e s = some (ex, e', s') → Det S fn.mutDst a e s ex e' s' := fun j hj e s ex e' s' hh =>
          ih2 _ _ _ _ _ _ _ (evCode_mono (show j ≤ n by omega) hh)
        obtain ⟨r, hr⟩ := main (n + 1) (Nat.le_refl _) e s h low
        exact ⟨_, _, _, hr.loop, rfl, rfl, rfl⟩
      | region id ops draw =>
        simp only [evCode] at h
        exact .region hS (ih3 _ _ _ _ _ _ _ _ _ _ _ _ h)
      | rangeFunc f ps asg b => simp [evCode] at h
      | scope x => simp [evCode] at h
      | refuse y => simp [evCode] at h
    · cases ops with
      | nil =>
        simp only [evOps, Option.some.injEq, Prod.mk.injEq] at h
        exact h
      | cons o rest =>
        simp only [evOps] at h
        split at h
        · cases h
        · rename_i hw; exact .skip hw (ih3 _ _ _ _ _ _ _ _ _ _ _ _ h)
        · rename_i hw
          split at h
          · rename_i hs
            split at h
            · cases h
            · rename_i v hv
              split at h
              · rename_i hd; exact .still hw hs (hT ▸ hv) hd (ih3 _ _ _ _ _ _ _ _ _ _ _ _ h)
              · rename_i hd
                split at h
                · rename_i ho; exact .read hw hs (hT ▸ hv) hd ((hR _ _ _ _ _).symm.trans ho) (ih3 _ _ _ _ _ _ _ _ _ _ _ _ h)
                · cases h
          · rename_i hs
            cases hl : loudOp C fn.mutDst (callA C n) e s o with
            | none => rw [hl] at h; cases h
            | some y =>
              obtain ⟨r, s2⟩ := y
              rw [hl] at h
              simp only [] at h
              split at h
              · cases h
              · rename_i ho
                refine ⟨true, hw, ?_⟩
                rw [hs]
                refine ⟨callA C n, r, s2, ih1, (hC _ _ _ _ _).symm.trans hl, by rw [← hL]; exact ho, ?_⟩
                cases r with
                | ret v => exact ih3 _ _ _ _ _ _ _ _ _ _ _ _ h
                | pan v =>
                  simp only [] at h
                  split at h
                  · rename_i hb; cases h; exact ⟨hb, rfl, rfl, rfl⟩
                  · cases h
end
end Go.Am
