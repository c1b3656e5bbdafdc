/- The abstract machine: a still operation does what the model's operation does. -/
import Derived.Test.YtmbkcjnjjlkidaaGreatDoorAmStill5
namespace Go.Am
open Go.RowKit

section
variable {P : Program} {T : Tr TI} {B : Nat → Prop} {NG : Nat} {w0 : World} {G : Gh} {s : St} {w : World} {e : Env} {a : Act}

/-- What is shown of a still operation. -/
def StillOk (B : Nat → Prop) (w0 : World) (G : Gh) (s : St) (x : AV) (r : Result Next) : Prop :=
  ∃ G' w' v, G.Le G' ∧ WR B w0 G' s w' ∧ VR G' x v ∧ r = .ok (.value v) w'

theorem StillOk.same {x : AV} {r : Result Next} (hw : WR B w0 G s w) (h : ∃ v, r = .ok (.value v) w ∧ VR G x v) : StillOk B w0 G s x r :=
  let ⟨v, h1, h2⟩ := h; ⟨G, w, v, .refl G, hw, h2, h1⟩

theorem map_toList {α β : Type} (f : α → β) (x : Array α) : (x.toList.map f).toArray = x.map f := by apply Array.ext'; simp

theorem lift_v {m : Sem Value} {v : Value} {w w' : World} (h : m.run P w = .ok v w') : (do pure (.value (← m)) : Sem Next).run P w = .ok (.value v) w' := by
  simp [h]

theorem builtinStill_sim (hT : TOk P T) (hw : WR B w0 G s w) {b : Builtin} {ts : List Nat} {args : List AV} {x : AV} {us : List Value} (h : builtinStill T b ts args = some x) (hx : VRs G args us) (ty : Nat) (cs : Array Bool) :
    StillOk B w0 G s x ((builtin b ts.toArray ty cs us.toArray).run P w) := by
  unfold builtinStill at h
  split at h
  · split at h
    · split at h
      · rename_i t _ y _ n hn
        cases h
        cases hx
        rename_i v vs hv hs
        exact .same hw ⟨_, lift_v (lenA_sim hT hn hv _ vs w), .int _ _⟩
      · cases h
    · cases h
  · split at h
    · cases hx
      rename_i v vs hv hs
      obtain ⟨r, h1, h2⟩ := minMaxA_sim (P := P) (w := w) false _ _ _ _ _ h hv hs
      exact .same hw ⟨r, lift_v (by simpa [Builtin.min_] using h1), h2⟩
    · cases h
  · split at h
    · cases hx
      rename_i v vs hv hs
      obtain ⟨r, h1, h2⟩ := minMaxA_sim (P := P) (w := w) true _ _ _ _ _ h hv hs
      exact .same hw ⟨r, lift_v (by simpa [Builtin.max_] using h1), h2⟩
    · cases h
  · split at h
    · cases h
      cases hx
      rename_i v vs hv hs
      cases hs
      cases hv
      exact .same hw ⟨_, lift_v (m := Builtin.unsafeSliceData_ ts.toArray ty #[.slice none 0 0]) (v := .pointer none) rfl, .nilp⟩
    · rename_i y ys k
      cases h
      cases hx
      rename_i v vs hv hs
      cases hs
      cases hv
      rename_i c base sz len cap vs hI hcap hsz hv hlen hkk
      have hc : cap ≠ 0 := by simp at hlen; omega
      refine .same hw ⟨_, lift_v (m := Builtin.unsafeSliceData_ ts.toArray ty #[.slice (some ⟨c, base, none⟩) len cap]) (v := .pointer (some ⟨c, base, none⟩)) (by
        show (if cap ≠ 0 then pure (.pointer (some ⟨c, base, none⟩)) else _ : Sem Value).run P w = _
        rw [if_pos hc]; rfl), ?_⟩
      have := VR.elem (G := G) (y :: ys) 0 0 c base sz vs hsz hv hI
      simpa using this
    · cases h
  · cases h

theorem still_sim (hT : TOk P T) (hw : WR B w0 G s w) (hg : GOk NG G) (he : EnvR G e a) (o : Oper) (hops : ∀ x ∈ o.op.operands.toList, okO NG x = true) {x : AV} (h : stillOp T s.heap e o.op = some x) :
    StillOk B w0 G s x ((execOp a.eval o).run P w) := by
  obtain ⟨dst, op, type, pos, after, guard⟩ := o
  cases op <;> simp only [stillOp, reduceCtorEq] at h <;> simp only [Op.operands] at hops <;> simp only [execOp]
  case move y => exact .same hw ⟨_, rfl, ev_sim hg he (hops y (by simp)) h⟩
  case assign y => exact .same hw ⟨_, rfl, ev_sim hg he (hops y (by simp)) h⟩
  case pick c p q =>
    split at h
    · rename_i hc
      have := ev_sim hg he (hops c (by simp)) hc
      cases hcv : a.eval c <;> rw [hcv] at this <;> cases this
      exact .same hw ⟨_, by simp [asBool], ev_sim hg he (hops p (by simp)) h⟩
    · rename_i hc
      have := ev_sim hg he (hops c (by simp)) hc
      cases hcv : a.eval c <;> rw [hcv] at this <;> cases this
      exact .same hw ⟨_, by simp [asBool], ev_sim hg he (hops q (by simp)) h⟩
    · cases h
  case build t ps =>
    split at h
    · rename_i l hl
      have hp := evParts_sim hg he _ _ (fun z hz => hops z.2 (by simp; exact ⟨z.1, by simpa using hz⟩)) hl
      obtain ⟨v, h1, h2⟩ := buildA_sim hT h hp w
      refine .same hw ⟨v, lift_v ?_, h2⟩
      rw [← h1]; congr 2
      apply Array.ext'; simp
    · cases h
  case buildSlice t len ps =>
    split at h
    · rename_i l hl
      have hp := evParts_sim hg he _ _ (fun z hz => hops z.2 (by simp; exact ⟨z.1, by simpa using hz⟩)) hl
      split at h
      · rename_i xs te hel
        cases h
        obtain ⟨G', w', v, h1, h2, h3, h4⟩ := buildSlice_sim hT hw hel hp
        refine ⟨G', w', v, h1, h2, h3, lift_v ?_⟩
        rw [← h4]; congr 2
        apply Array.ext'; simp
      · cases h
    · cases h
  case load t y =>
    split at h
    · rename_i p hp
      obtain ⟨u, h1, h2⟩ := loadA_sim hT hw h (ev_sim hg he (hops y (by simp)) hp)
      exact .same hw ⟨u, lift_v h1, h2⟩
    · cases h
  case nilCheck y =>
    split at h
    · rename_i p hp
      have hv := ev_sim hg he (hops y (by simp)) hp
      unfold nilCheckA at h
      split at h
      · cases h
        cases hcv : a.eval y <;> rw [hcv] at hv <;> cases hv
        exact .same hw ⟨_, rfl, by constructor; assumption⟩
      · cases h
        cases hcv : a.eval y <;> rw [hcv] at hv <;> cases hv
        exact .same hw ⟨_, rfl, by constructor <;> assumption⟩
      · cases h
    · cases h
  case binOp op t y z t2 =>
    split at h
    · rename_i p q hp hq
      obtain ⟨r, h1, h2⟩ := binA_sim hT h (ev_sim hg he (hops y (by simp)) hp) (ev_sim hg he (hops z (by simp)) hq) w
      exact .same hw ⟨r, lift_v h1, h2⟩
    · cases h
  case unOp op t y =>
    split at h
    · rename_i p hp
      obtain ⟨r, h1, h2⟩ := unA_sim (P := P) h (ev_sim hg he (hops y (by simp)) hp) w
      exact .same hw ⟨r, lift_v h1, h2⟩
    · cases h
  case convert src dst y =>
    split at h
    · rename_i p hp
      obtain ⟨G', w', v, h1, h2, h3, h4⟩ := convA_sim hT hw h (ev_sim hg he (hops y (by simp)) hp)
      exact ⟨G', w', v, h1, h2, h3, lift_v h4⟩
    · cases h
  case makeInterface t y =>
    split at h
    · rename_i p ti hp hti
      have hv := ev_sim hg he (hops y (by simp)) hp
      obtain ⟨inf, d, z, g1, g2, g3, _⟩ := hT t ti hti
      split at h
      · cases h
      · rename_i hni
        cases h
        refine .same hw ⟨.iface t (a.eval y), lift_v ?_, .ifc _ _ _ hv⟩
        simp only [Instr.makeInterface, Sem.run_bind, run_underlying g2, Result.andThen_ok]
        cases d <;> first | exact absurd g3 hni | rfl
    · cases h
  case makeFunc fn p q =>
    split at h
    · rename_i xs ys hxs hys
      cases h
      have h1 := evs_sim hg he p.toList _ (fun z hz => hops z (by simp; exact .inl (by simpa using hz))) hxs
      have h2 := evs_sim hg he q.toList _ (fun z hz => hops z (by simp; exact .inr (by simpa using hz))) hys
      refine .same hw ⟨.func fn (p.map a.eval) (q.map a.eval), lift_v rfl, ?_⟩
      have := VR.fn fn _ _ _ _ h1 h2
      rwa [map_toList, map_toList] at this
    · cases h
  case slice t y lo hi mx =>
    split at h
    · rename_i p l hh m hp hl hhh hm
      have hlo : ∀ o ∈ lo, okO NG o = true := fun o ho => by cases ho; exact hops o (by simp)
      have hhi : ∀ o ∈ hi, okO NG o = true := fun o ho => by cases ho; exact hops o (by simp)
      have hmx : ∀ o ∈ mx, okO NG o = true := fun o ho => by cases ho; exact hops o (by simp)
      obtain ⟨u, h1, h2⟩ := sliceA_sim hT hw h (ev_sim hg he (hops y (by simp)) hp) (evOpt_sim hg he hlo hl) (evOpt_sim hg he hhi hhh) (evOpt_sim hg he hmx hm)
      exact .same hw ⟨u, lift_v h1, h2⟩
    · cases h
  case fieldAddr st y f =>
    split at h
    · rename_i p hp
      obtain ⟨u, h1, h2⟩ := fieldAddrA_sim hT h (ev_sim hg he (hops y (by simp)) hp) w
      exact .same hw ⟨u, lift_v h1, h2⟩
    · cases h
  case field st y f =>
    split at h
    · rename_i p hp
      obtain ⟨u, h1, h2⟩ := fieldA_sim hT h (ev_sim hg he (hops y (by simp)) hp) w
      exact .same hw ⟨u, lift_v h1, h2⟩
    · cases h
  case indexAddr t y i =>
    split at h
    · rename_i p j hp hj
      obtain ⟨u, h1, h2⟩ := indexAddrA_sim hT h (ev_sim hg he (hops y (by simp)) hp) (ev_sim hg he (hops i (by simp)) hj) w
      exact .same hw ⟨u, lift_v h1, h2⟩
    · cases h
  case index t y i =>
    split at h
    · rename_i p j hp hj
      obtain ⟨u, h1, h2⟩ := indexA_sim hT h (ev_sim hg he (hops y (by simp)) hp) (ev_sim hg he (hops i (by simp)) hj) w
      exact .same hw ⟨u, lift_v h1, h2⟩
    · cases h
  case typeAssert y xt at_ ok =>
    split at h
    · rename_i p hp
      obtain ⟨u, h1, h2⟩ := typeAssertA_sim (xt := xt) hT h (ev_sim hg he (hops y (by simp)) hp) w
      exact .same hw ⟨u, lift_v h1, h2⟩
    · cases h
  case extract y i =>
    split at h
    · rename_i vs hp
      have hv := ev_sim hg he (hops y (by simp)) hp
      cases hcv : a.eval y <;> rw [hcv] at hv <;> cases hv
      rename_i us hv
      obtain ⟨u, h1, h2⟩ := hv.get h
      exact .same hw ⟨u, lift_v (by simp [Instr.extract, h1]), h2⟩
    · cases h
  case call c =>
    split at h
    · rename_i b args hc hargs
      obtain ⟨callee, cargs, cts⟩ := c
      cases hc
      have hv := evs_sim hg he cargs.toList _ (fun z hz => hops z (by simp [Call.operands]; simpa using hz)) hargs
      have key : ∀ cs, StillOk B w0 G s x ((builtin b cts type cs (cargs.map a.eval)).run P w) := fun cs => by
        have := builtinStill_sim hT hw h hv type cs
        rw [map_toList] at this
        simpa using this
      simp only [resolve, Sem.run_bind, Sem.run_pure, Result.andThen_ok, invoke]
      exact key _
    · cases h

end
end Go.Am
