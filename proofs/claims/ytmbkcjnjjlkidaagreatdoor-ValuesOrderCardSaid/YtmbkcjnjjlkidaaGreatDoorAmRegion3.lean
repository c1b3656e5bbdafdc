/- The abstract machine: the evaluator's run of a region as a record. -/
import Derived.Test.YtmbkcjnjjlkidaaGreatDoorAmRegion2
namespace Go.Am
open Go.RowKit

section
variable {C : Ctx} {fn : AFun} {k : Nat}

theorem optBeq_eq {x : Option AV} {y : AV} (h : optBeq x y = true) : x = some y := by
  cases x with
  | none => simp [optBeq] at h
  | some a => rw [AV.eq_of_beq _ _ h]

theorem okRead_mem {mask : Nat} {e : Env} {o : Op} {v : AV} : ∀ {met : List Met}, okRead C mask e o v met = true → ∀ j s, Met.ld j s ∈ met → mask.testBit j = true ∨ stillOp C.T s.heap e o = some v
  | [], _, j, s, h => by cases h
  | .rd _ _ _ _ :: l, h, j, s, hm => by
    simp only [okRead] at h
    rcases List.mem_cons.1 hm with h2 | h2
    · cases h2
    · exact okRead_mem h j s h2
  | .ld j' s' :: l, h, j, s, hm => by
    simp only [okRead, Bool.and_eq_true, Bool.or_eq_true] at h
    rcases List.mem_cons.1 hm with h2 | h2
    · cases h2
      rcases h.1 with h3 | h3
      · exact .inl h3
      · exact .inr (optBeq_eq h3)
    · exact okRead_mem h.2 j s h2

theorem okLoud_mem {mask : Nat} {s : St} : ∀ {met : List Met}, okLoud C mask s met = true → ∀ i o e v, Met.rd i o e v ∈ met → mask.testBit i = true ∨ stillOp C.T s.heap e o = some v
  | [], _, i, o, e, v, h => by cases h
  | .ld _ _ :: l, h, i, o, e, v, hm => by
    simp only [okLoud] at h
    rcases List.mem_cons.1 hm with h2 | h2
    · cases h2
    · exact okLoud_mem h i o e v h2
  | .rd i' o' e' v' :: l, h, i, o, e, v, hm => by
    simp only [okLoud, Bool.and_eq_true, Bool.or_eq_true] at h
    rcases List.mem_cons.1 hm with h2 | h2
    · cases h2
      rcases h.1 with h3 | h3
      · exact .inl h3
      · exact .inr (optBeq_eq h3)
    · exact okLoud_mem h.2 i o e v h2

/-- What the evaluator has noted of the operations so far. -/
def MetOf (m : List Nat) (R : List Rec) (met : List Met) : Prop :=
  ∀ i r, R[i]? = some r → (r.loud m = true → Met.ld i r.s ∈ met) ∧ (r.read m = true → Met.rd i r.o.op r.e r.v ∈ met)

theorem MetOf.snoc {m : List Nat} {R : List Rec} {met met' : List Met} {r : Rec} (h : MetOf m R met) (hs : ∀ x ∈ met, x ∈ met') (hl : r.loud m = true → Met.ld R.length r.s ∈ met') (hr : r.read m = true → Met.rd R.length r.o.op r.e r.v ∈ met') :
    MetOf m (R ++ [r]) met' := by
  intro i q hq
  by_cases hi : i < R.length
  · rw [List.getElem?_append_left hi] at hq
    exact ⟨fun hh => hs _ ((h i q hq).1 hh), fun hh => hs _ ((h i q hq).2 hh)⟩
  · rw [List.getElem?_append_right (by omega)] at hq
    have : i - R.length = 0 := by
      cases hh : i - R.length with
      | zero => rfl
      | succ n => rw [hh] at hq; simp at hq
    rw [this] at hq
    simp only [List.getElem?_cons_zero, Option.some.injEq] at hq
    subst hq
    have : i = R.length := by omega
    subst this
    exact ⟨hl, hr⟩

theorem PairsOk.snoc {m M : List Nat} {R : List Rec} {r : Rec} (h : PairsOk C m M R)
    (h1 : ∀ i ri, R[i]? = some ri → ri.loud m = true → r.read m = true → (M.getD R.length 0).testBit i = true ∨ stillOp C.T ri.s.heap r.e r.o.op = some r.v)
    (h2 : ∀ i ri, R[i]? = some ri → ri.read m = true → r.loud m = true → (M.getD R.length 0).testBit i = true ∨ stillOp C.T r.s'.heap ri.e ri.o.op = some ri.v) : PairsOk C m M (R ++ [r]) := by
  have last : ∀ j q, (R ++ [r])[j]? = some q → (j < R.length ∧ R[j]? = some q) ∨ (j = R.length ∧ q = r) := fun j q hq => by
    by_cases hj : j < R.length
    · rw [List.getElem?_append_left hj] at hq; exact .inl ⟨hj, hq⟩
    · rw [List.getElem?_append_right (by omega)] at hq
      have : j - R.length = 0 := by
        cases hh : j - R.length with
        | zero => rfl
        | succ n => rw [hh] at hq; simp at hq
      rw [this] at hq
      simp only [List.getElem?_cons_zero, Option.some.injEq] at hq
      exact .inr ⟨by omega, hq.symm⟩
  constructor
  · intro i j ri rj hij hi hj hl hr
    rcases last j rj hj with ⟨a1, a2⟩ | ⟨rfl, rfl⟩
    · rcases last i ri hi with ⟨b1, b2⟩ | ⟨b1, _⟩
      · exact h.ld i j ri rj hij b2 a2 hl hr
      · omega
    · rcases last i ri hi with ⟨b1, b2⟩ | ⟨b1, _⟩
      · exact h1 i ri b2 hl hr
      · omega
  · intro i j ri rj hij hi hj hl hr
    rcases last j rj hj with ⟨a1, a2⟩ | ⟨rfl, rfl⟩
    · rcases last i ri hi with ⟨b1, b2⟩ | ⟨b1, _⟩
      · exact h.rd i j ri rj hij b2 a2 hl hr
      · omega
    · rcases last i ri hi with ⟨b1, b2⟩ | ⟨b1, _⟩
      · exact h2 i ri b2 hl hr
      · omega

theorem Chain.snoc {m : List Nat} {good : (Nat → List AV → St → Option (Res × St)) → Prop} {all : List Oper} {R : List Rec} {e : Env} {s : St} {e' : Env} {s' : St} (h : Chain C m good all R e s e' s') {r : Rec} (he : r.e = e') (hs : r.s = s') (hr : RecOk C m good all r) :
    Chain C m good all (R ++ [r]) e s (putA e' r.o.dst r.v) r.s' := by
  induction h with
  | nil e s =>
    subst he; subst hs
    exact .cons r [] _ _ hr (.nil _ _)
  | cons r0 R e' s' h0 tl ih => exact .cons r0 (R ++ [r]) _ _ h0 (ih he hs)

/-- The end of a region's run: all operations, or a call that panics. -/
inductive EndOf (C : Ctx) (m : List Nat) (good : (Nat → List AV → St → Option (Res × St)) → Prop) (all : List Oper) (M : List Nat) (R : List Rec) (e : Env) (s : St) : Ex → Env → St → Prop
  | normal (h : R.length = all.length) : EndOf C m good all M R e s .normal e s
  | pan (o : Oper) (v : AV) (s' : St) (ho : all[R.length]? = some o) (hw : wantedA all e o = some true) (hs : isStill m o = false) (hl : ∃ call, good call ∧ loudOp C m call e s o = some (.pan v, s')) (hb : ∀ j, R.length < j → j < all.length → (M.getD j 0).testBit R.length = true) :
      EndOf C m good all M R e s (.pan v) e s'

theorem headD_drop (M : List Nat) (i : Nat) : (M.drop i).headD 0 = M.getD i 0 := by
  rw [List.headD_eq_head?_getD, List.head?_drop, List.getD_eq_getElem?_getD]

theorem tail_drop (M : List Nat) (i : Nat) : (M.drop i).tail = M.drop (i + 1) := by simp

theorem evOps_trace (good : (Nat → List AV → St → Option (Res × St)) → Prop) (all : List Oper) (M : List Nat) (hM : M.length = all.length) (e0 : Env) (s0 : St) :
    ∀ (n : Nat), (∀ k, k < n → good (callA C k)) → ∀ (rest : List Oper) (i : Nat) (met : List Met) (e : Env) (s : St) (R : List Rec) (ex : Ex) (e' : Env) (s' : St),
    evOps C fn n all true (M.drop i) rest i met e s = some (ex, e', s') → rest = all.drop i → R.length = i → (∀ (j : Nat) (r : Rec), R[j]? = some r → all[j]? = some r.o) → MetOf fn.mutDst R met → PairsOk C fn.mutDst M R →
    Chain C fn.mutDst good all R e0 s0 e s →
    ∃ R' e1 s1, Chain C fn.mutDst good all R' e0 s0 e1 s1 ∧ PairsOk C fn.mutDst M R' ∧ (∀ (j : Nat) (r : Rec), R'[j]? = some r → all[j]? = some r.o) ∧ EndOf C fn.mutDst good all M R' e1 s1 ex e' s' := by
  intro n
  induction n with
  | zero => intro _ rest i met e s R ex e' s' h; simp [evOps] at h
  | succ n ih =>
    intro hgood rest i met e s R ex e' s' h hrest hRl hRo hmet hpairs hchain
    cases rest with
    | nil =>
      simp only [evOps, Option.some.injEq, Prod.mk.injEq] at h
      obtain ⟨rfl, rfl, rfl⟩ := h
      have hlen : all.length ≤ i := by
        have := congrArg List.length hrest
        simp at this; omega
      have hle : R.length ≤ all.length := by
        rcases Nat.lt_or_ge all.length R.length with hlt | hge
        · have hr : R[all.length]? = some R[all.length] := List.getElem?_eq_getElem hlt
          have := hRo _ _ hr
          simp at this
        · exact hge
      exact ⟨R, e, s, hchain, hpairs, hRo, .normal (by omega)⟩
    | cons o rest =>
      have hoi : all[i]? = some o := by
        have := congrArg (fun l => l[0]?) hrest
        simpa using this.symm
      have hrest' : rest = all.drop (i + 1) := by
        have := congrArg List.tail hrest
        simpa using this
      have next : ∀ (r : Rec), r.o = o → ∀ (j : Nat) (q : Rec), (R ++ [r])[j]? = some q → all[j]? = some q.o := fun r hr j q hq => by
        by_cases hj : j < R.length
        · rw [List.getElem?_append_left hj] at hq; exact hRo j q hq
        · rw [List.getElem?_append_right (by omega)] at hq
          have : j - R.length = 0 := by
            cases hh : j - R.length with
            | zero => rfl
            | succ n => rw [hh] at hq; simp at hq
          rw [this] at hq
          simp only [List.getElem?_cons_zero, Option.some.injEq] at hq
          subst hq
          have : j = i := by omega
          subst this
          rw [hr]; exact hoi
      have hgood' : ∀ k, k < n → good (callA C k) := fun k hk => hgood k (by omega)
      simp only [evOps] at h
      rw [tail_drop, headD_drop] at h
      split at h
      · cases h
      · -- not wanted
        rename_i hw
        have hrec : RecOk C fn.mutDst good all ⟨o, e, s, undefA, s, false⟩ := ⟨hw, fun _ => ⟨rfl, rfl⟩, fun hh => (by cases hh), fun hh => (by cases hh)⟩
        exact ih hgood' rest (i + 1) met _ s (R ++ [⟨o, e, s, undefA, s, false⟩]) ex e' s' h hrest' (by simp [hRl]) (next _ rfl) (hmet.snoc (fun x hx => hx) (fun hh => (by simp [Rec.loud] at hh)) (fun hh => (by simp [Rec.read] at hh)))
          (hpairs.snoc (fun _ _ _ _ hh => (by simp [Rec.read] at hh)) (fun _ _ _ _ hh => (by simp [Rec.loud] at hh))) (hchain.snoc rfl rfl hrec)
      · rename_i hw
        split at h
        · -- still
          rename_i hst
          split at h
          · cases h
          · rename_i v hv
            have hrec : RecOk C fn.mutDst good all ⟨o, e, s, v, s, true⟩ := ⟨hw, fun hh => (by cases hh), fun _ _ => ⟨hv, rfl⟩, fun _ hh => (by rw [hst] at hh; cases hh)⟩
            split at h
            · rename_i hrd
              have hrd' : readsHeap o.op = false := by simpa using hrd
              exact ih hgood' rest (i + 1) met _ s (R ++ [⟨o, e, s, v, s, true⟩]) ex e' s' h hrest' (by simp [hRl]) (next _ rfl) (hmet.snoc (fun x hx => hx) (fun hh => (by simp [Rec.loud, hst] at hh)) (fun hh => (by simp [Rec.read, hrd'] at hh)))
                (hpairs.snoc (fun _ _ _ _ hh => (by simp [Rec.read, hrd'] at hh)) (fun _ _ _ _ hh => (by simp [Rec.loud, hst] at hh))) (hchain.snoc rfl rfl hrec)
            · rename_i hrd
              split at h
              · rename_i hok
                exact ih hgood' rest (i + 1) _ _ s (R ++ [⟨o, e, s, v, s, true⟩]) ex e' s' h hrest' (by simp [hRl]) (next _ rfl) (hmet.snoc (fun x hx => List.mem_cons_of_mem _ hx) (fun hh => (by simp [Rec.loud, hst] at hh)) (fun _ => (by rw [hRl]; simp)))
                  (hpairs.snoc (fun j rj hj hl _ => by rw [hRl]; exact okRead_mem hok j rj.s ((hmet j rj hj).1 hl)) (fun _ _ _ _ hh => (by simp [Rec.loud, hst] at hh))) (hchain.snoc rfl rfl hrec)
              · cases h
        · -- loud
          rename_i hst
          split at h
          · cases h
          · rename_i r2 s2 hl
            have hgn : good (callA C n) := hgood n (by omega)
            simp only [Bool.not_true, Bool.false_or] at h
            split at h
            · cases h
            · rename_i hok
              split at h
              · rename_i v
                have hrec : RecOk C fn.mutDst good all ⟨o, e, s, v, s2, true⟩ := ⟨hw, fun hh => (by cases hh), fun _ hh => (by rw [hst] at hh; cases hh), fun _ _ => ⟨_, hgn, hl⟩⟩
                exact ih hgood' rest (i + 1) _ _ s2 (R ++ [⟨o, e, s, v, s2, true⟩]) ex e' s' h hrest' (by simp [hRl]) (next _ rfl) (hmet.snoc (fun x hx => List.mem_cons_of_mem _ hx) (fun _ => (by rw [hRl]; simp)) (fun hh => (by simp [Rec.read, hst] at hh)))
                  (hpairs.snoc (fun _ _ _ _ hh => (by simp [Rec.read, hst] at hh)) (fun j rj hj hl2 _ => by rw [hRl]; exact okLoud_mem hok j rj.o.op rj.e rj.v ((hmet j rj hj).2 hl2))) (hchain.snoc rfl rfl hrec)
              · rename_i v
                split at h
                · rename_i hb
                  cases h
                  refine ⟨R, e, s, hchain, hpairs, hRo, .pan o v _ (by rw [hRl]; exact hoi) hw hst ⟨_, hgn, hl⟩ (fun j h1 h2 => ?_)⟩
                  have hb' : ∀ x ∈ M.drop (i + 1), bit x i = true := by simpa [allBehind, List.all_eq_true] using hb
                  have hjm : j < M.length := by omega
                  rw [hRl, List.getD_eq_getElem?_getD, List.getElem?_eq_getElem hjm, Option.getD_some]
                  refine hb' _ ?_
                  rw [List.mem_iff_getElem?]
                  exact ⟨j - (i + 1), by rw [List.getElem?_drop, show i + 1 + (j - (i + 1)) = j by omega, List.getElem?_eq_getElem hjm]⟩
                · cases h

theorem masksL_length : ∀ (ops : List Oper) (acc : List Nat), (masksL acc ops).length = acc.length + ops.length
  | [], acc => by simp [masksL]
  | o :: r, acc => by simp only [masksL, masksL_length r]; simp; omega

end
end Go.Am
