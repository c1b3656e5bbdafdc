/- The abstract machine: one operation's walk; a region that draws its order: one run in the order of the text serves every order. -/
import Derived.Test.YtmbkcjnjjlkidaaGreatDoorAmLoud3
namespace Go.Am
open Go.RowKit

def opOk (NG N : Nat) (o : Oper) : Bool :=
  o.op.operands.toList.all (okO NG) && (match o.dst with | some d => decide (d < N) | none => true)

/-- What a call comes to. -/
def CallPost (B : Nat → Prop) (w0 : World) (G : Gh) (s' : St) (r : Res) : Ending → World → Prop := fun e w' =>
  ∃ G', G.Le G' ∧ WR B w0 G' s' w' ∧ match r with
    | .ret x => ∃ v, e = .returned v ∧ VR G' x v
    | .pan x => ∃ v, e = .panicked [{ v, recovered := false }] ∧ VR G' x v

/-- What a call made by an operation comes to: a Go function is entered, or a row of the model's answers. -/
def CallDoes (P : Program) (f : Nat) (args : Array Value) (w : World) (R : Ending → World → Prop) : Prop :=
  match (callFunc f args).run P w with
  | .ok (.enter g as) w' => Calls P g as w' R
  | .ok (.value v) w' => R (.returned v) w'
  | .halt (.panic v) w' => R (.panicked [{ v, recovered := false }]) w'
  | _ => False

/-- That the calls of a table do what the model's do. -/
def CallsOk (P : Program) (NG : Nat) (B : Nat → Prop) (w0 : World) (call : Nat → List AV → St → Option (Res × St)) : Prop :=
  ∀ f args s r s', call f args s = some (r, s') → ∀ G w vs, WR B w0 G s w → GOk NG G → VRs G args vs → CallDoes P f vs.toArray w (CallPost B w0 G s' r)

section
variable {P : Program} {B : Nat → Prop} {NG : Nat} {w0 : World} {G : Gh} {s : St} {w : World} {e : Env} {a : Act} {C : Ctx}

/-- A loud operation is carried out. -/
theorem loud_wp (hT : TOk P C.T) (hw : WR B w0 G s w) (hg : GOk NG G) (he : EnvR G e a) {m : List Nat} {call : Nat → List AV → St → Option (Res × St)} (hcall : CallsOk P NG B w0 call) (o : Oper) (hops : ∀ x ∈ o.op.operands.toList, okO NG x = true)
    {r : Res} {s' : St} (h : loudOp C m call e s o = some (r, s')) {K : Act → World → Prop} {Q : Exit → Act → World → Prop}
    (hK : ∀ G' v w' x, r = .ret x → G.Le G' → WR B w0 G' s' w' → VR G' x v → K (a.put o.dst v) w')
    (hQ : ∀ G' v w' x, r = .pan x → G.Le G' → WR B w0 G' s' w' → VR G' x v → Q (.panic [{ v, recovered := false }]) a w') : o.wp P a w K Q := by
  unfold Oper.wp
  rcases loud_sim hT hw hg he m call o hops h with ⟨G', w', h1, h2, h3⟩ | ⟨f, args, vs, h1, h2, h3⟩
  · cases r with
    | ret x =>
      obtain ⟨v, h4, h5 | ⟨h5, h6⟩⟩ := h3
      · rw [h5]; exact hK G' v w' x rfl h1 h2 h4
      · rw [h5]; subst h6; exact hK G' _ w' x rfl h1 h2 h4
    | pan x =>
      obtain ⟨v, h4, h5⟩ := h3
      rw [h5]; exact hQ G' v w' x rfl h1 h2 h4
  · have hd := hcall f args s r s' h1 G w vs hw hg h2
    unfold CallDoes at hd
    rw [h3]
    split at hd
    · rename_i g as w' hr
      rw [hr]
      refine Calls.mono hd ?_
      rintro e' w2 ⟨G', q1, q2, q3⟩
      cases r with
      | ret x =>
        obtain ⟨v, rfl, q4⟩ := q3
        exact hK G' v w2 x rfl q1 q2 q4
      | pan x =>
        obtain ⟨v, rfl, q4⟩ := q3
        exact hQ G' v w2 x rfl q1 q2 q4
    · rename_i v w' hr
      rw [hr]
      obtain ⟨G', q1, q2, q3⟩ := hd
      cases r with
      | ret x =>
        obtain ⟨u, hu, q4⟩ := q3
        cases hu
        exact hK G' v w' x rfl q1 q2 q4
      | pan x =>
        obtain ⟨u, hu, q4⟩ := q3
        cases hu
    · rename_i v w' hr
      rw [hr]
      obtain ⟨G', q1, q2, q3⟩ := hd
      cases r with
      | ret x =>
        obtain ⟨u, hu, q4⟩ := q3
        cases hu
      | pan x =>
        obtain ⟨u, hu, q4⟩ := q3
        cases hu
        exact hQ G' v w' x rfl q1 q2 q4
    · exact hd.elim

theorem still_wp (hT : TOk P C.T) (hw : WR B w0 G s w) (hg : GOk NG G) (he : EnvR G e a) (o : Oper) (hops : ∀ x ∈ o.op.operands.toList, okO NG x = true) {x : AV} (h : stillOp C.T s.heap e o.op = some x)
    {K : Act → World → Prop} {Q : Exit → Act → World → Prop} (hK : ∀ G' v w', G.Le G' → WR B w0 G' s w' → VR G' x v → K (a.put o.dst v) w') : o.wp P a w K Q := by
  unfold Oper.wp
  obtain ⟨G', w', v, h1, h2, h3, h4⟩ := still_sim hT hw hg he o hops h
  rw [h4]
  exact hK G' v w' h1 h2 h3

theorem EnvR.put (he : EnvR G e a) {d : Option Nat} {x : AV} {v : Value} (hv : VR G x v) (hd : ∀ t, d = some t → t < a.tmps.size) : EnvR G (putA e d x) (a.put d v) := by
  cases d with
  | none => exact he
  | some t =>
    intro t' v'
    simp only [putA, Tr.get_set, Act.put]
    have ht := hd t rfl
    by_cases h : t' = t
    · subst h; intro e; simp at e; subst e; simpa [ht] using hv
    · have h' : t ≠ t' := fun e => h e.symm
      intro e
      rw [if_neg h] at e
      have := he t' v' e
      simpa [Array.getElem?_setIfInBounds_ne h'] using this

theorem wanted_sim (he : EnvR G e a) (ops : Array Oper) (o : Oper) (hsz : ∀ q ∈ ops.toList, ∀ d, q.dst = some d → d < a.tmps.size) {b : Bool} (hb : wantedA ops.toList e o = some b) : Region.wanted o (yielded ops a.tmps) = b := by
  unfold Region.wanted
  unfold wantedA at hb
  cases hgd : o.guard with
  | none => rw [hgd] at hb; cases hb; rfl
  | some g =>
    obtain ⟨j, want⟩ := g
    rw [hgd] at hb
    simp only [yielded, yieldedA] at hb ⊢
    cases hj : ops[j]? with
    | none =>
      have : ops.toList[j]? = none := by simpa using hj
      rw [this] at hb; cases hb; rfl
    | some q =>
      have hq : ops.toList[j]? = some q := by simpa using hj
      rw [hq] at hb
      simp only [Option.bind_some] at hb ⊢
      cases hd : q.dst with
      | none => rw [hd] at hb; cases hb; rfl
      | some d =>
        rw [hd] at hb
        simp only [Option.bind_some] at hb ⊢
        have hlt := hsz q (List.mem_of_getElem? hq) d hd
        cases hg : e.get d with
        | none => rw [hg] at hb; cases hb
        | some x =>
          rw [hg] at hb
          have hr := he d x hg
          rw [Array.getD_eq_getD_getElem?, Array.getElem?_eq_getElem hlt] at hr
          rw [Array.getElem?_eq_getElem hlt]
          simp only [Option.getD_some] at hr
          generalize a.tmps[d] = vv at hr
          cases hr <;> (simp only [Option.some.injEq] at hb; subst hb; rfl)

end

/-! ### The masks -/

theorem maskFold_bit (acc : List Nat) (i : Nat) : ∀ (es : List Edge) (m : Nat), (maskFold acc es m).testBit i = true → m.testBit i = true ∨ ∃ e ∈ es, Region.binds .any e = true ∧ (i = e.on ∨ (acc.getD e.on 0).testBit i = true)
  | [], m, h => .inl h
  | e :: es, m, h => by
    simp only [maskFold] at h
    split at h
    · rename_i hb
      rcases maskFold_bit acc i es _ h with h1 | ⟨e', h1, h2, h3⟩
      · simp only [Nat.testBit_or, Bool.or_eq_true] at h1
        rcases h1 with (h1 | h1) | h1
        · exact .inl h1
        · refine .inr ⟨e, by simp, hb, .inl ?_⟩
          rw [Nat.testBit_two_pow] at h1
          have : e.on = i := by simpa using h1
          exact this.symm
        · exact .inr ⟨e, by simp, hb, .inr h1⟩
      · exact .inr ⟨e', by simp [h1], h2, h3⟩
    · rcases maskFold_bit acc i es _ h with h1 | ⟨e', h1, h2, h3⟩
      · exact .inl h1
      · exact .inr ⟨e', by simp [h1], h2, h3⟩

theorem masksL_prefix : ∀ (ops : List Oper) (acc : List Nat), (masksL acc ops).take acc.length = acc
  | [], acc => by simp [masksL]
  | o :: r, acc => by
    simp only [masksL]
    have h := masksL_prefix r (acc ++ [maskFold acc o.after.toList 0])
    have h2 := congrArg (List.take acc.length) h
    simpa [List.take_take] using h2

theorem masksL_get : ∀ (ops : List Oper) (acc : List Nat) (j : Nat) (o : Oper), ops[j]? = some o → (masksL acc ops)[acc.length + j]? = some (maskFold ((masksL acc ops).take (acc.length + j)) o.after.toList 0)
  | [], acc, j, o, h => by simp at h
  | o' :: r, acc, 0, o, h => by
    simp only [List.getElem?_cons_zero, Option.some.injEq] at h
    subst h
    simp only [Nat.add_zero, masksL_prefix]
    simp only [masksL]
    have h := masksL_prefix r (acc ++ [maskFold acc o'.after.toList 0])
    have h2 := congrArg (fun l => l[acc.length]?) h
    simpa [List.getElem?_take] using h2
  | o' :: r, acc, j + 1, o, h => by
    simp only [List.getElem?_cons_succ] at h
    have := masksL_get r (acc ++ [maskFold acc o'.after.toList 0]) j o h
    simp only [masksL]
    simpa [Nat.add_assoc, Nat.add_comm 1 j] using this

/-- What waits for something waits for all that is behind it. -/
theorem mask_closed {ops : List Oper} {D : Nat → Bool} (hD : ∀ j o, ops[j]? = some o → D j = true → ∀ e ∈ o.after.toList, Region.binds .any e = true → D e.on = true) :
    ∀ (j : Nat) (o : Oper) (i : Nat), ops[j]? = some o → (∀ e ∈ o.after.toList, Region.binds .any e = true → D e.on = true) → ((masksL [] ops).getD j 0).testBit i = true → D i = true := by
  intro j
  induction j using Nat.strongRecOn with
  | _ j ih =>
    intro o i ho hc hb
    have hget := masksL_get ops [] j o ho
    simp only [List.length_nil, Nat.zero_add] at hget
    rw [List.getD_eq_getElem?_getD, hget, Option.getD_some] at hb
    rcases maskFold_bit _ i _ _ hb with h0 | ⟨e, he, hbd, h1 | h1⟩
    · simp at h0
    · rw [h1]; exact hc e he hbd
    · have hde := hc e he hbd
      by_cases hlt : e.on < j
      · have hlt2 : e.on < ops.length := Nat.lt_trans hlt (List.getElem?_eq_some_iff.1 ho).1
        have ho2 : ops[e.on]? = some ops[e.on] := List.getElem?_eq_getElem hlt2
        rw [List.getD_eq_getElem?_getD, List.getElem?_take, if_pos hlt, ← List.getD_eq_getElem?_getD] at h1
        exact ih e.on hlt _ i ho2 (hD _ _ ho2 hde) h1
      · rw [List.getD_eq_getElem?_getD, List.getElem?_take, if_neg hlt] at h1
        simp at h1

end Go.Am
