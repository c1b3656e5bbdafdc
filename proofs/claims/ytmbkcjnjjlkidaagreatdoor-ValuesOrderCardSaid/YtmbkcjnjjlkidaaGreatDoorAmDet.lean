/- The abstract machine: what code and calls come to, told by the model: a logic of runs. -/
import Derived.Test.YtmbkcjnjjlkidaaGreatDoorAmBase
import Derived.LoopN
namespace Go.Am
open Go.RowKit

/-- A program, its tables, and the variables that are only read. -/
structure Sys where
  P : Program
  NG : Nat
  h : Tr Blk
  nx : Nat
  ρ : Nat → Option (Nat × Nat)
  T : Tr TI
  F : Tr AFun

def Sys.C (S : Sys) : Ctx := ⟨S.T, .nil, .nil⟩

structure Sys.Ok (S : Sys) : Prop where
  T : TOk S.P S.T
  F : ∀ f afn, S.F.get f = some afn →
    ∃ fn, S.P.funcs[f]? = some fn ∧ (fn.name == "runtime.NumGoroutine") = false ∧ fn.body = some afn.body ∧ fn.results.toList = afn.results ∧ codeOk S.NG fn.ntmps afn.mutDst afn.body = true
  mixed : S.P.follows .mixedOrders = true
  dom : ∀ b blk, S.h.get b = some blk → b < S.nx

structure StartK (S : Sys) (K : Nat → Prop) (w0 : World) : Prop where
  start : Start S.NG S.h S.nx S.ρ w0
  kept : ∀ b c n, S.ρ b = some (c, n) → K c

/-- A call at a state comes to an answer and a state, whatever the world. -/
def CallDet (S : Sys) (f : Nat) (args : List AV) (s : St) (r : Res) (s' : St) : Prop :=
  ∀ K w0, StartK S K w0 → ∀ G w vs, WR K w0 G s w → GOk S.NG G → VRs G args vs → CallDoes S.P f vs.toArray w (CallPost K w0 G s' r)

/-- That a table of calls is true. -/
def Good (S : Sys) (call : Nat → List AV → St → Option (Res × St)) : Prop := ∀ f args s r s', call f args s = some (r, s') → CallDet S f args s r s'

theorem Good.ok {S : Sys} {call : Nat → List AV → St → Option (Res × St)} (h : Good S call) {K : Nat → Prop} {w0 : World} (hS : StartK S K w0) : CallsOk S.P S.NG K w0 call :=
  fun f args s r s' hc G w vs hw hg hv => h f args s r s' hc K w0 hS G w vs hw hg hv

def metL (draw : Bool) (i : Nat) (s : St) (met : List Met) : List Met := match draw with | true => .ld i s :: met | false => met

/-- A region's run. -/
def EvO (S : Sys) (m : List Nat) (all : List Oper) (draw : Bool) (Q : Ex → Env → St → Prop) : List Nat → List Oper → Nat → List Met → Env → St → Prop
  | _, [], _, _, e, s => Q .normal e s
  | masks, o :: rest, i, met, e, s => ∃ b, wantedA all e o = some b ∧ match b with
    | false => EvO S m all draw Q masks.tail rest (i + 1) met (putA e o.dst undefA) s
    | true => match isStill m o with
      | true => ∃ v, stillOp S.T s.heap e o.op = some v ∧ match draw && readsHeap o.op with
        | false => EvO S m all draw Q masks.tail rest (i + 1) met (putA e o.dst v) s
        | true => okRead S.C (masks.headD 0) e o.op v met = true ∧ EvO S m all draw Q masks.tail rest (i + 1) (.rd i o.op e v :: met) (putA e o.dst v) s
      | false => ∃ call r s2, Good S call ∧ loudOp S.C m call e s o = some (r, s2) ∧ (!draw || okLoud S.C (masks.headD 0) s2 met) = true ∧ match r with
        | .ret v => EvO S m all draw Q masks.tail rest (i + 1) (metL draw i s met) (putA e o.dst v) s2
        | .pan v => (!draw || allBehind i masks.tail) = true ∧ Q (.pan v) e s2

theorem EvO.pick {S : Sys} {m : List Nat} {all : List Oper} {draw : Bool} {Q : Ex → Env → St → Prop} : ∀ (rest : List Oper) (masks : List Nat) (i : Nat) (met : List Met) (e : Env) (s : St), EvO S m all draw Q masks rest i met e s →
    ∃ ex e' s', EvO S m all draw (fun x y z => x = ex ∧ y = e' ∧ z = s') masks rest i met e s ∧ Q ex e' s'
  | [], masks, i, met, e, s, h => ⟨.normal, e, s, ⟨rfl, rfl, rfl⟩, h⟩
  | o :: rest, masks, i, met, e, s, h => by
    simp only [EvO] at h
    obtain ⟨b, hb, h⟩ := h
    cases b with
    | false =>
      obtain ⟨ex, e', s', h1, h2⟩ := EvO.pick rest _ _ _ _ _ h
      exact ⟨ex, e', s', ⟨false, hb, h1⟩, h2⟩
    | true =>
      cases hst : isStill m o with
      | true =>
        rw [hst] at h
        obtain ⟨v, hv, h⟩ := h
        cases hd : draw && readsHeap o.op with
        | false =>
          rw [hd] at h
          obtain ⟨ex, e', s', h1, h2⟩ := EvO.pick rest _ _ _ _ _ h
          exact ⟨ex, e', s', ⟨true, hb, by rw [hst]; exact ⟨v, hv, by rw [hd]; exact h1⟩⟩, h2⟩
        | true =>
          rw [hd] at h
          obtain ⟨ho, h⟩ := h
          obtain ⟨ex, e', s', h1, h2⟩ := EvO.pick rest _ _ _ _ _ h
          exact ⟨ex, e', s', ⟨true, hb, by rw [hst]; exact ⟨v, hv, by rw [hd]; exact ⟨ho, h1⟩⟩⟩, h2⟩
      | false =>
        rw [hst] at h
        obtain ⟨call, r, s2, hg, hl, ho, h⟩ := h
        cases r with
        | ret v =>
          obtain ⟨ex, e', s', h1, h2⟩ := EvO.pick rest _ _ _ _ _ h
          exact ⟨ex, e', s', ⟨true, hb, by rw [hst]; exact ⟨call, .ret v, s2, hg, hl, ho, h1⟩⟩, h2⟩
        | pan v => exact ⟨.pan v, e, s2, ⟨true, hb, by rw [hst]; exact ⟨call, .pan v, s2, hg, hl, ho, h.1, rfl, rfl, rfl⟩⟩, h.2⟩

section
variable {S : Sys} {K : Nat → Prop} {w0 : World} {N : Nat}

/-- A region in the order of the text. -/
theorem ops_seq (hS : S.Ok) (hK : StartK S K w0) {m : List Nat} (ops : Array Oper) (hops : ∀ o ∈ ops.toList, opOk S.NG N o = true) {G0 : Gh} {a0 : Act} (hN : N ≤ a0.tmps.size) {ex : Ex} {e' : Env} {s' : St} :
    ∀ (rest : List Oper) (masks : List Nat) (i : Nat) (met : List Met) (e : Env) (s : St) (G : Gh) (a : Act) (w : World), EvO S m ops.toList false (fun x y z => x = ex ∧ y = e' ∧ z = s') masks rest i met e s →
      rest = ops.toList.drop i → G0.Le G → WR K w0 G s w → GOk S.NG G → EnvR G e a → a.tmps.size = a0.tmps.size → a.defers = a0.defers →
      wpOps S.P ops (CodePost K w0 G0 a0 ex e' s') (List.range' i rest.length) a w := by
  intro rest
  induction rest with
  | nil =>
    intro masks i met e s G a w h hrest hle hw hg he hsz hd
    simp only [EvO] at h
    obtain ⟨rfl, rfl, rfl⟩ := h
    exact ⟨G, hle, hw, hd, rfl, he, hsz⟩
  | cons o rest ih =>
    intro masks i met e s G a w h hrest hle hw hg he hsz hd
    have hoi : ops.toList[i]? = some o := by
      have := congrArg (fun l => l[0]?) hrest
      simpa using this.symm
    have hoi' : ops[i]? = some o := by simpa using hoi
    have hrest' : rest = ops.toList.drop (i + 1) := by
      have := congrArg List.tail hrest
      simpa using this
    have hoo := hops o (List.mem_of_getElem? hoi)
    simp only [opOk, Bool.and_eq_true, List.all_eq_true] at hoo
    have hdall : ∀ q ∈ ops.toList, ∀ d, q.dst = some d → d < a.tmps.size := fun q hq d hdq => by
      have := hops q hq
      simp only [opOk, hdq, Bool.and_eq_true, decide_eq_true_eq] at this
      rw [hsz]; exact Nat.lt_of_lt_of_le this.2 hN
    have hwant := fun {b : Bool} => wanted_sim (b := b) he ops o hdall
    have hput : ∀ (v : Value), (a.put o.dst v).tmps.size = a0.tmps.size ∧ (a.put o.dst v).defers = a0.defers := fun v => by
      rw [← hsz, ← hd]; unfold Act.put; split <;> simp
    have hdo := hdall o (List.mem_of_getElem? hoi)
    simp only [List.length_cons, List.range'_succ, wpOps, hoi']
    simp only [EvO] at h
    obtain ⟨b, hb, h⟩ := h
    rw [hwant hb]
    cases b with
    | false =>
      simp only [Bool.false_eq_true, if_false]
      exact ih _ (i + 1) met _ s G _ w h hrest' hle hw hg (he.put (.tup [] [] .nil) hdo) (hput _).1 (hput _).2
    | true =>
      simp only [if_true]
      left
      cases hst : isStill m o with
      | true =>
        rw [hst] at h
        obtain ⟨v, hv, h⟩ := h
        simp only [Bool.false_and] at h
        refine still_wp (C := S.C) hS.T hw hg he o hoo.1 hv (fun G' u w' p1 p2 p3 => ?_)
        exact ih _ (i + 1) met _ s G' _ w' h hrest' (hle.trans p1) p2 (hg.mono p1) ((he.mono p1).put p3 hdo) (hput _).1 (hput _).2
      | false =>
        rw [hst] at h
        obtain ⟨call, r, s2, hgood, hl, _, h⟩ := h
        cases r with
        | ret v =>
          refine loud_wp (C := S.C) hS.T hw hg he (hgood.ok hK) o hoo.1 hl (fun G' u w' x hx p1 p2 p3 => ?_) (fun G' u w' x hx => by cases hx)
          cases hx
          exact ih _ (i + 1) _ _ s2 G' _ w' h hrest' (hle.trans p1) p2 (hg.mono p1) ((he.mono p1).put p3 hdo) (hput _).1 (hput _).2
        | pan v =>
          obtain ⟨_, rfl, rfl, rfl⟩ := h
          refine loud_wp (C := S.C) hS.T hw hg he (hgood.ok hK) o hoo.1 hl (fun G' u w' x hx => by cases hx) (fun G' u w' x hx p1 p2 p3 => ?_)
          cases hx
          exact ⟨G', hle.trans p1, p2, hd, u, rfl, p3⟩

theorem EvO.trace {S : Sys} {m : List Nat} (all : List Oper) (M : List Nat) (hM : M.length = all.length) (e0 : Env) (s0 : St) {ex : Ex} {e' : Env} {s' : St} :
    ∀ (rest : List Oper) (i : Nat) (met : List Met) (e : Env) (s : St) (R : List Rec),
    EvO S m all true (fun x y z => x = ex ∧ y = e' ∧ z = s') (M.drop i) rest i met e s → rest = all.drop i → R.length = i → (∀ (j : Nat) (r : Rec), R[j]? = some r → all[j]? = some r.o) → MetOf m R met → PairsOk S.C m M R →
    Chain S.C m (Good S) all R e0 s0 e s →
    ∃ R' e1 s1, Chain S.C m (Good S) all R' e0 s0 e1 s1 ∧ PairsOk S.C m M R' ∧ (∀ (j : Nat) (r : Rec), R'[j]? = some r → all[j]? = some r.o) ∧ EndOf S.C m (Good S) all M R' e1 s1 ex e' s' := by
  intro rest
  induction rest with
  | nil =>
    intro i met e s R h hrest hRl hRo hmet hpairs hchain
    simp only [EvO] at h
    obtain ⟨rfl, rfl, rfl⟩ := h
    have hlen : all.length ≤ i := by
      have := congrArg List.length hrest
      simp at this; omega
    have hle : R.length ≤ all.length := by
      rcases Nat.lt_or_ge all.length R.length with hlt | hge
      · have hr : R[all.length]? = some R[all.length] := List.getElem?_eq_getElem hlt
        have := hRo _ _ hr
        simp at this
      · exact hge
    exact ⟨R, e, s, hchain, hpairs, hRo, .normal (by omega)⟩
  | cons o rest ih =>
    intro i met e s R h hrest hRl hRo hmet hpairs hchain
    have hoi : all[i]? = some o := by
      have := congrArg (fun l => l[0]?) hrest
      simpa using this.symm
    have hrest' : rest = all.drop (i + 1) := by
      have := congrArg List.tail hrest
      simpa using this
    have next : ∀ (r : Rec), r.o = o → ∀ (j : Nat) (q : Rec), (R ++ [r])[j]? = some q → all[j]? = some q.o := fun r hr j q hq => by
      by_cases hj : j < R.length
      · rw [List.getElem?_append_left hj] at hq; exact hRo j q hq
      · rw [List.getElem?_append_right (by omega)] at hq
        have : j - R.length = 0 := by
          cases hh : j - R.length with
          | zero => rfl
          | succ n => rw [hh] at hq; simp at hq
        rw [this] at hq
        simp only [List.getElem?_cons_zero, Option.some.injEq] at hq
        subst hq
        have : j = i := by omega
        subst this
        rw [hr]; exact hoi
    simp only [EvO] at h
    rw [tail_drop, headD_drop] at h
    obtain ⟨b, hw, h⟩ := h
    cases b with
    | false =>
      have hrec : RecOk S.C m (Good S) all ⟨o, e, s, undefA, s, false⟩ := ⟨hw, fun _ => ⟨rfl, rfl⟩, fun hh => (by cases hh), fun hh => (by cases hh)⟩
      exact ih (i + 1) met _ s (R ++ [⟨o, e, s, undefA, s, false⟩]) h hrest' (by simp [hRl]) (next _ rfl) (hmet.snoc (fun x hx => hx) (fun hh => (by simp [Rec.loud] at hh)) (fun hh => (by simp [Rec.read] at hh)))
        (hpairs.snoc (fun _ _ _ _ hh => (by simp [Rec.read] at hh)) (fun _ _ _ _ hh => (by simp [Rec.loud] at hh))) (hchain.snoc rfl rfl hrec)
    | true =>
      cases hst : isStill m o with
      | true =>
        rw [hst] at h
        obtain ⟨v, hv, h⟩ := h
        have hrec : RecOk S.C m (Good S) all ⟨o, e, s, v, s, true⟩ := ⟨hw, fun hh => (by cases hh), fun _ _ => ⟨hv, rfl⟩, fun _ hh => (by rw [hst] at hh; cases hh)⟩
        simp only [Bool.true_and] at h
        cases hrd : readsHeap o.op with
        | false =>
          rw [hrd] at h
          exact ih (i + 1) met _ s (R ++ [⟨o, e, s, v, s, true⟩]) h hrest' (by simp [hRl]) (next _ rfl) (hmet.snoc (fun x hx => hx) (fun hh => (by simp [Rec.loud, hst] at hh)) (fun hh => (by simp [Rec.read, hrd] at hh)))
            (hpairs.snoc (fun _ _ _ _ hh => (by simp [Rec.read, hrd] at hh)) (fun _ _ _ _ hh => (by simp [Rec.loud, hst] at hh))) (hchain.snoc rfl rfl hrec)
        | true =>
          rw [hrd] at h
          obtain ⟨hok, h⟩ := h
          exact ih (i + 1) _ _ s (R ++ [⟨o, e, s, v, s, true⟩]) h hrest' (by simp [hRl]) (next _ rfl) (hmet.snoc (fun x hx => List.mem_cons_of_mem _ hx) (fun hh => (by simp [Rec.loud, hst] at hh)) (fun _ => (by rw [hRl]; simp)))
            (hpairs.snoc (fun j rj hj hl _ => by rw [hRl]; exact okRead_mem hok j rj.s ((hmet j rj hj).1 hl)) (fun _ _ _ _ hh => (by simp [Rec.loud, hst] at hh))) (hchain.snoc rfl rfl hrec)
      | false =>
        rw [hst] at h
        obtain ⟨call, r2, s2, hgn, hl, hok, h⟩ := h
        simp only [Bool.not_true, Bool.false_or] at hok
        cases r2 with
        | ret v =>
          have hrec : RecOk S.C m (Good S) all ⟨o, e, s, v, s2, true⟩ := ⟨hw, fun hh => (by cases hh), fun _ hh => (by rw [hst] at hh; cases hh), fun _ _ => ⟨_, hgn, hl⟩⟩
          exact ih (i + 1) _ _ s2 (R ++ [⟨o, e, s, v, s2, true⟩]) h hrest' (by simp [hRl]) (next _ rfl) (hmet.snoc (fun x hx => List.mem_cons_of_mem _ hx) (fun _ => (by rw [hRl]; simp [metL])) (fun hh => (by simp [Rec.read, hst] at hh)))
            (hpairs.snoc (fun _ _ _ _ hh => (by simp [Rec.read, hst] at hh)) (fun j rj hj hl2 _ => by rw [hRl]; exact okLoud_mem hok j rj.o.op rj.e rj.v ((hmet j rj hj).2 hl2))) (hchain.snoc rfl rfl hrec)
        | pan v =>
          obtain ⟨hb, rfl, rfl, rfl⟩ := h
          simp only [Bool.not_true, Bool.false_or] at hb
          refine ⟨R, e, s, hchain, hpairs, hRo, .pan o v _ (by rw [hRl]; exact hoi) hw hst ⟨_, hgn, hl⟩ (fun j h1 h2 => ?_)⟩
          have hb' : ∀ x ∈ M.drop (i + 1), bit x i = true := by simpa [allBehind, List.all_eq_true] using hb
          have hjm : j < M.length := by omega
          rw [hRl, List.getD_eq_getElem?_getD, List.getElem?_eq_getElem hjm, Option.getD_some]
          refine hb' _ ?_
          rw [List.mem_iff_getElem?]
          exact ⟨j - (i + 1), by rw [List.getElem?_drop, show i + 1 + (j - (i + 1)) = j by omega, List.getElem?_eq_getElem hjm]⟩

theorem region_sim (hS : S.Ok) (hK : StartK S K w0) {m : List Nat} {id : Nat} {ops : Array Oper} {draw : Bool} {e : Env} {s : St} {ex : Ex} {e' : Env} {s' : St}
    (h : EvO S m ops.toList draw (fun x y z => x = ex ∧ y = e' ∧ z = s') (masksL [] ops.toList) ops.toList 0 [] e s) (hok : codeOk S.NG N m (.region id ops draw) = true) {G : Gh} {a : Act} {w : World} (hw : WR K w0 G s w) (hg : GOk S.NG G) (he : EnvR G e a) (hN : N ≤ a.tmps.size) :
    (Code.region id ops draw).wp S.P (CodePost K w0 G a ex e' s') a w := by
  simp only [codeOk, Bool.and_eq_true, List.all_eq_true] at hok
  cases draw with
  | false =>
    refine wp_region ?_
    have := ops_seq hS hK ops hok.1 (G0 := G) (a0 := a) hN ops.toList _ 0 [] e s G a w h (by simp) (.refl G) hw hg he rfl rfl
    rw [List.range_eq_range']
    simpa using this
  | true =>
    have hreg : regionOk m ops = true := by simpa using hok.2
    obtain ⟨R, e1, s1, hc, hp, hRo, hend⟩ := EvO.trace ops.toList (masksL [] ops.toList) (by rw [masksL_length]; simp) e s ops.toList 0 [] e s []
      (by simpa using h) (by simp) rfl (by simp) (fun i r hr => by simp at hr) ⟨fun _ _ _ _ _ hi => by simp at hi, fun _ _ _ _ _ hi => by simp at hi⟩ (.nil e s)
    refine wp_region_any hS.mixed ?_
    have hstart : ∀ (R : List Rec) (k : Nat) (e : Env) (s : St), envD (fun _ => false) k R e = e ∧ stD m (fun _ => false) k R s = s := by
      intro R
      induction R with
      | nil => intro k e s; exact ⟨rfl, rfl⟩
      | cons r R ih => intro k e s; simp only [envD, stD, Bool.false_eq_true, if_false, false_and]; exact ih (k + 1) e s
    have hD0 : listedD (Array.replicate ops.size false) = fun _ => false := funext fun j => by unfold listedD; simp [Array.getElem?_replicate]; split <;> rfl
    refine region_any (C := S.C) hS.T hreg hok.1 hc hp hRo hend (fun call hcall => hcall.ok hK) (G := G) (a0 := a) hN ?_ ?_ ops.size _ a _ ?_ ?_
    · intro hx G' a' w' q1 q2 q3 q4 q5
      subst hx
      exact ⟨G', q1, q2, q5, rfl, q3, q4⟩
    · intro v hx G' a' w' u q1 q2 q3 q4
      subst hx
      exact ⟨G', q1, q2, q4, u, rfl, q3⟩
    · refine { size := by simp, closed := fun j o _ hD => (by rw [hD0] at hD; cases hD), inside := fun j hD => (by rw [hD0] at hD; cases hD), rel := ⟨G, .refl G, ?_, hg, ?_⟩, tmps := rfl, defers := rfl }
      · rw [hD0, (hstart R 0 e s).2]; exact hw.drawn
      · rw [hD0, (hstart R 0 e s).1]; exact he
    · unfold left
      rw [List.filter_eq_self.2]
      · simp
      · intro j hj
        rw [List.mem_range] at hj
        simp [hj]
end

/-- Some code, from a frame and a state, comes to an exit, a frame and a state, whatever the world. -/
def Det (S : Sys) (m : List Nat) (c : Code) (e : Env) (s : St) (ex : Ex) (e' : Env) (s' : St) : Prop :=
  ∀ N, codeOk S.NG N m c = true → ∀ K w0, StartK S K w0 → ∀ G a w, WR K w0 G s w → GOk S.NG G → EnvR G e a → N ≤ a.tmps.size → c.wp S.P (CodePost K w0 G a ex e' s') a w

def EvC (S : Sys) (m : List Nat) (c : Code) (e : Env) (s : St) (Q : Ex → Env → St → Prop) : Prop := ∃ ex e' s', Det S m c e s ex e' s' ∧ Q ex e' s'

/-- A frame that knows less. -/
def Sub (e0 e : Env) : Prop := ∀ t v, e0.get t = some v → e.get t = some v

/-- From a state on, a frame and a state may be taken for others, of which less is known. -/
def Wk (S : Sys) (s : St) (e1 : Env) (s1 : St) (e2 : Env) (s2 : St) : Prop :=
  ∀ K w0, StartK S K w0 → ∀ G w, WR K w0 G s w → ∀ G1 a1 w1, G.Le G1 → WR K w0 G1 s1 w1 → EnvR G1 e1 a1 → ∃ G2, G.Le G2 ∧ WR K w0 G2 s2 w1 ∧ EnvR G2 e2 a1

theorem Wk.forget {S : Sys} {s : St} {e1 e2 : Env} {s1 : St} (h : Sub e2 e1) : Wk S s e1 s1 e2 s1 :=
  fun _ _ _ _ _ _ G1 _ _ hle hw he => ⟨G1, hle, hw, fun t v ht => he t v (h t v ht)⟩
theorem Wk.refl {S : Sys} {s : St} {e1 : Env} {s1 : St} : Wk S s e1 s1 e1 s1 := .forget fun _ _ h => h
theorem Wk.trans {S : Sys} {s s1 s2 s3 : St} {e1 e2 e3 : Env} (h : Wk S s e1 s1 e2 s2) (h' : Wk S s e2 s2 e3 s3) : Wk S s e1 s1 e3 s3 :=
  fun K w0 hK G w hw G1 a1 w1 hle hw1 he1 =>
    let ⟨G2, q1, q2, q3⟩ := h K w0 hK G w hw G1 a1 w1 hle hw1 he1
    h' K w0 hK G w hw G2 a1 w1 q1 q2 q3

section
variable {S : Sys} {m : List Nat} {e : Env} {s : St} {Q : Ex → Env → St → Prop}

theorem EvC.mono {c : Code} {Q' : Ex → Env → St → Prop} (h : EvC S m c e s Q) (hq : ∀ ex e' s', Q ex e' s' → Q' ex e' s') : EvC S m c e s Q' :=
  let ⟨ex, e', s', h1, h2⟩ := h; ⟨ex, e', s', h1, hq _ _ _ h2⟩
theorem EvC.forget {c : Code} {e0 : Env} (h : EvC S m c e0 s Q) (hs : Sub e0 e) : EvC S m c e s Q :=
  let ⟨ex, e', s', h1, h2⟩ := h; ⟨ex, e', s', fun N hc K w0 hK G a w hw hg he hN => h1 N hc K w0 hK G a w hw hg (fun t v ht => he t v (hs t v ht)) hN, h2⟩

theorem EvC.skip (h : Q .normal e s) : EvC S m .skip e s Q := ⟨.normal, e, s, fun _ _ _ _ _ G _ _ hw _ he _ => wp_skip ⟨G, .refl G, hw, rfl, rfl, he, rfl⟩, h⟩
theorem EvC.label {l : Nat} (h : Q .normal e s) : EvC S m (.label l) e s Q := ⟨.normal, e, s, fun _ _ _ _ _ G _ _ hw _ he _ => wp_label ⟨G, .refl G, hw, rfl, rfl, he, rfl⟩, h⟩
theorem EvC.exit {id : Nat} (h : Q (.exit id) e s) : EvC S m (.exit id) e s Q := ⟨.exit id, e, s, fun _ _ _ _ _ G _ _ hw _ he _ => wp_exit ⟨G, .refl G, hw, rfl, rfl, he, rfl⟩, h⟩
theorem EvC.goto {l : Nat} (h : Q (.goto l) e s) : EvC S m (.goto l) e s Q := ⟨.goto l, e, s, fun _ _ _ _ _ G _ _ hw _ he _ => wp_goto ⟨G, .refl G, hw, rfl, rfl, he, rfl⟩, h⟩
theorem EvC.ret (h : Q .ret e s) : EvC S m .ret e s Q := ⟨.ret, e, s, fun _ _ _ _ _ G _ _ hw _ he _ => wp_ret ⟨G, .refl G, hw, rfl, rfl, he, rfl⟩, h⟩

def seqQ (S : Sys) (m : List Nat) (b : Code) (Q : Ex → Env → St → Prop) : Ex → Env → St → Prop
  | .normal, e, s => EvC S m b e s Q
  | ex, e, s => Q ex e s

theorem EvC.seq {a b : Code} (h : EvC S m a e s (seqQ S m b Q)) : EvC S m (.seq a b) e s Q := by
  obtain ⟨ex, e', s', h1, h2⟩ := h
  cases ex with
  | normal =>
    obtain ⟨ex2, e2, s2, h3, h4⟩ := h2
    refine ⟨ex2, e2, s2, fun N hc K w0 hK G a w hw hg he hN => ?_, h4⟩
    simp only [codeOk, Bool.and_eq_true] at hc
    refine wp_seq (wp_mono (h1 N hc.1 K w0 hK G a w hw hg he hN) ?_)
    rintro z a1 w1 ⟨G1, q1, q2, q3, rfl, q5, q6⟩
    exact wp_mono (h3 N hc.2 K w0 hK G1 a1 w1 q2 (hg.mono q1) q5 (by omega)) (fun z a2 w2 hz => hz.trans q1 q3 q6)
  | pan v =>
    refine ⟨_, e', s', fun N hc K w0 hK G a w hw hg he hN => ?_, h2⟩
    simp only [codeOk, Bool.and_eq_true] at hc
    refine wp_seq (wp_mono (h1 N hc.1 K w0 hK G a w hw hg he hN) ?_)
    rintro z a1 w1 ⟨G1, q1, q2, q3, u, rfl, q5⟩
    exact ⟨G1, q1, q2, q3, u, rfl, q5⟩
  | _ =>
    refine ⟨_, e', s', fun N hc K w0 hK G a w hw hg he hN => ?_, h2⟩
    simp only [codeOk, Bool.and_eq_true] at hc
    refine wp_seq (wp_mono (h1 N hc.1 K w0 hK G a w hw hg he hN) ?_)
    rintro z a1 w1 ⟨G1, q1, q2, q3, rfl, q5, q6⟩
    exact ⟨G1, q1, q2, q3, rfl, q5, q6⟩

theorem EvC.cond {x : Operand} {a b : Code} (v : Bool) (hv : ev e x = some (.bool v)) (ht : v = true → EvC S m a e s Q) (hf : v = false → EvC S m b e s Q) : EvC S m (.cond x a b) e s Q := by
  have hx : ∀ (G : Gh) (a : Act), GOk S.NG G → EnvR G e a → okO S.NG x = true → a.eval x = .bool v := fun G a hg he ho => by
    have hv := ev_sim hg he ho hv
    cases hcv : a.eval x <;> rw [hcv] at hv <;> cases hv; rfl
  cases v with
  | true =>
    obtain ⟨ex, e', s', h1, h2⟩ := ht rfl
    refine ⟨ex, e', s', fun N hc K w0 hK G a w hw hg he hN => ?_, h2⟩
    simp only [codeOk, Bool.and_eq_true] at hc
    exact wp_cond_true (hx G a hg he hc.1.1) (h1 N hc.1.2 K w0 hK G a w hw hg he hN)
  | false =>
    obtain ⟨ex, e', s', h1, h2⟩ := hf rfl
    refine ⟨ex, e', s', fun N hc K w0 hK G a w hw hg he hN => ?_, h2⟩
    simp only [codeOk, Bool.and_eq_true] at hc
    exact wp_cond_false (hx G a hg he hc.1.1) (h1 N hc.2 K w0 hK G a w hw hg he hN)

def blockQ (id : Nat) (Q : Ex → Env → St → Prop) : Ex → Env → St → Prop
  | .exit j, e, s => match j == id with
    | true => Q .normal e s
    | false => Q (.exit j) e s
  | ex, e, s => Q ex e s

theorem EvC.block {id : Nat} {a : Code} (h : EvC S m a e s (blockQ id Q)) : EvC S m (.block id a) e s Q := by
  obtain ⟨ex, e', s', h1, h2⟩ := h
  cases ex with
  | exit j =>
    simp only [blockQ] at h2
    cases hj : j == id with
    | true =>
      rw [hj] at h2
      refine ⟨.normal, e', s', fun N hc K w0 hK G a w hw hg he hN => wp_block (wp_mono (h1 N hc K w0 hK G a w hw hg he hN) ?_), h2⟩
      rintro z a1 w1 ⟨G1, q1, q2, q3, rfl, q5, q6⟩
      simp only [Exit.inBlock]
      rw [if_pos (by simpa using hj)]
      exact ⟨G1, q1, q2, q3, rfl, q5, q6⟩
    | false =>
      rw [hj] at h2
      refine ⟨.exit j, e', s', fun N hc K w0 hK G a w hw hg he hN => wp_block (wp_mono (h1 N hc K w0 hK G a w hw hg he hN) ?_), h2⟩
      rintro z a1 w1 ⟨G1, q1, q2, q3, rfl, q5, q6⟩
      simp only [Exit.inBlock]
      rw [if_neg (by simpa using hj)]
      exact ⟨G1, q1, q2, q3, rfl, q5, q6⟩
  | pan v =>
    refine ⟨_, e', s', fun N hc K w0 hK G a w hw hg he hN => wp_block (wp_mono (h1 N hc K w0 hK G a w hw hg he hN) ?_), h2⟩
    rintro z a1 w1 ⟨G1, q1, q2, q3, u, rfl, q5⟩
    exact ⟨G1, q1, q2, q3, u, rfl, q5⟩
  | _ =>
    refine ⟨_, e', s', fun N hc K w0 hK G a w hw hg he hN => wp_block (wp_mono (h1 N hc K w0 hK G a w hw hg he hN) ?_), h2⟩
    rintro z a1 w1 ⟨G1, q1, q2, q3, rfl, q5, q6⟩
    exact ⟨G1, q1, q2, q3, rfl, q5, q6⟩

theorem EvC.region (hS : S.Ok) {id : Nat} {ops : Array Oper} {draw : Bool} (h : EvO S m ops.toList draw Q (masksL [] ops.toList) ops.toList 0 [] e s) : EvC S m (.region id ops draw) e s Q := by
  obtain ⟨ex, e', s', h1, h2⟩ := EvO.pick _ _ _ _ _ _ h
  exact ⟨ex, e', s', fun N hc K w0 hK G a w hw hg he hN => region_sim hS hK h1 hc hw hg he hN, h2⟩

/-- Rounds of a loop. -/
def DetR (S : Sys) (m : List Nat) (c : Code) (n : Nat) (e : Env) (s : St) (ex : Ex) (e' : Env) (s' : St) : Prop :=
  ∀ N, codeOk S.NG N m c = true → ∀ K w0, StartK S K w0 → ∀ G a w, WR K w0 G s w → GOk S.NG G → EnvR G e a → N ≤ a.tmps.size → Code.rounds S.P c (CodePost K w0 G a ex e' s') n a w

theorem rounds_mono {P : Program} {c : Code} {Q Q' : Exit → Act → World → Prop} (hq : ∀ x a w, Q x a w → Q' x a w) : ∀ (n : Nat) (a : Act) (w : World), Code.rounds P c Q n a w → Code.rounds P c Q' n a w
  | 0, _, _, h => h
  | n + 1, a, w, h => by
    refine wp_mono (h : c.wp P _ a w) ?_
    intro x a1 w1 hx
    cases x <;> first | exact rounds_mono hq n _ _ hx | exact hq _ _ _ hx

theorem DetR.zero {c : Code} {ex : Ex} {e' : Env} {s' : St} (h : Det S m c e s ex e' s') (hx : ex ≠ .normal) : DetR S m c 1 e s ex e' s' := by
  intro N hc K w0 hK G a w hw hg he hN
  refine wp_mono (h N hc K w0 hK G a w hw hg he hN) ?_
  rintro z a1 w1 ⟨G1, q1, q2, q3, q4⟩
  cases ex with
  | normal => exact absurd rfl hx
  | pan v =>
    obtain ⟨u, rfl, q5⟩ := q4
    exact ⟨G1, q1, q2, q3, u, rfl, q5⟩
  | _ =>
    obtain ⟨rfl, q5, q6⟩ := q4
    exact ⟨G1, q1, q2, q3, rfl, q5, q6⟩

theorem DetR.succ {c : Code} {n : Nat} {ex : Ex} {e1 e2 e' : Env} {s1 s2 s' : St} (h : Det S m c e s .normal e1 s1) (hk : Wk S s e1 s1 e2 s2) (h2 : DetR S m c n e2 s2 ex e' s') : DetR S m c (n + 1) e s ex e' s' := by
  intro N hc K w0 hK G a w hw hg he hN
  refine wp_mono (h N hc K w0 hK G a w hw hg he hN) ?_
  rintro z a1 w1 ⟨G1, q1, q2, q3, rfl, q5, q6⟩
  obtain ⟨G2, p1, p2, p3⟩ := hk K w0 hK G w hw G1 a1 w1 q1 q2 q5
  exact rounds_mono (fun z a2 w2 hz => CodePost.trans hz p1 q3 q6) n a1 w1 (h2 N hc K w0 hK G2 a1 w1 p2 (hg.mono p1) p3 (by omega))

theorem DetR.loop {c : Code} {n : Nat} {ex : Ex} {e' : Env} {s' : St} (h : DetR S m c n e s ex e' s') : Det S m (.loop c) e s ex e' s' :=
  fun N hc K w0 hK G a w hw hg he hN => wp_loop_rounds n (h N hc K w0 hK G a w hw hg he hN)

/-- What holds behind a round. -/
def roundQ (S : Sys) (s : St) (I : Nat → Env → St → Prop) (k : Nat) (Q : Ex → Env → St → Prop) : Ex → Env → St → Prop
  | .normal, e1, s1 => ∃ j, j < k ∧ ∃ e2 s2, Wk S s e1 s1 e2 s2 ∧ I j e2 s2
  | ex, e, s => Q ex e s

/-- A loop, by what holds ahead of each round and a number that falls. -/
theorem EvC.loop_inv {a : Code} (I : Nat → Env → St → Prop) (hround : ∀ k e s, I k e s → EvC S m a e s (roundQ S s I k Q)) (k : Nat) (e0 : Env) (hI : I k e0 s) (hsub : Sub e0 e) : EvC S m (.loop a) e s Q := by
  have main : ∀ (k : Nat) (e : Env) (s : St), I k e s → ∃ n ex e' s', DetR S m a n e s ex e' s' ∧ Q ex e' s' := by
    intro k
    induction k using Nat.strongRecOn with
    | _ k ih =>
      intro e s hI
      obtain ⟨ex, e1, s1, h1, h2⟩ := hround k e s hI
      cases ex with
      | normal =>
        obtain ⟨j, hj, e2, s2, hk, hI'⟩ := h2
        obtain ⟨n, ex, e', s', h3, h4⟩ := ih j hj e2 s2 hI'
        exact ⟨n + 1, ex, e', s', DetR.succ h1 hk h3, h4⟩
      | _ => exact ⟨1, _, e1, s1, DetR.zero h1 (fun h => by cases h), h2⟩
  obtain ⟨n, ex, e', s', h1, h2⟩ := main k e0 s hI
  exact EvC.forget ⟨ex, e', s', h1.loop, h2⟩ hsub

section ops
variable {all : List Oper} {draw : Bool} {masks : List Nat} {rest : List Oper} {o : Oper} {i : Nat} {met : List Met}

theorem EvO.nil (h : Q .normal e s) : EvO S m all draw Q masks [] i met e s := h

theorem EvO.skip (hw : wantedA all e o = some false) (h : EvO S m all draw Q masks.tail rest (i + 1) met (putA e o.dst undefA) s) : EvO S m all draw Q masks (o :: rest) i met e s :=
  ⟨false, hw, h⟩

theorem EvO.still {v : AV} (hw : wantedA all e o = some true) (hs : isStill m o = true) (hv : stillOp S.T s.heap e o.op = some v) (hd : (draw && readsHeap o.op) = false)
    (h : EvO S m all draw Q masks.tail rest (i + 1) met (putA e o.dst v) s) : EvO S m all draw Q masks (o :: rest) i met e s :=
  ⟨true, hw, by rw [hs]; exact ⟨v, hv, by rw [hd]; exact h⟩⟩

theorem EvO.read {v : AV} (hw : wantedA all e o = some true) (hs : isStill m o = true) (hv : stillOp S.T s.heap e o.op = some v) (hd : (draw && readsHeap o.op) = true) (hok : okRead S.C (masks.headD 0) e o.op v met = true)
    (h : EvO S m all draw Q masks.tail rest (i + 1) (.rd i o.op e v :: met) (putA e o.dst v) s) : EvO S m all draw Q masks (o :: rest) i met e s :=
  ⟨true, hw, by rw [hs]; exact ⟨v, hv, by rw [hd]; exact ⟨hok, h⟩⟩⟩

theorem good_none : Good S fun _ _ _ => none := fun _ _ _ _ _ h => by cases h

theorem EvO.loud {v : AV} {s2 : St} (hw : wantedA all e o = some true) (hs : isStill m o = false) (hl : loudOp S.C m (fun _ _ _ => none) e s o = some (.ret v, s2)) (hok : (!draw || okLoud S.C (masks.headD 0) s2 met) = true)
    (h : EvO S m all draw Q masks.tail rest (i + 1) (metL draw i s met) (putA e o.dst v) s2) : EvO S m all draw Q masks (o :: rest) i met e s :=
  ⟨true, hw, by rw [hs]; exact ⟨_, _, _, good_none, hl, hok, h⟩⟩

theorem EvO.pan {v : AV} {s2 : St} (hw : wantedA all e o = some true) (hs : isStill m o = false) (hl : loudOp S.C m (fun _ _ _ => none) e s o = some (.pan v, s2)) (hok : (!draw || okLoud S.C (masks.headD 0) s2 met) = true) (hb : (!draw || allBehind i masks.tail) = true)
    (h : Q (.pan v) e s2) : EvO S m all draw Q masks (o :: rest) i met e s :=
  ⟨true, hw, by rw [hs]; exact ⟨_, _, _, good_none, hl, hok, hb, h⟩⟩

/-- A call comes to an answer with a property. -/
def CallsTo (S : Sys) (f : Nat) (args : List AV) (s : St) (R : Res → St → Prop) : Prop := ∃ r s', CallDet S f args s r s' ∧ R r s'

open Classical in
theorem EvO.call {c : Call} {f : Operand} {fid : Nat} {first cap args : List AV} (hop : o.op = .call c) (hcal : c.callee = .value f) (hw : wantedA all e o = some true) (hargs : evs e c.args.toList = some args) (hf : ev e f = some (.fn (.func fid) first cap))
    (h : CallsTo S fid (first ++ args ++ cap) s fun r s2 => (!draw || okLoud S.C (masks.headD 0) s2 met) = true ∧ match r with
      | .ret v => EvO S m all draw Q masks.tail rest (i + 1) (metL draw i s met) (putA e o.dst v) s2
      | .pan v => (!draw || allBehind i masks.tail) = true ∧ Q (.pan v) e s2) : EvO S m all draw Q masks (o :: rest) i met e s := by
  obtain ⟨r, s2, h1, hok, h2⟩ := h
  have hs : isStill m o = false := by simp [isStill, hop, hcal]
  refine ⟨true, hw, ?_⟩
  rw [hs]
  refine ⟨fun f' a' st' => if f' = fid ∧ a' = first ++ args ++ cap ∧ st' = s then some (r, s2) else none, r, s2, ?_, ?_, hok, ?_⟩
  · intro f' a' st' r' s' hc
    simp only [] at hc
    split at hc
    · rename_i hx
      obtain ⟨rfl, rfl, rfl⟩ := hx
      cases hc
      exact h1
    · cases hc
  · simp only [loudOp, hop, hargs, hcal, hf]
    simp
  · cases r <;> exact h2
end ops

theorem CallsTo.mono {f : Nat} {args : List AV} {R R' : Res → St → Prop} (h : CallsTo S f args s R) (hq : ∀ r s', R r s' → R' r s') : CallsTo S f args s R' :=
  let ⟨r, s', h1, h2⟩ := h; ⟨r, s', h1, hq _ _ h2⟩
end
end Go.Am
