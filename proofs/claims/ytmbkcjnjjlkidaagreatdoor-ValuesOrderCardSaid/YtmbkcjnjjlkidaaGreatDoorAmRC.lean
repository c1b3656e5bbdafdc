/- The abstract machine: the rules of runs, sealed. -/
import Derived.Test.YtmbkcjnjjlkidaaGreatDoorAmCmp
namespace Go.Am
open Go.RowKit

/-- A run of some code. -/
structure RC (S : Sys) (m : List Nat) (c : Code) (e : Env) (s : St) (Q : Ex → Env → St → Prop) : Prop where
  h : EvC S m c e s Q

/-- A run of the rest of a region. -/
structure RO (S : Sys) (m : List Nat) (all : List Oper) (draw : Bool) (Q : Ex → Env → St → Prop) (masks : List Nat) (ops : List Oper) (i : Nat) (met : List Met) (e : Env) (s : St) : Prop where
  h : EvO S m all draw Q masks ops i met e s

section
variable {S : Sys} {m : List Nat} {e : Env} {s : St} {Q : Ex → Env → St → Prop}

theorem RC.mono {c : Code} {Q' : Ex → Env → St → Prop} (h : RC S m c e s Q) (hq : ∀ ex e' s', Q ex e' s' → Q' ex e' s') : RC S m c e s Q' := ⟨h.h.mono hq⟩
theorem RC.forget {c : Code} {e0 : Env} (h : RC S m c e0 s Q) (hs : Sub e0 e) : RC S m c e s Q := ⟨h.h.forget hs⟩
theorem RC.skip (h : Q .normal e s) : RC S m .skip e s Q := ⟨.skip h⟩
theorem RC.label {l : Nat} (h : Q .normal e s) : RC S m (.label l) e s Q := ⟨.label h⟩
theorem RC.exit {id : Nat} (h : Q (.exit id) e s) : RC S m (.exit id) e s Q := ⟨.exit h⟩
theorem RC.goto {l : Nat} (h : Q (.goto l) e s) : RC S m (.goto l) e s Q := ⟨.goto h⟩
theorem RC.ret (h : Q .ret e s) : RC S m .ret e s Q := ⟨.ret h⟩

def seqR (S : Sys) (m : List Nat) (b : Code) (Q : Ex → Env → St → Prop) : Ex → Env → St → Prop
  | .normal, e, s => RC S m b e s Q
  | ex, e, s => Q ex e s

theorem RC.seq {a b : Code} (h : RC S m a e s (seqR S m b Q)) : RC S m (.seq a b) e s Q :=
  ⟨.seq (h.h.mono fun ex e' s' h => by cases ex <;> first | exact RC.h h | exact h)⟩
theorem RC.condT {x : Operand} {a b : Code} (hv : ev e x = some (.bool true)) (h : RC S m a e s Q) : RC S m (.cond x a b) e s Q := ⟨.condT hv h.h⟩
theorem RC.condF {x : Operand} {a b : Code} (hv : ev e x = some (.bool false)) (h : RC S m b e s Q) : RC S m (.cond x a b) e s Q := ⟨.condF hv h.h⟩
theorem RC.cond {x : Operand} {a b : Code} (v : Bool) (hv : ev e x = some (.bool v)) (ht : v = true → RC S m a e s Q) (hf : v = false → RC S m b e s Q) : RC S m (.cond x a b) e s Q :=
  ⟨.cond v hv (fun h => (ht h).h) (fun h => (hf h).h)⟩
theorem RC.block {id : Nat} {a : Code} (h : RC S m a e s (blockQ id Q)) : RC S m (.block id a) e s Q := ⟨.block h.h⟩
theorem RC.region (hS : S.Ok) {id : Nat} {ops : Array Oper} {draw : Bool} (h : RO S m ops.toList draw Q (masksL [] ops.toList) ops.toList 0 [] e s) : RC S m (.region id ops draw) e s Q := ⟨.region hS h.h⟩

/-- A loop, by what holds ahead of each round and a number that falls. -/
theorem RC.loop {a : Code} (I : Nat → Env → St → Prop) (hround : ∀ k e s, I k e s → RC S m a e s (roundQ S s I k Q)) (k : Nat) (e0 : Env) (hI : I k e0 s) (hsub : Sub e0 e) : RC S m (.loop a) e s Q :=
  ⟨.loop_inv I (fun k e s h => (hround k e s h).h) k e0 hI hsub⟩

variable {all : List Oper} {draw : Bool} {masks : List Nat} {rest : List Oper} {o : Oper} {i : Nat} {met : List Met}

theorem RO.nil (h : Q .normal e s) : RO S m all draw Q masks [] i met e s := ⟨.nil h⟩
theorem RO.skip (hw : wantedA all e o = some false) (h : RO S m all draw Q masks.tail rest (i + 1) met (putA e o.dst undefA) s) : RO S m all draw Q masks (o :: rest) i met e s := ⟨.skip hw h.h⟩
theorem RO.still {v : AV} (hw : wantedA all e o = some true) (hs : isStill m o = true) (hv : stillOp S.T s.heap e o.op = some v) (hd : (draw && readsHeap o.op) = false)
    (h : RO S m all draw Q masks.tail rest (i + 1) met (putA e o.dst v) s) : RO S m all draw Q masks (o :: rest) i met e s := ⟨.still hw hs hv hd h.h⟩
theorem RO.read {v : AV} (hw : wantedA all e o = some true) (hs : isStill m o = true) (hv : stillOp S.T s.heap e o.op = some v) (hd : (draw && readsHeap o.op) = true) (hok : okRead S.C (masks.headD 0) e o.op v met = true)
    (h : RO S m all draw Q masks.tail rest (i + 1) (.rd i o.op e v :: met) (putA e o.dst v) s) : RO S m all draw Q masks (o :: rest) i met e s := ⟨.read hw hs hv hd hok h.h⟩
theorem RO.loud {v : AV} {s2 : St} (hw : wantedA all e o = some true) (hs : isStill m o = false) (hl : loudOp S.C m (fun _ _ _ => none) e s o = some (.ret v, s2)) (hok : (!draw || okLoud S.C (masks.headD 0) s2 met) = true)
    (h : RO S m all draw Q masks.tail rest (i + 1) (metL draw i s met) (putA e o.dst v) s2) : RO S m all draw Q masks (o :: rest) i met e s := ⟨.loud hw hs hl hok h.h⟩
theorem RO.pan {v : AV} {s2 : St} (hw : wantedA all e o = some true) (hs : isStill m o = false) (hl : loudOp S.C m (fun _ _ _ => none) e s o = some (.pan v, s2)) (hok : (!draw || okLoud S.C (masks.headD 0) s2 met) = true) (hb : (!draw || allBehind i masks.tail) = true)
    (h : Q (.pan v) e s2) : RO S m all draw Q masks (o :: rest) i met e s := ⟨.pan hw hs hl hok hb h⟩
theorem RO.call {c : Call} {f : Operand} {fid : Nat} {first cap args : List AV} (hop : o.op = .call c) (hcal : c.callee = .value f) (hw : wantedA all e o = some true) (hargs : evs e c.args.toList = some args) (hf : ev e f = some (.fn (.func fid) first cap))
    (h : CallsTo S fid (first ++ args ++ cap) s fun r s2 => (!draw || okLoud S.C (masks.headD 0) s2 met) = true ∧ match r with
      | .ret v => RO S m all draw Q masks.tail rest (i + 1) (metL draw i s met) (putA e o.dst v) s2
      | .pan v => (!draw || allBehind i masks.tail) = true ∧ Q (.pan v) e s2) : RO S m all draw Q masks (o :: rest) i met e s :=
  ⟨.call hop hcal hw hargs hf (h.mono fun r s' h => ⟨h.1, by cases r <;> first | exact RO.h h.2 | exact h.2⟩)⟩
theorem RO.cmp (v : Bool) (hc : isCmp o.op = true) (hw : wantedA all e o = some true) (hv : stillOp S.T s.heap e o.op = some (.bool v))
    (h : RO S m all draw Q masks.tail rest (i + 1) met (putA e o.dst (.bool v)) s) : RO S m all draw Q masks (o :: rest) i met e s := ⟨.cmp v hc hw hv h.h⟩
theorem RO.cmpB {v : Bool} (hc : isCmp o.op = true) (hw : wantedA all e o = some true) (hv : stillOp S.T s.heap e o.op = some (.bool v))
    (ht : v = true → RO S m all draw Q masks.tail rest (i + 1) met (putA e o.dst (.bool true)) s) (hf : v = false → RO S m all draw Q masks.tail rest (i + 1) met (putA e o.dst (.bool false)) s) : RO S m all draw Q masks (o :: rest) i met e s :=
  ⟨.cmpB hc hw hv (fun h => (ht h).h) (fun h => (hf h).h)⟩

theorem RO.gd (p : Oper → Bool) (_ : p o = true) (h : RO S m all draw Q masks (o :: rest) i met e s) : RO S m all draw Q masks (o :: rest) i met e s := h

theorem RO.gs (_ : isStill m o = true) (h : RO S m all draw Q masks (o :: rest) i met e s) : RO S m all draw Q masks (o :: rest) i met e s := h

def isCmpO (o : Oper) : Bool := isCmp o.op
def isCallF (o : Oper) : Bool := match o.op with
  | .call c => match c.callee with
    | .value _ => true
    | _ => false
  | _ => false
def isLen (o : Oper) : Bool := match o.op with
  | .call c => match c.callee with
    | .builtin .len => true
    | _ => false
  | _ => false
def isIdx (o : Oper) : Bool := match o.op with
  | .indexAddr .. => true
  | _ => false
def isLoad (o : Oper) : Bool := match o.op with
  | .load .. => true
  | _ => false

/-- What has been met behind an operation that only looks. -/
def metS (draw : Bool) (o : Oper) (i : Nat) (e : Env) (v : AV) (met : List Met) : List Met := match draw && readsHeap o.op with
  | true => .rd i o.op e v :: met
  | false => met

theorem RO.st {v : AV} (hw : wantedA all e o = some true) (hs : isStill m o = true) (hv : stillOp S.T s.heap e o.op = some v) (hok : (!(draw && readsHeap o.op) || okRead S.C (masks.headD 0) e o.op v met) = true)
    (h : RO S m all draw Q masks.tail rest (i + 1) (metS draw o i e v met) (putA e o.dst v) s) : RO S m all draw Q masks (o :: rest) i met e s := by
  cases hd : draw && readsHeap o.op with
  | false => exact RO.still hw hs hv hd (by simpa only [metS, hd] using h)
  | true => rw [hd] at hok; exact RO.read hw hs hv hd (by simpa using hok) (by simpa only [metS, hd] using h)

theorem RO.len {c : Call} {t k : Nat} {ti : TI} {ts : List Nat} {y : AV} {xs : List AV} (hop : o.op = .call c) (hc : c.callee = .builtin .len) (hw : wantedA all e o = some true) (ha : evs e c.args.toList = some [y]) (hy : SlA y xs) (hts : c.argTypes.toList = t :: ts) (ht : S.T.get t = some ti) (hk : ti.kd = .slice k)
    (h : RO S m all draw Q masks.tail rest (i + 1) met (putA e o.dst (.int .i64 xs.length)) s) : RO S m all draw Q masks (o :: rest) i met e s :=
  RO.still hw (by simp only [isStill, hop, hc]) (by rw [hop]; exact len_op hy ha hc hts ht hk) (by simp [readsHeap, hop]) h

theorem RO.idx {t k : Nat} {a b : Operand} {ti te : TI} {y x : AV} {xs : List AV} {n : Int} {kk : IntKind} (hop : o.op = .indexAddr t a b) (hw : wantedA all e o = some true) (ha : ev e a = some y) (hb : ev e b = some (.int kk n)) (hy : SlA y xs) (hx : xs[n.toNat]? = some x) (h0 : 0 ≤ n) (ht : S.T.get t = some ti) (hk : ti.kd = .slice k) (he : S.T.get k = some te) (hs : (cellsOf x).length = te.size)
    (h : RO S m all draw Q masks.tail rest (i + 1) met (putA e o.dst (.elem xs n.toNat 0)) s) : RO S m all draw Q masks (o :: rest) i met e s :=
  RO.still hw (by simp only [isStill, hop]) (by rw [hop]; exact idx_op hx hy ha hb h0 ht hk he hs) (by simp [readsHeap, hop]) h

theorem RO.ldA {t : Nat} {a : Operand} {ti : TI} {xs cs : List AV} {n : Nat} (hop : o.op = .load t a) (hw : wantedA all e o = some true) (ha : ev e a = some (.elem xs n 0)) (hx : xs[n]? = some (.agg cs)) (ht : S.T.get t = some ti) (hg : ti.agg = true) (hs : cs.length = ti.size)
    (hok : (!(draw && readsHeap o.op) || okRead S.C (masks.headD 0) e o.op (.agg cs) met) = true) (h : RO S m all draw Q masks.tail rest (i + 1) (metS draw o i e (.agg cs) met) (putA e o.dst (.agg cs)) s) : RO S m all draw Q masks (o :: rest) i met e s :=
  RO.st hw (by simp only [isStill, hop]) (by rw [hop]; exact load_agg_op hx ha ht hg hs) hok h

theorem RO.ldF {t : Nat} {a : Operand} {ti : TI} {xs : List AV} {x : AV} {n : Nat} (hop : o.op = .load t a) (hw : wantedA all e o = some true) (ha : ev e a = some (.elem xs n 0)) (hx : xs[n]? = some x) (ht : S.T.get t = some ti) (hg : ti.agg = false) (hs : cellsOf x = [x])
    (hok : (!(draw && readsHeap o.op) || okRead S.C (masks.headD 0) e o.op x met) = true) (h : RO S m all draw Q masks.tail rest (i + 1) (metS draw o i e x met) (putA e o.dst x) s) : RO S m all draw Q masks (o :: rest) i met e s :=
  RO.st hw (by simp only [isStill, hop]) (by rw [hop]; exact load_flat_op hx ha ht hg hs) hok h

/-- A function's run, from its arguments. -/
theorem CallsTo.run (hS : S.Ok) {f : Nat} {fn : AFun} (hf : S.F.get f = some fn) {args : List AV} {R : Res → St → Prop} (h : RC S fn.mutDst fn.body (Tr.ofList (enumA args 0)) s (bodyQ S fn R)) : CallsTo S f args s R :=
  CallsTo.fn_ hS hf (EvC.forget h.h (init_sub _))
end
end Go.Am
namespace Go.Am
/-- A struct is stored whole. -/
theorem store_agg {T : Tr TI} {s : St} {t b : Nat} {ti : TI} {cs0 cs : List AV} (hb : s.heap.get b = some (.cells cs0 false)) (ht : T.get t = some ti) (h4 : cs.length = ti.size) (h0 : cs0.length = ti.size) (hf : cs.all isFlat = true) :
    storeA T s t (.ptr b 0) (.agg cs) = some { s with heap := s.heap.set b (.cells cs false) } := by
  simp only [storeA, ht, hb, cellsOf, h4, h0, hf, splice, Nat.zero_add, beq_self_eq_true, Nat.le_refl, decide_true, Bool.and_self, List.take_zero, List.nil_append]
  rw [List.drop_eq_nil_of_le (by omega), List.append_nil]
end Go.Am
