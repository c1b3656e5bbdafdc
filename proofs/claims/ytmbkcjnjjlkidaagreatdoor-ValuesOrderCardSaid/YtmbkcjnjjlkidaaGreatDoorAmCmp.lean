/- The abstract machine: comparisons part the run. -/
import Derived.Test.YtmbkcjnjjlkidaaGreatDoorAmRules
namespace Go.Am
open Go.RowKit

def isCmp : Op → Bool
  | .binOp .eql _ _ _ _ => true
  | .binOp .neq _ _ _ _ => true
  | .binOp .lss _ _ _ _ => true
  | .binOp .leq _ _ _ _ => true
  | .binOp .gtr _ _ _ _ => true
  | .binOp .geq _ _ _ _ => true
  | _ => false

section
variable {S : Sys} {m : List Nat} {e : Env} {s : St} {Q : Ex → Env → St → Prop} {all : List Oper} {draw : Bool} {masks : List Nat} {rest : List Oper} {o : Oper} {i : Nat} {met : List Met}

theorem EvO.cmp (v : Bool) (hc : isCmp o.op = true) (hw : wantedA all e o = some true) (hv : stillOp S.T s.heap e o.op = some (.bool v))
    (h : EvO S m all draw Q masks.tail rest (i + 1) met (putA e o.dst (.bool v)) s) : EvO S m all draw Q masks (o :: rest) i met e s := by
  have hs : isStill m o = true ∧ readsHeap o.op = false := by
    obtain ⟨dst, op, type, pos, after, guard⟩ := o
    cases op <;> simp_all [isCmp, isStill, readsHeap]
  exact EvO.still hw hs.1 hv (by rw [hs.2]; simp) h

theorem EvO.cmpB {v : Bool} (hc : isCmp o.op = true) (hw : wantedA all e o = some true) (hv : stillOp S.T s.heap e o.op = some (.bool v))
    (ht : v = true → EvO S m all draw Q masks.tail rest (i + 1) met (putA e o.dst (.bool true)) s) (hf : v = false → EvO S m all draw Q masks.tail rest (i + 1) met (putA e o.dst (.bool false)) s) : EvO S m all draw Q masks (o :: rest) i met e s := by
  cases v with
  | true => exact EvO.cmp true hc hw hv (ht rfl)
  | false => exact EvO.cmp false hc hw hv (hf rfl)

theorem EvC.condT {x : Operand} {a b : Code} (hv : ev e x = some (.bool true)) (h : EvC S m a e s Q) : EvC S m (.cond x a b) e s Q := EvC.cond true hv (fun _ => h) (fun h => by cases h)
theorem EvC.condF {x : Operand} {a b : Code} (hv : ev e x = some (.bool false)) (h : EvC S m b e s Q) : EvC S m (.cond x a b) e s Q := EvC.cond false hv (fun h => by cases h) (fun _ => h)
end

section
variable {T : Tr TI} {h : Tr Blk} {env : Env} {y x : AV} {xs : List AV}

theorem idx_op {t : Nat} {a b : Operand} {ti te : TI} {e : Nat} {i : Int} {kk : IntKind} (hx : xs[i.toNat]? = some x) (hy : SlA y xs) (ha : ev env a = some y) (hb : ev env b = some (.int kk i)) (h0 : 0 ≤ i) (ht : T.get t = some ti) (hk : ti.kd = .slice e) (he : T.get e = some te) (hs : (cellsOf x).length = te.size) :
    stillOp T h env (.indexAddr t a b) = some (.elem xs i.toNat 0) := by
  simp only [stillOp, ha, hb]
  exact idx_sl ht hk he hy h0 hx hs

theorem load_agg_op {t : Nat} {a : Operand} {ti : TI} {i : Nat} {cs : List AV} (hx : xs[i]? = some (.agg cs)) (ha : ev env a = some (.elem xs i 0)) (ht : T.get t = some ti) (hg : ti.agg = true) (hs : cs.length = ti.size) : stillOp T h env (.load t a) = some (.agg cs) := by
  simp only [stillOp, ha]
  exact load_agg ht hg hx hs

theorem load_flat_op {t : Nat} {a : Operand} {ti : TI} {i : Nat} (hx : xs[i]? = some x) (ha : ev env a = some (.elem xs i 0)) (ht : T.get t = some ti) (hg : ti.agg = false) (hf : cellsOf x = [x]) : stillOp T h env (.load t a) = some x := by
  simp only [stillOp, ha]
  exact load_flat ht hg hx hf

theorem len_op {c : Call} {t e : Nat} {ti : TI} {ts : List Nat} (hy : SlA y xs) (ha : evs env c.args.toList = some [y]) (hc : c.callee = .builtin .len) (hts : c.argTypes.toList = t :: ts) (ht : T.get t = some ti) (hk : ti.kd = .slice e) : stillOp T h env (.call c) = some (.int .i64 xs.length) := by
  simp only [stillOp, ha, hc, hts]
  exact len_sl ht hk hy
end
theorem SlA.flat {y : AV} {xs : List AV} (h : SlA y xs) : isFlat y = true := by
  rcases h with ⟨rfl, _⟩ | ⟨k, rfl⟩ <;> rfl
theorem SlA.flat4 {y a b c : AV} {xs : List AV} (h : SlA y xs) (ha : isFlat a = true) (hb : isFlat b = true) (hc : isFlat c = true) : (cellsOf (.agg [a, b, c, y])).all isFlat = true := by
  simp [cellsOf, h.flat, ha, hb, hc]
theorem loud_box {C : Ctx} {m : List Nat} {call : Nat → List AV → St → Option (Res × St)} {e : Env} {s : St} {o : Oper} {t : Nat} {x : Operand} {v : AV} (hf : (cellsOf v).all isFlat = true) (hop : o.op = .box t x) (hx : ev e x = some v) :
    loudOp C m call e s o = some (.ret (.ptr s.next 0), s.alloc (.cells (cellsOf v) false)) := by
  simp only [loudOp, hop, hx, hf]
end Go.Am
