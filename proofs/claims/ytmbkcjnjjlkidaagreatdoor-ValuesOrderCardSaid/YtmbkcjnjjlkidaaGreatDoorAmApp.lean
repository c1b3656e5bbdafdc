/- The abstract machine: appends in a sealed run. -/
import Derived.Test.YtmbkcjnjjlkidaaGreatDoorAmGc
namespace Go.Am
open Go.RowKit

/-- A slice that may be appended to, while these tags live. -/
def LiveT (L : Tr Bool) (nt : Nat) (y : AV) (xs : List AV) : Prop := LiveS ⟨.nil, 0, L, nt⟩ y xs
theorem LiveT.nil {L : Tr Bool} {nt : Nat} : LiveT L nt .nils [] := .inl ⟨rfl, rfl⟩
theorem LiveT.full {L : Tr Bool} {nt : Nat} {xs : List AV} : LiveT L nt (.sl xs .full) xs := .inr (.inl rfl)
theorem LiveT.sla {L : Tr Bool} {nt : Nat} {y : AV} {xs : List AV} (h : LiveT L nt y xs) : SlA y xs := LiveS.sla h
def KeepsT (L : Tr Bool) (nt : Nat) (L' : Tr Bool) (nt' : Nat) (y : AV) : Prop := Keeps ⟨.nil, 0, L, nt⟩ ⟨.nil, 0, L', nt'⟩ y
theorem LiveT.keep {L L' : Tr Bool} {nt nt' : Nat} {y z : AV} {xs : List AV} (h : LiveT L nt z xs) (hk : KeepsT L nt L' nt' y) (hd : ∀ t, TagIn z t → ¬ TagIn y t) : LiveT L' nt' z xs := LiveS.keep h hk hd

def mutOf (m : List Nat) (o : Oper) : Bool := match o.dst with
  | some d => m.contains d
  | none => false
theorem loud_builtin2 {C : Ctx} {m : List Nat} {call : Nat → List AV → St → Option (Res × St)} {e : Env} {s : St} {o : Oper} {c : Call} {b : Builtin} {args : List AV} {x : Res × St} (hop : o.op = .call c) (hc : c.callee = .builtin b) (ha : evs e c.args.toList = some args)
    (hb : builtinLoud C.T b (mutOf m o) c.argTypes.toList args s = some x) : loudOp C m call e s o = some x := by
  simp only [loudOp, hop, hc, ha]
  exact hb

section
variable {S : Sys} {m : List Nat} {e : Env} {Q : Ex → Env → St → Prop} {all : List Oper} {draw : Bool} {masks : List Nat} {rest : List Oper} {o : Oper} {i : Nat} {met : List Met}

theorem RO.append {hp : Tr Blk} {nx nt : Nat} {lv : Tr Bool} {c : Call} {t u el : Nat} {ts : List Nat} {ti te : TI} {y z : AV} {xs ys : List AV} (hop : o.op = .call c) (hc : c.callee = .builtin .append) (hs : isStill m o = false) (hw : wantedA all e o = some true) (hm : mutOf m o = false)
    (hargs : evs e c.args.toList = some [y, z]) (hts : c.argTypes.toList = t :: u :: ts) (ht : S.T.get t = some ti) (hk : ti.kd = .slice el) (he : S.T.get el = some te) (hu : notInt S.T u = true) (h0 : 0 < te.size) (hb : te.bytes ≤ 2 ^ 10)
    (hz : srcElems ⟨hp, nx, lv, nt⟩ te z = some ys) (hne : ys ≠ []) (hf : (ys.flatMap cellsOf).all isFlat = true) (hy : LiveT lv nt y xs) (hxs : ∀ x ∈ xs, (cellsOf x).length = te.size) (hl : xs.length + ys.length ≤ 2 ^ 32)
    (hok : ∀ L, (!draw || okLoud S.C (masks.headD 0) ⟨hp, nx, L, nt + 1⟩ met) = true)
    (h : ∀ L, LiveT L (nt + 1) (.sl (xs ++ ys) (.tag nt)) (xs ++ ys) → KeepsT lv nt L (nt + 1) y → RO S m all draw Q masks.tail rest (i + 1) (metL draw i ⟨hp, nx, lv, nt⟩ met) (putA e o.dst (.sl (xs ++ ys) (.tag nt))) ⟨hp, nx, L, nt + 1⟩) :
    RO S m all draw Q masks (o :: rest) i met e ⟨hp, nx, lv, nt⟩ := by
  have hy' : LiveS ⟨hp, nx, lv, nt⟩ y xs := LiveS.heap (s := ⟨.nil, 0, lv, nt⟩) (s' := ⟨hp, nx, lv, nt⟩) hy rfl rfl
  obtain ⟨L, h1, h2, h3⟩ := push (s := ⟨hp, nx, lv, nt⟩) (te := te) hy' hxs hne hf hb hl
  refine RO.loud hw hs (loud_builtin2 hop hc hargs (by rw [hm, hts]; exact append_loud (T := S.T) (xs := []) ht hk he hu h0 hz h1)) (hok L) ?_
  exact h L (live_new (s := ⟨.nil, 0, lv, nt⟩) h2) (keeps_new (s := ⟨.nil, 0, lv, nt⟩) h3)
end
end Go.Am
