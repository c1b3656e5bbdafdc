/- The abstract machine: how the tables of a program are checked. -/
import Derived.Test.YtmbkcjnjjlkidaaGreatDoorAmKit
namespace Go.Am
open Go.RowKit

def fsBeq : List (Nat × Nat × Bool) → List (Nat × Nat × Bool) → Bool
  | [], [] => true
  | (a, b, c) :: xs, (d, e, f) :: ys => a == d && b == e && c == f && fsBeq xs ys
  | _, _ => false
theorem fs_of_beq : ∀ {a b : List (Nat × Nat × Bool)}, fsBeq a b = true → a = b
  | [], [], _ => rfl
  | [], _ :: _, h => by simp [fsBeq] at h
  | _ :: _, [], h => by simp [fsBeq] at h
  | (a, b, c) :: xs, (d, e, f) :: ys, h => by
    simp only [fsBeq, Bool.and_eq_true, beq_iff_eq] at h
    rw [h.1.1.1, h.1.1.2, h.1.2, fs_of_beq h.2]

def TK.beq : TK → TK → Bool
  | .bool, .bool => true
  | .int k, .int j => decide (k = j)
  | .str, .str => true
  | .ptr a, .ptr b => a == b
  | .slice a, .slice b => a == b
  | .arr a b, .arr c d => a == c && b == d
  | .map a b, .map c d => a == c && b == d
  | .struct a, .struct b => fsBeq a b
  | .func, .func => true
  | .iface, .iface => true
  | .other, .other => true
  | _, _ => false
theorem TK.eq_of_beq {a b : TK} (h : TK.beq a b = true) : a = b := by
  cases a <;> cases b <;> simp_all [TK.beq]
  exact fs_of_beq h

def tokB (P : Program) (t : Nat) (ti : TI) : Bool :=
  match P.info? t, P.underlying t with
  | some i, some d => TK.beq ti.kd (tkOf d) && i.size == ti.size && i.bytes == ti.bytes &&
      (match i.zero with
        | some z => (match ofV 8 z with
          | some a => AV.beq a ti.zero
          | none => false)
        | none => false) &&
      (cellsOf ti.zero).length == ti.size && ((!isFlat ti.zero) == ti.agg) && (cellsOf ti.zero).all isFlat &&
      (!ti.plain || (i.comparable && !P.stoodInHeld t && !P.eqGuardType P.depth t))
  | _, _ => false

theorem tok_of {P : Program} {t : Nat} {ti : TI} (h : tokB P t ti = true) : TOk1 P t ti := by
  unfold tokB at h
  split at h
  · rename_i i d hi hd
    simp only [Bool.and_eq_true, beq_iff_eq, Bool.or_eq_true, Bool.not_eq_true'] at h
    obtain ⟨⟨⟨⟨⟨⟨⟨h1, h2⟩, h3⟩, h4⟩, h5⟩, h6⟩, h7⟩, h8⟩ := h
    split at h4
    · rename_i z hz
      split at h4
      · rename_i a ha
        refine ⟨i, d, z, hi, hd, TK.eq_of_beq h1, h2, h3, hz, ?_, h5, h6, h7, fun hp => ?_⟩
        · rw [ha, AV.eq_of_beq _ _ h4]
        · rcases h8 with h8 | h8
          · rw [hp] at h8; cases h8
          · exact ⟨h8.1.1, h8.1.2, h8.2⟩
      · cases h4
    · cases h4
  · cases h

def TrAllB {α : Type} (p : Nat → α → Bool) : (Nat → Nat) → Tr α → Bool
  | _, .nil => true
  | f, .node v l r => (match v with
      | some x => p (f 0) x
      | none => true) && TrAllB p (fun k => f (2 * k + 1)) l && TrAllB p (fun k => f (2 * k + 2)) r
  | _, .cnil => true
  | _, .cons _ _ _ => false

theorem TrAllB.get {α : Type} {p : Nat → α → Bool} : ∀ (k : Nat) (f : Nat → Nat) (t : Tr α) (x : α), TrAllB p f t = true → t.get k = some x → p (f k) x = true := by
  intro k
  induction k using Nat.strongRecOn with
  | _ k ih =>
    intro f t x h hg
    cases t with
    | nil => rw [Tr.get_nil] at hg; cases hg
    | node v l r =>
      simp only [TrAllB, Bool.and_eq_true] at h
      cases k with
      | zero =>
        simp only [Tr.get] at hg
        subst hg
        exact h.1.1
      | succ k =>
        simp only [Tr.get] at hg
        split at hg
        · rename_i hk
          have := ih (k / 2) (by omega) _ l x h.1.2 hg
          rwa [show 2 * (k / 2) + 1 = k + 1 by omega] at this
        · rename_i hk
          have hk : k % 2 ≠ 0 := hk
          have := ih (k / 2) (by omega) _ r x h.2 hg
          rwa [show 2 * (k / 2) + 2 = k + 1 by omega] at this
    | cnil => cases hg
    | cons a b t => simp [TrAllB] at h

theorem tok_all {P : Program} {T : Tr TI} (h : TrAllB (tokB P) (fun k => k) T = true) : TOk P T := fun t ti hg => tok_of (TrAllB.get t (fun k => k) T ti h hg)

def TrAll {α : Type} (p : Nat → α → Prop) : (Nat → Nat) → Tr α → Prop
  | _, .nil => True
  | f, .node v l r => (match v with
      | some x => p (f 0) x
      | none => True) ∧ TrAll p (fun k => f (2 * k + 1)) l ∧ TrAll p (fun k => f (2 * k + 2)) r
  | _, .cnil => True
  | _, .cons _ _ _ => False

theorem TrAll.get {α : Type} {p : Nat → α → Prop} : ∀ (k : Nat) (f : Nat → Nat) (t : Tr α) (x : α), TrAll p f t → t.get k = some x → p (f k) x := by
  intro k
  induction k using Nat.strongRecOn with
  | _ k ih =>
    intro f t x h hg
    cases t with
    | nil => rw [Tr.get_nil] at hg; cases hg
    | node v l r =>
      simp only [TrAll] at h
      cases k with
      | zero =>
        simp only [Tr.get] at hg
        subst hg
        exact h.1
      | succ k =>
        simp only [Tr.get] at hg
        split at hg
        · rename_i hk
          have := ih (k / 2) (by omega) _ l x h.2.1 hg
          rwa [show 2 * (k / 2) + 1 = k + 1 by omega] at this
        · rename_i hk
          have hk : k % 2 ≠ 0 := hk
          have := ih (k / 2) (by omega) _ r x h.2.2 hg
          rwa [show 2 * (k / 2) + 2 = k + 1 by omega] at this
    | cnil => cases hg
    | cons a b t => simp [TrAll] at h

/-- A function as the abstract machine bears it. -/
def mkF (f : Func) (mutDst : List Nat) (frz : Option Nat) : AFun := { body := f.body.getD .skip, results := f.results.toList, mutDst, frz }

def FE (P : Program) (NG : Nat) (f : Nat) (afn : AFun) : Prop :=
  ∃ fn, P.funcs[f]? = some fn ∧ (fn.name == "runtime.NumGoroutine") = false ∧ fn.body = some afn.body ∧ fn.results.toList = afn.results ∧ codeOk NG fn.ntmps afn.mutDst afn.body = true

theorem fe_of {P : Program} {NG f : Nat} {fn : Func} {m : List Nat} {z : Option Nat} (hf : P.funcs[f]? = some fn)
    (hb : (!(fn.name == "runtime.NumGoroutine") && fn.body.isSome && codeOk NG fn.ntmps m (fn.body.getD .skip)) = true) : FE P NG f (mkF fn m z) := by
  simp only [Bool.and_eq_true, Bool.not_eq_true'] at hb
  obtain ⟨⟨h1, h2⟩, h3⟩ := hb
  refine ⟨fn, hf, h1, ?_, rfl, h3⟩
  obtain ⟨b, hb⟩ := Option.isSome_iff_exists.1 h2
  simp [mkF, hb]

theorem fok_all {P : Program} {NG : Nat} {F : Tr AFun} (h : TrAll (FE P NG) (fun k => k) F) (f : Nat) (afn : AFun) (hg : F.get f = some afn) : FE P NG f afn := TrAll.get f (fun k => k) F afn h hg

/-- What a function without a body answers, out of the model's own row. -/
theorem row_does {P : Program} {f : Nat} {fn : Func} {g : Array Value → Sem Value} (hf : P.funcs[f]? = some fn) (hname : (fn.name == "runtime.NumGoroutine") = false) (hb : fn.body.isNone = true)
    (hn : (Extern.findNext fn).isNone = true) (hg : Extern.find fn = some g) {args : Array Value} {w : World} {v : Value} (hr : (g args).run P w = .ok v w) {R : Ending → World → Prop} (hR : R (.returned v) w) :
    CallDoes P f args w R := by
  have hn' : Extern.findNext fn = none := by simpa using hn
  have hb' : fn.body = none := by simpa using hb
  have hname' : ¬ fn.name = "runtime.NumGoroutine" := by simpa using hname
  unfold CallDoes
  have e : (callFunc f args).run P w = .ok (.value v) w := by
    unfold callFunc
    simp [hf, hname', hb', hn', hg, hr]
  rw [e]
  exact hR

section
variable {P : Program} {NG : Nat} {B : Nat → Prop} {w0 w : World} {G : Gh} {s s' : St} {f : Nat} {fn : Func} {args : List AV} {vs : List Value} {r : Res}

theorem x_noEscape (hf : P.funcs[f]? = some fn) (hname : (fn.name == "runtime.NumGoroutine") = false) (hb : fn.body.isNone = true) (hn : (Extern.findNext fn).isNone = true) (hg : Extern.find fn = some Extern.AbiNoEscape.same)
    (hx : extA .noEscape args s = some (r, s')) (hw : WR B w0 G s w) (hvs : VRs G args vs) : CallDoes P f vs.toArray w (CallPost B w0 G s' r) := by
  match args, hx with
  | [v], hx =>
    simp only [extA, Option.some.injEq, Prod.mk.injEq] at hx
    obtain ⟨rfl, rfl⟩ := hx
    cases hvs with
    | cons _ u _ us h hs =>
      cases hs
      exact row_does hf hname hb hn hg (v := u) rfl ⟨G, .refl G, hw, u, rfl, h⟩

theorem x_cmpString (hf : P.funcs[f]? = some fn) (hname : (fn.name == "runtime.NumGoroutine") = false) (hb : fn.body.isNone = true) (hn : (Extern.findNext fn).isNone = true) (hg : Extern.find fn = some Extern.BytealgCompare.compare)
    (hx : extA .cmpString args s = some (r, s')) (hw : WR B w0 G s w) (hvs : VRs G args vs) : CallDoes P f vs.toArray w (CallPost B w0 G s' r) := by
  match args, hx with
  | [.str a, .str b], hx =>
    simp only [extA, Option.some.injEq, Prod.mk.injEq] at hx
    obtain ⟨rfl, rfl⟩ := hx
    cases hvs with
    | cons _ u _ us h hs => cases hs with
      | cons _ u' _ us' h' hs' =>
        cases hs'; cases h; cases h'
        exact row_does hf hname hb hn hg (v := .int .i64 (Extern.BytealgCompare.cmp a b)) rfl ⟨G, .refl G, hw, _, rfl, .int _ _⟩

theorem x_indexByteString (hf : P.funcs[f]? = some fn) (hname : (fn.name == "runtime.NumGoroutine") = false) (hb : fn.body.isNone = true) (hn : (Extern.findNext fn).isNone = true) (hg : Extern.find fn = some Extern.BytealgIndexByte.indexByte)
    (hx : extA .indexByteString args s = some (r, s')) (hw : WR B w0 G s w) (hvs : VRs G args vs) : CallDoes P f vs.toArray w (CallPost B w0 G s' r) := by
  match args, hx with
  | [.str a, .int .u8 c], hx =>
    simp only [extA] at hx
    cases hvs with
    | cons _ u _ us h hs => cases hs with
      | cons _ u' _ us' h' hs' =>
        cases hs'; cases h; cases h'
        have hrun : (Extern.BytealgIndexByte.indexByte [Value.string a, Value.int .u8 c].toArray).run P w =
            .ok (match (List.range a.size).find? fun i => a[i]! == c.toNat.toUInt8 with
              | some i => .int .i64 i
              | none => .int .i64 (-1)) w := by
          change Sem.run P (match (List.range a.size).find? fun i => a[i]! == c.toNat.toUInt8 with
            | some i => pure (goInt i)
            | none => pure (goInt (-1))) w = _
          split <;> rfl
        refine row_does hf hname hb hn hg hrun ?_
        have hc : UInt8.ofNat c.toNat = c.toNat.toUInt8 := rfl
        rw [hc] at hx
        split at hx <;> rename_i hfind <;> rw [hfind] <;> cases hx <;> exact ⟨G, .refl G, hw, _, rfl, .int _ _⟩

end
end Go.Am
