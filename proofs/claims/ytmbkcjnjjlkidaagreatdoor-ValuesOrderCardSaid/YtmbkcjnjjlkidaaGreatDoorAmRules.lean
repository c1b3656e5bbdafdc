/- The abstract machine: rules for slices, frames of loops, appends. -/
import Derived.Test.YtmbkcjnjjlkidaaGreatDoorAmTab
namespace Go.Am
set_option linter.unusedVariables false
set_option linter.unusedSimpArgs false
open Go.RowKit

/-- What a frame must know. -/
def AllIn : List (Nat × AV) → Env → Prop
  | [], _ => True
  | (t, v) :: l, e => e.get t = some v ∧ AllIn l e

theorem sub_of : ∀ {l : List (Nat × AV)} {e : Env}, AllIn l e → Sub (Tr.ofList l) e
  | [], _, _ => fun t v h => by cases h
  | (k, x) :: l, e, h => fun t v ht => by
    rw [Tr.ofList, Tr.get_cons] at ht
    split at ht
    · rename_i hk; subst hk; cases ht; exact h.1
    · exact sub_of h.2 t v ht

/-- The frame that a function begins with. -/
def enumA : List AV → Nat → List (Nat × AV)
  | [], _ => []
  | v :: vs, i => (i, v) :: enumA vs (i + 1)

theorem enum_get : ∀ (args : List AV) (i t : Nat) (v : AV), (Tr.ofList (enumA args i)).get t = some v → i ≤ t ∧ args[t - i]? = some v
  | [], i, t, v, h => by cases h
  | a :: args, i, t, v, h => by
    simp only [enumA, Tr.ofList, Tr.get_cons] at h
    split at h
    · rename_i e; subst e; cases h; simp
    · obtain ⟨h1, h2⟩ := enum_get args (i + 1) t v h
      refine ⟨by omega, ?_⟩
      rw [show t - i = (t - (i + 1)) + 1 by omega]
      simpa using h2

theorem init_sub (args : List AV) : Sub (Tr.ofList (enumA args 0)) (initEnv args 0 .nil) := fun t v h => by
  obtain ⟨_, h2⟩ := enum_get args 0 t v h
  rw [init_get]
  have := (List.getElem?_eq_some_iff.1 h2).1
  rw [if_pos (by omega)]
  exact h2

/-- A slice that is read. -/
def SlA (y : AV) (xs : List AV) : Prop := (y = .nils ∧ xs = []) ∨ ∃ k, y = .sl xs k

section
variable {T : Tr TI} {h : Tr Blk} {y x : AV} {xs : List AV}

theorem SlA.nil : SlA .nils [] := .inl ⟨rfl, rfl⟩
theorem SlA.sl (k : SK) : SlA (.sl xs k) xs := .inr ⟨k, rfl⟩

theorem len_sl {t e : Nat} {ti : TI} {ts : List Nat} (ht : T.get t = some ti) (hk : ti.kd = .slice e) (hy : SlA y xs) : builtinStill T .len (t :: ts) [y] = some (.int .i64 xs.length) := by
  rcases hy with ⟨rfl, rfl⟩ | ⟨k, rfl⟩ <;> simp [builtinStill, lenA, ht, hk]

theorem idx_sl {t : Nat} {ti te : TI} {e : Nat} {i : Int} {kk : IntKind} (ht : T.get t = some ti) (hk : ti.kd = .slice e) (he : T.get e = some te) (hy : SlA y xs) (h0 : 0 ≤ i) (hx : xs[i.toNat]? = some x) (hs : (cellsOf x).length = te.size) :
    indexAddrA T t y (.int kk i) = some (.elem xs i.toNat 0) := by
  rcases hy with ⟨rfl, rfl⟩ | ⟨k, rfl⟩
  · simp at hx
  · simp only [indexAddrA, ht, asIdx, hk, he, h0, hx, hs, decide_true, beq_self_eq_true]

theorem load_agg {t : Nat} {ti : TI} {i : Nat} {cs : List AV} (ht : T.get t = some ti) (ha : ti.agg = true) (hx : xs[i]? = some (.agg cs)) (hs : cs.length = ti.size) : loadA T h t (.elem xs i 0) = some (.agg cs) := by
  simp only [loadA, ht, hx, loadCellsA, ha, cellsOf, Nat.zero_add]
  simp [hs.symm]

theorem load_flat {t : Nat} {ti : TI} {i : Nat} (ht : T.get t = some ti) (ha : ti.agg = false) (hx : xs[i]? = some x) (hf : cellsOf x = [x]) : loadA T h t (.elem xs i 0) = some x := by
  simp only [loadA, ht, hx, loadCellsA, ha, hf]
  rfl
end

/-- A slice that may be appended to. -/
def LiveS (s : St) (y : AV) (xs : List AV) : Prop := (y = .nils ∧ xs = []) ∨ y = .sl xs .full ∨ ∃ t, y = .sl xs (.tag t) ∧ s.live.get t = some true ∧ t < s.nt

theorem LiveS.sla {s : St} {y : AV} {xs : List AV} (h : LiveS s y xs) : SlA y xs := by
  rcases h with h | h | ⟨t, h, _⟩
  · exact .inl h
  · exact .inr ⟨_, h⟩
  · exact .inr ⟨_, h⟩
theorem LiveS.nil {s : St} : LiveS s .nils [] := .inl ⟨rfl, rfl⟩
theorem LiveS.heap {s s' : St} {y : AV} {xs : List AV} (h : LiveS s y xs) (hl : s'.live = s.live) (hn : s'.nt = s.nt) : LiveS s' y xs := by
  rcases h with h | h | ⟨t, h1, h2, h3⟩
  · exact .inl h
  · exact .inr (.inl h)
  · exact .inr (.inr ⟨t, h1, by rw [hl]; exact h2, by rw [hn]; exact h3⟩)

/-- Tags that live on. -/
def TagIn (y : AV) (t : Nat) : Prop := ∃ xs, y = .sl xs (.tag t)
def Keeps (s s' : St) (y : AV) : Prop := s.nt ≤ s'.nt ∧ ∀ t, t < s.nt → ¬ TagIn y t → s'.live.get t = s.live.get t

theorem LiveS.keep {s s' : St} {y z : AV} {xs : List AV} (h : LiveS s z xs) (hk : Keeps s s' y) (hd : ∀ t, TagIn z t → ¬ TagIn y t) : LiveS s' z xs := by
  rcases h with h | h | ⟨t, h1, h2, h3⟩
  · exact .inl h
  · exact .inr (.inl h)
  · exact .inr (.inr ⟨t, h1, by rw [hk.2 t h3 (hd t ⟨xs, h1⟩)]; exact h2, Nat.lt_of_lt_of_le h3 hk.1⟩)

theorem srcElems_sl {s : St} {te : TI} {xs : List AV} {k : SK} (h : ∀ x ∈ xs, (cellsOf x).length = te.size) : srcElems s te (.sl xs k) = some xs := by
  cases xs with
  | nil => rfl
  | cons x r => simp only [srcElems, h x (by simp), beq_self_eq_true]

theorem headIs_of {sz : Nat} {xs : List AV} (h : ∀ x ∈ xs, (cellsOf x).length = sz) : headIs sz xs = true := by
  cases xs with
  | nil => rfl
  | cons x r => simp [headIs, h x (by simp)]

theorem room_of {te : TI} {n : Nat} (hb : te.bytes ≤ 2 ^ 10) (hn : n ≤ 2 ^ 32) : roomA te n = true := by
  have h1 : n * te.bytes ≤ 2 ^ 47 := by
    have := Nat.mul_le_mul hn hb
    omega
  simp only [roomA, Bool.and_eq_true, decide_eq_true_eq]
  omega

/-- Elements are appended. -/
theorem push {s : St} {te : TI} {y : AV} {xs ys : List AV} (hy : LiveS s y xs) (hxs : ∀ x ∈ xs, (cellsOf x).length = te.size) (hne : ys ≠ []) (hf : (ys.flatMap cellsOf).all isFlat = true) (hb : te.bytes ≤ 2 ^ 10) (hl : xs.length + ys.length ≤ 2 ^ 32) :
    ∃ L, appendA te false s y ys = some (.sl (xs ++ ys) (.tag s.nt), { s with live := L, nt := s.nt + 1 }) ∧ L.get s.nt = some true ∧ ∀ t, t ≠ s.nt → ¬ TagIn y t → L.get t = s.live.get t := by
  cases ys with
  | nil => exact absurd rfl hne
  | cons z ys =>
    rcases hy with ⟨rfl, rfl⟩ | rfl | ⟨t, rfl, h1, h2⟩
    · refine ⟨s.live.set s.nt true, ?_, Tr.get_set_same _ _ _, fun t ht _ => Tr.get_set_ne _ _ _ _ ht⟩
      have hr : roomA te (z :: ys).length = true := room_of hb (by simp at hl ⊢; omega)
      simp only [appendA, hr, newTag, List.nil_append]
    · refine ⟨s.live.set s.nt true, ?_, Tr.get_set_same _ _ _, fun t ht _ => Tr.get_set_ne _ _ _ _ ht⟩
      simp only [appendA, room_of hb hl, headIs_of hxs, newTag, Bool.and_self]
    · refine ⟨(s.live.set t false).set s.nt true, ?_, Tr.get_set_same _ _ _, fun u hu hn => ?_⟩
      · simp only [appendA, room_of hb hl, headIs_of hxs, h1, hf, newTag, Bool.and_self]
      · rw [Tr.get_set_ne _ _ _ _ hu, Tr.get_set_ne _ _ _ _ (fun e => hn ⟨xs, by rw [e]⟩)]

theorem live_new {s : St} {xs : List AV} {L : Tr Bool} (h : L.get s.nt = some true) : LiveS { s with live := L, nt := s.nt + 1 } (.sl xs (.tag s.nt)) xs := .inr (.inr ⟨_, rfl, h, Nat.lt_succ_self _⟩)
theorem keeps_new {s : St} {y : AV} {L : Tr Bool} (h : ∀ t, t ≠ s.nt → ¬ TagIn y t → L.get t = s.live.get t) : Keeps s { s with live := L, nt := s.nt + 1 } y :=
  ⟨Nat.le_succ _, fun t ht hn => h t (Nat.ne_of_lt ht) hn⟩

/-- An append, as an operation carries it out. -/
theorem append_loud {T : Tr TI} {s : St} {te : TI} {t u e : Nat} {ti : TI} {y : AV} {z : AV} {xs ys : List AV} {ts : List Nat} (ht : T.get t = some ti) (hk : ti.kd = .slice e) (he : T.get e = some te) (hu : notInt T u = true) (h0 : 0 < te.size) (hz : srcElems s te z = some ys) {v : AV} {s' : St}
    (ha : appendA te false s y ys = some (v, s')) : builtinLoud T .append false (t :: u :: ts) [y, z] s = some (.ret v, s') := by
  simp only [builtinLoud, elemTI, ht, hk, he, hu, h0, hz, ha, decide_true, Bool.and_self]

theorem loud_builtin {C : Ctx} {m : List Nat} {call : Nat → List AV → St → Option (Res × St)} {e : Env} {s : St} {o : Oper} {c : Call} {b : Builtin} {args : List AV} {x : Res × St} (hop : o.op = .call c) (hc : c.callee = .builtin b) (ha : evs e c.args.toList = some args)
    (hb : builtinLoud C.T b (match o.dst with | some d => m.contains d | none => false) c.argTypes.toList args s = some x) : loudOp C m call e s o = some x := by
  simp only [loudOp, hop, hc, ha]
  exact hb

theorem loud_store {C : Ctx} {m : List Nat} {call : Nat → List AV → St → Option (Res × St)} {e : Env} {s s2 : St} {o : Oper} {t : Nat} {a x : Operand} {p v : AV} (hop : o.op = .store t a x) (ha : ev e a = some p) (hx : ev e x = some v)
    (hs : storeA C.T s t p v = some s2) : loudOp C m call e s o = some (.ret undefA, s2) := by
  simp only [loudOp, hop, ha, hx, hs]

theorem wrap_ok {n : Int} (h0 : -9223372036854775808 ≤ n) (h1 : n ≤ 9223372036854775807) : IntKind.i64.wrap n = n := IntWalk.i64_in n (by omega)
end Go.Am
