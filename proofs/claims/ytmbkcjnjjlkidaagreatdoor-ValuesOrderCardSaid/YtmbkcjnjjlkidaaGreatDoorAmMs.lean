/- The abstract machine: mutable slices as lists of elements; a slice in an answer that nobody writes any more. -/
import Derived.Test.YtmbkcjnjjlkidaaGreatDoorAmApp
namespace Go.Am
set_option linter.unusedVariables false
set_option linter.unusedSimpArgs false
open Go.RowKit

theorem fl_length {z : Nat} : ∀ {xs : List AV}, (∀ x ∈ xs, (cellsOf x).length = z) → (xs.flatMap cellsOf).length = xs.length * z
  | [], _ => by simp
  | x :: xs, h => by
    have := fl_length (xs := xs) (fun y hy => h y (by simp [hy]))
    rw [List.flatMap_cons, List.length_append, this, h x (by simp), List.length_cons, Nat.succ_mul]; omega

theorem fl_drop {z : Nat} : ∀ {xs : List AV} (i : Nat), (∀ x ∈ xs, (cellsOf x).length = z) → (xs.flatMap cellsOf).drop (i * z) = (xs.drop i).flatMap cellsOf
  | xs, 0, _ => by simp
  | [], i + 1, _ => by simp
  | x :: xs, i + 1, h => by
    rw [List.flatMap_cons, Nat.succ_mul, Nat.add_comm, ← List.drop_drop, List.drop_left' (h x (by simp)), List.drop_succ_cons]
    exact fl_drop i fun y hy => h y (by simp [hy])

theorem fl_take {z : Nat} : ∀ {xs : List AV} (i : Nat), (∀ x ∈ xs, (cellsOf x).length = z) → (xs.flatMap cellsOf).take (i * z) = (xs.take i).flatMap cellsOf
  | xs, 0, _ => by simp
  | [], i + 1, _ => by simp
  | x :: xs, i + 1, h => by
    have hx := h x (by simp)
    rw [List.flatMap_cons, Nat.succ_mul, List.take_append, hx, List.take_of_length_le (by omega), Nat.add_sub_cancel, List.take_succ_cons, List.flatMap_cons]
    rw [fl_take i fun y hy => h y (by simp [hy])]

theorem fl_at {z : Nat} {xs : List AV} {i : Nat} {x : AV} (h : ∀ x ∈ xs, (cellsOf x).length = z) (hx : xs[i]? = some x) : ((xs.flatMap cellsOf).drop (i * z)).take z = cellsOf x := by
  rw [fl_drop i h]
  obtain ⟨hi, rfl⟩ := List.getElem?_eq_some_iff.1 hx
  rw [List.drop_eq_getElem_cons hi, List.flatMap_cons, List.take_append, h _ (List.getElem_mem hi), Nat.sub_self, List.take_zero, List.append_nil, List.take_of_length_le (by rw [h _ (List.getElem_mem hi)]; exact Nat.le_refl _)]

theorem fl_splice {z : Nat} {xs : List AV} {i : Nat} {v : AV} (h : ∀ x ∈ xs, (cellsOf x).length = z) (hi : i < xs.length) (hv : (cellsOf v).length = z) : splice (xs.flatMap cellsOf) (i * z) (cellsOf v) = (xs.set i v).flatMap cellsOf := by
  unfold splice
  rw [hv, fl_take i h, show i * z + z = (i + 1) * z by rw [Nat.succ_mul], fl_drop (i + 1) h, List.set_eq_take_append_cons_drop, if_pos hi, List.flatMap_append, List.flatMap_cons, List.append_assoc]

section
variable {S : Sys} {m : List Nat} {e : Env} {s : St} {Q : Ex → Env → St → Prop} {all : List Oper} {draw : Bool} {masks : List Nat} {rest : List Oper} {o : Oper} {i : Nat} {met : List Met}

theorem RO.idxM {t k b off len z : Nat} {a c : Operand} {ti te : TI} {n : Int} {kk : IntKind} (hop : o.op = .indexAddr t a c) (hw : wantedA all e o = some true) (ha : ev e a = some (.ms b off len z)) (hb : ev e c = some (.int kk n)) (h0 : 0 ≤ n) (h1 : n < len) (ht : S.T.get t = some ti) (hk : ti.kd = .slice k) (he : S.T.get k = some te) (hz : z = te.size)
    (h : RO S m all draw Q masks.tail rest (i + 1) met (putA e o.dst (.ptr b (off + n.toNat * te.size))) s) : RO S m all draw Q masks (o :: rest) i met e s :=
  RO.still hw (by simp only [isStill, hop]) (by rw [hop]; simp only [stillOp, ha, hb, indexAddrA, ht, asIdx, hk, he, h0, h1, hz, decide_true, beq_self_eq_true, Bool.and_self]) (by simp [readsHeap, hop]) h

/-- An element of a mutable slice is read. -/
theorem RO.ldM {t b n : Nat} {a : Operand} {ti : TI} {xs cs : List AV} {fz : Bool} (hop : o.op = .load t a) (hw : wantedA all e o = some true) (ha : ev e a = some (.ptr b (0 + n * ti.size))) (hh : s.heap.get b = some (.cells (xs.flatMap cellsOf) fz)) (hs : ∀ x ∈ xs, (cellsOf x).length = ti.size) (hx : xs[n]? = some (.agg cs)) (ht : S.T.get t = some ti) (hg : ti.agg = true)
    (hok : (!(draw && readsHeap o.op) || okRead S.C (masks.headD 0) e o.op (.agg cs) met) = true) (h : RO S m all draw Q masks.tail rest (i + 1) (metS draw o i e (.agg cs) met) (putA e o.dst (.agg cs)) s) : RO S m all draw Q masks (o :: rest) i met e s := by
  refine RO.st hw (by simp only [isStill, hop]) ?_ hok h
  have hi := (List.getElem?_eq_some_iff.1 hx).1
  have hle : n * ti.size + ti.size ≤ (xs.flatMap cellsOf).length := by
    rw [fl_length hs, ← Nat.succ_mul]; exact Nat.mul_le_mul_right _ hi
  have hat := fl_at hs hx
  rw [hop]
  simp only [stillOp, ha, loadA, ht, hh, loadCellsA, hg, Nat.zero_add, hle, decide_true, hat]
  rfl

/-- An element of a mutable slice is written. -/
theorem store_ms {T : Tr TI} {t b n : Nat} {ti : TI} {xs cs : List AV} (hh : s.heap.get b = some (.cells (xs.flatMap cellsOf) false)) (ht : T.get t = some ti) (hs : ∀ x ∈ xs, (cellsOf x).length = ti.size) (hn : n < xs.length) (hc : cs.length = ti.size) (hf : cs.all isFlat = true) :
    storeA T s t (.ptr b (0 + n * ti.size)) (.agg cs) = some { s with heap := s.heap.set b (.cells ((xs.set n (.agg cs)).flatMap cellsOf) false) } := by
  have hle : n * ti.size + ti.size ≤ (xs.flatMap cellsOf).length := by
    rw [fl_length hs, ← Nat.succ_mul]; exact Nat.mul_le_mul_right _ hn
  have hsp := fl_splice (v := .agg cs) hs hn hc
  simp only [storeA, ht, hh, Nat.zero_add, hc, hle, hf, hsp, cellsOf, decide_true, beq_self_eq_true, Bool.and_self]
  rw [← hsp]; rfl

theorem srcElems_of {te : TI} {y : AV} {xs : List AV} (hy : SlA y xs) (h : ∀ x ∈ xs, (cellsOf x).length = te.size) : srcElems s te y = some xs := by
  rcases hy with ⟨rfl, rfl⟩ | ⟨k, rfl⟩
  · rfl
  · exact srcElems_sl h

/-- Elements are appended to nothing, into a slice that is written later. -/
theorem RO.appendM {hp : Tr Blk} {nx nt nx' : Nat} {lv : Tr Bool} {c : Call} {t u el : Nat} {ts : List Nat} {ti te : TI} {z : AV} {ys : List AV} (hn : nx + 1 = nx') (hop : o.op = .call c) (hc : c.callee = .builtin .append) (hs : isStill m o = false) (hw : wantedA all e o = some true) (hm : mutOf m o = true)
    (hargs : evs e c.args.toList = some [.nils, z]) (hts : c.argTypes.toList = t :: u :: ts) (ht : S.T.get t = some ti) (hk : ti.kd = .slice el) (he : S.T.get el = some te) (hu : notInt S.T u = true) (h0 : 0 < te.size) (hb : te.bytes ≤ 2 ^ 10)
    (hz : srcElems ⟨hp, nx, lv, nt⟩ te z = some ys) (hne : ys ≠ []) (hl : ys.length ≤ 2 ^ 32)
    (hok : (!draw || okLoud S.C (masks.headD 0) ⟨hp.set nx (.cells (ys.flatMap cellsOf) false), nx', lv, nt⟩ met) = true)
    (h : RO S m all draw Q masks.tail rest (i + 1) (metL draw i ⟨hp, nx, lv, nt⟩ met) (putA e o.dst (.ms nx 0 ys.length te.size)) ⟨hp.set nx (.cells (ys.flatMap cellsOf) false), nx', lv, nt⟩) :
    RO S m all draw Q masks (o :: rest) i met e ⟨hp, nx, lv, nt⟩ := by
  subst hn
  have ha : appendA te true ⟨hp, nx, lv, nt⟩ .nils ys = some (newMs ⟨hp, nx, lv, nt⟩ te.size ys) := by
    cases ys with
    | nil => exact absurd rfl hne
    | cons z ys =>
      have hr : roomA te (z :: ys).length = true := room_of hb hl
      simp only [appendA, hr]
  have hb' : builtinLoud S.C.T .append (mutOf m o) c.argTypes.toList [.nils, z] ⟨hp, nx, lv, nt⟩ = some (.ret (.ms nx 0 ys.length te.size), ⟨hp.set nx (.cells (ys.flatMap cellsOf) false), nx + 1, lv, nt⟩) := by
    rw [hm, hts]
    simp only [builtinLoud, elemTI, Sys.C, ht, hk, he, hu, h0, hz, ha, decide_true, Bool.and_self]
    rfl
  exact RO.loud hw hs (loud_builtin2 hop hc hargs hb') hok h

/-- Nothing is appended. -/
theorem RO.append0 {c : Call} {t u el : Nat} {ts : List Nat} {ti te : TI} {z : AV} {xs : List AV} {k : SK} (hop : o.op = .call c) (hc : c.callee = .builtin .append) (hs : isStill m o = false) (hw : wantedA all e o = some true)
    (hargs : evs e c.args.toList = some [.sl xs k, z]) (hts : c.argTypes.toList = t :: u :: ts) (ht : S.T.get t = some ti) (hk : ti.kd = .slice el) (he : S.T.get el = some te) (hu : notInt S.T u = true) (h0 : 0 < te.size)
    (hz : srcElems s te z = some []) (hok : (!draw || okLoud S.C (masks.headD 0) s met) = true)
    (h : RO S m all draw Q masks.tail rest (i + 1) (metL draw i s met) (putA e o.dst (.sl xs k)) s) : RO S m all draw Q masks (o :: rest) i met e s := by
  have ha : ∀ b, appendA te b s (.sl xs k) [] = some (.sl xs k, s) := fun b => rfl
  have hb' : builtinLoud S.C.T .append (mutOf m o) c.argTypes.toList [.sl xs k, z] s = some (.ret (.sl xs k), s) := by
    rw [hts]
    simp only [builtinLoud, elemTI, Sys.C, ht, hk, he, hu, h0, hz, ha, decide_true, Bool.and_self]
  exact RO.loud hw hs (loud_builtin2 hop hc hargs hb') hok h
end

/-! ### A mutable slice in an answer -/
def Pts (Z : AV → AV → Prop) : List AV → List AV → Prop
  | [], b => b = []
  | x :: xs, b => ∃ y ys, (y = x ∨ Z x y) ∧ Pts Z xs ys ∧ b = y :: ys
/-- The same, but some slices stand as their elements. -/
def Frz (Z : AV → AV → Prop) : AV → AV → Prop
  | .agg cs, b => b = .agg cs ∨ ∃ ds, Pts Z cs ds ∧ b = .agg ds
  | a, b => b = a ∨ Z a b

theorem Frz.vr {G H : Gh} {Z : AV → AV → Prop} (hle : G.Le H) (hZ : ∀ a b v, Z a b → VR G a v → VR H b v) : ∀ {a b : AV} {v : Value}, VR G a v → Frz Z a b → VR H b v := by
  intro a b v hv h
  cases a with
  | agg cs =>
    rcases h with rfl | ⟨ds, hd, rfl⟩
    · exact hv.mono hle
    · cases hv with
      | agg _ vs hvs =>
        refine .agg ds vs ?_
        have main : ∀ (cs ds : List AV) (vs : List Value), VRs G cs vs → Pts Z cs ds → VRs H ds vs := by
          intro cs
          induction cs with
          | nil => intro ds vs hvs hd; simp only [Pts] at hd; subst hd; cases hvs; exact .nil
          | cons c cs ih =>
            intro ds vs hvs hd
            obtain ⟨y, ys, hxy, hd', rfl⟩ := hd
            cases hvs with
            | cons _ v0 _ vs0 h1 h2 =>
              refine .cons _ _ _ _ ?_ (ih ys vs0 h2 hd')
              rcases hxy with rfl | hz
              · exact h1.mono hle
              · exact hZ _ _ _ hz h1
        exact main cs ds vs hvs hd
  | _ =>
    rcases h with rfl | hz
    · exact hv.mono hle
    · exact hZ _ _ _ hz hv

def FrzR (Z : AV → AV → Prop) : Res → Res → Prop
  | .ret a, r => ∃ b, Frz Z a b ∧ r = .ret b
  | .pan a, r => r = .pan a

theorem CallDet.freeze {S : Sys} {f : Nat} {args : List AV} {s s1 : St} {r r' : Res} {b z : Nat} {xs : List AV} (h : CallDet S f args s r s1) (hb : s1.heap.get b = some (.cells (xs.flatMap cellsOf) false)) (hs : ∀ x ∈ xs, (cellsOf x).length = z)
    (hr : FrzR (fun x y => x = .ms b 0 xs.length z ∧ y = .sl xs .dead) r r') : CallDet S f args s r' { s1 with heap := s1.heap.set b (.cells (xs.flatMap cellsOf) true), live := (s1.live.set s1.nt true).set s1.nt false, nt := s1.nt + 1 } := by
  intro K w0 hK G w vs hw hg hvs
  refine (h K w0 hK G w vs hw hg hvs).mono ?_
  rintro e w2 ⟨Ge, hle, hwe, hres⟩
  obtain ⟨⟨c, n⟩, hρ⟩ := hwe.hmap b _ hb
  obtain ⟨arr, T, fr, p1, p2, p3, p4, p5⟩ := hwe.cells b _ false c n hb hρ
  have h1 := hwe.freeze hb hρ (xs.flatMap cellsOf).length n (Nat.le_refl _) (Nat.le_refl _) p1
  have hle2 := Gh.le_frozen hwe hb hρ (xs.flatMap cellsOf).length (fun o => arr[o]?) n
  rw [List.take_length] at h1
  have h2 := h1.dropTag s1.nt
  refine ⟨_, hle.trans hle2, h2, ?_⟩
  have hZ : ∀ (a b' : AV) (v : Value), (a = .ms b 0 xs.length z ∧ b' = .sl xs .dead) → VR Ge a v → VR (Ge.frozen c (xs.flatMap cellsOf).length (fun o => arr[o]?) s1.nt n) b' v := by
    rintro a b' v ⟨rfl, rfl⟩ hv
    cases hv with
    | ms _ _ _ _ c' n' cap hr' hl hc =>
      rw [hρ] at hr'; cases hr'
      refine .sl xs .dead c 0 z xs.length cap (arr.toList.take (xs.flatMap cellsOf).length) hs (p4.mono hle2) (fun j hj => ?_) rfl hl trivial
      simp only [Gh.frozen]
      rw [List.length_take] at hj
      rw [if_pos (by first | rfl | trivial), if_pos (by omega), List.getElem?_take, if_pos (by omega)]
      simp
  cases r with
  | ret a =>
    obtain ⟨b', hb', rfl⟩ := hr
    obtain ⟨v, rfl, hv⟩ := hres
    exact ⟨v, rfl, Frz.vr hle2 hZ hv hb'⟩
  | pan a =>
    simp only [FrzR] at hr
    subst hr
    obtain ⟨v, rfl, hv⟩ := hres
    exact ⟨v, rfl, hv.mono hle2⟩
end Go.Am
namespace Go.Am
open Go.RowKit
/-- An answer in which slices stand that nobody writes any more. -/
theorem CallsTo.frz {S : Sys} {f : Nat} {args : List AV} {s : St} {R : Res → St → Prop} (h : CallsTo S f args s fun r s1 => R r s1 ∨ ∃ b z xs r', s1.heap.get b = some (.cells (xs.flatMap cellsOf) false) ∧ (∀ x ∈ xs, (cellsOf x).length = z) ∧ FrzR (fun x y => x = .ms b 0 xs.length z ∧ y = .sl xs .dead) r r' ∧
    R r' { s1 with heap := s1.heap.set b (.cells (xs.flatMap cellsOf) true), live := (s1.live.set s1.nt true).set s1.nt false, nt := s1.nt + 1 }) : CallsTo S f args s R := by
  obtain ⟨r, s1, h1, h2 | ⟨b, z, xs, r', h2, h3, h4, h5⟩⟩ := h
  · exact ⟨r, s1, h1, h2⟩
  · exact ⟨r', _, h1.freeze h2 h3 h4, h5⟩

section
variable {T : Tr TI} {h : Tr Blk} {e : Env} {a b : Operand} {x y : Int} {t u : Nat}
theorem add_op (ha : ev e a = some (.int .i64 x)) (hb : ev e b = some (.int .i64 y)) (h0 : -9223372036854775808 ≤ x + y) (h1 : x + y ≤ 9223372036854775807) : stillOp T h e (.binOp .add t a b u) = some (.int .i64 (x + y)) := by
  simp only [stillOp, ha, hb, binA, arithA, wrap_ok h0 h1, decide_true]
theorem sub_op (ha : ev e a = some (.int .i64 x)) (hb : ev e b = some (.int .i64 y)) (h0 : -9223372036854775808 ≤ x - y) (h1 : x - y ≤ 9223372036854775807) : stillOp T h e (.binOp .sub t a b u) = some (.int .i64 (x - y)) := by
  simp only [stillOp, ha, hb, binA, arithA, wrap_ok h0 h1, decide_true]
end

theorem srcElems_nil {s : St} {te : TI} {y : AV} {xs : List AV} (hy : SlA y xs) (h : xs = []) : srcElems s te y = some [] := by
  subst h
  rcases hy with ⟨rfl, _⟩ | ⟨k, rfl⟩ <;> rfl
end Go.Am
