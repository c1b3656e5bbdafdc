/- The abstract machine: the types' table; parts, loads, addresses, slices against the model's. -/
import Derived.Test.YtmbkcjnjjlkidaaGreatDoorAmWorld
namespace Go.Am
open Go.RowKit

def tkOf : TypeDesc → TK
  | .bool => .bool
  | .int k => .int k
  | .string => .str
  | .pointer e => .ptr e
  | .slice e => .slice e
  | .array n e => .arr n e
  | .map k e => .map k e
  | .struct fs => .struct (fs.toList.map fun f => (f.offset, f.type, f.name == "_"))
  | .func _ _ _ => .func
  | .interface _ => .iface
  | _ => .other

def TOk1 (P : Program) (t : Nat) (ti : TI) : Prop :=
  ∃ i d z, P.info? t = some i ∧ P.underlying t = some d ∧ ti.kd = tkOf d ∧ i.size = ti.size ∧ i.bytes = ti.bytes ∧ i.zero = some z ∧ ofV 8 z = some ti.zero ∧
    (cellsOf ti.zero).length = ti.size ∧ (!isFlat ti.zero) = ti.agg ∧ (cellsOf ti.zero).all isFlat = true ∧
    (ti.plain = true → i.comparable = true ∧ P.stoodInHeld t = false ∧ P.eqGuardType P.depth t = false)

def TOk (P : Program) (T : Tr TI) : Prop := ∀ t ti, T.get t = some ti → TOk1 P t ti

section
variable {P : Program} {T : Tr TI} {B : Nat → Prop} {w0 : World} {G : Gh} {s : St} {w : World} {t : Nat} {ti : TI}

theorem tk_int {d : TypeDesc} {k : IntKind} (h : TK.int k = tkOf d) : d = .int k := by cases d <;> simp [tkOf] at h; rw [h]
theorem tk_bool {d : TypeDesc} (h : TK.bool = tkOf d) : d = .bool := by cases d <;> simp [tkOf] at h; rfl
theorem tk_str {d : TypeDesc} (h : TK.str = tkOf d) : d = .string := by cases d <;> simp [tkOf] at h; rfl
theorem tk_ptr {d : TypeDesc} {e : Nat} (h : TK.ptr e = tkOf d) : d = .pointer e := by cases d <;> simp [tkOf] at h; rw [h]
theorem tk_slice {d : TypeDesc} {e : Nat} (h : TK.slice e = tkOf d) : d = .slice e := by cases d <;> simp [tkOf] at h; rw [h]
theorem tk_arr {d : TypeDesc} {n e : Nat} (h : TK.arr n e = tkOf d) : d = .array n e := by cases d <;> simp [tkOf] at h; rw [h.1, h.2]
theorem tk_map {d : TypeDesc} {n e : Nat} (h : TK.map n e = tkOf d) : d = .map n e := by cases d <;> simp [tkOf] at h; rw [h.1, h.2]
theorem tk_struct {d : TypeDesc} {fs : List (Nat × Nat × Bool)} (h : TK.struct fs = tkOf d) : ∃ fl : Array Field, d = .struct fl ∧ fs = fl.toList.map fun f => (f.offset, f.type, f.name == "_") := by
  cases d <;> simp [tkOf] at h; exact ⟨_, rfl, h⟩
theorem tk_func {d : TypeDesc} (h : TK.func = tkOf d) : ∃ a b c, d = .func a b c := by cases d <;> simp [tkOf] at h; exact ⟨_, _, _, rfl⟩
theorem tk_iface {d : TypeDesc} (h : TK.iface = tkOf d) : ∃ m, d = .interface m := by cases d <;> simp [tkOf] at h; exact ⟨_, rfl⟩

theorem r_typeInfo {i : TypeInfo} (h : P.info? t = some i) (w : World) : (typeInfo t).run P w = .ok i w := by simp [typeInfo, h]
theorem r_sizeOf (hT : TOk P T) (h : T.get t = some ti) (w : World) : (sizeOf t).run P w = .ok ti.size w := by
  obtain ⟨i, d, z, h1, h2, h3, h4, _⟩ := hT t ti h
  simp [sizeOf, r_typeInfo h1, h4]
theorem r_isAgg (hT : TOk P T) (h : T.get t = some ti) (w : World) : (isAgg t).run P w = .ok ti.agg w := by
  obtain ⟨i, d, z, h1, h2, h3, h4, _⟩ := hT t ti h
  simp only [isAgg, Sem.run_bind, run_underlying h2, Result.andThen_ok]
  unfold TI.agg
  rw [h3]
  cases d <;> simp [tkOf]
theorem r_zero (hT : TOk P T) (h : T.get t = some ti) (w : World) : ∃ z, (zeroValue t).run P w = .ok z w ∧ ∀ G, VR G ti.zero z := by
  obtain ⟨i, d, z, h1, h2, h3, h4, h5, h6, h7, _⟩ := hT t ti h
  exact ⟨z, by simp [zeroValue, r_typeInfo h1, h6], fun G => ofV_VR G _ _ _ h7⟩

theorem extract_list (vs : List Value) (a n : Nat) : vs.toArray.extract a (a + n) = ((vs.drop a).take n).toArray := by
  simp [List.extract_toArray, List.extract]

theorem part_sim (hT : TOk P T) {cs : List AV} {vs : List Value} {off : Nat} {x : AV} (h : partA T t cs off = some x) (hv : VRs G cs vs) (w : World) :
    ∃ v, (part t vs.toArray off).run P w = .ok v w ∧ VR G x v := by
  unfold partA at h
  split at h
  · cases h
  · rename_i ti hti
    simp only [part, Sem.run_bind, r_isAgg hT hti, Result.andThen_ok]
    split at h
    · rename_i ha
      cases h
      refine ⟨.agg ((vs.drop off).take ti.size).toArray, ?_, .agg _ _ ((hv.drop off).take ti.size)⟩
      simp [ha, r_sizeOf hT hti]
    · rename_i ha
      obtain ⟨v, h1, h2⟩ := hv.get h
      exact ⟨v, by simp [ha, h1], h2⟩

/-- A variable that lies in a row of known cells. -/
theorem load_sim (hT : TOk P T) (hti : T.get t = some ti) {cs : List AV} {vs : List Value} {off : Nat} {x : AV} (h : loadCellsA ti cs off = some x) (hv : VRs G cs vs)
    {c base : Nat} (hc : ∀ j v, vs[j]? = some v → w.cell? ⟨c, base + j, none⟩ = some v) :
    ∃ v, (loadVar t ⟨c, base + off, none⟩).run P w = .ok v w ∧ VR G x v := by
  unfold loadCellsA at h
  simp only [loadVar, Sem.run_bind, r_isAgg hT hti, Result.andThen_ok]
  split at h
  · rename_i ha
    split at h
    · rename_i hl
      cases h
      have hl' : off + ti.size ≤ cs.length := by simpa using hl
      refine ⟨.agg ((vs.drop off).take ti.size).toArray, ?_, .agg _ _ ((hv.drop off).take ti.size)⟩
      have hlen : ((vs.drop off).take ti.size).length = ti.size := by have := hv.length; simp; omega
      have hld := run_loadCells_list (P := P) w ⟨c, base + off, none⟩ ((vs.drop off).take ti.size) (fun j v hj => by
        have hj' : vs[off + j]? = some v := by
          rw [List.getElem?_take] at hj
          split at hj
          · simpa using hj
          · cases hj
        have := hc (off + j) v hj'
        rw [Addr.add_lit, show base + off + j = base + (off + j) by omega]; exact this)
      rw [hlen] at hld
      simp [ha, r_sizeOf hT hti, hld]
    · cases h
  · rename_i ha
    obtain ⟨v, h1, h2⟩ := hv.get h
    have := hc off v h1
    exact ⟨v, by simp [ha, this], h2⟩

theorem flat_length {sz : Nat} : ∀ {xs : List AV}, (∀ x ∈ xs, (cellsOf x).length = sz) → (xs.flatMap cellsOf).length = xs.length * sz
  | [], _ => by simp
  | x :: xs, h => by
    have := flat_length (xs := xs) (fun y hy => h y (by simp [hy]))
    simp [h x (by simp), Nat.succ_mul, this]; omega

theorem flat_drop {sz : Nat} : ∀ (i : Nat) {xs : List AV}, (∀ x ∈ xs, (cellsOf x).length = sz) → (xs.flatMap cellsOf).drop (i * sz) = (xs.drop i).flatMap cellsOf
  | 0, xs, _ => by simp
  | i + 1, [], _ => by simp
  | i + 1, x :: xs, h => by
    have ih := flat_drop i (xs := xs) (fun y hy => h y (by simp [hy]))
    rw [List.flatMap_cons, List.drop_append, Nat.succ_mul]
    have hx := h x (by simp)
    rw [List.drop_eq_nil_of_le (by omega), List.nil_append, hx, Nat.add_sub_cancel]
    simpa using ih

theorem flat_take {sz : Nat} : ∀ (i : Nat) {xs : List AV}, (∀ x ∈ xs, (cellsOf x).length = sz) → (xs.flatMap cellsOf).take (i * sz) = (xs.take i).flatMap cellsOf
  | 0, xs, _ => by simp
  | i + 1, [], _ => by simp
  | i + 1, x :: xs, h => by
    have ih := flat_take i (xs := xs) (fun y hy => h y (by simp [hy]))
    rw [List.flatMap_cons, List.take_append, Nat.succ_mul]
    have hx := h x (by simp)
    rw [List.take_of_length_le (by omega), hx, Nat.add_sub_cancel, ih]
    simp

theorem flat_elem {sz i : Nat} {xs : List AV} {x : AV} (h : ∀ x ∈ xs, (cellsOf x).length = sz) (hx : xs[i]? = some x) : ((xs.flatMap cellsOf).drop (i * sz)).take sz = cellsOf x := by
  rw [flat_drop i h]
  have hlt : i < xs.length := (List.getElem?_eq_some_iff.1 hx).1
  have he : xs[i] = x := (List.getElem?_eq_some_iff.1 hx).2
  rw [List.drop_eq_getElem_cons hlt, List.flatMap_cons, he]
  have := h x (List.mem_of_getElem? hx)
  rw [List.take_append_of_le_length (by omega), List.take_of_length_le (by omega)]

/-- The cells of an abstract row of one's heap. -/
theorem WR.row (h : WR B w0 G s w) {b c n : Nat} {cs : List AV} {f : Bool} (hb : s.heap.get b = some (.cells cs f)) (hr : G.ρ b = some (c, n)) :
    ∃ vs, VRs G cs vs ∧ ∀ j v, vs[j]? = some v → w.cell? ⟨c, j, none⟩ = some v := by
  obtain ⟨arr, T, fr, h1, h2, h3, h4, _⟩ := h.cells b cs f c n hb hr
  refine ⟨_, h4, fun j v hj => ?_⟩
  rw [List.getElem?_take] at hj
  split at hj
  · unfold World.cell?; simp [h1]; simpa using hj
  · cases hj

theorem WR.immRow (h : WR B w0 G s w) {c base : Nat} {vs : List Value} (hI : ∀ j, j < vs.length → G.I c (base + j) = vs[j]?) : ∀ j v, vs[j]? = some v → w.cell? ⟨c, base + j, none⟩ = some v :=
  fun j v hj => h.imm c (base + j) v (by rw [hI j ((List.getElem?_eq_some_iff.1 hj).1)]; exact hj)

theorem loadA_sim (hT : TOk P T) (h : WR B w0 G s w) {p x : AV} {v : Value} (hl : loadA T s.heap t p = some x) (hp : VR G p v) :
    ∃ u, (Instr.loadAt t v).run P w = .ok u w ∧ VR G x u := by
  unfold loadA at hl
  split at hl
  · cases hl
  · rename_i ti hti
    cases hp <;> simp only [] at hl <;> (try cases hl)
    case ptr b off c n hr =>
      split at hl
      · rename_i cs f hb
        obtain ⟨vs, h1, h2⟩ := h.row hb hr
        have := load_sim hT hti hl h1 (c := c) (base := 0) (w := w) (fun j v hj => by simpa using h2 j v hj)
        obtain ⟨u, hu, hx⟩ := this
        exact ⟨u, by simpa [Instr.loadAt, Instr.sureAddr] using hu, hx⟩
      · cases hl
    case elem xs i off c base sz vs hsz hv hI =>
      split at hl
      · rename_i y hy
        have h1 : VRs G (cellsOf y) ((vs.drop (i * sz)).take sz) := by
          have := (hv.drop (i * sz)).take sz
          rwa [flat_elem hsz hy] at this
        have h2 := h.immRow hI
        obtain ⟨u, hu, hx⟩ := load_sim hT hti hl h1 (c := c) (base := base + i * sz) (w := w) (fun j v hj => by
          have hj' : vs[i * sz + j]? = some v := by
            rw [List.getElem?_take] at hj
            split at hj
            · simpa using hj
            · cases hj
          have := h2 _ _ hj'
          rwa [← Nat.add_assoc] at this)
        exact ⟨u, by simpa [Instr.loadAt, Instr.sureAddr] using hu, hx⟩
      · cases hl

theorem fieldSize_sim (hT : TOk P T) {fl : Array Field} {i off size : Nat} (h : fieldSize T (fl.toList.map fun f => (f.offset, f.type, f.name == "_")) i = some (off, size)) :
    ∃ f, fl[i]? = some f ∧ f.offset = off ∧ ∀ w, (sizeOf f.type).run P w = .ok size w := by
  unfold fieldSize at h
  split at h
  · rename_i o ty bl he
    simp only [List.getElem?_map, Option.map_eq_some_iff] at he
    obtain ⟨f, hf, hx⟩ := he
    cases hx
    split at h
    · rename_i ti hti
      cases h
      exact ⟨f, by simpa using hf, rfl, fun w => r_sizeOf hT hti w⟩
    · cases h
  · cases h

theorem fieldAddrA_sim (hT : TOk P T) {p x : AV} {v : Value} {st f : Nat} (hl : fieldAddrA T st p f = some x) (hp : VR G p v) (w : World) :
    ∃ u, (Instr.fieldAt st v f).run P w = .ok u w ∧ VR G x u := by
  unfold fieldAddrA at hl
  split at hl
  · rename_i ti hti
    obtain ⟨i, d, z, h1, h2, h3, _⟩ := hT st ti hti
    split at hl
    · rename_i fs hk
      rw [hk] at h3
      obtain ⟨fl, hd, rfl⟩ := tk_struct h3
      subst hd
      split at hl
      · rename_i off size hfs
        obtain ⟨fd, g1, g2, g3⟩ := fieldSize_sim hT hfs
        split at hl
        · cases hl
        · rename_i hsz
          have hsz' : ¬ size = 0 := by simpa using hsz
          cases hp <;> simp only [Option.some.injEq, reduceCtorEq] at hl
          case ptr b o c n hr =>
            subst hl
            refine ⟨.pointer (some ⟨c, o + off, none⟩), ?_, .ptr b (o + off) c n hr⟩
            simp [Instr.fieldAt, run_underlying h2, g1, Instr.sureAddr, fieldPlace, g3, hsz', g2, Addr.add_lit]
          case elem xs j o c base sz vs hs hv hI =>
            subst hl
            refine ⟨.pointer (some ⟨c, base + j * sz + (o + off), none⟩), ?_, .elem xs j (o + off) c base sz vs hs hv hI⟩
            simp [Instr.fieldAt, run_underlying h2, g1, Instr.sureAddr, fieldPlace, g3, hsz', g2, Addr.add_lit, Nat.add_assoc]
      · cases hl
    · cases hl
  · cases hl

theorem fieldA_sim (hT : TOk P T) {p x : AV} {v : Value} {st f : Nat} (hl : fieldA T st p f = some x) (hp : VR G p v) (w : World) :
    ∃ u, (Instr.field st v f).run P w = .ok u w ∧ VR G x u := by
  unfold fieldA at hl
  split at hl
  · rename_i ti hti
    obtain ⟨i, d, z, h1, h2, h3, _⟩ := hT st ti hti
    split at hl
    · rename_i fs cs hk
      rw [hk] at h3
      obtain ⟨fl, hd, rfl⟩ := tk_struct h3
      subst hd
      cases hp
      rename_i vs hv
      split at hl
      · rename_i off ty bl he
        simp only [List.getElem?_map, Option.map_eq_some_iff] at he
        obtain ⟨fd, hf, hx⟩ := he
        cases hx
        obtain ⟨u, hu, hx⟩ := part_sim hT hl hv w
        have hf' : fl[f]? = some fd := by simpa using hf
        exact ⟨u, by simp [Instr.field, run_underlying h2, hf', asAgg, hu], hx⟩
      · cases hl
    · cases hl
  · cases hl

theorem asIdx_sim {ix : AV} {vi : Value} {i : Int} (h : asIdx ix = some i) (hv : VR G ix vi) : ∃ k, vi = .int k i := by
  cases hv <;> simp [asIdx] at h
  subst h; exact ⟨_, rfl⟩

theorem indexAddrA_sim (hT : TOk P T) {p ix x : AV} {v vi : Value} (hl : indexAddrA T t p ix = some x) (hp : VR G p v) (hi : VR G ix vi) (w : World) :
    ∃ u, (Instr.indexAt t v vi).run P w = .ok u w ∧ VR G x u := by
  unfold indexAddrA at hl
  split at hl
  · rename_i ti i hti hix
    obtain ⟨k, rfl⟩ := asIdx_sim hix hi
    obtain ⟨inf, d, z, h1, h2, h3, _⟩ := hT t ti hti
    split at hl
    · rename_i n e b off hk
      rw [hk] at h3
      have hd := tk_arr h3
      subst hd
      cases hp
      rename_i c m hr
      split at hl
      · rename_i te hte
        split at hl
        · rename_i hb
          cases hl
          simp only [Bool.and_eq_true, decide_eq_true_eq] at hb
          refine ⟨.pointer (some ⟨c, off + i.toNat * te.size, none⟩), ?_, .ptr b _ c m hr⟩
          simp [Instr.indexAt, asIntOf, run_underlying h2, Instr.sureAddr, hb, r_sizeOf hT hte, Addr.add_lit]
        · cases hl
      · cases hl
    · rename_i e b off n zz hk
      rw [hk] at h3
      have hd := tk_slice h3
      subst hd
      cases hp
      rename_i c m cap hr hlc hc
      split at hl
      · rename_i te hte
        split at hl
        · rename_i hb
          cases hl
          simp only [Bool.and_eq_true, decide_eq_true_eq] at hb
          refine ⟨.pointer (some ⟨c, off + i.toNat * te.size, none⟩), ?_, .ptr b _ c m hr⟩
          simp [Instr.indexAt, asIntOf, run_underlying h2, hb, r_sizeOf hT hte, Addr.add_lit]
        · cases hl
      · cases hl
    · rename_i e xs kk hk
      rw [hk] at h3
      have hd := tk_slice h3
      subst hd
      split at hl
      · rename_i te hte
        split at hl
        · rename_i hb
          have hb' : 0 ≤ i := by simpa using hb
          split at hl
          · rename_i y hy
            split at hl
            · rename_i hs
              cases hl
              have hs' : (cellsOf y).length = te.size := by simpa using hs
              cases hp
              rename_i c base sz len cap vs hI hcap hsz hv hlen hk
              subst hlen
              have hlt : i.toNat < xs.length := (List.getElem?_eq_some_iff.1 hy).1
              have hilt : i < (xs.length : Int) := by omega
              have hszte : sz = te.size := by rw [← hs']; exact (hsz y (List.mem_of_getElem? hy)).symm
              refine ⟨.pointer (some ⟨c, base + i.toNat * sz + 0, none⟩), ?_, .elem xs _ 0 c base sz vs hsz hv hI⟩
              simp [Instr.indexAt, asIntOf, run_underlying h2, hb', hilt, r_sizeOf hT hte, Addr.add_lit, hszte]
            · cases hl
          · cases hl
        · cases hl
      · cases hl
    · cases hl
  · cases hl

theorem indexA_sim (hT : TOk P T) {p ix x : AV} {v vi : Value} (hl : indexA T t p ix = some x) (hp : VR G p v) (hi : VR G ix vi) (w : World) :
    ∃ u, (Instr.index t v vi).run P w = .ok u w ∧ VR G x u := by
  unfold indexA at hl
  split at hl
  · rename_i ti i hti hix
    obtain ⟨k, rfl⟩ := asIdx_sim hix hi
    obtain ⟨inf, d, z, h1, h2, h3, _⟩ := hT t ti hti
    split at hl
    · rename_i n e cs hk
      rw [hk] at h3
      have hd := tk_arr h3
      subst hd
      cases hp
      rename_i vs hv
      split at hl
      · rename_i te hte
        split at hl
        · rename_i hb
          simp only [Bool.and_eq_true, decide_eq_true_eq] at hb
          obtain ⟨u, hu, hx⟩ := part_sim hT hl hv w
          exact ⟨u, by simp [Instr.index, asIntOf, run_underlying h2, hb, r_sizeOf hT hte, hu], hx⟩
        · cases hl
      · cases hl
    · rename_i str hk
      rw [hk] at h3
      have hd := tk_str h3
      subst hd
      cases hp
      split at hl
      · rename_i b hb
        cases hl
        refine ⟨.int .u8 b.toNat, ?_, .int _ _⟩
        simp only [Instr.index, asIntOf, Sem.run_bind, Sem.run_pure, Result.andThen_ok, run_underlying h2, hb]
      · cases hl
    · cases hl
  · cases hl

end
end Go.Am
