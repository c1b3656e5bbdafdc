/- The abstract machine: struct, array and slice literals against the model's; all still operations. -/
import Derived.Test.YtmbkcjnjjlkidaaGreatDoorAmStill4
namespace Go.Am
open Go.RowKit

/-- The parts of a literal: as they stand to each other. -/
inductive PRs (G : Gh) : List (Nat × AV) → List (Nat × Value) → Prop
  | nil : PRs G [] []
  | cons (i : Nat) (a : AV) (v : Value) (as : List (Nat × AV)) (vs : List (Nat × Value)) (h : VR G a v) (hs : PRs G as vs) : PRs G ((i, a) :: as) ((i, v) :: vs)

section
variable {P : Program} {T : Tr TI} {B : Nat → Prop} {w0 : World} {G : Gh} {s : St} {w : World} {t : Nat} {ti : TI}

theorem foldl_splice : ∀ (vs : List Value) (off k : Nat) (cells : Array Value), off + k + vs.length ≤ cells.size →
    ((vs.zipIdx k).foldl (fun cs (p : Value × Nat) => cs.setIfInBounds (off + p.2) p.1) cells).toList = cells.toList.take (off + k) ++ vs ++ cells.toList.drop (off + k + vs.length)
  | [], off, k, cells, _ => by simp
  | v :: vs, off, k, cells, h => by
    simp only [List.zipIdx_cons, List.foldl_cons]
    rw [foldl_splice vs off (k + 1) _ (by simp at h ⊢; omega)]
    have e := list_seg_step cells.toList (off + k) v vs (by simp at h ⊢; omega)
    simpa [Array.toList_setIfInBounds, Nat.add_assoc] using e

theorem zipIdx_foldl_array (v : Value) (off : Nat) (cells : Array Value) :
    (v.cells.zipIdx.foldl (fun cs (c, j) => cs.setIfInBounds (off + j) c) cells) = ((cellsV v).zipIdx 0).foldl (fun cs (p : Value × Nat) => cs.setIfInBounds (off + p.2) p.1) cells := by
  rw [← Array.foldl_toList]
  simp only [Array.toList_zipIdx, cellsV]

theorem fill_sim (pl : Nat → Option (Nat × Nat)) : ∀ (ps : List (Nat × AV)) (qs : List (Nat × Value)) (pl' : Nat → Option (Nat × Nat)) (cs cs' : List AV) (vs : List Value), (∀ i x, pl i = some x → pl' i = some x) →
    fillA pl cs ps = some cs' → PRs G ps qs → VRs G cs vs → ∃ vs', Instr.fill pl' vs.toArray qs = some vs'.toArray ∧ VRs G cs' vs'
  | [], qs, pl', cs, cs', vs, _, h, hp, hv => by
    simp only [fillA, Option.some.injEq] at h
    subst h
    cases hp
    exact ⟨vs, rfl, hv⟩
  | (i, a) :: ps, qs, pl', cs, cs', vs, hpl, h, hp, hv => by
    cases hp
    rename_i v vs2 hav hs
    simp only [fillA] at h
    split at h
    · cases h
    · rename_i off size hi
      split at h
      · rename_i hc
        simp only [Bool.and_eq_true, decide_eq_true_eq, beq_iff_eq] at hc
        have hcells := hav.cells
        have hlen : (cellsV v).length = size := by rw [← hcells.length]; exact hc.1
        have hsz : v.cells.size = size := by simpa [cellsV] using hlen
        have hvl := hv.length
        have hsp := hv.splice off hcells
        have hstep : (v.cells.zipIdx.foldl (fun cs (c, j) => cs.setIfInBounds (off + j) c) vs.toArray) = (vs.take off ++ cellsV v ++ vs.drop (off + (cellsV v).length)).toArray := by
          rw [zipIdx_foldl_array]
          apply Array.ext'
          rw [foldl_splice _ _ _ _ (by simp; omega)]
          simp
        obtain ⟨vs', h1, h2⟩ := fill_sim pl ps vs2 pl' _ cs' _ hpl h hs hsp
        refine ⟨vs', ?_, h2⟩
        simp only [Instr.fill, hpl i _ hi]
        rw [if_neg (by simp [hsz]; omega), hstep]
        exact h1
      · cases h

theorem places_run (hT : TOk P T) (w : World) : ∀ (fl : List Field), (∀ f ∈ fl, (T.get f.type).isSome = true) → ∃ ps : List (Nat × Nat), (fl.mapM fun f => (do pure (f.offset, ← sizeOf f.type) : Sem (Nat × Nat))).run P w = .ok ps w ∧
    ∀ i x, fieldSize T (fl.map fun f => (f.offset, f.type, f.name == "_")) i = some x → ps[i]? = some x
  | [], _ => ⟨[], by simp, by simp [fieldSize]⟩
  | f :: fl, h => by
    obtain ⟨ps, h1, h2⟩ := places_run hT w fl (fun g hg => h g (by simp [hg]))
    have hf := h f (by simp)
    cases hti : T.get f.type with
    | none => simp [hti] at hf
    | some ti =>
      refine ⟨(f.offset, ti.size) :: ps, ?_, ?_⟩
      · rw [List.mapM_cons]
        simp only [Sem.run_bind, r_sizeOf hT hti, Result.andThen_ok, Sem.run_pure, h1]
      · intro i x hx
        cases i with
        | zero => simp only [fieldSize, List.map_cons, List.getElem?_cons_zero, hti] at hx; simpa using hx
        | succ i =>
          have : fieldSize T (fl.map fun f => (f.offset, f.type, f.name == "_")) i = some x := by
            simpa only [fieldSize, List.map_cons, List.getElem?_cons_succ] using hx
          simpa using h2 i x this

theorem buildA_sim (hT : TOk P T) {ps : List (Nat × AV)} {qs : List (Nat × Value)} {x : AV} (h : buildA T t ps = some x) (hp : PRs G ps qs) (w : World) :
    ∃ v, (Instr.build t qs.toArray).run P w = .ok v w ∧ VR G x v := by
  unfold buildA at h
  split at h
  · rename_i ti hti
    obtain ⟨inf, d, z, g1, g2, g3, _⟩ := hT t ti hti
    obtain ⟨z, hz, hzv⟩ := r_zero hT hti w
    have hzc := (hzv G).cells
    split at h
    · rename_i fs hk
      rw [hk] at g3; obtain ⟨fl, hd, hfs⟩ := tk_struct g3; subst hd
      split at h
      · rename_i cs hall hf
        cases h
        obtain ⟨pl, hpl, hpl2⟩ := places_run hT w fl.toList (fun f hf => by
          rw [hfs] at hall
          simp only [List.all_map, List.all_eq_true] at hall
          exact hall f hf)
        have hplA : (fl.mapM fun f => (do pure (f.offset, ← sizeOf f.type) : Sem (Nat × Nat))).run P w = .ok pl.toArray w := by
          rw [Array.mapM_eq_mapM_toList, Sem.run_map, hpl]; rfl
        obtain ⟨vs', e1, e2⟩ := fill_sim (fieldSize T fs) ps qs (pl.toArray[·]?) _ cs _ (fun i x hx => by
          rw [hfs] at hx
          simpa using hpl2 i x hx) hf hp hzc
        refine ⟨.agg vs'.toArray, ?_, .agg _ _ e2⟩
        have e1' : Instr.fill (pl.toArray[·]?) z.cells qs = some vs'.toArray := by simpa [cellsV] using e1
        simp only [Instr.build, Sem.run_bind, hz, Result.andThen_ok, run_underlying g2]
        rw [hplA]
        simp only [Result.andThen_ok, e1']
        rfl
      · cases h
    · rename_i n e hk
      rw [hk] at g3; have hd := tk_arr g3; subst hd
      split at h
      · rename_i te hte
        split at h
        · rename_i cs hf
          cases h
          obtain ⟨vs', e1, e2⟩ := fill_sim (fun i => some (i * te.size, te.size)) ps qs (fun i => some (i * te.size, te.size)) _ cs _ (fun i x hx => hx) hf hp hzc
          have e1' : Instr.fill (fun i => some (i * te.size, te.size)) z.cells qs = some vs'.toArray := by simpa [cellsV] using e1
          refine ⟨.agg vs'.toArray, ?_, .agg _ _ e2⟩
          simp [Instr.build, hz, run_underlying g2, r_sizeOf hT hte, e1']
        · cases h
      · cases h
    · cases h
  · cases h

theorem flat_set {sz : Nat} : ∀ {xs : List AV} {i : Nat} {v : AV}, (∀ x ∈ xs, (cellsOf x).length = sz) → i < xs.length → (cellsOf v).length = sz →
    (xs.set i v).flatMap cellsOf = splice (xs.flatMap cellsOf) (i * sz) (cellsOf v)
  | [], i, v, _, hi, _ => by simp at hi
  | x :: xs, 0, v, h, _, hv => by
    have hx := h x (by simp)
    simp [splice, hv, ← hx]
  | x :: xs, i + 1, v, h, hi, hv => by
    have ih := flat_set (xs := xs) (i := i) (v := v) (fun y hy => h y (by simp [hy])) (by simpa using hi) hv
    have hx := h x (by simp)
    have e1 : (i + 1) * sz = (cellsOf x).length + i * sz := by rw [Nat.succ_mul, hx]; omega
    simp only [List.set_cons_succ, List.flatMap_cons, ih, splice, e1]
    rw [List.take_length_add_append, Nat.add_assoc, List.drop_length_add_append]
    simp [List.append_assoc]

theorem setAll_sim {size : Nat} {agg : Bool} : ∀ (ps : List (Nat × AV)) (xs ys : List AV), setAll size agg xs ps = some ys → (∀ x ∈ xs, (cellsOf x).length = size) →
    fillA (fun i => some (i * size, size)) (xs.flatMap cellsOf) ps = some (ys.flatMap cellsOf) ∧ (∀ y ∈ ys, (cellsOf y).length = size) ∧ ys.length = xs.length
  | [], xs, ys, h, hx => by simp only [setAll, Option.some.injEq] at h; subst h; exact ⟨rfl, hx, rfl⟩
  | (i, v) :: ps, xs, ys, h, hx => by
    simp only [setAll] at h
    split at h
    · rename_i hc
      simp only [Bool.and_eq_true, decide_eq_true_eq, beq_iff_eq] at hc
      have hx' : ∀ x ∈ xs.set i v, (cellsOf x).length = size := fun x hxm => by
        rcases List.mem_or_eq_of_mem_set hxm with hm | rfl
        · exact hx x hm
        · exact hc.1.1
      obtain ⟨h1, h2, h3⟩ := setAll_sim ps _ ys h hx'
      refine ⟨?_, h2, by simpa using h3⟩
      simp only [fillA]
      have hfit : i * size + size ≤ (xs.flatMap cellsOf).length := by
        rw [flat_length hx, ← Nat.succ_mul]
        exact Nat.mul_le_mul_right _ hc.1.2
      have : ((cellsOf v).length == size && decide (i * size + size ≤ (xs.flatMap cellsOf).length)) = true := by
        rw [Bool.and_eq_true]; exact ⟨by simp [hc.1.1], decide_eq_true hfit⟩
      rw [this, ← flat_set hx hc.1.2 hc.1.1]
      exact h1
    · cases h

theorem zeros_flat (z : List Value) : ∀ n : Nat, (List.range (n * z.length)).map (fun i => z[i % z.length]!) = (List.replicate n z).flatten
  | 0 => by simp
  | n + 1 => by
    rw [Nat.succ_mul, Nat.add_comm, List.range_add, List.map_append, List.replicate_succ, List.flatten_cons, ← zeros_flat z n]
    congr 1
    · apply List.ext_getElem?
      intro i
      rw [List.getElem?_map]
      by_cases hi : i < z.length
      · simp [Nat.mod_eq_of_lt hi, hi]
      · simp [hi]
    · simp only [List.map_map]
      apply List.map_congr_left
      intro i _
      simp

theorem zeros_array (z : Array Value) (n : Nat) : (Array.range (n * z.size)).map (fun i => z[i % z.size]!) = ((List.replicate n z.toList).flatten).toArray := by
  rw [← zeros_flat]
  apply Array.ext'
  simp only [Array.toList_map, Array.toList_range, Array.length_toList]
  apply List.map_congr_left
  intro i _
  simp [Array.getElem!_eq_getD, Array.getD_eq_getD_getElem?]

theorem rep_flat {a : AV} {v : Value} (h : VR G a v) (n : Nat) : VRs G ((List.replicate n a).flatMap cellsOf) (List.replicate n (cellsV v)).flatten := by
  induction n with
  | zero => exact .nil
  | succ n ih => simpa [List.replicate_succ] using h.cells.append ih

theorem elemsA_sim (hT : TOk P T) {len : Nat} {ps : List (Nat × AV)} {qs : List (Nat × Value)} {xs : List AV} {te : TI} (h : elemsA T t len ps = some (xs, te)) (hp : PRs G ps qs) :
    ∃ vs e, (Instr.buildSlice t len qs.toArray).run P w = .ok (.slice (some ⟨w.heap.size, 0, none⟩) len len) (w.alloc (.cells vs.toArray e)) ∧ VRs G (xs.flatMap cellsOf) vs ∧ xs.length = len ∧ (∀ x ∈ xs, (cellsOf x).length = te.size) ∧ 0 < te.size ∧
      (∃ e', T.get e' = some te) := by
  unfold elemsA at h
  split at h
  · rename_i ti hti
    obtain ⟨inf, d, z, g1, g2, g3, _⟩ := hT t ti hti
    split at h
    · rename_i e hk
      rw [hk] at g3; have hd := tk_slice g3; subst hd
      split at h
      · rename_i te' hte
        split at h
        · rename_i hc
          split at h
          · rename_i xs' hset
            cases h
            simp only [Bool.and_eq_true, decide_eq_true_eq] at hc
            obtain ⟨z, hz, hzv⟩ := r_zero hT hte w
            obtain ⟨inf2, d2, z2, q1, q2, q3, q4, q5, q6, q7, q8, _⟩ := hT e te hte
            have hun : ∀ x ∈ List.replicate len te.zero, (cellsOf x).length = te.size := fun x hx => by rw [List.eq_of_mem_replicate hx]; exact q8
            obtain ⟨f1, f2, f3⟩ := setAll_sim ps _ xs hset hun
            have hzl : z.cells.size = te.size := by
              have := ((hzv G).cells).length
              rw [q8] at this
              simpa [cellsV] using this.symm
            obtain ⟨vs', e1, e2⟩ := fill_sim (fun i => some (i * te.size, te.size)) ps qs (fun i => some (i * te.size, te.size)) _ _ _ (fun i x hx => hx) f1 hp (rep_flat (hzv G) len)
            refine ⟨vs', e, ?_, e2, by simpa using f3, f2, hc.1, ⟨e, hte⟩⟩
            have hno : ¬ (2 ^ 24 < len * te.size) := by omega
            have hzero : (Array.range (len * te.size)).map (fun i => z.cells[i % z.cells.size]!) = (List.replicate len (cellsV z)).flatten.toArray := by
              rw [← hzl, zeros_array]; rfl
            simp only [Instr.buildSlice, Sem.run_bind, run_underlying g2, Result.andThen_ok, r_sizeOf hT hte]
            rw [if_neg (by omega)]
            by_cases h0 : len * te.size = 0
            · have hl0 : len = 0 := by
                rcases Nat.mul_eq_zero.1 h0 with h | h
                · exact h
                · omega
              subst hl0
              simp only [Nat.zero_mul, Array.range_zero', List.replicate_zero, List.flatten_nil] at hzero e1 ⊢
              simp [e1, newRow]
              try rfl
            · rw [if_neg h0]
              simp only [Sem.run_bind, hz, Result.andThen_ok, Sem.run_pure, hzero, e1]
              simp [newRow]
              try rfl
          · cases h
        · cases h
      · cases h
    · cases h
  · cases h

/-- A literal slice: its row is never written. -/
theorem buildSlice_sim (hT : TOk P T) (hw : WR B w0 G s w) {len : Nat} {ps : List (Nat × AV)} {qs : List (Nat × Value)} {xs : List AV} {te : TI} (h : elemsA T t len ps = some (xs, te)) (hp : PRs G ps qs) :
    ∃ G' w' v, G.Le G' ∧ WR B w0 G' s w' ∧ VR G' (.sl xs .full) v ∧ (Instr.buildSlice t len qs.toArray).run P w = .ok v w' := by
  obtain ⟨vs, e, h1, h2, h3, h4, h5, _⟩ := elemsA_sim (w := w) hT h hp
  have hle := Gh.le_withI hw vs.length (fun o => vs.toArray[o]?)
  refine ⟨_, _, _, hle, hw.allocImm vs.toArray e vs.length, ?_, h1⟩
  subst h3
  refine .sl _ _ w.heap.size 0 te.size _ _ vs h4 (h2.mono hle) (fun j hj => ?_) rfl (Nat.le_refl _) rfl
  simp only [Gh.withI, Nat.zero_add]
  rw [if_pos ⟨by first | rfl | trivial, hj⟩]
  simp

end

/-! ### Operands and frames -/

def okO (NG : Nat) : Operand → Bool
  | .global g => decide (g < NG)
  | _ => true

def GOk (NG : Nat) (G : Gh) : Prop := ∀ g, g < NG → ∃ n, G.ρ g = some (g, n)

theorem GOk.mono {NG : Nat} {G H : Gh} (h : G.Le H) (g : GOk NG G) : GOk NG H := fun i hi => let ⟨n, e⟩ := g i hi; ⟨n, h.ρ _ _ e⟩

def EnvR (G : Gh) (e : Env) (a : Act) : Prop := ∀ t v, e.get t = some v → VR G v (a.tmps.getD t undef)

theorem EnvR.mono {G H : Gh} (h : G.Le H) {e : Env} {a : Act} (r : EnvR G e a) : EnvR H e a := fun t v e => (r t v e).mono h

section
variable {NG : Nat} {G : Gh} {e : Env} {a : Act}

theorem ev_sim (hg : GOk NG G) (he : EnvR G e a) {x : Operand} (hx : okO NG x = true) {y : AV} (h : ev e x = some y) : VR G y (a.eval x) := by
  cases x with
  | tmp t => exact he t y h
  | const v => exact ofV_VR G 8 v y h
  | global g =>
    simp only [ev, Option.some.injEq] at h
    subst h
    obtain ⟨n, hn⟩ := hg g (by simpa [okO] using hx)
    exact .ptr g 0 g n hn
  | func f =>
    simp only [ev, Option.some.injEq] at h
    subst h
    exact .fn _ [] [] [] [] .nil .nil

theorem evs_sim (hg : GOk NG G) (he : EnvR G e a) : ∀ (xs : List Operand) (ys : List AV), (∀ x ∈ xs, okO NG x = true) → evs e xs = some ys → VRs G ys (xs.map a.eval)
  | [], ys, _, h => by simp only [evs, Option.some.injEq] at h; subst h; exact .nil
  | x :: xs, ys, hx, h => by
    simp only [evs] at h
    split at h
    · rename_i y ys' hy hys
      cases h
      exact .cons _ _ _ _ (ev_sim hg he (hx x (by simp)) hy) (evs_sim hg he xs ys' (fun z hz => hx z (by simp [hz])) hys)
    · cases h

theorem evParts_sim (hg : GOk NG G) (he : EnvR G e a) : ∀ (xs : List (Nat × Operand)) (ys : List (Nat × AV)), (∀ x ∈ xs, okO NG x.2 = true) → evParts e xs = some ys → PRs G ys (xs.map fun (i, x) => (i, a.eval x))
  | [], ys, _, h => by simp only [evParts, Option.some.injEq] at h; subst h; exact .nil
  | (i, x) :: xs, ys, hx, h => by
    simp only [evParts] at h
    split at h
    · rename_i y ys' hy hys
      cases h
      exact .cons _ _ _ _ _ (ev_sim hg he (hx (i, x) (by simp)) hy) (evParts_sim hg he xs ys' (fun z hz => hx z (by simp [hz])) hys)
    · cases h

theorem evOpt_sim (hg : GOk NG G) (he : EnvR G e a) {x : Option Operand} {y : Option AV} (hx : ∀ o ∈ x, okO NG o = true) (h : evOpt e x = some y) : OR G y (x.map a.eval) := by
  cases x with
  | none => simp only [evOpt, Option.some.injEq] at h; subst h; exact .none
  | some o =>
    simp only [evOpt] at h
    split at h
    · rename_i y' hy
      cases h
      exact .some _ _ (ev_sim hg he (hx o rfl) hy)
    · cases h
end
end Go.Am
