/- The abstract machine: what is appended and copied; append, copy, clear against the model's. -/
import Derived.Test.YtmbkcjnjjlkidaaGreatDoorAmStill6
namespace Go.Am
open Go.RowKit

section
variable {P : Program} {T : Tr TI} {B : Nat → Prop} {NG : Nat} {w0 : World} {G : Gh} {s : St} {w : World} {e : Env} {a : Act} {t : Nat} {te : TI}

theorem size_one (hT : TOk P T) (h : T.get t = some te) (ha : te.agg = false) : te.size = 1 := by
  obtain ⟨inf, d, z, g1, g2, g3, g4, g5, g6, g7, g8, g9, _⟩ := hT t te h
  rw [ha] at g9
  have : isFlat te.zero = true := by simpa using g9
  rw [← g8]
  cases hz : te.zero <;> rw [hz] at this <;> simp [isFlat] at this <;> rfl

theorem chunk_flat {size : Nat} {agg : Bool} (h1 : agg = false → size = 1) : ∀ (n : Nat) (cs : List AV), cs.length = n * size → cs.all isFlat = true →
    (chunk size agg n cs).flatMap cellsOf = cs ∧ (∀ x ∈ chunk size agg n cs, (cellsOf x).length = size) ∧ (chunk size agg n cs).length = n
  | 0, cs, hl, _ => by
    have : cs = [] := List.eq_nil_of_length_eq_zero (by simpa using hl)
    subst this
    exact ⟨rfl, by simp [chunk], rfl⟩
  | n + 1, cs, hl, hf => by
    have hl' : (cs.drop size).length = n * size := by rw [List.length_drop, hl, Nat.succ_mul]; omega
    have hf' : (cs.drop size).all isFlat = true := by
      rw [List.all_eq_true] at hf ⊢
      exact fun x hx => hf x (List.mem_of_mem_drop hx)
    obtain ⟨e1, e2, e3⟩ := chunk_flat h1 n (cs.drop size) hl' hf'
    have hge : size ≤ cs.length := by rw [hl, Nat.succ_mul]; omega
    have hhead : cellsOf (chunkHead size agg cs) = cs.take size := by
      cases agg with
      | true => rfl
      | false =>
        have hs := h1 rfl
        subst hs
        cases cs with
        | nil => simp at hge
        | cons c cs =>
          have : isFlat c = true := by simp only [List.all_cons, Bool.and_eq_true] at hf; exact hf.1
          cases c <;> simp [isFlat] at this <;> rfl
    refine ⟨?_, ?_, by simp [chunk, e3]⟩
    · simp only [chunk, List.flatMap_cons, e1, hhead, List.take_append_drop]
    · intro x hx
      simp only [chunk, List.mem_cons] at hx
      rcases hx with rfl | hx
      · rw [hhead, List.length_take]; omega
      · exact e2 x hx

theorem msCells_sim (hw : WR B w0 G s w) {b off n c m : Nat} {cs : List AV} (h : msCells s.heap b off n = some cs) (hr : G.ρ b = some (c, m)) :
    cs.length = n ∧ ∃ vs, VRs G cs vs ∧ ∀ j v, vs[j]? = some v → w.cell? ⟨c, off + j, none⟩ = some v := by
  unfold msCells at h
  split at h
  · rename_i cs' f hb
    split at h
    · rename_i hle
      cases h
      have hle' : off + n ≤ cs'.length := by simpa using hle
      refine ⟨by simp; omega, ?_⟩
      obtain ⟨vs, h1, h2⟩ := hw.row hb hr
      refine ⟨_, (h1.drop off).take n, fun j v hj => ?_⟩
      rw [List.getElem?_take] at hj
      split at hj
      · rw [List.getElem?_drop] at hj; exact h2 _ _ hj
      · cases hj
    · cases h
  · cases h

/-- What is appended or copied. -/
theorem src_sim (hT : TOk P T) (hw : WR B w0 G s w) (hte : T.get t = some te) {y : AV} {v : Value} {ys : List AV} (h : srcElems s te y = some ys) (hv : VR G y v) :
    ∃ vs, VRs G (ys.flatMap cellsOf) vs ∧ (∀ x ∈ ys, (cellsOf x).length = te.size) ∧ (∀ w, (Builtin.lenOf v).run P w = .ok ys.length w) ∧
      ∀ w2 : World, (∀ a, w2.cell? a = w.cell? a) → ∀ m, m ≤ ys.length → (Builtin.firstCells te.size m v).run P w2 = .ok (vs.take (m * te.size)).toArray w2 := by
  unfold srcElems at h
  split at h
  · cases h
    cases hv
    exact ⟨[], .nil, by simp, fun w => rfl, fun w2 _ m _ => by simp [Builtin.firstCells]⟩
  · rename_i xs k
    cases hv
    rename_i c base sz len cap vs hI hcap hsz hv hlen hkk
    subst hlen
    have hcell := hw.immRow hI
    split at h
    · cases h
      refine ⟨[], .nil, by simp, fun w => rfl, fun w2 hc m hm => ?_⟩
      have hm0 : m = 0 := by simpa using hm
      subst hm0
      have := run_firstCells_some (P := P) w2 te.size 0 ⟨c, base, none⟩ 0 cap [] (by simp) (by simp)
      simpa using this
    · rename_i x r
      split at h
      · rename_i hs
        cases h
        have hs' : (cellsOf x).length = te.size := by simpa using hs
        have hszte : sz = te.size := by rw [← hs']; exact (hsz x (by simp)).symm
        subst hszte
        refine ⟨vs, hv, hsz, fun w => rfl, fun w2 hc m hm => ?_⟩
        have hvl : vs.length = (x :: r).length * te.size := by rw [← hv.length, flat_length hsz]
        have hml : m * te.size ≤ vs.length := by rw [hvl]; exact Nat.mul_le_mul_right _ hm
        exact run_firstCells_some (P := P) w2 te.size m ⟨c, base, none⟩ _ cap (vs.take (m * te.size)) (by simp; omega) (fun j v hj => by
          rw [Addr.add_lit, hc]
          rw [List.getElem?_take] at hj
          split at hj
          · exact hcell j v hj
          · cases hj)
      · cases h
  · rename_i b
    cases hv
    split at h
    · rename_i hk
      cases h
      have hone : te.size = 1 := size_one hT hte (by simp [TI.agg, hk])
      have hlen : (ofBytes b).length = b.size := by simp [ofBytes]
      refine ⟨_, by rw [flat_one (ofBytes_flat b)]; exact ofBytes_VRs b, fun x hx => ?_, fun w => ?_, fun w2 _ m hm => ?_⟩
      · have := ofBytes_flat b x hx
        rw [hone]
        cases x <;> simp [isFlat] at this <;> rfl
      · rw [hlen]; rfl
      · rw [hlen] at hm
        simp only [Builtin.firstCells, Sem.run_pure, hone, Nat.mul_one]
        congr 1
        apply Array.ext'
        simp only [Array.toList_map]
        rw [← List.map_take]
        congr 1
        have : (b.extract 0 m).data.toList = b.data.toList.take m := by
          simp [ByteArray.data_extract, Array.toList_extract, List.extract]
        exact this
    · cases h
  · rename_i b off n zz
    cases hv
    rename_i c m cap hr hlc hc
    split at h
    · rename_i cs hcs
      split at h
      · rename_i hz
        cases h
        simp only [Bool.and_eq_true, beq_iff_eq] at hz
        obtain ⟨hl, vs, h1, h2⟩ := msCells_sim hw hcs hr
        obtain ⟨e1, e2, e3⟩ := chunk_flat (fun ha => size_one hT hte ha) n cs hl hz.2
        refine ⟨vs, by rw [e1]; exact h1, e2, fun w => by rw [e3]; rfl, fun w2 hcell k hk => ?_⟩
        rw [e3] at hk
        have hvl : vs.length = n * te.size := by rw [← h1.length, hl]
        have hml : k * te.size ≤ vs.length := by rw [hvl]; exact Nat.mul_le_mul_right _ hk
        exact run_firstCells_some (P := P) w2 te.size k ⟨c, off, none⟩ _ cap (vs.take (k * te.size)) (by simp; omega) (fun j v hj => by
          rw [Addr.add_lit, hcell]
          rw [List.getElem?_take] at hj
          split at hj
          · exact h2 j v hj
          · cases hj)
      · cases h
    · cases h
  · cases h

/-- A type that may stand behind append's comma. -/
def SrcT (P : Program) (u : Nat) : Prop := (∃ e, P.underlying u = some (.slice e)) ∨ P.underlying u = some .string

theorem notInt_sim (hT : TOk P T) {u : Nat} (h : notInt T u = true) : SrcT P u := by
  unfold notInt at h
  split at h
  · rename_i ti hti
    obtain ⟨inf, d, z, g1, g2, g3, _⟩ := hT u ti hti
    split at h
    · rename_i e hk; rw [hk] at g3; have hd := tk_slice g3; subst hd; exact .inl ⟨_, g2⟩
    · rename_i hk; rw [hk] at g3; have hd := tk_str g3; subst hd; exact .inr g2
    · cases h
  · cases h

section runs
variable {u ty e : Nat} {i : TypeInfo} {z : Value}

theorem append_none (ht : P.underlying t = some (.slice e)) (hu : SrcT P u) (hi : P.info? e = some i) (base : Option Addr) (sLen sCap : Nat) (hc : sLen ≤ sCap) (v : Value)
    (hn : (Builtin.lenOf v).run P w = .ok 0 w) (hf : (Builtin.firstCells i.size 0 v).run P w = .ok #[] w) (ts : List Nat) (vs : List Value) :
    (Builtin.append_ (t :: u :: ts).toArray ty (.slice base sLen sCap :: v :: vs).toArray).run P w = .ok (.slice base sLen sCap) w := by
  rcases hu with ⟨e', hu⟩ | hu
  all_goals
    cases base <;> simp [Builtin.append_, run_underlying ht, run_underlying hu, sizeOf, typeInfo, hi, hn, hf, hc, storeCells]

theorem append_grow (ht : P.underlying t = some (.slice e)) (hu : SrcT P u) (hi : P.info? e = some i) (hz : i.zero = some z) (base : Option Addr) (sLen sCap n : Nat) (v : Value) (olds news : Array Value)
    (hg : sCap < sLen + n) (h63 : sLen + n < 2 ^ 62) (h47 : (sLen + n) * i.bytes ≤ 2 ^ 47)
    (hn : (Builtin.lenOf v).run P w = .ok n w) (hf : (Builtin.firstCells i.size n v).run P w.drew = .ok news w.drew) (ho : (Builtin.firstCells i.size sLen (.slice base sLen sCap)).run P w.drew = .ok olds w.drew) (ts : List Nat) (vs : List Value) :
    (Builtin.append_ (t :: u :: ts).toArray ty (.slice base sLen sCap :: v :: vs).toArray).run P w =
      .ok (.slice (some ⟨w.heap.size, 0, none⟩) (sLen + n) (grownCap w (sLen + n) sCap e)) (w.drew.alloc (.cells (olds ++ news ++ Builtin.zeroCells z.cells (grownCap w (sLen + n) sCap e - (sLen + n))) e)) := by
  have hfit := growslice_fits hg (by simpa using h47)
  have hn1 : ¬ (sLen + n ≤ sCap) := by omega
  have h63' : ¬ (9223372036854775807 < ((sLen : Int) + (n : Int))) := by omega
  have h48' : ¬ (281474976710656 < Builtin.nextslicecap (sLen + n) sCap * i.bytes) := by omega
  rcases hu with ⟨e', hu⟩ | hu
  all_goals
    simp [Builtin.append_, run_underlying ht, run_underlying hu, sizeOf, typeInfo, zeroValue, hi, hz, hn, hn1, h63', h48', Question.forced, hf, ho, newRow, grownCap]

theorem append_room (ht : P.underlying t = some (.slice e)) (hu : SrcT P u) (hi : P.info? e = some i) (c b sLen sCap n : Nat) (v : Value) (news : Array Value) (w' : World)
    (hr : sLen + n ≤ sCap) (hn : (Builtin.lenOf v).run P w = .ok n w) (hf : (Builtin.firstCells i.size n v).run P w = .ok news w)
    (hs : (storeCells ⟨c, b + sLen * i.size, none⟩ news.toList).run P w = .ok () w') (ts : List Nat) (vs : List Value) :
    (Builtin.append_ (t :: u :: ts).toArray ty (.slice (some ⟨c, b, none⟩) sLen sCap :: v :: vs).toArray).run P w = .ok (.slice (some ⟨c, b, none⟩) (sLen + n) sCap) w' := by
  rcases hu with ⟨e', hu⟩ | hu
  all_goals
    simp [Builtin.append_, run_underlying ht, run_underlying hu, sizeOf, typeInfo, hi, hn, hf, hr, Addr.add_lit, hs]
end runs

theorem grown_tag (hw : WR B w0 G s w) {all : List AV} {vs rest : List Value} {size cap n e : Nat} (hv : VRs G (all.flatMap cellsOf) vs) (hun : ∀ x ∈ all, (cellsOf x).length = size) (hn : n = all.length) (h0 : 0 < n)
    (hcap : n ≤ cap) (hrest : rest.length = (cap - n) * size) :
    ∃ G', G.Le G' ∧ WR B w0 G' (newTag s all).2 (w.alloc (.cells (vs ++ rest).toArray e)) ∧ VR G' (newTag s all).1 (.slice (some ⟨w.heap.size, 0, none⟩) n cap) := by
  subst hn
  have hvl : vs.length = all.length * size := by rw [← hv.length, flat_length hun]
  have hce : cap * size ≤ (vs ++ rest).toArray.size := by
    simp only [List.size_toArray, List.length_append, hvl, hrest, ← Nat.add_mul]
    exact Nat.mul_le_mul_right _ (by omega)
  have h1 := hw.newTag (vs ++ rest).toArray e (all.length * size) (cap * size) hce (by simp at hce ⊢; omega)
  have hle : G.Le { (G.withI w.heap.size (all.length * size) (fun o => (vs ++ rest).toArray[o]?)) with τ := fun t => if t = s.nt then some (w.heap.size, all.length * size, cap * size) else G.τ t } :=
    (Gh.le_withI hw (all.length * size) (fun o => (vs ++ rest).toArray[o]?)).trans ⟨fun _ _ e => e, fun _ _ _ e => e, fun t x e => by
      simp only []
      have := hw.tlt t x e
      rw [if_neg (by omega)]; exact e, rfl⟩
  refine ⟨_, hle, h1, ?_⟩
  refine .sl _ _ w.heap.size 0 size _ _ vs hun (hv.mono hle) (fun j hj => ?_) rfl hcap ⟨h0, ?_⟩
  · simp only [Gh.withI, Nat.zero_add]
    rw [if_pos ⟨by first | rfl | trivial, by omega⟩]
    simp [List.getElem?_append_left hj]
  · simp

theorem grown_ms (hw : WR B w0 G s w) {all : List AV} {vs rest : List Value} {size cap n e : Nat} (hv : VRs G (all.flatMap cellsOf) vs) (hun : ∀ x ∈ all, (cellsOf x).length = size) (hn : n = all.length)
    (hcap : n ≤ cap) (hrest : rest.length = (cap - n) * size) :
    ∃ G', G.Le G' ∧ WR B w0 G' (newMs s size all).2 (w.alloc (.cells (vs ++ rest).toArray e)) ∧ VR G' (newMs s size all).1 (.slice (some ⟨w.heap.size, 0, none⟩) n cap) := by
  subst hn
  have hvl : vs.length = all.length * size := by rw [← hv.length, flat_length hun]
  have h1 := hw.allocMut (all.flatMap cellsOf) vs rest e hv
  refine ⟨_, Gh.le_withρ hw w.heap.size (vs ++ rest).length, h1, ?_⟩
  refine .ms s.next 0 all.length size w.heap.size (vs ++ rest).length cap (by simp [Gh.withρ]) hcap ?_
  simp only [List.length_append, hvl, hrest, ← Nat.add_mul, Nat.zero_add]
  exact Nat.mul_le_mul_right _ (by omega)

theorem elemTI_sim (hT : TOk P T) (h : elemTI T t = some te) : ∃ e, P.underlying t = some (.slice e) ∧ T.get e = some te := by
  unfold elemTI at h
  split at h
  · rename_i ti hti
    obtain ⟨inf, d, z, g1, g2, g3, _⟩ := hT t ti hti
    split at h
    · rename_i e hk
      rw [hk] at g3; have hd := tk_slice g3; subst hd
      exact ⟨e, g2, h⟩
    · cases h
  · cases h

theorem grownCap_ge (w : World) (need old e : Nat) : need ≤ grownCap w need old e := by
  unfold grownCap; simp only [Question.cut]; omega

theorem head_uniform {xs : List AV} {sz size : Nat} (hsz : ∀ x ∈ xs, (cellsOf x).length = sz) (hh : headIs size xs = true) : ∀ x ∈ xs, (cellsOf x).length = size := by
  cases xs with
  | nil => simp
  | cons x r =>
    have e1 : (cellsOf x).length = size := by simpa [headIs] using hh
    have e2 := hsz x (by simp)
    intro y hy
    rw [hsz y hy, ← e2, e1]

theorem append_sim (hT : TOk P T) (hw : WR B w0 G s w) {u : Nat} (hte : elemTI T t = some te) (hu : notInt T u = true) {mut_ : Bool} {x y x' : AV} {ys : List AV} {s' : St} {v1 v2 : Value}
    (hsrc : srcElems s te y = some ys) (h : appendA te mut_ s x ys = some (x', s')) (hx : VR G x v1) (hy : VR G y v2) (ts : List Nat) (vs : List Value) (ty : Nat) :
    ∃ G' w' v, G.Le G' ∧ WR B w0 G' s' w' ∧ VR G' x' v ∧ (Builtin.append_ (t :: u :: ts).toArray ty (v1 :: v2 :: vs).toArray).run P w = .ok v w' := by
  obtain ⟨e, ht, hge⟩ := elemTI_sim hT hte
  have hu' := notInt_sim hT hu
  obtain ⟨us, s1, s2, s3, s4⟩ := src_sim hT hw hge hsrc hy
  obtain ⟨i, d, z, g1, g2, g3, g4, g5, g6, g7, g8, _⟩ := hT e te hge
  have hzv : VR G te.zero z := ofV_VR G _ _ _ g7
  have hzl : z.cells.size = te.size := by
    have := hzv.cells.length
    rw [g8] at this
    simpa [cellsV] using this.symm
  have hfull := fun (w2 : World) (hc : ∀ a, w2.cell? a = w.cell? a) => s4 w2 hc ys.length (Nat.le_refl _)
  have husl : us.length = ys.length * te.size := by rw [← s1.length, flat_length s2]
  simp only [← husl, List.take_length] at hfull
  unfold appendA at h
  split at h
  · -- nothing is appended
    have hf0 := s4 w (fun _ => rfl) 0 (Nat.zero_le _)
    simp only [Nat.zero_mul, List.take_zero] at hf0
    rw [← g4] at hf0
    split at h
    · cases h
      cases hx
      exact ⟨G, w, _, .refl G, hw, .nils, append_none ht hu' g1 none 0 0 (Nat.le_refl _) v2 (s3 w) hf0 ts vs⟩
    · cases h
      have hx0 := hx
      cases hx
      rename_i c base sz len cap vs' hI hcap hsz hv hlen hkk
      exact ⟨G, w, _, .refl G, hw, hx0, append_none ht hu' g1 _ len cap hcap v2 (s3 w) hf0 ts vs⟩
    · cases h
  · rename_i y0 yr
    generalize hys : y0 :: yr = ys at *
    have hpos : 0 < ys.length := by rw [← hys]; simp
    split at h
    · -- onto nil
      cases hx
      split at h
      · rename_i hroom
        simp only [roomA, Bool.and_eq_true, decide_eq_true_eq] at hroom
        have hrun := append_grow (P := P) (w := w) (ty := ty) ht hu' g1 g6 none 0 0 ys.length v2 #[] us.toArray (by omega) (by omega) (by rw [g5, Nat.zero_add]; exact hroom.1) (s3 w)
          (by rw [g4]; exact hfull w.drew (fun _ => rfl)) (by simp [Builtin.firstCells]) ts vs
        have hcap := grownCap_ge w (0 + ys.length) 0 e
        have harr : (#[] ++ us.toArray ++ Builtin.zeroCells z.cells (grownCap w (0 + ys.length) 0 e - (0 + ys.length))) = (us ++ (Builtin.zeroCells z.cells (grownCap w (0 + ys.length) 0 e - (0 + ys.length))).toList).toArray := by
          apply Array.ext'; simp
        have hrl : (Builtin.zeroCells z.cells (grownCap w (0 + ys.length) 0 e - (0 + ys.length))).toList.length = (grownCap w (0 + ys.length) 0 e - (0 + ys.length)) * te.size := by
          rw [Array.length_toList, size_zeroCells, hzl]
        rw [harr] at hrun
        split at h
        · cases h
          obtain ⟨G', p1, p2, p3⟩ := grown_ms (e := e) hw.drew s1 s2 (n := 0 + ys.length) (by omega) hcap hrl
          exact ⟨G', _, _, p1, p2, p3, hrun⟩
        · cases h
          obtain ⟨G', p1, p2, p3⟩ := grown_tag (e := e) hw.drew s1 s2 (n := 0 + ys.length) (by omega) (by omega) hcap hrl
          exact ⟨G', _, _, p1, p2, p3, hrun⟩
      · cases h
    · rename_i xs k
      split at h
      · rename_i hroom
        simp only [roomA, Bool.and_eq_true, decide_eq_true_eq] at hroom
        cases hx
        rename_i c base sz len cap vs' hI hcap hsz hv hlen hkk
        subst hlen
        have hunx := head_uniform hsz hroom.2
        have hvl : vs'.length = xs.length * te.size := by rw [← hv.length, flat_length hunx]
        have hcell := hw.immRow hI
        have hall : VRs G ((xs ++ ys).flatMap cellsOf) (vs' ++ us) := by rw [List.flatMap_append]; exact hv.append s1
        have hunall : ∀ x ∈ xs ++ ys, (cellsOf x).length = te.size := fun x hx => by
          rcases List.mem_append.1 hx with hx | hx
          · exact hunx x hx
          · exact s2 x hx
        -- a new row
        have grows : cap < xs.length + ys.length → ∃ rest : List Value, rest.length = (grownCap w (xs.length + ys.length) cap e - (xs.length + ys.length)) * te.size ∧
            (Builtin.append_ (t :: u :: ts).toArray ty (.slice (some ⟨c, base, none⟩) xs.length cap :: v2 :: vs).toArray).run P w =
              .ok (.slice (some ⟨w.heap.size, 0, none⟩) (xs.length + ys.length) (grownCap w (xs.length + ys.length) cap e)) (w.drew.alloc (.cells (vs' ++ us ++ rest).toArray e)) := fun hg => by
          have ho := run_firstCells_some (P := P) w.drew te.size xs.length ⟨c, base, none⟩ xs.length cap vs' hvl (fun j v hj => by rw [Addr.add_lit]; simpa using hcell j v hj)
          have hrun := append_grow (P := P) (w := w) (ty := ty) ht hu' g1 g6 (some ⟨c, base, none⟩) xs.length cap ys.length v2 vs'.toArray us.toArray hg (by omega) (by rw [g5]; exact hroom.1.1) (s3 w)
            (by rw [g4]; exact hfull w.drew (fun _ => rfl)) (by rw [g4]; exact ho) ts vs
          refine ⟨(Builtin.zeroCells z.cells (grownCap w (xs.length + ys.length) cap e - (xs.length + ys.length))).toList, by rw [Array.length_toList, size_zeroCells, hzl], ?_⟩
          rw [hrun]
          congr 3
          apply Array.ext'; simp
        have hgc := grownCap_ge w (xs.length + ys.length) cap e
        split at h
        · -- its capacity is its length
          have hcl : cap = xs.length := hkk
          obtain ⟨rest, hrl, hrun⟩ := grows (by omega)
          split at h
          · cases h
            obtain ⟨G', p1, p2, p3⟩ := grown_ms (e := e) hw.drew hall hunall (n := xs.length + ys.length) (by simp) hgc hrl
            exact ⟨G', _, _, p1, p2, p3, hrun⟩
          · cases h
            obtain ⟨G', p1, p2, p3⟩ := grown_tag (e := e) hw.drew hall hunall (n := xs.length + ys.length) (by simp) (by omega) hgc hrl
            exact ⟨G', _, _, p1, p2, p3, hrun⟩
        · rename_i tg
          split at h
          · rename_i hlive hallflat
            cases h
            by_cases hfit : xs.length + ys.length ≤ cap
            · -- within its capacity
              have hlen0 := hkk.1
              have hszte : sz = te.size := by
                cases xs with
                | nil => simp at hlen0
                | cons x r => rw [← hsz x (by simp), hunx x (by simp)]
              subst hszte
              have hτ := hkk.2
              obtain ⟨q1, q2, ⟨arr, T', lo, hi, q3, q4, q5⟩, q6⟩ := hw.tags tg c _ _ hlive hτ
              have hfl : ∀ v ∈ us, v.oneCell' = true := s1.allFlat hallflat
              have hcapm : (xs.length + ys.length) * te.size ≤ cap * te.size := Nat.mul_le_mul_right _ hfit
              rw [Nat.add_mul] at hcapm
              have hst := run_storeCells_fr P c (base + xs.length * te.size) T' lo hi us 0 arr w q3 (by omega) (fun j hj1 hj2 => by omega) hfl
              rw [Nat.add_zero] at hst
              have hrun := append_room (P := P) (w := w) (ty := ty) ht hu' g1 c base xs.length cap ys.length v2 us.toArray _ hfit (s3 w) (by rw [g4]; exact hfull w (fun _ => rfl)) (by rw [g4]; exact hst) ts vs
              have hon := hw.onward hlive hτ us (by omega) q3
              have hle := Gh.le_onward hw hlive hτ us (base + cap * te.size)
              refine ⟨_, _, _, hle, hon, ?_, hrun⟩
              refine .sl _ _ c base te.size _ cap (vs' ++ us) hunall (hall.mono hle) (fun j hj => ?_) (by simp) (by omega) ⟨by simp; omega, ?_⟩
              · simp only [Gh.onward]
                by_cases hjx : j < vs'.length
                · rw [if_neg (by omega), List.getElem?_append_left hjx]; exact hI j hjx
                · simp only [List.length_append] at hj
                  rw [if_pos ⟨by first | rfl | trivial, by omega, by omega⟩, List.getElem?_append_right (by omega)]
                  congr 1; omega
              · simp only [Gh.onward, if_true]
                have : base + (xs ++ ys).length * te.size = base + xs.length * te.size + us.length := by rw [List.length_append, Nat.add_mul]; omega
                rw [this]
            · obtain ⟨rest, hrl, hrun⟩ := grows (by omega)
              obtain ⟨G', p1, p2, p3⟩ := grown_tag (e := e) (hw.dropTag tg).drew hall hunall (n := xs.length + ys.length) (by simp) (by omega) hgc hrl
              exact ⟨G', _, _, p1, p2, p3, hrun⟩
          · cases h
        · cases h
      · cases h
    · cases h

/-- What is shown of a loud operation that calls no function. -/
def LoudOk (B : Nat → Prop) (w0 : World) (G : Gh) (s' : St) (r : Res) (run : Result Next) : Prop :=
  ∃ G' w', G.Le G' ∧ WR B w0 G' s' w' ∧ match r with
    | .ret x => ∃ v, VR G' x v ∧ (run = .ok (.value v) w' ∨ (run = .ok .skip w' ∧ v = undef))
    | .pan x => ∃ v, VR G' x v ∧ run = .halt (.panic v) w'

end
end Go.Am
