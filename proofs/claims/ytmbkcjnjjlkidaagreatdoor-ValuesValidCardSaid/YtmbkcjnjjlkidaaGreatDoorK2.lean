/- The abstract machine: comparisons at the top, conversions, literals, assertions, small builtins against the model's. -/
import Derived.Test.YtmbkcjnjjlkidaaGreatDoorK1
import Derived.Laws.IdiomStrings
import Derived.IntWalk
set_option linter.all false
namespace Go.Am
open Go.RowKit

section
variable {P : Program} {T : Tr TI} {B : Nat → Prop} {w0 : World} {G : Gh} {s : St} {w : World} {t : Nat} {ti : TI}

theorem eqGuard_agg (hp : P.eqGuardType P.depth t = false) (op : BinOp) (ox oy : Operand) (us vs : Array Value) (w : World) : (eqGuard op t ox oy (.agg us) (.agg vs)).run P w = .ok () w := by
  cases op <;> simp [eqGuard, hp]

theorem equalIn_nn {m : Array (String × TypeId)} (g : P.underlying t = some (.interface m)) (d : Nat) (w : World) : (Op.equalIn (d + 1) t .nilIface .nilIface).run P w = .ok true w := by
  simp [Op.equalIn, run_underlying g]

theorem eqA_agg_plain {n : Nat} {xs ys : List AV} {b : Bool} (h : eqA T (n + 1) t (.agg xs) (.agg ys) = some b) (hti : T.get t = some ti) : ti.plain = true := by
  simp only [eqA, hti] at h
  cases hp : ti.plain with
  | true => rfl
  | false =>
    cases hk : ti.kd <;> rw [hk] at h <;> simp [hp] at h

/-- What '==' asks first, and what it answers. -/
theorem eqTop_sim (hT : TOk P T) {ox oy : Operand} {x y : AV} {u v : Value} {b : Bool} (h : eqTop T t ox oy x y = some b) (hx : VR G x u) (hy : VR G y v) (op : BinOp) (w : World) :
    (eqGuard op t ox oy u v).run P w = .ok () w ∧ (Op.equal t u v).run P w = .ok b w := by
  unfold eqTop at h
  split at h
  · cases hx; cases hy
    split at h
    · rename_i ti hc hti
      split at h
      · rename_i hk
        cases h
        obtain ⟨inf, d, z, g1, g2, g3, _⟩ := hT t ti hti
        rw [hk] at g3; obtain ⟨m, hd⟩ := tk_iface g3; subst hd
        refine ⟨?_, ?_⟩
        · simp only [Bool.or_eq_true] at hc
          rcases hc with hc | hc
          · cases ox <;> simp [isConstO] at hc
            rw [eqGuard_nil_constL]; rfl
          · cases oy <;> simp [isConstO] at hc
            rw [eqGuard_nil_constR]; rfl
        · exact equalIn_nn g2 9999 w
      · cases h
    · cases h
  · rename_i hne
    have he := eqA_sim (w := w) hT 12 10000 t x y b u v (by omega) h hx hy
    refine ⟨?_, he⟩
    cases hx <;> first
      | (simp only [eqGuard_at_bool, eqGuard_at_int, eqGuard_at_string, eqGuard_at_pointer, eqGuard_at_slice, eqGuard_at_map, eqGuard_at_func, eqGuard_at_nilFunc, eqGuard_at_iface, eqGuard_at_tuple]; rfl)
      | skip
    case nili =>
      cases hy <;> first
        | exact (hne rfl rfl).elim
        | (cases op <;> rfl)
    case agg xs us hx =>
      cases hy <;> first
        | (cases op <;> rfl)
        | skip
      rename_i ys vs hy
      cases hti : T.get t with
      | none => simp [eqA, hti] at h
      | some ti =>
        obtain ⟨inf, d, z, g1, g2, g3, g4, g5, g6, g7, g8, g9, g10, g11⟩ := hT t ti hti
        exact eqGuard_agg (g11 (eqA_agg_plain h hti)).2.2 op ox oy _ _ w

theorem binOp_eqq {x y : AV} {u v : Value} (hx : VR G x u) (hy : VR G y v) (h1 : ¬ (∃ k a j b, x = .int k a ∧ y = .int j b)) (h2 : ¬ ∃ a b, x = .str a ∧ y = .str b) (t : Nat) :
    binOp .eql t u v = (do pure (.bool ((← Op.equal t u v)))) := by
  cases hx <;> cases hy <;> first
    | exact absurd ⟨_, _, _, _, rfl, rfl⟩ h1
    | exact absurd ⟨_, _, rfl, rfl⟩ h2
    | rfl

theorem binOp_neqq {x y : AV} {u v : Value} (hx : VR G x u) (hy : VR G y v) (h1 : ¬ (∃ k a j b, x = .int k a ∧ y = .int j b)) (h2 : ¬ ∃ a b, x = .str a ∧ y = .str b) (t : Nat) :
    binOp .neq t u v = (do pure (.bool (!(← Op.equal t u v)))) := by
  cases hx <;> cases hy <;> first
    | exact absurd ⟨_, _, _, _, rfl, rfl⟩ h1
    | exact absurd ⟨_, _, rfl, rfl⟩ h2
    | rfl

theorem binA_sim (hT : TOk P T) {op : BinOp} {ox oy : Operand} {x y z : AV} {u v : Value} (h : binA T op t ox oy x y = some z) (hx : VR G x u) (hy : VR G y v) (w : World) :
    ∃ r, (do eqGuard op t ox oy u v; binOp op t u v : Sem Value).run P w = .ok r w ∧ VR G z r := by
  unfold binA at h
  split at h
  · rename_i k a j b
    cases hx; cases hy
    simp only [Sem.run_bind, eqGuard_at_int, Sem.run_pure, Result.andThen_ok]
    split at h
    · exact shiftA_sim (j := j) h w
    · exact shiftA_sim (j := j) h w
    · split at h
      · rename_i hkj
        have : k = j := by simpa using hkj
        subst this
        exact arithA_sim h t w
      · cases h
  · cases hx; cases hy
    simp only [Sem.run_bind, eqGuard_at_string, Sem.run_pure, Result.andThen_ok]
    exact strA_sim h t w
  · rename_i hn1 hn2
    have n1 : ¬ (∃ k a j b, x = .int k a ∧ y = .int j b) := fun ⟨k, a, j, b, e1, e2⟩ => hn1 k a j b e1 e2
    have n2 : ¬ (∃ a b, x = .str a ∧ y = .str b) := fun ⟨a, b, e1, e2⟩ => hn2 a b e1 e2
    split at h
    · split at h
      · rename_i b hb
        cases h
        obtain ⟨e1, e2⟩ := eqTop_sim hT hb hx hy .eql w
        refine ⟨_, ?_, .bool _⟩
        rw [binOp_eqq hx hy n1 n2]
        simp [e1, e2]
      · cases h
    · split at h
      · rename_i b hb
        cases h
        obtain ⟨e1, e2⟩ := eqTop_sim hT hb hx hy .neq w
        refine ⟨_, ?_, .bool _⟩
        rw [binOp_neqq hx hy n1 n2]
        simp [e1, e2]
      · cases h
    · cases h

theorem bytesOf_sim : ∀ (xs : List AV) {l : List UInt8} {vs : List Value}, bytesOf xs = some l → VRs G xs vs → ∃ ns : List Int, vs = ns.map (Value.int .u8) ∧ l = ns.map fun n => UInt8.ofNat n.toNat := by
  intro xs
  induction xs with
  | nil =>
    intro l vs h hv
    simp only [bytesOf, Option.some.injEq] at h
    subst h; cases hv; exact ⟨[], rfl, rfl⟩
  | cons x xs ih =>
    intro l vs h hv
    unfold bytesOf at h
    split at h
    · rename_i heq; cases heq
    · rename_i n xs' heq
      cases heq
      split at h
      · rename_i l' hl'
        cases h
        cases hv
        rename_i v vs hv hs
        obtain ⟨ns, e1, e2⟩ := ih hl' hs
        cases hv
        exact ⟨n :: ns, by simp [e1], by simp [e2]⟩
      · cases h
    · cases h

theorem foldl_push (ns : List Int) : ∀ (r : ByteArray), ns.foldl (fun r n => r.push (UInt8.ofNat n.toNat)) r = ⟨r.data ++ (ns.map fun n => UInt8.ofNat n.toNat).toArray⟩ := by
  induction ns with
  | nil => intro r; simp
  | cons n ns ih => intro r; simp only [List.foldl_cons, ih, List.map_cons]; simp [ByteArray.push]

/-- The bytes of a row asq a string. -/
theorem bytes_sim {xs : List AV} {l : List UInt8} {vs : List Value} (h : bytesOf xs = some l) (hv : VRs G xs vs) {c base : Nat} (hc : ∀ j v, vs[j]? = some v → w.cell? ⟨c, base + j, none⟩ = some v)
    {src dst e cap : Nat} (hs : P.underlying src = some (.slice e)) (he : P.underlying e = some (.int .u8)) (hd : P.underlying dst = some .string) :
    (convert src dst (.slice (some ⟨c, base, none⟩) xs.length cap)).run P w = .ok (.string ⟨l.toArray⟩) w := by
  obtain ⟨ns, e1, e2⟩ := bytesOf_sim _ h hv
  rw [run_convert_bytes_string w src dst e _ _ cap hs he hd]
  have hlen : xs.length = vs.length := hv.length
  have hl := run_loadCells_list (P := P) w ⟨c, base, none⟩ vs (fun j v hj => by rw [Addr.add_lit]; exact hc j v hj)
  rw [hlen, run_bytesToString w _ vs.length cap ns (by rw [hl, e1]), foldl_push, ← e2]
  have : ByteArray.empty.data = #[] := rfl
  rw [this]; simp

theorem flatOne {xs : List AV} {l : List UInt8} (h : bytesOf xs = some l) : xs.flatMap cellsOf = xs := by
  induction xs generalizing l with
  | nil => rfl
  | cons x xs ih =>
    unfold bytesOf at h
    split at h
    · rename_i heq; cases heq
    · rename_i n xs' heq
      cases heq
      split at h
      · rename_i l' hl'
        rw [List.flatMap_cons, ih hl']; rfl
      · cases h
    · cases h

theorem ofBytes_VRs (b : ByteArray) : VRs G (ofBytes b) (b.data.toList.map fun b => Value.int .u8 b.toNat) := by
  unfold ofBytes
  induction b.data.toList with
  | nil => exact .nil
  | cons x l ih => exact .cons _ _ _ _ (.int _ _) ih

theorem flat_one {xs : List AV} (h : ∀ x ∈ xs, isFlat x = true) : xs.flatMap cellsOf = xs := by
  induction xs with
  | nil => rfl
  | cons x xs ih =>
    have hx := h x (by simp)
    have : cellsOf x = [x] := by cases x <;> simp [isFlat] at hx <;> rfl
    rw [List.flatMap_cons, ih (fun y hy => h y (by simp [hy])), this]; rfl

theorem ofBytes_flat (b : ByteArray) : ∀ x ∈ ofBytes b, isFlat x = true := by
  intro x hx
  simp only [ofBytes, List.mem_map] at hx
  obtain ⟨_, _, rfl⟩ := hx
  rfl

theorem convA_sim (hT : TOk P T) (hw : WR B w0 G s w) {src dst : Nat} {x y : AV} {u : Value} (h : convA T s.heap src dst x = some y) (hx : VR G x u) :
    ∃ G' w' v, G.Le G' ∧ WR B w0 G' s w' ∧ VR G' y v ∧ (convert src dst u).run P w = .ok v w' := by
  unfold convA at h
  split at h
  · rename_i ts td hts htd
    obtain ⟨i1, d1, z1, s1, s2, s3, _⟩ := hT src ts hts
    obtain ⟨i2, d2, z2, q1, q2, q3, _⟩ := hT dst td htd
    split at h
    · rename_i k _ n hk
      rw [hk] at q3; have hd := tk_int q3; subst hd
      cases hx; cases h
      exact ⟨G, w, _, .refl G, hw, .int _ _, by simp [convert, run_underlying s2, run_underlying q2, Conv.intToInt]⟩
    · rename_i str hk
      rw [hk] at q3; have hd := tk_str q3; subst hd
      cases hx; cases h
      exact ⟨G, w, _, .refl G, hw, .str _, by simp [convert, run_underlying s2, run_underlying q2]⟩
    · rename_i e str hk
      rw [hk] at q3; have hd := tk_slice q3; subst hd
      cases hx
      split at h
      · rename_i te hks hte
        rw [hks] at s3; have hd := tk_str s3; subst hd
        split at h
        · rename_i hke
          cases h
          obtain ⟨i3, d3, z3, r1, r2, r3, _⟩ := hT e te hte
          rw [hke] at r3; have hd := tk_int r3; subst hd
          have hrun := run_bytes_of_string (P := P) w src dst e str s2 q2 r2
          refine ⟨_, _, _, Gh.le_withI hw.drew str.size (fun o => (bytesRow str (grownCap w str.size 0 e))[o]?), hw.drew.allocImm _ e str.size _, ?_, hrun⟩
          have hlen : (ofBytes str).length = str.size := by simp [ofBytes]
          refine .sl _ _ w.heap.size 0 1 str.size _ _ (fun x hx => ?_) (by rw [flat_one (ofBytes_flat str)]; exact ofBytes_VRs str) (fun j hj => ?_) hlen.symm ?_ trivial
          · have := ofBytes_flat str x hx
            cases x <;> simp [isFlat] at this <;> rfl
          · have hj' : j < str.size := by simpa using hj
            have hj2 : j < str.data.size := hj'
            simp only [Gh.withI, Nat.zero_add]
            rw [if_pos ⟨rfl, hj'⟩, bytesRow_at str _ j hj2]
            simp [List.getElem?_map]
            rw [Array.getElem?_eq_getElem hj2]; rfl
          · unfold grownCap
            simp only [Question.cut]; omega
        · cases h
      · cases h
    · rename_i hk hneg
      rw [hk] at q3; have hd := tk_str q3; subst hd
      split at h
      · rename_i e hks
        rw [hks] at s3; have hd := tk_slice s3; subst hd
        split at h
        · rename_i te hte
          obtain ⟨i3, d3, z3, r1, r2, r3, _⟩ := hT e te hte
          split at h
          · rename_i hke
            rw [hke] at r3; have hd := tk_int r3; subst hd
            cases hx; cases h
            refine ⟨G, w, _, .refl G, hw, .str _, ?_⟩
            rw [run_convert_bytes_string w src dst e _ _ _ s2 r2 q2]
            rfl
          · rename_i xs kk hke
            rw [hke] at r3; have hd := tk_int r3; subst hd
            split at h
            · rename_i l hl
              cases h
              cases hx
              rename_i c base sz len cap vs hI hcap hsz hv hlen hkk
              rw [flatOne hl] at hv
              subst hlen
              refine ⟨G, w, _, .refl G, hw, .str _, ?_⟩
              exact bytes_sim hl hv (hw.immRow hI) s2 r2 q2
            · cases h
          · rename_i b off n zz hke
            rw [hke] at r3; have hd := tk_int r3; subst hd
            split at h
            · rename_i xs hxs
              split at h
              · rename_i l hl
                cases h
                cases hx
                rename_i c m cap hr hlc hc
                unfold msCells at hxs
                split at hxs
                · rename_i cs f hb
                  split at hxs
                  · rename_i hle
                    cases hxs
                    have hle' : off + n ≤ cs.length := by simpa using hle
                    obtain ⟨vs, h1, h2⟩ := hw.row hb hr
                    have hlen : ((cs.drop off).take n).length = n := by simp; omega
                    have := bytes_sim (P := P) (w := w) (src := src) (dst := dst) (cap := cap) (c := c) (base := off) hl ((h1.drop off).take n) (fun j v hj => by
                      rw [List.getElem?_take] at hj
                      split at hj
                      · rw [List.getElem?_drop] at hj; exact h2 _ _ hj
                      · cases hj) s2 r2 q2
                    rw [hlen] at this
                    exact ⟨G, w, _, .refl G, hw, .str _, this⟩
                  · cases hxs
                · cases hxs
              · cases h
            · cases h
          · cases h
        · cases h
      · cases h
    · cases h
  · cases h

theorem typeAssertA_sim (hT : TOk P T) {x y : AV} {u : Value} {a xt : Nat} {ok : Bool} (h : typeAssertA T x a ok = some y) (hx : VR G x u) (w : World) :
    ∃ v, (Instr.typeAssert u xt a ok).run P w = .ok v w ∧ VR G y v := by
  unfold typeAssertA at h
  split at h
  · cases h
  · rename_i ti hti
    obtain ⟨inf, d, z, g1, g2, g3, _⟩ := hT a ti hti
    obtain ⟨z, hz, hzv⟩ := r_zero hT hti w
    split at h
    · cases h
    · rename_i hni
      have hd : ∀ m, d ≠ .interface m := fun m hm => hni (by rw [g3, hm]; rfl)
      split at h
      · rename_i t v
        cases hx
        rename_i v' hv
        split at h
        · rename_i hta
          have hta' : t = a := by simpa using hta
          subst hta'
          split at h
          · cases h
            refine ⟨_, ?_, .tup _ _ (.cons _ _ _ _ hv (.cons _ _ _ _ (.bool true) .nil))⟩
            simp only [Instr.typeAssert, Sem.run_bind, run_underlying g2, Result.andThen_ok]
            cases d <;> first | exact absurd rfl (hd _) | simp
          · cases h
            refine ⟨_, ?_, hv⟩
            simp only [Instr.typeAssert, Sem.run_bind, run_underlying g2, Result.andThen_ok]
            cases d <;> first | exact absurd rfl (hd _) | simp
        · rename_i hta
          have hta' : t ≠ a := by simpa using hta
          split at h
          · cases h
            refine ⟨_, ?_, .tup _ _ (.cons _ _ _ _ (hzv G) (.cons _ _ _ _ (.bool false) .nil))⟩
            simp only [Instr.typeAssert, Sem.run_bind, run_underlying g2, Result.andThen_ok]
            cases d <;> first | exact absurd rfl (hd _) | simp [hta', hz]
          · cases h
      · cases hx
        split at h
        · cases h
          refine ⟨_, ?_, .tup _ _ (.cons _ _ _ _ (hzv G) (.cons _ _ _ _ (.bool false) .nil))⟩
          simp only [Instr.typeAssert, Sem.run_bind, run_underlying g2, Result.andThen_ok]
          cases d <;> first | exact absurd rfl (hd _) | simp [hz]
        · cases h
      · cases h

theorem lenA_sim (hT : TOk P T) {x : AV} {u : Value} {n ty : Nat} (h : lenA T t x = some n) (hx : VR G x u) (ts : List Nat) (us : List Value) (w : World) :
    (Builtin.len_ (t :: ts).toArray ty (u :: us).toArray).run P w = .ok (.int .i64 n) w := by
  unfold lenA at h
  split at h
  · cases h
  · rename_i ti hti
    obtain ⟨inf, d, z, g1, g2, g3, _⟩ := hT t ti hti
    split at h
    all_goals (first | (cases h; done) | rename_i hk)
    · rw [hk] at g3; have hd := tk_str g3; subst hd
      cases hx; cases h
      simp [Builtin.len_, run_underlying g2, goInt]
    · rw [hk] at g3; have hd := tk_arr g3; subst hd
      cases h
      simp [Builtin.len_, run_underlying g2, goInt]
    · rw [hk] at g3; have hd := tk_slice g3; subst hd
      cases hx; cases h
      simp [Builtin.len_, run_underlying g2, goInt]
    · rw [hk] at g3; have hd := tk_slice g3; subst hd
      cases hx; cases h
      rename_i hlen _
      simp [Builtin.len_, run_underlying g2, goInt, hlen]
    · rw [hk] at g3; have hd := tk_slice g3; subst hd
      cases hx; cases h
      simp [Builtin.len_, run_underlying g2, goInt]
    · rw [hk] at g3; have hd := tk_map g3; subst hd
      cases hx; cases h
      simp [Builtin.len_, run_underlying g2, goInt]

theorem minMaxA_sim (isMax : Bool) : ∀ (rest : List AV) (x y : AV) (us : List Value) (u : Value), minMaxA isMax x rest = some y → VR G x u → VRs G rest us →
    ∃ v, (us.foldlM (if isMax then Builtin.max2 else Builtin.min2) u : Sem Value).run P w = .ok v w ∧ VR G y v
  | [], x, y, us, u, h, hx, hr => by
    simp only [minMaxA, Option.some.injEq] at h
    subst h
    cases hr
    exact ⟨u, by simp, hx⟩
  | a :: rest, x, y, us, u, h, hx, hr => by
    cases hr
    rename_i v vs hv hs
    unfold minMaxA at h
    split at h
    · rename_i heq; cases heq
    · rename_i k m j n rest' heq
      cases heq
      cases hx; cases hv
      have ih := minMaxA_sim isMax rest _ y vs _ h (.int _ _) hs
      obtain ⟨r, hr, hy⟩ := ih
      refine ⟨r, ?_, hy⟩
      rw [List.foldlM_cons, Sem.run_bind]
      cases isMax <;> simpa [Builtin.max2, Builtin.min2] using hr
    · cases h

end
end Go.Am
namespace Go.Am
open Go.RowKit

/-- The parts of a literal: asq they stand to each other. -/
inductive PRs (G : Gh) : List (Nat × AV) → List (Nat × Value) → Prop
  | nil : PRs G [] []
  | cons (i : Nat) (a : AV) (v : Value) (asq : List (Nat × AV)) (vs : List (Nat × Value)) (h : VR G a v) (hs : PRs G asq vs) : PRs G ((i, a) :: asq) ((i, v) :: vs)

section
variable {P : Program} {T : Tr TI} {B : Nat → Prop} {w0 : World} {G : Gh} {s : St} {w : World} {t : Nat} {ti : TI}

theorem foldl_splice : ∀ (vs : List Value) (off k : Nat) (cells : Array Value), off + k + vs.length ≤ cells.size →
    ((vs.zipIdx k).foldl (fun cs (p : Value × Nat) => cs.setIfInBounds (off + p.2) p.1) cells).toList = cells.toList.take (off + k) ++ vs ++ cells.toList.drop (off + k + vs.length)
  | [], off, k, cells, _ => by simp
  | v :: vs, off, k, cells, h => by
    simp only [List.zipIdx_cons, List.foldl_cons]
    rw [foldl_splice vs off (k + 1) _ (by simp at h ⊢; omega)]
    have e := list_seg_step cells.toList (off + k) v vs (by simp at h ⊢; omega)
    simpa [Array.toList_setIfInBounds, Nat.add_assoc] using e

theorem zipIdx_foldl_array (v : Value) (off : Nat) (cells : Array Value) :
    (v.cells.zipIdx.foldl (fun cs (c, j) => cs.setIfInBounds (off + j) c) cells) = ((cellsV v).zipIdx 0).foldl (fun cs (p : Value × Nat) => cs.setIfInBounds (off + p.2) p.1) cells := by
  rw [← Array.foldl_toList]
  simp only [Array.toList_zipIdx, cellsV]

theorem fill_sim (pl : Nat → Option (Nat × Nat)) : ∀ (ps : List (Nat × AV)) (qs : List (Nat × Value)) (pl' : Nat → Option (Nat × Nat)) (cs cs' : List AV) (vs : List Value), (∀ i x, pl i = some x → pl' i = some x) →
    fillA pl cs ps = some cs' → PRs G ps qs → VRs G cs vs → ∃ vs', Instr.fill pl' vs.toArray qs = some vs'.toArray ∧ VRs G cs' vs'
  | [], qs, pl', cs, cs', vs, _, h, hp, hv => by
    simp only [fillA, Option.some.injEq] at h
    subst h
    cases hp
    exact ⟨vs, rfl, hv⟩
  | (i, a) :: ps, qs, pl', cs, cs', vs, hpl, h, hp, hv => by
    cases hp
    rename_i v vs2 hav hs
    simp only [fillA] at h
    split at h
    · cases h
    · rename_i off size hi
      split at h
      · rename_i hc
        simp only [Bool.and_eq_true, decide_eq_true_eq, beq_iff_eq] at hc
        have hcells := hav.cells
        have hlen : (cellsV v).length = size := by rw [← hcells.length]; exact hc.1
        have hsz : v.cells.size = size := by simpa [cellsV] using hlen
        have hvl := hv.length
        have hsp := hv.splice off hcells
        have hstep : (v.cells.zipIdx.foldl (fun cs (c, j) => cs.setIfInBounds (off + j) c) vs.toArray) = (vs.take off ++ cellsV v ++ vs.drop (off + (cellsV v).length)).toArray := by
          rw [zipIdx_foldl_array]
          apply Array.ext'
          rw [foldl_splice _ _ _ _ (by simp; omega)]
          simp
        obtain ⟨vs', h1, h2⟩ := fill_sim pl ps vs2 pl' _ cs' _ hpl h hs hsp
        refine ⟨vs', ?_, h2⟩
        simp only [Instr.fill, hpl i _ hi]
        rw [if_neg (by simp [hsz]; omega), hstep]
        exact h1
      · cases h

theorem places_run (hT : TOk P T) (w : World) : ∀ (fl : List Field), (∀ f ∈ fl, (T.get f.type).isSome = true) → ∃ ps : List (Nat × Nat), (fl.mapM fun f => (do pure (f.offset, ← sizeOf f.type) : Sem (Nat × Nat))).run P w = .ok ps w ∧
    ∀ i x, fieldSize T (fl.map fun f => (f.offset, f.type, f.name == "_")) i = some x → ps[i]? = some x
  | [], _ => ⟨[], by simp, by simp [fieldSize]⟩
  | f :: fl, h => by
    obtain ⟨ps, h1, h2⟩ := places_run hT w fl (fun g hg => h g (by simp [hg]))
    have hf := h f (by simp)
    cases hti : T.get f.type with
    | none => simp [hti] at hf
    | some ti =>
      refine ⟨(f.offset, ti.size) :: ps, ?_, ?_⟩
      · rw [List.mapM_cons]
        simp only [Sem.run_bind, r_sizeOf hT hti, Result.andThen_ok, Sem.run_pure, h1]
      · intro i x hx
        cases i with
        | zero => simp only [fieldSize, List.map_cons, List.getElem?_cons_zero, hti] at hx; simpa using hx
        | succ i =>
          have : fieldSize T (fl.map fun f => (f.offset, f.type, f.name == "_")) i = some x := by
            simpa only [fieldSize, List.map_cons, List.getElem?_cons_succ] using hx
          simpa using h2 i x this

theorem buildA_sim (hT : TOk P T) {ps : List (Nat × AV)} {qs : List (Nat × Value)} {x : AV} (h : buildA T t ps = some x) (hp : PRs G ps qs) (w : World) :
    ∃ v, (Instr.build t qs.toArray).run P w = .ok v w ∧ VR G x v := by
  unfold buildA at h
  split at h
  · rename_i ti hti
    obtain ⟨inf, d, z, g1, g2, g3, _⟩ := hT t ti hti
    obtain ⟨z, hz, hzv⟩ := r_zero hT hti w
    have hzc := (hzv G).cells
    split at h
    · rename_i fs hk
      rw [hk] at g3; obtain ⟨fl, hd, hfs⟩ := tk_struct g3; subst hd
      split at h
      · rename_i cs hall hf
        cases h
        obtain ⟨pl, hpl, hpl2⟩ := places_run hT w fl.toList (fun f hf => by
          rw [hfs] at hall
          simp only [List.all_map, List.all_eq_true] at hall
          exact hall f hf)
        have hplA : (fl.mapM fun f => (do pure (f.offset, ← sizeOf f.type) : Sem (Nat × Nat))).run P w = .ok pl.toArray w := by
          rw [Array.mapM_eq_mapM_toList, Sem.run_map, hpl]; rfl
        obtain ⟨vs', e1, e2⟩ := fill_sim (fieldSize T fs) ps qs (pl.toArray[·]?) _ cs _ (fun i x hx => by
          rw [hfs] at hx
          simpa using hpl2 i x hx) hf hp hzc
        refine ⟨.agg vs'.toArray, ?_, .agg _ _ e2⟩
        have e1' : Instr.fill (pl.toArray[·]?) z.cells qs = some vs'.toArray := by simpa [cellsV] using e1
        simp only [Instr.build, Sem.run_bind, hz, Result.andThen_ok, run_underlying g2]
        rw [hplA]
        simp only [Result.andThen_ok, e1']
        rfl
      · cases h
    · rename_i n e hk
      rw [hk] at g3; have hd := tk_arr g3; subst hd
      split at h
      · rename_i te hte
        split at h
        · rename_i cs hf
          cases h
          obtain ⟨vs', e1, e2⟩ := fill_sim (fun i => some (i * te.size, te.size)) ps qs (fun i => some (i * te.size, te.size)) _ cs _ (fun i x hx => hx) hf hp hzc
          have e1' : Instr.fill (fun i => some (i * te.size, te.size)) z.cells qs = some vs'.toArray := by simpa [cellsV] using e1
          refine ⟨.agg vs'.toArray, ?_, .agg _ _ e2⟩
          simp [Instr.build, hz, run_underlying g2, r_sizeOf hT hte, e1']
        · cases h
      · cases h
    · cases h
  · cases h

theorem flat_set {sz : Nat} : ∀ {xs : List AV} {i : Nat} {v : AV}, (∀ x ∈ xs, (cellsOf x).length = sz) → i < xs.length → (cellsOf v).length = sz →
    (xs.set i v).flatMap cellsOf = splice (xs.flatMap cellsOf) (i * sz) (cellsOf v)
  | [], i, v, _, hi, _ => by simp at hi
  | x :: xs, 0, v, h, _, hv => by
    have hx := h x (by simp)
    simp [splice, hv, ← hx]
  | x :: xs, i + 1, v, h, hi, hv => by
    have ih := flat_set (xs := xs) (i := i) (v := v) (fun y hy => h y (by simp [hy])) (by simpa using hi) hv
    have hx := h x (by simp)
    have e1 : (i + 1) * sz = (cellsOf x).length + i * sz := by rw [Nat.succ_mul, hx]; omega
    simp only [List.set_cons_succ, List.flatMap_cons, ih, splice, e1]
    rw [List.take_length_add_append, Nat.add_assoc, List.drop_length_add_append]
    simp [List.append_assoc]

theorem setAll_sim {size : Nat} {agg : Bool} : ∀ (ps : List (Nat × AV)) (xs ys : List AV), setAll size agg xs ps = some ys → (∀ x ∈ xs, (cellsOf x).length = size) →
    fillA (fun i => some (i * size, size)) (xs.flatMap cellsOf) ps = some (ys.flatMap cellsOf) ∧ (∀ y ∈ ys, (cellsOf y).length = size) ∧ ys.length = xs.length
  | [], xs, ys, h, hx => by simp only [setAll, Option.some.injEq] at h; subst h; exact ⟨rfl, hx, rfl⟩
  | (i, v) :: ps, xs, ys, h, hx => by
    simp only [setAll] at h
    split at h
    · rename_i hc
      simp only [Bool.and_eq_true, decide_eq_true_eq, beq_iff_eq] at hc
      have hx' : ∀ x ∈ xs.set i v, (cellsOf x).length = size := fun x hxm => by
        rcases List.mem_or_eq_of_mem_set hxm with hm | rfl
        · exact hx x hm
        · exact hc.1.1
      obtain ⟨h1, h2, h3⟩ := setAll_sim ps _ ys h hx'
      refine ⟨?_, h2, by simpa using h3⟩
      simp only [fillA]
      have hfit : i * size + size ≤ (xs.flatMap cellsOf).length := by
        rw [flat_length hx, ← Nat.succ_mul]
        exact Nat.mul_le_mul_right _ hc.1.2
      have : ((cellsOf v).length == size && decide (i * size + size ≤ (xs.flatMap cellsOf).length)) = true := by
        rw [Bool.and_eq_true]; exact ⟨by simp [hc.1.1], decide_eq_true hfit⟩
      rw [this, ← flat_set hx hc.1.2 hc.1.1]
      exact h1
    · cases h

theorem zeros_flat (z : List Value) : ∀ n : Nat, (List.range (n * z.length)).map (fun i => z[i % z.length]!) = (List.replicate n z).flatten
  | 0 => by simp
  | n + 1 => by
    rw [Nat.succ_mul, Nat.add_comm, List.range_add, List.map_append, List.replicate_succ, List.flatten_cons, ← zeros_flat z n]
    congr 1
    · apply List.ext_getElem?
      intro i
      rw [List.getElem?_map]
      by_cases hi : i < z.length
      · simp [Nat.mod_eq_of_lt hi, hi]
      · simp [hi]
    · simp only [List.map_map]
      apply List.map_congr_left
      intro i _
      simp

theorem zeros_array (z : Array Value) (n : Nat) : (Array.range (n * z.size)).map (fun i => z[i % z.size]!) = ((List.replicate n z.toList).flatten).toArray := by
  rw [← zeros_flat]
  apply Array.ext'
  simp only [Array.toList_map, Array.toList_range, Array.length_toList]
  apply List.map_congr_left
  intro i _
  simp [Array.getElem!_eq_getD, Array.getD_eq_getD_getElem?]

theorem rep_flat {a : AV} {v : Value} (h : VR G a v) (n : Nat) : VRs G ((List.replicate n a).flatMap cellsOf) (List.replicate n (cellsV v)).flatten := by
  induction n with
  | zero => exact .nil
  | succ n ih => simpa [List.replicate_succ] using h.cells.append ih

theorem elemsA_sim (hT : TOk P T) {len : Nat} {ps : List (Nat × AV)} {qs : List (Nat × Value)} {xs : List AV} {te : TI} (h : elemsA T t len ps = some (xs, te)) (hp : PRs G ps qs) :
    ∃ vs e, (Instr.buildSlice t len qs.toArray).run P w = .ok (.slice (some ⟨w.heap.size, 0, none⟩) len len) (w.alloc (.cells vs.toArray e)) ∧ VRs G (xs.flatMap cellsOf) vs ∧ xs.length = len ∧ (∀ x ∈ xs, (cellsOf x).length = te.size) ∧ 0 < te.size ∧
      (∃ e', T.get e' = some te) := by
  unfold elemsA at h
  split at h
  · rename_i ti hti
    obtain ⟨inf, d, z, g1, g2, g3, _⟩ := hT t ti hti
    split at h
    · rename_i e hk
      rw [hk] at g3; have hd := tk_slice g3; subst hd
      split at h
      · rename_i te' hte
        split at h
        · rename_i hc
          split at h
          · rename_i xs' hset
            cases h
            simp only [Bool.and_eq_true, decide_eq_true_eq] at hc
            obtain ⟨z, hz, hzv⟩ := r_zero hT hte w
            obtain ⟨inf2, d2, z2, q1, q2, q3, q4, q5, q6, q7, q8, _⟩ := hT e te hte
            have hun : ∀ x ∈ List.replicate len te.zero, (cellsOf x).length = te.size := fun x hx => by rw [List.eq_of_mem_replicate hx]; exact q8
            obtain ⟨f1, f2, f3⟩ := setAll_sim ps _ xs hset hun
            have hzl : z.cells.size = te.size := by
              have := ((hzv G).cells).length
              rw [q8] at this
              simpa [cellsV] using this.symm
            obtain ⟨vs', e1, e2⟩ := fill_sim (fun i => some (i * te.size, te.size)) ps qs (fun i => some (i * te.size, te.size)) _ _ _ (fun i x hx => hx) f1 hp (rep_flat (hzv G) len)
            refine ⟨vs', e, ?_, e2, by simpa using f3, f2, hc.1, ⟨e, hte⟩⟩
            have hno : ¬ (2 ^ 24 < len * te.size) := by omega
            have hzero : (Array.range (len * te.size)).map (fun i => z.cells[i % z.cells.size]!) = (List.replicate len (cellsV z)).flatten.toArray := by
              rw [← hzl, zeros_array]; rfl
            simp only [Instr.buildSlice, Sem.run_bind, run_underlying g2, Result.andThen_ok, r_sizeOf hT hte]
            rw [if_neg (by omega)]
            by_cases h0 : len * te.size = 0
            · have hl0 : len = 0 := by
                rcases Nat.mul_eq_zero.1 h0 with h | h
                · exact h
                · omega
              subst hl0
              simp only [Nat.zero_mul, Array.range_zero', List.replicate_zero, List.flatten_nil] at hzero e1 ⊢
              simp [e1, newRow]
              try rfl
            · rw [if_neg h0]
              simp only [Sem.run_bind, hz, Result.andThen_ok, Sem.run_pure, hzero, e1]
              simp [newRow]
              try rfl
          · cases h
        · cases h
      · cases h
    · cases h
  · cases h

/-- A literal slice: its row is never written. -/
theorem buildSlice_sim (hT : TOk P T) (hw : WR B w0 G s w) {len : Nat} {ps : List (Nat × AV)} {qs : List (Nat × Value)} {xs : List AV} {te : TI} (h : elemsA T t len ps = some (xs, te)) (hp : PRs G ps qs) :
    ∃ G' w' v, G.Le G' ∧ WR B w0 G' s w' ∧ VR G' (.sl xs .full) v ∧ (Instr.buildSlice t len qs.toArray).run P w = .ok v w' := by
  obtain ⟨vs, e, h1, h2, h3, h4, h5, _⟩ := elemsA_sim (w := w) hT h hp
  have hle := Gh.le_withI hw vs.length (fun o => vs.toArray[o]?)
  refine ⟨_, _, _, hle, hw.allocImm vs.toArray e vs.length, ?_, h1⟩
  subst h3
  refine .sl _ _ w.heap.size 0 te.size _ _ vs h4 (h2.mono hle) (fun j hj => ?_) rfl (Nat.le_refl _) rfl
  simp only [Gh.withI, Nat.zero_add]
  rw [if_pos ⟨by first | rfl | trivial, hj⟩]
  simp

end

/-! ### Operands and frames -/

def okO (NG : Nat) : Operand → Bool
  | .global g => decide (g < NG)
  | _ => true

def GOk (NG : Nat) (G : Gh) : Prop := ∀ g, g < NG → ∃ n, G.ρ g = some (g, n)

theorem GOk.mono {NG : Nat} {G H : Gh} (h : G.Le H) (g : GOk NG G) : GOk NG H := fun i hi => let ⟨n, e⟩ := g i hi; ⟨n, h.ρ _ _ e⟩

def EnvR (G : Gh) (e : Env) (a : Act) : Prop := ∀ t v, e.get t = some v → VR G v (a.tmps.getD t undef)

theorem EnvR.mono {G H : Gh} (h : G.Le H) {e : Env} {a : Act} (r : EnvR G e a) : EnvR H e a := fun t v e => (r t v e).mono h

section
variable {NG : Nat} {G : Gh} {e : Env} {a : Act}

theorem ev_sim (hg : GOk NG G) (he : EnvR G e a) {x : Operand} (hx : okO NG x = true) {y : AV} (h : ev e x = some y) : VR G y (a.eval x) := by
  cases x with
  | tmp t => exact he t y h
  | const v => exact ofV_VR G 8 v y h
  | global g =>
    simp only [ev, Option.some.injEq] at h
    subst h
    obtain ⟨n, hn⟩ := hg g (by simpa [okO] using hx)
    exact .ptr g 0 g n hn
  | func f =>
    simp only [ev, Option.some.injEq] at h
    subst h
    exact .fn _ [] [] [] [] .nil .nil

theorem evs_sim (hg : GOk NG G) (he : EnvR G e a) : ∀ (xs : List Operand) (ys : List AV), (∀ x ∈ xs, okO NG x = true) → evs e xs = some ys → VRs G ys (xs.map a.eval)
  | [], ys, _, h => by simp only [evs, Option.some.injEq] at h; subst h; exact .nil
  | x :: xs, ys, hx, h => by
    simp only [evs] at h
    split at h
    · rename_i y ys' hy hys
      cases h
      exact .cons _ _ _ _ (ev_sim hg he (hx x (by simp)) hy) (evs_sim hg he xs ys' (fun z hz => hx z (by simp [hz])) hys)
    · cases h

theorem evParts_sim (hg : GOk NG G) (he : EnvR G e a) : ∀ (xs : List (Nat × Operand)) (ys : List (Nat × AV)), (∀ x ∈ xs, okO NG x.2 = true) → evParts e xs = some ys → PRs G ys (xs.map fun (i, x) => (i, a.eval x))
  | [], ys, _, h => by simp only [evParts, Option.some.injEq] at h; subst h; exact .nil
  | (i, x) :: xs, ys, hx, h => by
    simp only [evParts] at h
    split at h
    · rename_i y ys' hy hys
      cases h
      exact .cons _ _ _ _ _ (ev_sim hg he (hx (i, x) (by simp)) hy) (evParts_sim hg he xs ys' (fun z hz => hx z (by simp [hz])) hys)
    · cases h

theorem evOpt_sim (hg : GOk NG G) (he : EnvR G e a) {x : Option Operand} {y : Option AV} (hx : ∀ o ∈ x, okO NG o = true) (h : evOpt e x = some y) : OR G y (x.map a.eval) := by
  cases x with
  | none => simp only [evOpt, Option.some.injEq] at h; subst h; exact .none
  | some o =>
    simp only [evOpt] at h
    split at h
    · rename_i y' hy
      cases h
      exact .some _ _ (ev_sim hg he (hx o rfl) hy)
    · cases h
end
end Go.Am
namespace Go.Am
open Go.RowKit

section
variable {P : Program} {T : Tr TI} {B : Nat → Prop} {NG : Nat} {w0 : World} {G : Gh} {s : St} {w : World} {e : Env} {a : Act}

/-- What is shown of a still operation. -/
def StillOk (B : Nat → Prop) (w0 : World) (G : Gh) (s : St) (x : AV) (r : Result Next) : Prop :=
  ∃ G' w' v, G.Le G' ∧ WR B w0 G' s w' ∧ VR G' x v ∧ r = .ok (.value v) w'

theorem StillOk.same {x : AV} {r : Result Next} (hw : WR B w0 G s w) (h : ∃ v, r = .ok (.value v) w ∧ VR G x v) : StillOk B w0 G s x r :=
  let ⟨v, h1, h2⟩ := h; ⟨G, w, v, .refl G, hw, h2, h1⟩

theorem map_toList {α β : Type} (f : α → β) (x : Array α) : (x.toList.map f).toArray = x.map f := by apply Array.ext'; simp

theorem lift_v {m : Sem Value} {v : Value} {w w' : World} (h : m.run P w = .ok v w') : (do pure (.value (← m)) : Sem Next).run P w = .ok (.value v) w' := by
  simp [h]

theorem builtinStill_sim (hT : TOk P T) (hw : WR B w0 G s w) {b : Builtin} {ts : List Nat} {args : List AV} {x : AV} {us : List Value} (h : builtinStill T b ts args = some x) (hx : VRs G args us) (ty : Nat) (cs : Array Bool) :
    StillOk B w0 G s x ((builtin b ts.toArray ty cs us.toArray).run P w) := by
  unfold builtinStill at h
  split at h
  · split at h
    · split at h
      · rename_i t _ y _ n hn
        cases h
        cases hx
        rename_i v vs hv hs
        exact .same hw ⟨_, lift_v (lenA_sim hT hn hv _ vs w), .int _ _⟩
      · cases h
    · cases h
  · split at h
    · cases hx
      rename_i v vs hv hs
      obtain ⟨r, h1, h2⟩ := minMaxA_sim (P := P) (w := w) false _ _ _ _ _ h hv hs
      exact .same hw ⟨r, lift_v (by simpa [Builtin.min_] using h1), h2⟩
    · cases h
  · split at h
    · cases hx
      rename_i v vs hv hs
      obtain ⟨r, h1, h2⟩ := minMaxA_sim (P := P) (w := w) true _ _ _ _ _ h hv hs
      exact .same hw ⟨r, lift_v (by simpa [Builtin.max_] using h1), h2⟩
    · cases h
  · split at h
    · cases h
      cases hx
      rename_i v vs hv hs
      cases hs
      cases hv
      exact .same hw ⟨_, lift_v (m := Builtin.unsafeSliceData_ ts.toArray ty #[.slice none 0 0]) (v := .pointer none) rfl, .nilp⟩
    · rename_i y ys k
      cases h
      cases hx
      rename_i v vs hv hs
      cases hs
      cases hv
      rename_i c base sz len cap vs hI hcap hsz hv hlen hkk
      have hc : cap ≠ 0 := by simp at hlen; omega
      refine .same hw ⟨_, lift_v (m := Builtin.unsafeSliceData_ ts.toArray ty #[.slice (some ⟨c, base, none⟩) len cap]) (v := .pointer (some ⟨c, base, none⟩)) (by
        show (if cap ≠ 0 then pure (.pointer (some ⟨c, base, none⟩)) else _ : Sem Value).run P w = _
        rw [if_pos hc]; rfl), ?_⟩
      have := VR.elem (G := G) (y :: ys) 0 0 c base sz vs hsz hv hI
      simpa using this
    · cases h
  · cases h

theorem still_sim (hT : TOk P T) (hw : WR B w0 G s w) (hg : GOk NG G) (he : EnvR G e a) (o : Oper) (hops : ∀ x ∈ o.op.operands.toList, okO NG x = true) {x : AV} (h : stillOp T s.heap e o.op = some x) :
    StillOk B w0 G s x ((execOp a.eval o).run P w) := by
  obtain ⟨dst, op, type, pos, after, guard⟩ := o
  cases op <;> simp only [stillOp, reduceCtorEq] at h <;> simp only [Op.operands] at hops <;> simp only [execOp]
  case move y => exact .same hw ⟨_, rfl, ev_sim hg he (hops y (by simp)) h⟩
  case assign y => exact .same hw ⟨_, rfl, ev_sim hg he (hops y (by simp)) h⟩
  case pick c p q =>
    split at h
    · rename_i hc
      have := ev_sim hg he (hops c (by simp)) hc
      cases hcv : a.eval c <;> rw [hcv] at this <;> cases this
      exact .same hw ⟨_, by simp [asBool], ev_sim hg he (hops p (by simp)) h⟩
    · rename_i hc
      have := ev_sim hg he (hops c (by simp)) hc
      cases hcv : a.eval c <;> rw [hcv] at this <;> cases this
      exact .same hw ⟨_, by simp [asBool], ev_sim hg he (hops q (by simp)) h⟩
    · cases h
  case build t ps =>
    split at h
    · rename_i l hl
      have hp := evParts_sim hg he _ _ (fun z hz => hops z.2 (by simp; exact ⟨z.1, by simpa using hz⟩)) hl
      obtain ⟨v, h1, h2⟩ := buildA_sim hT h hp w
      refine .same hw ⟨v, lift_v ?_, h2⟩
      rw [← h1]; congr 2
      apply Array.ext'; simp
    · cases h
  case buildSlice t len ps =>
    split at h
    · rename_i l hl
      have hp := evParts_sim hg he _ _ (fun z hz => hops z.2 (by simp; exact ⟨z.1, by simpa using hz⟩)) hl
      split at h
      · rename_i xs te hel
        cases h
        obtain ⟨G', w', v, h1, h2, h3, h4⟩ := buildSlice_sim hT hw hel hp
        refine ⟨G', w', v, h1, h2, h3, lift_v ?_⟩
        rw [← h4]; congr 2
        apply Array.ext'; simp
      · cases h
    · cases h
  case load t y =>
    split at h
    · rename_i p hp
      obtain ⟨u, h1, h2⟩ := loadA_sim hT hw h (ev_sim hg he (hops y (by simp)) hp)
      exact .same hw ⟨u, lift_v h1, h2⟩
    · cases h
  case nilCheck y =>
    split at h
    · rename_i p hp
      have hv := ev_sim hg he (hops y (by simp)) hp
      unfold nilCheckA at h
      split at h
      · cases h
        cases hcv : a.eval y <;> rw [hcv] at hv <;> cases hv
        exact .same hw ⟨_, rfl, by constructor; assumption⟩
      · cases h
        cases hcv : a.eval y <;> rw [hcv] at hv <;> cases hv
        exact .same hw ⟨_, rfl, by constructor <;> assumption⟩
      · cases h
    · cases h
  case binOp op t y z t2 =>
    split at h
    · rename_i p q hp hq
      obtain ⟨r, h1, h2⟩ := binA_sim hT h (ev_sim hg he (hops y (by simp)) hp) (ev_sim hg he (hops z (by simp)) hq) w
      exact .same hw ⟨r, lift_v h1, h2⟩
    · cases h
  case unOp op t y =>
    split at h
    · rename_i p hp
      obtain ⟨r, h1, h2⟩ := unA_sim (P := P) h (ev_sim hg he (hops y (by simp)) hp) w
      exact .same hw ⟨r, lift_v h1, h2⟩
    · cases h
  case convert src dst y =>
    split at h
    · rename_i p hp
      obtain ⟨G', w', v, h1, h2, h3, h4⟩ := convA_sim hT hw h (ev_sim hg he (hops y (by simp)) hp)
      exact ⟨G', w', v, h1, h2, h3, lift_v h4⟩
    · cases h
  case makeInterface t y =>
    split at h
    · rename_i p ti hp hti
      have hv := ev_sim hg he (hops y (by simp)) hp
      obtain ⟨inf, d, z, g1, g2, g3, _⟩ := hT t ti hti
      split at h
      · cases h
      · rename_i hni
        cases h
        refine .same hw ⟨.iface t (a.eval y), lift_v ?_, .ifc _ _ _ hv⟩
        simp only [Instr.makeInterface, Sem.run_bind, run_underlying g2, Result.andThen_ok]
        cases d <;> first | exact absurd g3 hni | rfl
    · cases h
  case makeFunc fn p q =>
    split at h
    · rename_i xs ys hxs hys
      cases h
      have h1 := evs_sim hg he p.toList _ (fun z hz => hops z (by simp; exact .inl (by simpa using hz))) hxs
      have h2 := evs_sim hg he q.toList _ (fun z hz => hops z (by simp; exact .inr (by simpa using hz))) hys
      refine .same hw ⟨.func fn (p.map a.eval) (q.map a.eval), lift_v rfl, ?_⟩
      have := VR.fn fn _ _ _ _ h1 h2
      rwa [map_toList, map_toList] at this
    · cases h
  case slice t y lo hi mx =>
    split at h
    · rename_i p l hh m hp hl hhh hm
      have hlo : ∀ o ∈ lo, okO NG o = true := fun o ho => by cases ho; exact hops o (by simp)
      have hhi : ∀ o ∈ hi, okO NG o = true := fun o ho => by cases ho; exact hops o (by simp)
      have hmx : ∀ o ∈ mx, okO NG o = true := fun o ho => by cases ho; exact hops o (by simp)
      obtain ⟨u, h1, h2⟩ := sliceA_sim hT hw h (ev_sim hg he (hops y (by simp)) hp) (evOpt_sim hg he hlo hl) (evOpt_sim hg he hhi hhh) (evOpt_sim hg he hmx hm)
      exact .same hw ⟨u, lift_v h1, h2⟩
    · cases h
  case fieldAddr st y f =>
    split at h
    · rename_i p hp
      obtain ⟨u, h1, h2⟩ := fieldAddrA_sim hT h (ev_sim hg he (hops y (by simp)) hp) w
      exact .same hw ⟨u, lift_v h1, h2⟩
    · cases h
  case field st y f =>
    split at h
    · rename_i p hp
      obtain ⟨u, h1, h2⟩ := fieldA_sim hT h (ev_sim hg he (hops y (by simp)) hp) w
      exact .same hw ⟨u, lift_v h1, h2⟩
    · cases h
  case indexAddr t y i =>
    split at h
    · rename_i p j hp hj
      obtain ⟨u, h1, h2⟩ := indexAddrA_sim hT h (ev_sim hg he (hops y (by simp)) hp) (ev_sim hg he (hops i (by simp)) hj) w
      exact .same hw ⟨u, lift_v h1, h2⟩
    · cases h
  case index t y i =>
    split at h
    · rename_i p j hp hj
      obtain ⟨u, h1, h2⟩ := indexA_sim hT h (ev_sim hg he (hops y (by simp)) hp) (ev_sim hg he (hops i (by simp)) hj) w
      exact .same hw ⟨u, lift_v h1, h2⟩
    · cases h
  case typeAssert y xt at_ ok =>
    split at h
    · rename_i p hp
      obtain ⟨u, h1, h2⟩ := typeAssertA_sim (xt := xt) hT h (ev_sim hg he (hops y (by simp)) hp) w
      exact .same hw ⟨u, lift_v h1, h2⟩
    · cases h
  case extract y i =>
    split at h
    · rename_i vs hp
      have hv := ev_sim hg he (hops y (by simp)) hp
      cases hcv : a.eval y <;> rw [hcv] at hv <;> cases hv
      rename_i us hv
      obtain ⟨u, h1, h2⟩ := hv.get h
      exact .same hw ⟨u, lift_v (by simp [Instr.extract, h1]), h2⟩
    · cases h
  case call c =>
    split at h
    · rename_i b args hc hargs
      obtain ⟨callee, cargs, cts⟩ := c
      cases hc
      have hv := evs_sim hg he cargs.toList _ (fun z hz => hops z (by simp [Call.operands]; simpa using hz)) hargs
      have key : ∀ cs, StillOk B w0 G s x ((builtin b cts type cs (cargs.map a.eval)).run P w) := fun cs => by
        have := builtinStill_sim hT hw h hv type cs
        rw [map_toList] at this
        simpa using this
      simp only [resolve, Sem.run_bind, Sem.run_pure, Result.andThen_ok, invoke]
      exact key _
    · cases h

end
end Go.Am
namespace Go.Am
open Go.RowKit

section
variable {P : Program} {T : Tr TI} {B : Nat → Prop} {NG : Nat} {w0 : World} {G : Gh} {s : St} {w : World} {e : Env} {a : Act} {t : Nat} {te : TI}

theorem size_one (hT : TOk P T) (h : T.get t = some te) (ha : te.agg = false) : te.size = 1 := by
  obtain ⟨inf, d, z, g1, g2, g3, g4, g5, g6, g7, g8, g9, _⟩ := hT t te h
  rw [ha] at g9
  have : isFlat te.zero = true := by simpa using g9
  rw [← g8]
  cases hz : te.zero <;> rw [hz] at this <;> simp [isFlat] at this <;> rfl

theorem chunk_flat {size : Nat} {agg : Bool} (h1 : agg = false → size = 1) : ∀ (n : Nat) (cs : List AV), cs.length = n * size → cs.all isFlat = true →
    (chunk size agg n cs).flatMap cellsOf = cs ∧ (∀ x ∈ chunk size agg n cs, (cellsOf x).length = size) ∧ (chunk size agg n cs).length = n
  | 0, cs, hl, _ => by
    have : cs = [] := List.eq_nil_of_length_eq_zero (by simpa using hl)
    subst this
    exact ⟨rfl, by simp [chunk], rfl⟩
  | n + 1, cs, hl, hf => by
    have hl' : (cs.drop size).length = n * size := by rw [List.length_drop, hl, Nat.succ_mul]; omega
    have hf' : (cs.drop size).all isFlat = true := by
      rw [List.all_eq_true] at hf ⊢
      exact fun x hx => hf x (List.mem_of_mem_drop hx)
    obtain ⟨e1, e2, e3⟩ := chunk_flat h1 n (cs.drop size) hl' hf'
    have hge : size ≤ cs.length := by rw [hl, Nat.succ_mul]; omega
    have hhead : cellsOf (chunkHead size agg cs) = cs.take size := by
      cases agg with
      | true => rfl
      | false =>
        have hs := h1 rfl
        subst hs
        cases cs with
        | nil => simp at hge
        | cons c cs =>
          have : isFlat c = true := by simp only [List.all_cons, Bool.and_eq_true] at hf; exact hf.1
          cases c <;> simp [isFlat] at this <;> rfl
    refine ⟨?_, ?_, by simp [chunk, e3]⟩
    · simp only [chunk, List.flatMap_cons, e1, hhead, List.take_append_drop]
    · intro x hx
      simp only [chunk, List.mem_cons] at hx
      rcases hx with rfl | hx
      · rw [hhead, List.length_take]; omega
      · exact e2 x hx

theorem msCells_sim (hw : WR B w0 G s w) {b off n c m : Nat} {cs : List AV} (h : msCells s.heap b off n = some cs) (hr : G.ρ b = some (c, m)) :
    cs.length = n ∧ ∃ vs, VRs G cs vs ∧ ∀ j v, vs[j]? = some v → w.cell? ⟨c, off + j, none⟩ = some v := by
  unfold msCells at h
  split at h
  · rename_i cs' f hb
    split at h
    · rename_i hle
      cases h
      have hle' : off + n ≤ cs'.length := by simpa using hle
      refine ⟨by simp; omega, ?_⟩
      obtain ⟨vs, h1, h2⟩ := hw.row hb hr
      refine ⟨_, (h1.drop off).take n, fun j v hj => ?_⟩
      rw [List.getElem?_take] at hj
      split at hj
      · rw [List.getElem?_drop] at hj; exact h2 _ _ hj
      · cases hj
    · cases h
  · cases h

/-- What is appended or copied. -/
theorem src_sim (hT : TOk P T) (hw : WR B w0 G s w) (hte : T.get t = some te) {y : AV} {v : Value} {ys : List AV} (h : srcElems s te y = some ys) (hv : VR G y v) :
    ∃ vs, VRs G (ys.flatMap cellsOf) vs ∧ (∀ x ∈ ys, (cellsOf x).length = te.size) ∧ (∀ w, (Builtin.lenOf v).run P w = .ok ys.length w) ∧
      ∀ w2 : World, (∀ a, w2.cell? a = w.cell? a) → ∀ m, m ≤ ys.length → (Builtin.firstCells te.size m v).run P w2 = .ok (vs.take (m * te.size)).toArray w2 := by
  unfold srcElems at h
  split at h
  · cases h
    cases hv
    exact ⟨[], .nil, by simp, fun w => rfl, fun w2 _ m _ => by simp [Builtin.firstCells]⟩
  · rename_i xs k
    cases hv
    rename_i c base sz len cap vs hI hcap hsz hv hlen hkk
    subst hlen
    have hcell := hw.immRow hI
    split at h
    · cases h
      refine ⟨[], .nil, by simp, fun w => rfl, fun w2 hc m hm => ?_⟩
      have hm0 : m = 0 := by simpa using hm
      subst hm0
      have := run_firstCells_some (P := P) w2 te.size 0 ⟨c, base, none⟩ 0 cap [] (by simp) (by simp)
      simpa using this
    · rename_i x r
      split at h
      · rename_i hs
        cases h
        have hs' : (cellsOf x).length = te.size := by simpa using hs
        have hszte : sz = te.size := by rw [← hs']; exact (hsz x (by simp)).symm
        subst hszte
        refine ⟨vs, hv, hsz, fun w => rfl, fun w2 hc m hm => ?_⟩
        have hvl : vs.length = (x :: r).length * te.size := by rw [← hv.length, flat_length hsz]
        have hml : m * te.size ≤ vs.length := by rw [hvl]; exact Nat.mul_le_mul_right _ hm
        exact run_firstCells_some (P := P) w2 te.size m ⟨c, base, none⟩ _ cap (vs.take (m * te.size)) (by simp; omega) (fun j v hj => by
          rw [Addr.add_lit, hc]
          rw [List.getElem?_take] at hj
          split at hj
          · exact hcell j v hj
          · cases hj)
      · cases h
  · rename_i b
    cases hv
    split at h
    · rename_i hk
      cases h
      have hone : te.size = 1 := size_one hT hte (by simp [TI.agg, hk])
      have hlen : (ofBytes b).length = b.size := by simp [ofBytes]
      refine ⟨_, by rw [flat_one (ofBytes_flat b)]; exact ofBytes_VRs b, fun x hx => ?_, fun w => ?_, fun w2 _ m hm => ?_⟩
      · have := ofBytes_flat b x hx
        rw [hone]
        cases x <;> simp [isFlat] at this <;> rfl
      · rw [hlen]; rfl
      · rw [hlen] at hm
        simp only [Builtin.firstCells, Sem.run_pure, hone, Nat.mul_one]
        congr 1
        apply Array.ext'
        simp only [Array.toList_map]
        rw [← List.map_take]
        congr 1
        have : (b.extract 0 m).data.toList = b.data.toList.take m := by
          simp [ByteArray.data_extract, Array.toList_extract, List.extract]
        exact this
    · cases h
  · rename_i b off n zz
    cases hv
    rename_i c m cap hr hlc hc
    split at h
    · rename_i cs hcs
      split at h
      · rename_i hz
        cases h
        simp only [Bool.and_eq_true, beq_iff_eq] at hz
        obtain ⟨hl, vs, h1, h2⟩ := msCells_sim hw hcs hr
        obtain ⟨e1, e2, e3⟩ := chunk_flat (fun ha => size_one hT hte ha) n cs hl hz.2
        refine ⟨vs, by rw [e1]; exact h1, e2, fun w => by rw [e3]; rfl, fun w2 hcell k hk => ?_⟩
        rw [e3] at hk
        have hvl : vs.length = n * te.size := by rw [← h1.length, hl]
        have hml : k * te.size ≤ vs.length := by rw [hvl]; exact Nat.mul_le_mul_right _ hk
        exact run_firstCells_some (P := P) w2 te.size k ⟨c, off, none⟩ _ cap (vs.take (k * te.size)) (by simp; omega) (fun j v hj => by
          rw [Addr.add_lit, hcell]
          rw [List.getElem?_take] at hj
          split at hj
          · exact h2 j v hj
          · cases hj)
      · cases h
    · cases h
  · cases h

/-- A type that may stand behind append's comma. -/
def SrcT (P : Program) (u : Nat) : Prop := (∃ e, P.underlying u = some (.slice e)) ∨ P.underlying u = some .string

theorem notInt_sim (hT : TOk P T) {u : Nat} (h : notInt T u = true) : SrcT P u := by
  unfold notInt at h
  split at h
  · rename_i ti hti
    obtain ⟨inf, d, z, g1, g2, g3, _⟩ := hT u ti hti
    split at h
    · rename_i e hk; rw [hk] at g3; have hd := tk_slice g3; subst hd; exact .inl ⟨_, g2⟩
    · rename_i hk; rw [hk] at g3; have hd := tk_str g3; subst hd; exact .inr g2
    · cases h
  · cases h

section runs
variable {u ty e : Nat} {i : TypeInfo} {z : Value}

theorem append_none (ht : P.underlying t = some (.slice e)) (hu : SrcT P u) (hi : P.info? e = some i) (base : Option Addr) (sLen sCap : Nat) (hc : sLen ≤ sCap) (v : Value)
    (hn : (Builtin.lenOf v).run P w = .ok 0 w) (hf : (Builtin.firstCells i.size 0 v).run P w = .ok #[] w) (ts : List Nat) (vs : List Value) :
    (Builtin.append_ (t :: u :: ts).toArray ty (.slice base sLen sCap :: v :: vs).toArray).run P w = .ok (.slice base sLen sCap) w := by
  rcases hu with ⟨e', hu⟩ | hu
  all_goals
    cases base <;> simp [Builtin.append_, run_underlying ht, run_underlying hu, sizeOf, typeInfo, hi, hn, hf, hc, storeCells]

theorem append_grow (ht : P.underlying t = some (.slice e)) (hu : SrcT P u) (hi : P.info? e = some i) (hz : i.zero = some z) (base : Option Addr) (sLen sCap n : Nat) (v : Value) (olds news : Array Value)
    (hg : sCap < sLen + n) (h63 : sLen + n < 2 ^ 62) (h47 : (sLen + n) * i.bytes ≤ 2 ^ 47)
    (hn : (Builtin.lenOf v).run P w = .ok n w) (hf : (Builtin.firstCells i.size n v).run P w.drew = .ok news w.drew) (ho : (Builtin.firstCells i.size sLen (.slice base sLen sCap)).run P w.drew = .ok olds w.drew) (ts : List Nat) (vs : List Value) :
    (Builtin.append_ (t :: u :: ts).toArray ty (.slice base sLen sCap :: v :: vs).toArray).run P w =
      .ok (.slice (some ⟨w.heap.size, 0, none⟩) (sLen + n) (grownCap w (sLen + n) sCap e)) (w.drew.alloc (.cells (olds ++ news ++ Builtin.zeroCells z.cells (grownCap w (sLen + n) sCap e - (sLen + n))) e)) := by
  have hfit := growslice_fits hg (by simpa using h47)
  have hn1 : ¬ (sLen + n ≤ sCap) := by omega
  have h63' : ¬ (9223372036854775807 < ((sLen : Int) + (n : Int))) := by omega
  have h48' : ¬ (281474976710656 < Builtin.nextslicecap (sLen + n) sCap * i.bytes) := by omega
  rcases hu with ⟨e', hu⟩ | hu
  all_goals
    simp [Builtin.append_, run_underlying ht, run_underlying hu, sizeOf, typeInfo, zeroValue, hi, hz, hn, hn1, h63', h48', Question.forced, hf, ho, newRow, grownCap]

theorem append_room (ht : P.underlying t = some (.slice e)) (hu : SrcT P u) (hi : P.info? e = some i) (c b sLen sCap n : Nat) (v : Value) (news : Array Value) (w' : World)
    (hr : sLen + n ≤ sCap) (hn : (Builtin.lenOf v).run P w = .ok n w) (hf : (Builtin.firstCells i.size n v).run P w = .ok news w)
    (hs : (storeCells ⟨c, b + sLen * i.size, none⟩ news.toList).run P w = .ok () w') (ts : List Nat) (vs : List Value) :
    (Builtin.append_ (t :: u :: ts).toArray ty (.slice (some ⟨c, b, none⟩) sLen sCap :: v :: vs).toArray).run P w = .ok (.slice (some ⟨c, b, none⟩) (sLen + n) sCap) w' := by
  rcases hu with ⟨e', hu⟩ | hu
  all_goals
    simp [Builtin.append_, run_underlying ht, run_underlying hu, sizeOf, typeInfo, hi, hn, hf, hr, Addr.add_lit, hs]
end runs

theorem grown_tag (hw : WR B w0 G s w) {all : List AV} {vs rest : List Value} {size cap n e : Nat} (hv : VRs G (all.flatMap cellsOf) vs) (hun : ∀ x ∈ all, (cellsOf x).length = size) (hn : n = all.length) (h0 : 0 < n)
    (hcap : n ≤ cap) (hrest : rest.length = (cap - n) * size) :
    ∃ G', G.Le G' ∧ WR B w0 G' (newTag s all).2 (w.alloc (.cells (vs ++ rest).toArray e)) ∧ VR G' (newTag s all).1 (.slice (some ⟨w.heap.size, 0, none⟩) n cap) := by
  subst hn
  have hvl : vs.length = all.length * size := by rw [← hv.length, flat_length hun]
  have hce : cap * size ≤ (vs ++ rest).toArray.size := by
    simp only [List.size_toArray, List.length_append, hvl, hrest, ← Nat.add_mul]
    exact Nat.mul_le_mul_right _ (by omega)
  have h1 := hw.newTag (vs ++ rest).toArray e (all.length * size) (cap * size) hce (by simp at hce ⊢; omega)
  have hle : G.Le { (G.withI w.heap.size (all.length * size) (fun o => (vs ++ rest).toArray[o]?)) with τ := fun t => if t = s.nt then some (w.heap.size, all.length * size, cap * size) else G.τ t } :=
    (Gh.le_withI hw (all.length * size) (fun o => (vs ++ rest).toArray[o]?)).trans ⟨fun _ _ e => e, fun _ _ _ e => e, fun t x e => by
      simp only []
      have := hw.tlt t x e
      rw [if_neg (by omega)]; exact e, rfl⟩
  refine ⟨_, hle, h1, ?_⟩
  refine .sl _ _ w.heap.size 0 size _ _ vs hun (hv.mono hle) (fun j hj => ?_) rfl hcap ⟨h0, ?_⟩
  · simp only [Gh.withI, Nat.zero_add]
    rw [if_pos ⟨by first | rfl | trivial, by omega⟩]
    simp [List.getElem?_append_left hj]
  · simp

theorem grown_ms (hw : WR B w0 G s w) {all : List AV} {vs rest : List Value} {size cap n e : Nat} (hv : VRs G (all.flatMap cellsOf) vs) (hun : ∀ x ∈ all, (cellsOf x).length = size) (hn : n = all.length)
    (hcap : n ≤ cap) (hrest : rest.length = (cap - n) * size) :
    ∃ G', G.Le G' ∧ WR B w0 G' (newMs s size all).2 (w.alloc (.cells (vs ++ rest).toArray e)) ∧ VR G' (newMs s size all).1 (.slice (some ⟨w.heap.size, 0, none⟩) n cap) := by
  subst hn
  have hvl : vs.length = all.length * size := by rw [← hv.length, flat_length hun]
  have h1 := hw.allocMut (all.flatMap cellsOf) vs rest e hv
  refine ⟨_, Gh.le_withρ hw w.heap.size (vs ++ rest).length, h1, ?_⟩
  refine .ms s.next 0 all.length size w.heap.size (vs ++ rest).length cap (by simp [Gh.withρ]) hcap ?_
  simp only [List.length_append, hvl, hrest, ← Nat.add_mul, Nat.zero_add]
  exact Nat.mul_le_mul_right _ (by omega)

theorem elemTI_sim (hT : TOk P T) (h : elemTI T t = some te) : ∃ e, P.underlying t = some (.slice e) ∧ T.get e = some te := by
  unfold elemTI at h
  split at h
  · rename_i ti hti
    obtain ⟨inf, d, z, g1, g2, g3, _⟩ := hT t ti hti
    split at h
    · rename_i e hk
      rw [hk] at g3; have hd := tk_slice g3; subst hd
      exact ⟨e, g2, h⟩
    · cases h
  · cases h

theorem grownCap_ge (w : World) (need old e : Nat) : need ≤ grownCap w need old e := by
  unfold grownCap; simp only [Question.cut]; omega

theorem head_uniform {xs : List AV} {sz size : Nat} (hsz : ∀ x ∈ xs, (cellsOf x).length = sz) (hh : headIs size xs = true) : ∀ x ∈ xs, (cellsOf x).length = size := by
  cases xs with
  | nil => simp
  | cons x r =>
    have e1 : (cellsOf x).length = size := by simpa [headIs] using hh
    have e2 := hsz x (by simp)
    intro y hy
    rw [hsz y hy, ← e2, e1]

theorem append_sim (hT : TOk P T) (hw : WR B w0 G s w) {u : Nat} (hte : elemTI T t = some te) (hu : notInt T u = true) {mut_ : Bool} {x y x' : AV} {ys : List AV} {s' : St} {v1 v2 : Value}
    (hsrc : srcElems s te y = some ys) (h : appendA te mut_ s x ys = some (x', s')) (hx : VR G x v1) (hy : VR G y v2) (ts : List Nat) (vs : List Value) (ty : Nat) :
    ∃ G' w' v, G.Le G' ∧ WR B w0 G' s' w' ∧ VR G' x' v ∧ (Builtin.append_ (t :: u :: ts).toArray ty (v1 :: v2 :: vs).toArray).run P w = .ok v w' := by
  obtain ⟨e, ht, hge⟩ := elemTI_sim hT hte
  have hu' := notInt_sim hT hu
  obtain ⟨us, s1, s2, s3, s4⟩ := src_sim hT hw hge hsrc hy
  obtain ⟨i, d, z, g1, g2, g3, g4, g5, g6, g7, g8, _⟩ := hT e te hge
  have hzv : VR G te.zero z := ofV_VR G _ _ _ g7
  have hzl : z.cells.size = te.size := by
    have := hzv.cells.length
    rw [g8] at this
    simpa [cellsV] using this.symm
  have hfull := fun (w2 : World) (hc : ∀ a, w2.cell? a = w.cell? a) => s4 w2 hc ys.length (Nat.le_refl _)
  have husl : us.length = ys.length * te.size := by rw [← s1.length, flat_length s2]
  simp only [← husl, List.take_length] at hfull
  unfold appendA at h
  split at h
  · -- nothing is appended
    have hf0 := s4 w (fun _ => rfl) 0 (Nat.zero_le _)
    simp only [Nat.zero_mul, List.take_zero] at hf0
    rw [← g4] at hf0
    split at h
    · cases h
      cases hx
      exact ⟨G, w, _, .refl G, hw, .nils, append_none ht hu' g1 none 0 0 (Nat.le_refl _) v2 (s3 w) hf0 ts vs⟩
    · cases h
      have hx0 := hx
      cases hx
      rename_i c base sz len cap vs' hI hcap hsz hv hlen hkk
      exact ⟨G, w, _, .refl G, hw, hx0, append_none ht hu' g1 _ len cap hcap v2 (s3 w) hf0 ts vs⟩
    · cases h
  · rename_i y0 yr
    generalize hys : y0 :: yr = ys at *
    have hpos : 0 < ys.length := by rw [← hys]; simp
    split at h
    · -- onto nil
      cases hx
      split at h
      · rename_i hroom
        simp only [roomA, Bool.and_eq_true, decide_eq_true_eq] at hroom
        have hrun := append_grow (P := P) (w := w) (ty := ty) ht hu' g1 g6 none 0 0 ys.length v2 #[] us.toArray (by omega) (by omega) (by rw [g5, Nat.zero_add]; exact hroom.1) (s3 w)
          (by rw [g4]; exact hfull w.drew (fun _ => rfl)) (by simp [Builtin.firstCells]) ts vs
        have hcap := grownCap_ge w (0 + ys.length) 0 e
        have harr : (#[] ++ us.toArray ++ Builtin.zeroCells z.cells (grownCap w (0 + ys.length) 0 e - (0 + ys.length))) = (us ++ (Builtin.zeroCells z.cells (grownCap w (0 + ys.length) 0 e - (0 + ys.length))).toList).toArray := by
          apply Array.ext'; simp
        have hrl : (Builtin.zeroCells z.cells (grownCap w (0 + ys.length) 0 e - (0 + ys.length))).toList.length = (grownCap w (0 + ys.length) 0 e - (0 + ys.length)) * te.size := by
          rw [Array.length_toList, size_zeroCells, hzl]
        rw [harr] at hrun
        split at h
        · cases h
          obtain ⟨G', p1, p2, p3⟩ := grown_ms (e := e) hw.drew s1 s2 (n := 0 + ys.length) (by omega) hcap hrl
          exact ⟨G', _, _, p1, p2, p3, hrun⟩
        · cases h
          obtain ⟨G', p1, p2, p3⟩ := grown_tag (e := e) hw.drew s1 s2 (n := 0 + ys.length) (by omega) (by omega) hcap hrl
          exact ⟨G', _, _, p1, p2, p3, hrun⟩
      · cases h
    · rename_i xs k
      split at h
      · rename_i hroom
        simp only [roomA, Bool.and_eq_true, decide_eq_true_eq] at hroom
        cases hx
        rename_i c base sz len cap vs' hI hcap hsz hv hlen hkk
        subst hlen
        have hunx := head_uniform hsz hroom.2
        have hvl : vs'.length = xs.length * te.size := by rw [← hv.length, flat_length hunx]
        have hcell := hw.immRow hI
        have hall : VRs G ((xs ++ ys).flatMap cellsOf) (vs' ++ us) := by rw [List.flatMap_append]; exact hv.append s1
        have hunall : ∀ x ∈ xs ++ ys, (cellsOf x).length = te.size := fun x hx => by
          rcases List.mem_append.1 hx with hx | hx
          · exact hunx x hx
          · exact s2 x hx
        -- a new row
        have grows : cap < xs.length + ys.length → ∃ rest : List Value, rest.length = (grownCap w (xs.length + ys.length) cap e - (xs.length + ys.length)) * te.size ∧
            (Builtin.append_ (t :: u :: ts).toArray ty (.slice (some ⟨c, base, none⟩) xs.length cap :: v2 :: vs).toArray).run P w =
              .ok (.slice (some ⟨w.heap.size, 0, none⟩) (xs.length + ys.length) (grownCap w (xs.length + ys.length) cap e)) (w.drew.alloc (.cells (vs' ++ us ++ rest).toArray e)) := fun hg => by
          have ho := run_firstCells_some (P := P) w.drew te.size xs.length ⟨c, base, none⟩ xs.length cap vs' hvl (fun j v hj => by rw [Addr.add_lit]; simpa using hcell j v hj)
          have hrun := append_grow (P := P) (w := w) (ty := ty) ht hu' g1 g6 (some ⟨c, base, none⟩) xs.length cap ys.length v2 vs'.toArray us.toArray hg (by omega) (by rw [g5]; exact hroom.1.1) (s3 w)
            (by rw [g4]; exact hfull w.drew (fun _ => rfl)) (by rw [g4]; exact ho) ts vs
          refine ⟨(Builtin.zeroCells z.cells (grownCap w (xs.length + ys.length) cap e - (xs.length + ys.length))).toList, by rw [Array.length_toList, size_zeroCells, hzl], ?_⟩
          rw [hrun]
          congr 3
          apply Array.ext'; simp
        have hgc := grownCap_ge w (xs.length + ys.length) cap e
        split at h
        · -- its capacity is its length
          have hcl : cap = xs.length := hkk
          obtain ⟨rest, hrl, hrun⟩ := grows (by omega)
          split at h
          · cases h
            obtain ⟨G', p1, p2, p3⟩ := grown_ms (e := e) hw.drew hall hunall (n := xs.length + ys.length) (by simp) hgc hrl
            exact ⟨G', _, _, p1, p2, p3, hrun⟩
          · cases h
            obtain ⟨G', p1, p2, p3⟩ := grown_tag (e := e) hw.drew hall hunall (n := xs.length + ys.length) (by simp) (by omega) hgc hrl
            exact ⟨G', _, _, p1, p2, p3, hrun⟩
        · rename_i tg
          split at h
          · rename_i hlive hallflat
            cases h
            by_cases hfit : xs.length + ys.length ≤ cap
            · -- within its capacity
              have hlen0 := hkk.1
              have hszte : sz = te.size := by
                cases xs with
                | nil => simp at hlen0
                | cons x r => rw [← hsz x (by simp), hunx x (by simp)]
              subst hszte
              have hτ := hkk.2
              obtain ⟨q1, q2, ⟨arr, T', lo, hi, q3, q4, q5⟩, q6⟩ := hw.tags tg c _ _ hlive hτ
              have hfl : ∀ v ∈ us, v.oneCell' = true := s1.allFlat hallflat
              have hcapm : (xs.length + ys.length) * te.size ≤ cap * te.size := Nat.mul_le_mul_right _ hfit
              rw [Nat.add_mul] at hcapm
              have hst := run_storeCells_fr P c (base + xs.length * te.size) T' lo hi us 0 arr w q3 (by omega) (fun j hj1 hj2 => by omega) hfl
              rw [Nat.add_zero] at hst
              have hrun := append_room (P := P) (w := w) (ty := ty) ht hu' g1 c base xs.length cap ys.length v2 us.toArray _ hfit (s3 w) (by rw [g4]; exact hfull w (fun _ => rfl)) (by rw [g4]; exact hst) ts vs
              have hon := hw.onward hlive hτ us (by omega) q3
              have hle := Gh.le_onward hw hlive hτ us (base + cap * te.size)
              refine ⟨_, _, _, hle, hon, ?_, hrun⟩
              refine .sl _ _ c base te.size _ cap (vs' ++ us) hunall (hall.mono hle) (fun j hj => ?_) (by simp) (by omega) ⟨by simp; omega, ?_⟩
              · simp only [Gh.onward]
                by_cases hjx : j < vs'.length
                · rw [if_neg (by omega), List.getElem?_append_left hjx]; exact hI j hjx
                · simp only [List.length_append] at hj
                  rw [if_pos ⟨by first | rfl | trivial, by omega, by omega⟩, List.getElem?_append_right (by omega)]
                  congr 1; omega
              · simp only [Gh.onward, if_true]
                have : base + (xs ++ ys).length * te.size = base + xs.length * te.size + us.length := by rw [List.length_append, Nat.add_mul]; omega
                rw [this]
            · obtain ⟨rest, hrl, hrun⟩ := grows (by omega)
              obtain ⟨G', p1, p2, p3⟩ := grown_tag (e := e) (hw.dropTag tg).drew hall hunall (n := xs.length + ys.length) (by simp) (by omega) hgc hrl
              exact ⟨G', _, _, p1, p2, p3, hrun⟩
          · cases h
        · cases h
      · cases h
    · cases h

/-- What is shown of a loud operation that calls no function. -/
def LoudOk (B : Nat → Prop) (w0 : World) (G : Gh) (s' : St) (r : Res) (run : Result Next) : Prop :=
  ∃ G' w', G.Le G' ∧ WR B w0 G' s' w' ∧ match r with
    | .ret x => ∃ v, VR G' x v ∧ (run = .ok (.value v) w' ∨ (run = .ok .skip w' ∧ v = undef))
    | .pan x => ∃ v, VR G' x v ∧ run = .halt (.panic v) w'

end
end Go.Am
namespace Go.Am
open Go.RowKit

section
variable {P : Program} {T : Tr TI} {B : Nat → Prop} {NG : Nat} {w0 : World} {G : Gh} {s : St} {w : World} {e : Env} {a : Act} {t : Nat} {te : TI}

theorem LoudOk.val {s' : St} {x : AV} {run : Result Next} {G' : Gh} {w' : World} {v : Value} (h1 : G.Le G') (h2 : WR B w0 G' s' w') (h3 : VR G' x v) (h4 : run = .ok (.value v) w') : LoudOk B w0 G s' (.ret x) run :=
  ⟨G', w', h1, h2, v, h3, .inl h4⟩
theorem LoudOk.skip {s' : St} {run : Result Next} {G' : Gh} {w' : World} (h1 : G.Le G') (h2 : WR B w0 G' s' w') (h4 : run = .ok .skip w') : LoudOk B w0 G s' (.ret undefA) run :=
  ⟨G', w', h1, h2, undef, .tup [] [] .nil, .inr ⟨h4, rfl⟩⟩

/-- A row of one's own is written: what the stores come to. -/
theorem write_sim (hw : WR B w0 G s w) {b off c n : Nat} {cs vs : List AV} {us : List Value} (hb : s.heap.get b = some (.cells cs false)) (hr : G.ρ b = some (c, n)) (hfit : off + vs.length ≤ cs.length) (hv : VRs G vs us) (hf : vs.all isFlat = true) :
    ∃ w', (storeCells ⟨c, off, none⟩ us).run P w = .ok () w' ∧ WR B w0 G { s with heap := s.heap.set b (.cells (splice cs off vs) false) } w' := by
  obtain ⟨arr, T', fr, g1, g2, g3, g4, g5⟩ := hw.cells b cs false c n hb hr
  obtain ⟨q1, q2, q3⟩ := g5 rfl
  subst q1
  have hul : us.length = vs.length := hv.length.symm
  have hst := run_storeCells_fr P c off T' 0 0 us 0 arr w g1 (by omega) (fun j _ _ => by omega) (hv.allFlat hf)
  rw [Nat.add_zero] at hst
  refine ⟨_, hst, ?_⟩
  have hcl : (arr.toList.take cs.length).length = cs.length := by simp; omega
  have hsl : (splice cs off vs).length = cs.length := by simp [splice]; omega
  refine hw.write hb hr g1 hsl ?_ (by simp; omega)
  rw [hsl]
  have hsp := g4.splice off hv
  have : (arr.toList.take off ++ us ++ arr.toList.drop (off + us.length)).take cs.length = (arr.toList.take cs.length).take off ++ us ++ (arr.toList.take cs.length).drop (off + us.length) := by
    rw [List.take_take, Nat.min_eq_left (by omega), List.drop_take]
    have e1 : (arr.toList.take off ++ us).length = off + us.length := by simp; omega
    rw [List.take_append, e1, List.take_of_length_le (by rw [e1]; omega)]
  rw [this]
  exact hsp

theorem storeA_sim (hT : TOk P T) (hw : WR B w0 G s w) {p v : AV} {pv vv : Value} {s' : St} (h : storeA T s t p v = some s') (hp : VR G p pv) (hv : VR G v vv) :
    ∃ w', (Instr.storeAt t pv vv).run P w = .ok () w' ∧ WR B w0 G s' w' := by
  unfold storeA at h
  split at h
  · rename_i ti b off hti
    cases hp
    rename_i c n hr
    split at h
    · rename_i cs hb
      split at h
      · rename_i hc
        cases h
        simp only [Bool.and_eq_true, decide_eq_true_eq, beq_iff_eq] at hc
        have hcells := hv.cells
        obtain ⟨w', h1, h2⟩ := write_sim (P := P) hw hb hr (off := off) (vs := cellsOf v) (by omega) hcells hc.2
        refine ⟨w', ?_, h2⟩
        have hsz : vv.cells.size = ti.size := by
          have := hcells.length
          rw [hc.1.1] at this
          simpa [cellsV] using this.symm
        simp only [Instr.storeAt, Instr.sureAddr, Sem.run_bind, Sem.run_pure, Result.andThen_ok, storeVar, r_sizeOf hT hti]
        rw [if_neg (by simpa using hsz)]
        exact h1
      · cases h
    · cases h
  · cases h

theorem builtinLoud_sim (hT : TOk P T) (hw : WR B w0 G s w) {b : Builtin} {m : Bool} {ts : List Nat} {args : List AV} {r : Res} {s' : St} {us : List Value} (h : builtinLoud T b m ts args s = some (r, s')) (hx : VRs G args us) (ty : Nat) (cs : Array Bool) :
    LoudOk B w0 G s' r ((builtin b ts.toArray ty cs us.toArray).run P w) := by
  unfold builtinLoud at h
  split at h
  · -- append
    split at h
    · rename_i t u ts x y asq
      split at h
      · rename_i te hte
        split at h
        · rename_i ys hc hsrc
          simp only [Bool.and_eq_true, decide_eq_true_eq] at hc
          split at h
          · rename_i v s2 happ
            cases h
            cases hx
            rename_i v1 vs1 h1 hs
            cases hs
            rename_i v2 vs2 h2 hs
            obtain ⟨G', w', v', p1, p2, p3, p4⟩ := append_sim hT hw hte hc.1 hsrc happ h1 h2 ts vs2 ty
            exact .val p1 p2 p3 (lift_v p4)
          · cases h
        · cases h
      · cases h
    · cases h
  · -- copy
    split at h
    · rename_i t ts b off n z y asq
      split at h
      · rename_i te hte
        split at h
        · rename_i ys cs hc hsrc hb
          simp only [Bool.and_eq_true, decide_eq_true_eq, beq_iff_eq] at hc
          simp only [] at h
          split at h
          · rename_i hc2
            cases h
            simp only [Bool.and_eq_true, decide_eq_true_eq] at hc2
            cases hx
            rename_i v1 vs1 h1 hs
            cases hs
            rename_i v2 vs2 h2 hs
            cases h1
            rename_i c m cap hr hlc hcc
            obtain ⟨e, ht, hge⟩ := elemTI_sim hT hte
            obtain ⟨us, s1, s2, s3, s4⟩ := src_sim hT hw hge hsrc h2
            have hf := s4 w (fun _ => rfl) (min ys.length n) (Nat.min_le_left _ _)
            have hun : ∀ x ∈ ys.take n, (cellsOf x).length = te.size := fun x hx => s2 x (List.mem_of_mem_take hx)
            have hvr : VRs G ((ys.take n).flatMap cellsOf) (us.take (min ys.length n * te.size)) := by
              have := s1.take (n * te.size)
              rw [flat_take n s2] at this
              have hul : us.length = ys.length * te.size := by rw [← s1.length, flat_length s2]
              have e : us.take (n * te.size) = us.take (min ys.length n * te.size) := by
                by_cases hyn : ys.length ≤ n
                · rw [Nat.min_eq_left hyn, List.take_of_length_le (by rw [hul]; exact Nat.mul_le_mul_right _ hyn), List.take_of_length_le (by omega)]
                · rw [Nat.min_eq_right (by omega)]
              rw [← e]; exact this
            obtain ⟨w', q1, q2⟩ := write_sim (P := P) hw hb hr hc2.1 hvr hc2.2
            refine .val (.refl G) q2 (.int .i64 _) (lift_v (m := Builtin.copy_ (t :: ts).toArray ty (.slice (some ⟨c, off, none⟩) n cap :: v2 :: vs2).toArray) ?_)
            have hmin : Nat.min ys.length n = min ys.length n := rfl
            simp only [Builtin.copy_, Sem.run_bind, run_underlying ht, List.getElem?_toArray, List.getElem?_cons_zero, List.getElem?_cons_succ, Result.andThen_ok, s3, r_sizeOf hT hge, hmin, hf, Sem.run_pure, q1]
            rfl
          · cases h
        · cases h
      · cases h
    · cases h
  · -- clear
    split at h
    · rename_i t ts b off n z asq
      split at h
      · rename_i te hte
        split at h
        · rename_i cs hb
          simp only [] at h
          split at h
          · rename_i hc2
            cases h
            simp only [Bool.and_eq_true, decide_eq_true_eq] at hc2
            cases hx
            rename_i v1 vs1 h1 hs
            cases h1
            rename_i c m cap hr hlc hcc
            obtain ⟨e, ht, hge⟩ := elemTI_sim hT hte
            obtain ⟨zv, hz, hzv⟩ := r_zero hT hge w
            have hrep := rep_flat (hzv G) n
            obtain ⟨w', q1, q2⟩ := write_sim (P := P) hw hb hr hc2.1 hrep hc2.2
            refine .val (.refl G) q2 (v := .tuple #[]) (.tup [] [] .nil) (lift_v (m := Builtin.clear_ (t :: ts).toArray ty (.slice (some ⟨c, off, none⟩) n cap :: vs1).toArray) ?_)
            cases n with
            | zero =>
              simp only [List.replicate_zero, List.flatten_nil, storeCells, Sem.run_pure, Result.ok.injEq, true_and] at q1
              subst q1
              simp [Builtin.clear_, run_underlying ht]
            | succ n =>
              have hzc : (Builtin.zeroCells zv.cells (n + 1)).toList = (List.replicate (n + 1) (cellsV zv)).flatten := by
                unfold Builtin.zeroCells
                rw [zeros_array]; rfl
              simp only [Builtin.clear_, Sem.run_bind, run_underlying ht, List.getElem?_toArray, List.getElem?_cons_zero, Result.andThen_ok, hz, hzc, q1, Sem.run_pure]
          · cases h
        · cases h
      · cases h
    · rename_i t ts k asq
      split at h
      · rename_i te hte
        cases h
        cases hx
        rename_i v1 vs1 h1 hs
        cases h1
        rename_i c base sz len cap vs hI hcap hsz hv hlen hkk
        have hl0 : len = 0 := by simpa using hlen
        subst hl0
        obtain ⟨e, ht, hge⟩ := elemTI_sim hT hte
        refine .val (.refl G) hw (v := .tuple #[]) (.tup [] [] .nil) (lift_v (m := Builtin.clear_ (t :: ts).toArray ty (.slice (some ⟨c, base, none⟩) 0 cap :: vs1).toArray) ?_)
        simp [Builtin.clear_, run_underlying ht]
      · cases h
    · rename_i t ts asq
      split at h
      · rename_i te hte
        cases h
        cases hx
        rename_i v1 vs1 h1 hs
        cases h1
        obtain ⟨e, ht, hge⟩ := elemTI_sim hT hte
        refine .val (.refl G) hw (v := .tuple #[]) (.tup [] [] .nil) (lift_v (m := Builtin.clear_ (t :: ts).toArray ty (.slice none 0 0 :: vs1).toArray) ?_)
        simp [Builtin.clear_, run_underlying ht]
      · cases h
    · cases h
  · -- panic
    split at h
    · cases h
      cases hx
      rename_i v1 vs1 h1 hs
      cases hs
      have h1' := h1
      cases h1
      rename_i u hu
      refine ⟨G, w, .refl G, hw, _, h1', ?_⟩
      simp [builtin, Instr.panic]
    · cases h
  · -- String at nil
    split at h
    · split at h
      · rename_i hn
        cases h
        have hn' := beq_iff_eq.1 hn
        subst hn'
        cases hx
        rename_i v1 vs1 h1 hs
        cases hs
        rename_i v2 vs2 h2 hs
        cases hs
        cases h1; cases h2
        rename_i t ts k _
        refine .val (.refl G) hw (.str _) (lift_v (m := Builtin.unsafeString_ (t :: ts).toArray ty #[.pointer none, .int k 0]) ?_)
        rfl
      · cases h
    · cases h
  · cases h

end
end Go.Am
namespace Go.Am
open Go.RowKit

section
variable {P : Program} {T : Tr TI} {B : Nat → Prop} {NG : Nat} {w0 : World} {G : Gh} {s : St} {w : World} {e : Env} {a : Act} {t : Nat} {te : TI}

theorem WR.setIter (h : WR B w0 G s w) {b c n : Nat} {str : ByteArray} {pos : Nat} (hb : s.heap.get b = some (.siter str pos)) (hr : G.ρ b = some (c, n)) (pos' : Nat) :
    WR B w0 G { s with heap := s.heap.set b (.siter str pos') } { w with heap := w.heap.setIfInBounds c (.stringIter str pos') } := by
  obtain ⟨g1, g2⟩ := h.siter b str pos c n hb hr
  have hc : c < w.heap.size := (h.lt b c n hr).2
  have hne : ∀ c', c' ≠ c → (w.heap.setIfInBounds c (.stringIter str pos'))[c']? = w.heap[c']? := fun c' hc' => by
    rw [Array.getElem?_setIfInBounds]; rw [if_neg (fun e => hc' e.symm)]
  have hnc : ∀ c' arr T fr, w.heap[c']? = some (.cells arr T fr) → c' ≠ c := fun c' arr T fr hh e => by subst e; rw [g1] at hh; cases hh
  refine { below := h.below.trans ⟨rfl, rfl, rfl, by simp, fun k hk => hne k (fun e => g2 (e ▸ hk)), fun k arr T fr hk => ⟨arr, T, fr, by rw [← hk]; exact hne k (hnc k _ _ _ hk), rfl⟩⟩, hB := fun c hc => by simpa using h.hB c hc, cells := ?_, siter := ?_, inj := h.inj, lt := ?_, imm := ?_, tags := ?_, tdist := h.tdist, tlt := h.tlt, hlt := ?_, old := h.old, hmap := hmap_set h.hmap hr, oldρ := h.oldρ, tdef := h.tdef, tlow := h.tlow }
  · intro b' cs f c' n' hb' hr'
    simp only [Tr.get_set] at hb'
    split at hb'
    · cases hb'
    · obtain ⟨arr, T', fr, p1, p2⟩ := h.cells b' cs f c' n' hb' hr'
      exact ⟨arr, T', fr, by rw [← p1]; exact hne c' (hnc c' _ _ _ p1), p2⟩
  · intro b' str2 pos2 c' n' hb' hr'
    simp only [Tr.get_set] at hb'
    split at hb'
    · rename_i e'
      subst e'
      cases hb'
      rw [hr] at hr'; cases hr'
      exact ⟨by show (w.heap.setIfInBounds c _)[c]? = _; rw [Array.getElem?_setIfInBounds]; simp [hc], g2⟩
    · rename_i e'
      have := h.siter b' str2 pos2 c' n' hb' hr'
      have hcc : c' ≠ c := fun hcc => e' (by subst hcc; exact h.inj b' b c' n' n (by omega) hr' hr)
      exact ⟨by rw [← this.1]; exact hne c' hcc, this.2⟩
  · intro b' c' n' hr'
    simpa using h.lt b' c' n' hr'
  · intro c' o v hI
    have h0 := h.imm c' o v hI
    have : c' ≠ c := fun e' => by
      subst e'
      unfold World.cell? at h0
      rw [g1] at h0; cases h0
    rw [← h0]
    unfold World.cell?
    simp only [hne c' this]
  · intro t' c' e' ce' hl ht
    obtain ⟨p1, p2, ⟨arr, T', lo, hi, p3, p4, p5⟩, p6⟩ := h.tags t' c' e' ce' hl ht
    refine ⟨p1, p2, ⟨arr, T', lo, hi, by rw [← p3]; exact hne c' (hnc c' _ _ _ p3), p4, p5⟩, fun b' n' hr' => ?_⟩
    obtain ⟨cs, hcs, hl'⟩ := p6 b' n' hr'
    have : b' ≠ b := fun e' => by subst e'; rw [hb] at hcs; cases hcs
    exact ⟨cs, by rw [Tr.get_set_ne _ _ _ _ this]; exact hcs, hl'⟩
  · intro b' blk hb'
    simp only [Tr.get_set] at hb'
    split at hb'
    · rename_i e'; subst e'; exact h.hlt _ _ hb
    · exact h.hlt b' blk hb'

theorem wrap_small {n : Int} (h0 : 0 ≤ n) (h1 : n < 2 ^ 46) : IntKind.i64.wrap n = n := IntWalk.i64_in n (by omega)

/-- What a call that a loud operation makes comes to. -/
def CallIs (P : Program) (G : Gh) (call : Nat → List AV → St → Option (Res × St)) (s s' : St) (r : Res) (w : World) (run : Result Next) : Prop :=
  ∃ f args vs, call f args s = some (r, s') ∧ VRs G args vs ∧ run = (callFunc f vs.toArray).run P w

theorem loud_sim {C : Ctx} (hT : TOk P C.T) (hw : WR B w0 G s w) (hg : GOk NG G) (he : EnvR G e a) (m : List Nat) (call : Nat → List AV → St → Option (Res × St)) (o : Oper) (hops : ∀ x ∈ o.op.operands.toList, okO NG x = true)
    {r : Res} {s' : St} (h : loudOp C m call e s o = some (r, s')) :
    LoudOk B w0 G s' r ((execOp a.eval o).run P w) ∨ CallIs P G call s s' r w ((execOp a.eval o).run P w) := by
  obtain ⟨dst, op, type, pos, after, guard⟩ := o
  cases op <;> simp only [loudOp, reduceCtorEq] at h <;> simp only [Op.operands] at hops <;> simp only [execOp]
  case alloc t =>
    left
    split at h
    · rename_i ti hti
      cases h
      obtain ⟨z, hz, hzv⟩ := r_zero hT hti w
      have hc := (hzv G).cells
      have h1 := hw.allocMut (cellsOf ti.zero) (cellsV z) [] t hc
      rw [List.append_nil] at h1
      refine .val (v := .pointer (some ⟨w.heap.size, 0, none⟩)) (Gh.le_withρ hw _ _) h1 (.ptr s.next 0 w.heap.size (cellsV z).length (by simp [Gh.withρ])) (lift_v ?_)
      simp [Instr.alloc, hz, newVar, newRow, cellsV]
      try rfl
    · cases h
  case box t x =>
    left
    split at h
    · rename_i v hv
      split at h
      · cases h
        have hvv := ev_sim hg he (hops x (by simp)) hv
        have h1 := hw.allocMut (cellsOf v) (cellsV (a.eval x)) [] t hvv.cells
        rw [List.append_nil] at h1
        refine .val (v := .pointer (some ⟨w.heap.size, 0, none⟩)) (Gh.le_withρ hw _ _) h1 (.ptr s.next 0 w.heap.size (cellsV (a.eval x)).length (by simp [Gh.withρ])) (lift_v ?_)
        simp [Instr.box, newVar, newRow, cellsV]
        try rfl
      · cases h
    · cases h
  case buildSlice t len ps =>
    left
    split at h
    · rename_i l hl
      have hp := evParts_sim hg he _ _ (fun z hz => hops z.2 (by simp; exact ⟨z.1, by simpa using hz⟩)) hl
      have hps : (ps.toList.map fun (i, x) => (i, a.eval x)).toArray = ps.map fun (i, x) => (i, a.eval x) := map_toList _ _
      split at h
      · rename_i xs te hel
        split at h
        · cases h
          obtain ⟨G', w', v, h1, h2, h3, h4⟩ := buildSlice_sim hT hw hel hp
          rw [hps] at h4
          exact .val h1 h2 h3 (lift_v h4)
        · rename_i x0 xr
          split at h
          · cases h
            obtain ⟨vs, ee, h1, h2, h3, h4, h5, _⟩ := elemsA_sim (w := w) hT hel hp
            rw [hps] at h1
            have h6 := hw.allocMut ((x0 :: xr).flatMap cellsOf) vs [] ee h2
            rw [List.append_nil] at h6
            subst h3
            refine .val (Gh.le_withρ hw _ _) h6 (.ms s.next 0 (x0 :: xr).length te.size w.heap.size vs.length _ (by simp [Gh.withρ]) (Nat.le_refl _) ?_) (lift_v h1)
            rw [Nat.zero_add, ← h2.length, flat_length h4]
            exact Nat.le_refl _
          · cases h
      · cases h
    · cases h
  case store t p x =>
    left
    split at h
    · rename_i pa va hp hv
      split at h
      · rename_i s2 hs
        cases h
        obtain ⟨w', h1, h2⟩ := storeA_sim hT hw hs (ev_sim hg he (hops p (by simp)) hp) (ev_sim hg he (hops x (by simp)) hv)
        exact .skip (.refl G) h2 (by simp [h1])
      · cases h
    · cases h
  case range t x =>
    left
    split at h
    · rename_i ti str hti hx
      split at h
      · rename_i hk
        cases h
        have hv := ev_sim hg he (hops x (by simp)) hx
        obtain ⟨inf, d, z, g1, g2, g3, _⟩ := hT t ti hti
        rw [hk] at g3; have hd := tk_str g3; subst hd
        cases hcv : a.eval x <;> rw [hcv] at hv <;> cases hv
        have h1 := hw.allocIter str 0
        refine .val (v := .pointer (some ⟨w.heap.size, 0, none⟩)) (Gh.le_withρ hw _ _) h1 (.ptr s.next 0 w.heap.size 0 (by simp [Gh.withρ])) (lift_v ?_)
        simp [Instr.range, run_underlying g2]
        try rfl
      · cases h
    · cases h
  case next x isStr =>
    left
    cases isStr with
    | false => simp at h
    | true =>
      simp only [] at h
      split at h
      · rename_i b hx
        have hv := ev_sim hg he (hops x (by simp)) hx
        cases hcv : a.eval x <;> rw [hcv] at hv <;> cases hv
        rename_i c n hr
        split at h
        · rename_i str pos hb
          obtain ⟨g1, g2⟩ := hw.siter b str pos c n hb hr
          split at h
          · rename_i hlt
            cases h
            have hlt' : pos < str.size := by simpa using hlt
            refine .val (.refl G) (hw.setIter hb hr (pos + (Utf8.decode str pos).2)) (v := .tuple #[.bool true, goInt pos, .int .i32 (Utf8.decode str pos).1]) (.tup _ [_, _, _] (.cons _ _ _ _ (.bool true) (.cons _ _ _ _ (.int _ _) (.cons _ _ _ _ (.int _ _) .nil)))) (lift_v ?_)
            simp [Instr.next, getObj, setObj, Sem.run, g1, hlt']
          · rename_i hlt
            cases h
            have hlt' : ¬ pos < str.size := by simpa using hlt
            refine .val (.refl G) hw (v := .tuple #[.bool false]) (.tup _ [_] (.cons _ _ _ _ (.bool false) .nil)) (lift_v ?_)
            simp [Instr.next, getObj, Sem.run, g1, hlt']
        · cases h
      · cases h
  case makeSlice t l c =>
    left
    split at h
    · rename_i te k n k2 m hte hl hc
      obtain ⟨ee, ht, hge⟩ := elemTI_sim hT hte
      obtain ⟨i, d, z, g1, g2, g3, g4, g5, g6, g7, g8, _⟩ := hT ee te hge
      obtain ⟨zv, hz, hzv⟩ := r_zero hT hge w
      have hlv := ev_sim hg he (hops l (by simp)) hl
      have hcv := ev_sim hg he (hops c (by simp)) hc
      cases hlx : a.eval l <;> rw [hlx] at hlv <;> cases hlv
      cases hcx : a.eval c <;> rw [hcx] at hcv <;> cases hcv
      split at h
      · rename_i hb
        simp only [Bool.and_eq_true, decide_eq_true_eq] at hb
        obtain ⟨⟨⟨⟨b1, b2⟩, b3⟩, b4⟩, b5⟩ := hb
        have w1 : IntKind.i64.wrap n = n := wrap_small b1 (by omega)
        have w2 : IntKind.i64.wrap m = m := wrap_small (by omega) b3
        have hnb : ¬ ((281474976710656 : Int) < (te.bytes : Int) * m) := by
          have e1 : (te.bytes : Int) * m = ((m.toNat * te.bytes : Nat) : Int) := by
            rw [Int.natCast_mul, Int.toNat_of_nonneg (by omega), Int.mul_comm]
          rw [e1]; omega
        have hzarr : (Array.range (m.toNat * te.size)).map (fun i => zv.cells[i % zv.cells.size]!) = (List.replicate m.toNat (cellsV zv)).flatten.toArray := by
          have hzl : zv.cells.size = te.size := by
            have := (hzv G).cells.length
            rw [g8] at this
            simpa [cellsV] using this.symm
          rw [← hzl, zeros_array]; rfl
        have hrun : (Instr.makeSlice t (.int k n) (.int k2 m)).run P w = .ok (.slice (some ⟨w.heap.size, 0, none⟩) n.toNat m.toNat) (w.alloc (.cells (List.replicate m.toNat (cellsV zv)).flatten.toArray ee)) := by
          have c1 : ¬ m < 0 := by omega
          have c2 : ¬ n < 0 := by omega
          have c3 : ¬ m < n := by omega
          by_cases hm0 : m = 0
          · subst hm0
            simp [Instr.makeSlice, run_underlying ht, asInt, asIntOf, typeInfo, g1, w1, w2, c2, c3, sizeOf, newRow, Array.range_zero']
            try rfl
          · have hne : ¬ (m.toNat * te.size = 0) := by
              intro h0
              rcases Nat.mul_eq_zero.1 h0 with h0 | h0 <;> omega
            simp [Instr.makeSlice, run_underlying ht, asInt, asIntOf, typeInfo, g1, g5, w1, w2, c1, c2, c3, hnb, sizeOf, g4, hz, hzarr, newRow]
            exact fun h0 => absurd h0 hne
        split at h
        · rename_i hm0
          cases h
          have hm0' : m = 0 := by simpa using hm0
          subst hm0'
          have hn0 : n = 0 := by omega
          subst hn0
          have h1 := hw.allocImm (List.replicate (0 : Int).toNat (cellsV zv)).flatten.toArray ee 0
          refine .val (Gh.le_withI hw _ _) h1 ?_ (lift_v hrun)
          exact .sl [] .full w.heap.size 0 0 0 0 [] (by simp) (by simpa using VRs.nil) (by simp) rfl (Nat.le_refl _) rfl
        · rename_i hm0
          cases h
          have hrep := rep_flat (hzv G) m.toNat
          have h1 := hw.allocMut _ _ [] ee hrep
          rw [List.append_nil] at h1
          refine .val (Gh.le_withρ hw _ _) h1 (.ms s.next 0 n.toNat te.size w.heap.size (List.replicate m.toNat (cellsV zv)).flatten.length m.toNat (by simp [Gh.withρ]) (by omega) ?_) (lift_v hrun)
          rw [← hrep.length, flat_length (sz := te.size) (fun x hx => by rw [List.eq_of_mem_replicate hx]; exact g8), List.length_replicate]
          omega
      · cases h
    · cases h
  case panic x =>
    left
    split at h
    · rename_i t v hx
      cases h
      have hv := ev_sim hg he (hops x (by simp)) hx
      cases hcv : a.eval x <;> rw [hcv] at hv
      all_goals first | (cases hv; done) | skip
      rename_i t' u
      refine ⟨G, w, .refl G, hw, _, hv, ?_⟩
      simp [Instr.panic]
    · cases h
  case call c =>
    obtain ⟨callee, cargs, cts⟩ := c
    simp only [] at h
    split at h
    · cases h
    · rename_i args hargs
      split at h
      · rename_i b
        left
        have hv := evs_sim hg he cargs.toList _ (fun z hz => hops z (by simp [Call.operands]; simpa using hz)) hargs
        have key : ∀ cs, LoudOk B w0 G s' r ((builtin b cts type cs (cargs.map a.eval)).run P w) := fun cs => by
          have := builtinLoud_sim hT hw h hv type cs
          rw [map_toList] at this
          simpa using this
        simp only [resolve, Sem.run_bind, Sem.run_pure, Result.andThen_ok, invoke]
        exact key _
      · rename_i f
        right
        split at h
        · rename_i fid first cap hf
          have hfv := ev_sim hg he (hops f (by simp [Call.operands])) hf
          have hv := evs_sim hg he cargs.toList _ (fun z hz => hops z (by simp [Call.operands]; exact .inr (by simpa using hz))) hargs
          cases hcv : a.eval f <;> rw [hcv] at hfv
          all_goals first | (cases hfv; done) | skip
          rename_i fn asq bs
          generalize has : asq = asq' at hfv
          generalize hbs : bs = bs' at hfv
          cases hfv
          rename_i as2 bs2 ha2 hb2
          refine ⟨fid, _, _, h, (ha2.append hv).append hb2, ?_⟩
          simp only [resolve, hcv, has, hbs, Deferred.ofValue, Sem.run_bind, Sem.run_pure, Result.andThen_ok, invoke]
          congr 2
          apply Array.ext'; simp
        · cases h
      · cases h

end
end Go.Am
namespace Go.Am
open Go.RowKit

def opOk (NG N : Nat) (o : Oper) : Bool :=
  o.op.operands.toList.all (okO NG) && (match o.dst with | some d => decide (d < N) | none => true)

/-- What a call comes to. -/
def CallPost (B : Nat → Prop) (w0 : World) (G : Gh) (s' : St) (r : Res) : Ending → World → Prop := fun e w' =>
  ∃ G', G.Le G' ∧ WR B w0 G' s' w' ∧ match r with
    | .ret x => ∃ v, e = .returned v ∧ VR G' x v
    | .pan x => ∃ v, e = .panicked [{ v, recovered := false }] ∧ VR G' x v

/-- What a call made by an operation comes to: a Go function is entered, or a row of the model's answers. -/
def CallDoes (P : Program) (f : Nat) (args : Array Value) (w : World) (R : Ending → World → Prop) : Prop :=
  match (callFunc f args).run P w with
  | .ok (.enter g asq) w' => Calls P g asq w' R
  | .ok (.value v) w' => R (.returned v) w'
  | .halt (.panic v) w' => R (.panicked [{ v, recovered := false }]) w'
  | _ => False

/-- That the calls of a table do what the model's do. -/
def CallsOk (P : Program) (NG : Nat) (B : Nat → Prop) (w0 : World) (call : Nat → List AV → St → Option (Res × St)) : Prop :=
  ∀ f args s r s', call f args s = some (r, s') → ∀ G w vs, WR B w0 G s w → GOk NG G → VRs G args vs → CallDoes P f vs.toArray w (CallPost B w0 G s' r)

section
variable {P : Program} {B : Nat → Prop} {NG : Nat} {w0 : World} {G : Gh} {s : St} {w : World} {e : Env} {a : Act} {C : Ctx}

/-- A loud operation is carried out. -/
theorem loud_wp (hT : TOk P C.T) (hw : WR B w0 G s w) (hg : GOk NG G) (he : EnvR G e a) {m : List Nat} {call : Nat → List AV → St → Option (Res × St)} (hcall : CallsOk P NG B w0 call) (o : Oper) (hops : ∀ x ∈ o.op.operands.toList, okO NG x = true)
    {r : Res} {s' : St} (h : loudOp C m call e s o = some (r, s')) {K : Act → World → Prop} {Q : Exit → Act → World → Prop}
    (hK : ∀ G' v w' x, r = .ret x → G.Le G' → WR B w0 G' s' w' → VR G' x v → K (a.put o.dst v) w')
    (hQ : ∀ G' v w' x, r = .pan x → G.Le G' → WR B w0 G' s' w' → VR G' x v → Q (.panic [{ v, recovered := false }]) a w') : o.wp P a w K Q := by
  unfold Oper.wp
  rcases loud_sim hT hw hg he m call o hops h with ⟨G', w', h1, h2, h3⟩ | ⟨f, args, vs, h1, h2, h3⟩
  · cases r with
    | ret x =>
      obtain ⟨v, h4, h5 | ⟨h5, h6⟩⟩ := h3
      · rw [h5]; exact hK G' v w' x rfl h1 h2 h4
      · rw [h5]; subst h6; exact hK G' _ w' x rfl h1 h2 h4
    | pan x =>
      obtain ⟨v, h4, h5⟩ := h3
      rw [h5]; exact hQ G' v w' x rfl h1 h2 h4
  · have hd := hcall f args s r s' h1 G w vs hw hg h2
    unfold CallDoes at hd
    rw [h3]
    split at hd
    · rename_i g asq w' hr
      rw [hr]
      refine Calls.mono hd ?_
      rintro e' w2 ⟨G', q1, q2, q3⟩
      cases r with
      | ret x =>
        obtain ⟨v, rfl, q4⟩ := q3
        exact hK G' v w2 x rfl q1 q2 q4
      | pan x =>
        obtain ⟨v, rfl, q4⟩ := q3
        exact hQ G' v w2 x rfl q1 q2 q4
    · rename_i v w' hr
      rw [hr]
      obtain ⟨G', q1, q2, q3⟩ := hd
      cases r with
      | ret x =>
        obtain ⟨u, hu, q4⟩ := q3
        cases hu
        exact hK G' v w' x rfl q1 q2 q4
      | pan x =>
        obtain ⟨u, hu, q4⟩ := q3
        cases hu
    · rename_i v w' hr
      rw [hr]
      obtain ⟨G', q1, q2, q3⟩ := hd
      cases r with
      | ret x =>
        obtain ⟨u, hu, q4⟩ := q3
        cases hu
      | pan x =>
        obtain ⟨u, hu, q4⟩ := q3
        cases hu
        exact hQ G' v w' x rfl q1 q2 q4
    · exact hd.elim

theorem still_wp (hT : TOk P C.T) (hw : WR B w0 G s w) (hg : GOk NG G) (he : EnvR G e a) (o : Oper) (hops : ∀ x ∈ o.op.operands.toList, okO NG x = true) {x : AV} (h : stillOp C.T s.heap e o.op = some x)
    {K : Act → World → Prop} {Q : Exit → Act → World → Prop} (hK : ∀ G' v w', G.Le G' → WR B w0 G' s w' → VR G' x v → K (a.put o.dst v) w') : o.wp P a w K Q := by
  unfold Oper.wp
  obtain ⟨G', w', v, h1, h2, h3, h4⟩ := still_sim hT hw hg he o hops h
  rw [h4]
  exact hK G' v w' h1 h2 h3

theorem EnvR.put (he : EnvR G e a) {d : Option Nat} {x : AV} {v : Value} (hv : VR G x v) (hd : ∀ t, d = some t → t < a.tmps.size) : EnvR G (putA e d x) (a.put d v) := by
  cases d with
  | none => exact he
  | some t =>
    intro t' v'
    simp only [putA, Tr.get_set, Act.put]
    have ht := hd t rfl
    by_cases h : t' = t
    · subst h; intro e; simp at e; subst e; simpa [ht] using hv
    · have h' : t ≠ t' := fun e => h e.symm
      intro e
      rw [if_neg h] at e
      have := he t' v' e
      simpa [Array.getElem?_setIfInBounds_ne h'] using this

theorem wanted_sim (he : EnvR G e a) (ops : Array Oper) (o : Oper) (hsz : ∀ q ∈ ops.toList, ∀ d, q.dst = some d → d < a.tmps.size) {b : Bool} (hb : wantedA ops.toList e o = some b) : Region.wanted o (yielded ops a.tmps) = b := by
  unfold Region.wanted
  unfold wantedA at hb
  cases hgd : o.guard with
  | none => rw [hgd] at hb; cases hb; rfl
  | some g =>
    obtain ⟨j, want⟩ := g
    rw [hgd] at hb
    simp only [yielded, yieldedA] at hb ⊢
    cases hj : ops[j]? with
    | none =>
      have : ops.toList[j]? = none := by simpa using hj
      rw [this] at hb; cases hb; rfl
    | some q =>
      have hq : ops.toList[j]? = some q := by simpa using hj
      rw [hq] at hb
      simp only [Option.bind_some] at hb ⊢
      cases hd : q.dst with
      | none => rw [hd] at hb; cases hb; rfl
      | some d =>
        rw [hd] at hb
        simp only [Option.bind_some] at hb ⊢
        have hlt := hsz q (List.mem_of_getElem? hq) d hd
        cases hg : e.get d with
        | none => rw [hg] at hb; cases hb
        | some x =>
          rw [hg] at hb
          have hr := he d x hg
          rw [Array.getD_eq_getD_getElem?, Array.getElem?_eq_getElem hlt] at hr
          rw [Array.getElem?_eq_getElem hlt]
          simp only [Option.getD_some] at hr
          generalize a.tmps[d] = vv at hr
          cases hr <;> (simp only [Option.some.injEq] at hb; subst hb; rfl)

end

/-! ### The masks -/

theorem maskFold_bit (acc : List Nat) (i : Nat) : ∀ (es : List Edge) (m : Nat), (maskFold acc es m).testBit i = true → m.testBit i = true ∨ ∃ e ∈ es, Region.binds .any e = true ∧ (i = e.on ∨ (acc.getD e.on 0).testBit i = true)
  | [], m, h => .inl h
  | e :: es, m, h => by
    simp only [maskFold] at h
    split at h
    · rename_i hb
      rcases maskFold_bit acc i es _ h with h1 | ⟨e', h1, h2, h3⟩
      · simp only [Nat.testBit_or, Bool.or_eq_true] at h1
        rcases h1 with (h1 | h1) | h1
        · exact .inl h1
        · refine .inr ⟨e, by simp, hb, .inl ?_⟩
          rw [Nat.testBit_two_pow] at h1
          have : e.on = i := by simpa using h1
          exact this.symm
        · exact .inr ⟨e, by simp, hb, .inr h1⟩
      · exact .inr ⟨e', by simp [h1], h2, h3⟩
    · rcases maskFold_bit acc i es _ h with h1 | ⟨e', h1, h2, h3⟩
      · exact .inl h1
      · exact .inr ⟨e', by simp [h1], h2, h3⟩

theorem masksL_prefix : ∀ (ops : List Oper) (acc : List Nat), (masksL acc ops).take acc.length = acc
  | [], acc => by simp [masksL]
  | o :: r, acc => by
    simp only [masksL]
    have h := masksL_prefix r (acc ++ [maskFold acc o.after.toList 0])
    have h2 := congrArg (List.take acc.length) h
    simpa [List.take_take] using h2

theorem masksL_get : ∀ (ops : List Oper) (acc : List Nat) (j : Nat) (o : Oper), ops[j]? = some o → (masksL acc ops)[acc.length + j]? = some (maskFold ((masksL acc ops).take (acc.length + j)) o.after.toList 0)
  | [], acc, j, o, h => by simp at h
  | o' :: r, acc, 0, o, h => by
    simp only [List.getElem?_cons_zero, Option.some.injEq] at h
    subst h
    simp only [Nat.add_zero, masksL_prefix]
    simp only [masksL]
    have h := masksL_prefix r (acc ++ [maskFold acc o'.after.toList 0])
    have h2 := congrArg (fun l => l[acc.length]?) h
    simpa [List.getElem?_take] using h2
  | o' :: r, acc, j + 1, o, h => by
    simp only [List.getElem?_cons_succ] at h
    have := masksL_get r (acc ++ [maskFold acc o'.after.toList 0]) j o h
    simp only [masksL]
    simpa [Nat.add_assoc, Nat.add_comm 1 j] using this

/-- What waits for something waits for all that is behind it. -/
theorem mask_closed {ops : List Oper} {D : Nat → Bool} (hD : ∀ j o, ops[j]? = some o → D j = true → ∀ e ∈ o.after.toList, Region.binds .any e = true → D e.on = true) :
    ∀ (j : Nat) (o : Oper) (i : Nat), ops[j]? = some o → (∀ e ∈ o.after.toList, Region.binds .any e = true → D e.on = true) → ((masksL [] ops).getD j 0).testBit i = true → D i = true := by
  intro j
  induction j using Nat.strongRecOn with
  | _ j ih =>
    intro o i ho hc hb
    have hget := masksL_get ops [] j o ho
    simp only [List.length_nil, Nat.zero_add] at hget
    rw [List.getD_eq_getElem?_getD, hget, Option.getD_some] at hb
    rcases maskFold_bit _ i _ _ hb with h0 | ⟨e, he, hbd, h1 | h1⟩
    · simp at h0
    · rw [h1]; exact hc e he hbd
    · have hde := hc e he hbd
      by_cases hlt : e.on < j
      · have hlt2 : e.on < ops.length := Nat.lt_trans hlt (List.getElem?_eq_some_iff.1 ho).1
        have ho2 : ops[e.on]? = some ops[e.on] := List.getElem?_eq_getElem hlt2
        rw [List.getD_eq_getElem?_getD, List.getElem?_take, if_pos hlt, ← List.getD_eq_getElem?_getD] at h1
        exact ih e.on hlt _ i ho2 (hD _ _ ho2 hde) h1
      · rw [List.getD_eq_getElem?_getD, List.getElem?_take, if_neg hlt] at h1
        simp at h1

end Go.Am
namespace Go.Am
open Go.RowKit

structure Rec where
  o : Oper
  e : Env
  s : St
  v : AV
  s' : St
  wanted : Bool

section
variable (C : Ctx) (m : List Nat) (good : (Nat → List AV → St → Option (Res × St)) → Prop) (all : List Oper)

def Rec.loud (m : List Nat) (r : Rec) : Bool := r.wanted && !isStill m r.o
def Rec.read (m : List Nat) (r : Rec) : Bool := r.wanted && (isStill m r.o && readsHeap r.o.op)

structure RecOk (r : Rec) : Prop where
  wanted : wantedA all r.e r.o = some r.wanted
  off : r.wanted = false → r.v = undefA ∧ r.s' = r.s
  still : r.wanted = true → isStill m r.o = true → stillOp C.T r.s.heap r.e r.o.op = some r.v ∧ r.s' = r.s
  loud : r.wanted = true → isStill m r.o = false → ∃ call, good call ∧ loudOp C m call r.e r.s r.o = some (.ret r.v, r.s')

inductive Chain : List Rec → Env → St → Env → St → Prop
  | nil (e : Env) (s : St) : Chain [] e s e s
  | cons (r : Rec) (R : List Rec) (e' : Env) (s' : St) (h : RecOk C m good all r) (t : Chain R (putA r.e r.o.dst r.v) r.s' e' s') : Chain (r :: R) r.e r.s e' s'

/-- The frame when just the operations of D have been carried out. -/
def envD (D : Nat → Bool) : Nat → List Rec → Env → Env
  | _, [], e => e
  | j, r :: R, e => envD D (j + 1) R (if D j = true then putA e r.o.dst r.v else e)

def stD (m : List Nat) (D : Nat → Bool) : Nat → List Rec → St → St
  | _, [], s => s
  | j, r :: R, s => stD m D (j + 1) R (if D j = true ∧ r.loud m = true then r.s' else s)
end

section
variable {C : Ctx} {m : List Nat} {good : (Nat → List AV → St → Option (Res × St)) → Prop} {all : List Oper}

theorem putA_get (e : Env) (d : Option Nat) (v : AV) (t : Nat) : (putA e d v).get t = if d = some t then some v else e.get t := by
  cases d with
  | none => simp [putA]
  | some d =>
    simp only [putA, Tr.get_set, Option.some.injEq]
    by_cases h : t = d
    · subst h; simp
    · rw [if_neg h, if_neg (fun e => h e.symm)]

theorem envD_congr {D1 D2 : Nat → Bool} {t : Nat} : ∀ (R : List Rec) (k : Nat) (e1 e2 : Env), (∀ j r, R[j]? = some r → r.o.dst = some t → D1 (k + j) = D2 (k + j)) → e1.get t = e2.get t → (envD D1 k R e1).get t = (envD D2 k R e2).get t
  | [], k, e1, e2, _, h => h
  | r :: R, k, e1, e2, hD, h => by
    simp only [envD]
    refine envD_congr R (k + 1) _ _ (fun j r' hj hd => by have := hD (j + 1) r' (by simpa using hj) hd; rwa [show k + (j + 1) = k + 1 + j by omega] at this) ?_
    by_cases hd : r.o.dst = some t
    · have := hD 0 r (by simp) hd
      simp only [Nat.add_zero] at this
      rw [this]
      split
      · simp [putA_get, hd]
      · exact h
    · split <;> split <;> simp [putA_get, hd, h]

theorem envD_insert {D : Nat → Bool} {t i : Nat} {r : Rec} : ∀ (R : List Rec) (k : Nat) (e : Env), R[i]? = some r → r.o.dst = some t → D (k + i) = true → (∀ j r', R[j]? = some r' → r'.o.dst = some t → i < j → D (k + j) = false) →
    (envD D k R e).get t = some r.v := by
  induction i with
  | zero =>
    intro R k e hr hd hD hno
    cases R with
    | nil => simp at hr
    | cons r0 R =>
      simp only [List.getElem?_cons_zero, Option.some.injEq] at hr
      subst hr
      simp only [Nat.add_zero] at hD
      simp only [envD, hD, if_true]
      have h2 := envD_congr (D1 := D) (D2 := fun _ => false) (t := t) R (k + 1) (putA e r0.o.dst r0.v) (putA e r0.o.dst r0.v) (fun j r' hj hd' => by
        have := hno (j + 1) r' (by simpa using hj) hd' (by omega)
        rwa [show k + (j + 1) = k + 1 + j by omega] at this) rfl
      rw [h2]
      have h3 : ∀ (R : List Rec) (k : Nat) (e : Env), envD (fun _ => false) k R e = e := by
        intro R
        induction R with
        | nil => intro k e; rfl
        | cons r R ih => intro k e; simp [envD, ih]
      rw [h3, putA_get, if_pos hd]
  | succ i ih =>
    intro R k e hr hd hD hno
    cases R with
    | nil => simp at hr
    | cons r0 R =>
      simp only [envD]
      exact ih R (k + 1) _ (by simpa using hr) hd (by rwa [show k + 1 + i = k + (i + 1) by omega]) (fun j r' hj hd' hlt => by
        have := hno (j + 1) r' (by simpa using hj) hd' (by omega)
        rwa [show k + (j + 1) = k + 1 + j by omega] at this)

theorem stD_congr {D1 D2 : Nat → Bool} : ∀ (R : List Rec) (k : Nat) (s : St), (∀ j r, R[j]? = some r → r.loud m = true → D1 (k + j) = D2 (k + j)) → stD m D1 k R s = stD m D2 k R s
  | [], k, s, _ => rfl
  | r :: R, k, s, hD => by
    simp only [stD]
    have hc : (D1 k = true ∧ r.loud m = true) ↔ (D2 k = true ∧ r.loud m = true) := by
      by_cases hl : r.loud m = true
      · have := hD 0 r (by simp) hl
        simp only [Nat.add_zero] at this
        rw [this]
      · simp [hl]
    have : (if D1 k = true ∧ r.loud m = true then r.s' else s) = (if D2 k = true ∧ r.loud m = true then r.s' else s) := by
      by_cases h : D1 k = true ∧ r.loud m = true
      · rw [if_pos h, if_pos (hc.1 h)]
      · rw [if_neg h, if_neg (fun h2 => h (hc.2 h2))]
    rw [this]
    exact stD_congr R (k + 1) _ (fun j r' hj hl => by have := hD (j + 1) r' (by simpa using hj) hl; rwa [show k + (j + 1) = k + 1 + j by omega] at this)

theorem chain_env {t : Nat} : ∀ {R : List Rec} {e : Env} {s : St} {e' : Env} {s' : St}, Chain C m good all R e s e' s' → ∀ (k i : Nat) (r : Rec), R[i]? = some r → (envD (fun j => decide (j < k + i)) k R e).get t = r.e.get t
  | _, _, _, _, _, .nil e s, k, i, r, h => by simp at h
  | _, _, _, _, _, .cons r0 R e' s' h0 tl, k, 0, r, h => by
    simp only [List.getElem?_cons_zero, Option.some.injEq] at h
    subst h
    rw [envD_congr (D1 := fun j => decide (j < k + 0)) (D2 := fun _ => false) (r0 :: R) k r0.e r0.e (fun j r' _ _ => by simp) rfl]
    have h3 : ∀ (R : List Rec) (k : Nat) (e : Env), envD (fun _ => false) k R e = e := by
      intro R
      induction R with
      | nil => intro k e; rfl
      | cons r R ih => intro k e; simp [envD, ih]
    rw [h3]
  | _, _, _, _, _, .cons r0 R e' s' h0 tl, k, i + 1, r, h => by
    have := chain_env (t := t) tl (k + 1) i r (by simpa using h)
    simp only [envD]
    rw [if_pos (by simp)]
    rwa [show k + 1 + i = k + (i + 1) by omega] at this

theorem chain_st : ∀ {R : List Rec} {e : Env} {s : St} {e' : Env} {s' : St}, Chain C m good all R e s e' s' → ∀ (k i : Nat) (r : Rec), R[i]? = some r →
    stD m (fun j => decide (j < k + i)) k R s = r.s ∧ stD m (fun j => decide (j < k + i + 1)) k R s = r.s'
  | _, _, _, _, _, .nil e s, k, i, r, h => by simp at h
  | _, _, _, _, _, .cons r0 R e' s' h0 tl, k, 0, r, h => by
    simp only [List.getElem?_cons_zero, Option.some.injEq] at h
    subst h
    have h3 : ∀ (R : List Rec) (k : Nat) (s : St), stD m (fun _ => false) k R s = s := by
      intro R
      induction R with
      | nil => intro k e; rfl
      | cons r R ih => intro k e; simp [stD, ih]
    refine ⟨?_, ?_⟩
    · rw [stD_congr (D1 := fun j => decide (j < k + 0)) (D2 := fun _ => false) (r0 :: R) k _ (fun j r' _ _ => by simp), h3]
    · simp only [stD]
      rw [stD_congr (D1 := fun j => decide (j < k + 0 + 1)) (D2 := fun _ => false) R (k + 1) _ (fun j r' _ _ => by simp), h3]
      split
      · rfl
      · rename_i hn
        have hl : r0.loud m = false := by simpa using hn
        unfold Rec.loud at hl
        cases hw : r0.wanted with
        | false => exact (h0.off hw).2.symm
        | true =>
          rw [hw] at hl
          exact ((h0.still hw (by simpa using hl)).2).symm
  | _, _, _, _, _, .cons r0 R e' s' h0 tl, k, i + 1, r, h => by
    have := chain_st tl (k + 1) i r (by simpa using h)
    have hs : (if decide (k < k + (i + 1)) = true ∧ r0.loud m = true then r0.s' else r0.s) = r0.s' := by
      split
      · rfl
      · rename_i hn
        have hl : r0.loud m = false := by simpa using hn
        unfold Rec.loud at hl
        cases hw : r0.wanted with
        | false => exact (h0.off hw).2.symm
        | true =>
          rw [hw] at hl
          exact ((h0.still hw (by simpa using hl)).2).symm
    have hs2 : (if decide (k < k + (i + 1) + 1) = true ∧ r0.loud m = true then r0.s' else r0.s) = r0.s' := by
      rw [← hs]
      congr 2
      simp; omega
    simp only [stD]
    rw [hs, hs2, show k + (i + 1) = k + 1 + i by omega]
    exact this

theorem chain_rec : ∀ {R : List Rec} {e : Env} {s : St} {e' : Env} {s' : St}, Chain C m good all R e s e' s' → ∀ (i : Nat) (r : Rec), R[i]? = some r → RecOk C m good all r
  | _, _, _, _, _, .nil e s, i, r, h => by simp at h
  | _, _, _, _, _, .cons r0 R e' s' h0 tl, 0, r, h => by simp at h; subst h; exact h0
  | _, _, _, _, _, .cons r0 R e' s' h0 tl, i + 1, r, h => chain_rec tl i r (by simpa using h)

theorem chain_end {t : Nat} : ∀ {R : List Rec} {e : Env} {s : St} {e' : Env} {s' : St}, Chain C m good all R e s e' s' → ∀ (k : Nat) (D : Nat → Bool), (∀ j, j < R.length → D (k + j) = true) → (envD D k R e).get t = e'.get t ∧ stD m D k R s = s'
  | _, _, _, _, _, .nil e s, k, D, _ => ⟨rfl, rfl⟩
  | _, _, _, _, _, .cons r0 R e' s' h0 tl, k, D, hD => by
    have h1 := hD 0 (by simp)
    simp only [Nat.add_zero] at h1
    have ih := chain_end (t := t) tl (k + 1) D (fun j hj => by have := hD (j + 1) (by simpa using hj); rwa [show k + (j + 1) = k + 1 + j by omega] at this)
    have hs : (if D k = true ∧ r0.loud m = true then r0.s' else r0.s) = r0.s' := by
      split
      · rfl
      · rename_i hn
        have hl : r0.loud m = false := by simpa [h1] using hn
        unfold Rec.loud at hl
        cases hw : r0.wanted with
        | false => exact (h0.off hw).2.symm
        | true =>
          rw [hw] at hl
          exact ((h0.still hw (by simpa using hl)).2).symm
    simp only [envD, stD, h1, if_true]
    simp only [h1] at hs
    rw [hs]
    exact ih

/-- A still operation that reads nothing from the heap. -/
theorem still_indep (T : Tr TI) (h h' : Tr Blk) (e : Env) (o : Op) (hr : readsHeap o = false) : stillOp T h e o = stillOp T h' e o := by
  cases o <;> first | rfl | (simp [readsHeap] at hr)

/-- What the two looks of the evaluator have shown, pair by pair. -/
structure PairsOk (C : Ctx) (m : List Nat) (M : List Nat) (R : List Rec) : Prop where
  ld : ∀ i j ri rj, i < j → R[i]? = some ri → R[j]? = some rj → ri.loud m = true → rj.read m = true → (M.getD j 0).testBit i = true ∨ stillOp C.T ri.s.heap rj.e rj.o.op = some rj.v
  rd : ∀ i j ri rj, i < j → R[i]? = some ri → R[j]? = some rj → ri.read m = true → rj.loud m = true → (M.getD j 0).testBit i = true ∨ stillOp C.T rj.s'.heap ri.e ri.o.op = some ri.v

/-- The value of a still operation in whatever state it may come up. -/
theorem still_any {M : List Nat} {R : List Rec} {e : Env} {s : St} {e' : Env} {s' : St} (hc : Chain C m good all R e s e' s') (hp : PairsOk C m M R) {D : Nat → Bool}
    (hll : ∀ i j ri rj, i < j → R[i]? = some ri → R[j]? = some rj → ri.loud m = true → rj.loud m = true → D j = true → D i = true)
    {i : Nat} {r : Rec} (hr : R[i]? = some r) (hw : r.wanted = true) (hs : isStill m r.o = true) (hDi : D i = false)
    (hbefore : ∀ j rj, R[j]? = some rj → j < i → (M.getD i 0).testBit j = true → D j = true) (hafter : ∀ j rj, R[j]? = some rj → i < j → D j = true → (M.getD j 0).testBit i = false) :
    stillOp C.T (stD m D 0 R s).heap r.e r.o.op = some r.v := by
  have hrec := chain_rec hc i r hr
  have hown := (hrec.still hw hs).1
  cases hread : readsHeap r.o.op with
  | false => rw [still_indep C.T _ r.s.heap _ _ hread]; exact hown
  | true =>
    have hrd : r.read m = true := by simp [Rec.read, hw, hs, hread]
    have hnl : r.loud m = false := by simp [Rec.loud, hs]
    -- the first loud one that has not come up
    by_cases hex : ∃ j rj, R[j]? = some rj ∧ j < i ∧ rj.loud m = true ∧ D j = false
    · -- the least such
      obtain ⟨c, ⟨rc, h1, h2, h3, h4⟩, hmin⟩ : ∃ c, (∃ rj, R[c]? = some rj ∧ c < i ∧ rj.loud m = true ∧ D c = false) ∧ ∀ c' < c, ¬ ∃ rj, R[c']? = some rj ∧ c' < i ∧ rj.loud m = true ∧ D c' = false := by
        obtain ⟨j, rj, q⟩ := hex
        induction j using Nat.strongRecOn generalizing rj with
        | _ j ih =>
          by_cases hlow : ∃ c' < j, ∃ rj, R[c']? = some rj ∧ c' < i ∧ rj.loud m = true ∧ D c' = false
          · obtain ⟨c', hc', rj', q'⟩ := hlow
            exact ih c' hc' rj' q'
          · exact ⟨j, ⟨rj, q⟩, fun c' hc' q' => hlow ⟨c', hc', q'⟩⟩
      have hst : stD m D 0 R s = rc.s := by
        rw [← (chain_st hc 0 c rc h1).1]
        refine stD_congr R 0 s (fun j rj hj hl => ?_)
        simp only [Nat.zero_add]
        by_cases hjc : j < c
        · rw [decide_eq_true hjc]
          cases hD : D j with
          | true => rfl
          | false => exact absurd ⟨rj, hj, by omega, hl, hD⟩ (hmin j hjc)
        · rw [decide_eq_false hjc]
          cases hD : D j with
          | false => rfl
          | true =>
            by_cases hjc2 : j = c
            · subst hjc2; rw [h4] at hD; cases hD
            · have := hll c j rc rj (by omega) h1 hj h3 hl hD
              rw [h4] at this; cases this
      rw [hst]
      rcases hp.ld c i rc r h2 h1 hr h3 hrd with hb | hv
      · have := hbefore c rc h1 h2 hb
        rw [h4] at this; cases this
      · exact hv
    · -- all loud ones ahead of it have come up
      have hlow : ∀ j rj, R[j]? = some rj → j < i → rj.loud m = true → D j = true := fun j rj hj hji hl => by
        cases hD : D j with
        | true => rfl
        | false => exact absurd ⟨j, rj, hj, hji, hl, hD⟩ hex
      -- step by step over the loud ones behind it
      have key : ∀ n, i < n → n ≤ R.length → stillOp C.T (stD m (fun j => decide (j < n) && (decide (j < i) || D j)) 0 R s).heap r.e r.o.op = some r.v := by
        intro n
        induction n with
        | zero => intro h; omega
        | succ n ih =>
          intro hn hle
          by_cases hni : n = i
          · subst hni
            have : stD m (fun j => decide (j < n + 1) && (decide (j < n) || D j)) 0 R s = r.s := by
              rw [← (chain_st hc 0 n r hr).1]
              refine stD_congr R 0 s (fun j rj hj hl => ?_)
              simp only [Nat.zero_add]
              by_cases hjn : j < n
              · simp [hjn, Nat.lt_succ_of_lt hjn]
              · by_cases hjn2 : j = n
                · subst hjn2; simp [hDi]
                · simp [hjn, show ¬ j < n + 1 by omega]
            rw [this]; exact hown
          · have ih' := ih (by omega) (by omega)
            have hnl2 : n < R.length := by omega
            have hrn : R[n]? = some R[n] := List.getElem?_eq_getElem hnl2
            by_cases hc2 : R[n].loud m = true ∧ D n = true
            · -- a loud one that has come up
              have hst : stD m (fun j => decide (j < n + 1) && (decide (j < i) || D j)) 0 R s = R[n].s' := by
                rw [← (chain_st hc 0 n R[n] hrn).2]
                refine stD_congr R 0 s (fun j rj hj hl => ?_)
                simp only [Nat.zero_add]
                by_cases hjn : j < n + 1
                · simp only [hjn, decide_true, Bool.true_and]
                  by_cases hji : j < i
                  · simp [hji]
                  · by_cases hjn2 : j = n
                    · subst hjn2; simp [hc2.2]
                    · simp [hll j n rj R[n] (by omega) hj hrn hl hc2.1 hc2.2]
                · simp [hjn]
              rw [hst]
              rcases hp.rd i n r R[n] (by omega) hr hrn hrd hc2.1 with hb | hv
              · have := hafter n R[n] hrn (by omega) hc2.2
                rw [this] at hb; cases hb
              · exact hv
            · have : stD m (fun j => decide (j < n + 1) && (decide (j < i) || D j)) 0 R s = stD m (fun j => decide (j < n) && (decide (j < i) || D j)) 0 R s := by
                refine stD_congr R 0 s (fun j rj hj hl => ?_)
                simp only [Nat.zero_add]
                by_cases hjn : j = n
                · subst hjn
                  rw [hrn] at hj; cases hj
                  have hDn : D j = false := by
                    cases hD : D j with
                    | false => rfl
                    | true => exact absurd ⟨hl, hD⟩ hc2
                  simp [hDn, show ¬ j < i by omega]
                · by_cases hjn2 : j < n
                  · simp [hjn2, Nat.lt_succ_of_lt hjn2]
                  · simp [hjn2, show ¬ j < n + 1 by omega]
              rw [this]; exact ih'
      have hil : i < R.length := (List.getElem?_eq_some_iff.1 hr).1
      have hfin := key R.length hil (Nat.le_refl _)
      have : stD m (fun j => decide (j < R.length) && (decide (j < i) || D j)) 0 R s = stD m D 0 R s := by
        refine stD_congr R 0 s (fun j rj hj hl => ?_)
        simp only [Nat.zero_add]
        have hjl : j < R.length := (List.getElem?_eq_some_iff.1 hj).1
        by_cases hji : j < i
        · simp [hjl, hji, hlow j rj hj hji hl]
        · simp [hjl, hji]
      rw [this] at hfin
      exact hfin

end
end Go.Am
namespace Go.Am
open Go.RowKit

section
variable {C : Ctx} {fn : AFun} {k : Nat}

theorem optBeq_eq {x : Option AV} {y : AV} (h : optBeq x y = true) : x = some y := by
  cases x with
  | none => simp [optBeq] at h
  | some a => rw [AV.eq_of_beq _ _ h]

theorem okRead_mem {mask : Nat} {e : Env} {o : Op} {v : AV} : ∀ {met : List Met}, okRead C mask e o v met = true → ∀ j s, Met.ld j s ∈ met → mask.testBit j = true ∨ stillOp C.T s.heap e o = some v
  | [], _, j, s, h => by cases h
  | .rd _ _ _ _ :: l, h, j, s, hm => by
    simp only [okRead] at h
    rcases List.mem_cons.1 hm with h2 | h2
    · cases h2
    · exact okRead_mem h j s h2
  | .ld j' s' :: l, h, j, s, hm => by
    simp only [okRead, Bool.and_eq_true, Bool.or_eq_true] at h
    rcases List.mem_cons.1 hm with h2 | h2
    · cases h2
      rcases h.1 with h3 | h3
      · exact .inl h3
      · exact .inr (optBeq_eq h3)
    · exact okRead_mem h.2 j s h2

theorem okLoud_mem {mask : Nat} {s : St} : ∀ {met : List Met}, okLoud C mask s met = true → ∀ i o e v, Met.rd i o e v ∈ met → mask.testBit i = true ∨ stillOp C.T s.heap e o = some v
  | [], _, i, o, e, v, h => by cases h
  | .ld _ _ :: l, h, i, o, e, v, hm => by
    simp only [okLoud] at h
    rcases List.mem_cons.1 hm with h2 | h2
    · cases h2
    · exact okLoud_mem h i o e v h2
  | .rd i' o' e' v' :: l, h, i, o, e, v, hm => by
    simp only [okLoud, Bool.and_eq_true, Bool.or_eq_true] at h
    rcases List.mem_cons.1 hm with h2 | h2
    · cases h2
      rcases h.1 with h3 | h3
      · exact .inl h3
      · exact .inr (optBeq_eq h3)
    · exact okLoud_mem h.2 i o e v h2

/-- What the evaluator has noted of the operations so far. -/
def MetOf (m : List Nat) (R : List Rec) (met : List Met) : Prop :=
  ∀ i r, R[i]? = some r → (r.loud m = true → Met.ld i r.s ∈ met) ∧ (r.read m = true → Met.rd i r.o.op r.e r.v ∈ met)

theorem MetOf.snoc {m : List Nat} {R : List Rec} {met met' : List Met} {r : Rec} (h : MetOf m R met) (hs : ∀ x ∈ met, x ∈ met') (hl : r.loud m = true → Met.ld R.length r.s ∈ met') (hr : r.read m = true → Met.rd R.length r.o.op r.e r.v ∈ met') :
    MetOf m (R ++ [r]) met' := by
  intro i q hq
  by_cases hi : i < R.length
  · rw [List.getElem?_append_left hi] at hq
    exact ⟨fun hh => hs _ ((h i q hq).1 hh), fun hh => hs _ ((h i q hq).2 hh)⟩
  · rw [List.getElem?_append_right (by omega)] at hq
    have : i - R.length = 0 := by
      cases hh : i - R.length with
      | zero => rfl
      | succ n => rw [hh] at hq; simp at hq
    rw [this] at hq
    simp only [List.getElem?_cons_zero, Option.some.injEq] at hq
    subst hq
    have : i = R.length := by omega
    subst this
    exact ⟨hl, hr⟩

theorem PairsOk.snoc {m M : List Nat} {R : List Rec} {r : Rec} (h : PairsOk C m M R)
    (h1 : ∀ i ri, R[i]? = some ri → ri.loud m = true → r.read m = true → (M.getD R.length 0).testBit i = true ∨ stillOp C.T ri.s.heap r.e r.o.op = some r.v)
    (h2 : ∀ i ri, R[i]? = some ri → ri.read m = true → r.loud m = true → (M.getD R.length 0).testBit i = true ∨ stillOp C.T r.s'.heap ri.e ri.o.op = some ri.v) : PairsOk C m M (R ++ [r]) := by
  have last : ∀ j q, (R ++ [r])[j]? = some q → (j < R.length ∧ R[j]? = some q) ∨ (j = R.length ∧ q = r) := fun j q hq => by
    by_cases hj : j < R.length
    · rw [List.getElem?_append_left hj] at hq; exact .inl ⟨hj, hq⟩
    · rw [List.getElem?_append_right (by omega)] at hq
      have : j - R.length = 0 := by
        cases hh : j - R.length with
        | zero => rfl
        | succ n => rw [hh] at hq; simp at hq
      rw [this] at hq
      simp only [List.getElem?_cons_zero, Option.some.injEq] at hq
      exact .inr ⟨by omega, hq.symm⟩
  constructor
  · intro i j ri rj hij hi hj hl hr
    rcases last j rj hj with ⟨a1, a2⟩ | ⟨rfl, rfl⟩
    · rcases last i ri hi with ⟨b1, b2⟩ | ⟨b1, _⟩
      · exact h.ld i j ri rj hij b2 a2 hl hr
      · omega
    · rcases last i ri hi with ⟨b1, b2⟩ | ⟨b1, _⟩
      · exact h1 i ri b2 hl hr
      · omega
  · intro i j ri rj hij hi hj hl hr
    rcases last j rj hj with ⟨a1, a2⟩ | ⟨rfl, rfl⟩
    · rcases last i ri hi with ⟨b1, b2⟩ | ⟨b1, _⟩
      · exact h.rd i j ri rj hij b2 a2 hl hr
      · omega
    · rcases last i ri hi with ⟨b1, b2⟩ | ⟨b1, _⟩
      · exact h2 i ri b2 hl hr
      · omega

theorem Chain.snoc {m : List Nat} {good : (Nat → List AV → St → Option (Res × St)) → Prop} {all : List Oper} {R : List Rec} {e : Env} {s : St} {e' : Env} {s' : St} (h : Chain C m good all R e s e' s') {r : Rec} (he : r.e = e') (hs : r.s = s') (hr : RecOk C m good all r) :
    Chain C m good all (R ++ [r]) e s (putA e' r.o.dst r.v) r.s' := by
  induction h with
  | nil e s =>
    subst he; subst hs
    exact .cons r [] _ _ hr (.nil _ _)
  | cons r0 R e' s' h0 tl ih => exact .cons r0 (R ++ [r]) _ _ h0 (ih he hs)

/-- The end of a region's run: all operations, or a call that panics. -/
inductive EndOf (C : Ctx) (m : List Nat) (good : (Nat → List AV → St → Option (Res × St)) → Prop) (all : List Oper) (M : List Nat) (R : List Rec) (e : Env) (s : St) : Ex → Env → St → Prop
  | normal (h : R.length = all.length) : EndOf C m good all M R e s .normal e s
  | pan (o : Oper) (v : AV) (s' : St) (ho : all[R.length]? = some o) (hw : wantedA all e o = some true) (hs : isStill m o = false) (hl : ∃ call, good call ∧ loudOp C m call e s o = some (.pan v, s')) (hb : ∀ j, R.length < j → j < all.length → (M.getD j 0).testBit R.length = true) :
      EndOf C m good all M R e s (.pan v) e s'

theorem headD_drop (M : List Nat) (i : Nat) : (M.drop i).headD 0 = M.getD i 0 := by
  rw [List.headD_eq_head?_getD, List.head?_drop, List.getD_eq_getElem?_getD]

theorem tail_drop (M : List Nat) (i : Nat) : (M.drop i).tail = M.drop (i + 1) := by simp

theorem evOps_trace (good : (Nat → List AV → St → Option (Res × St)) → Prop) (all : List Oper) (M : List Nat) (hM : M.length = all.length) (e0 : Env) (s0 : St) :
    ∀ (n : Nat), (∀ k, k < n → good (callA C k)) → ∀ (rest : List Oper) (i : Nat) (met : List Met) (e : Env) (s : St) (R : List Rec) (ex : Ex) (e' : Env) (s' : St),
    evOps C fn n all true (M.drop i) rest i met e s = some (ex, e', s') → rest = all.drop i → R.length = i → (∀ (j : Nat) (r : Rec), R[j]? = some r → all[j]? = some r.o) → MetOf fn.mutDst R met → PairsOk C fn.mutDst M R →
    Chain C fn.mutDst good all R e0 s0 e s →
    ∃ R' e1 s1, Chain C fn.mutDst good all R' e0 s0 e1 s1 ∧ PairsOk C fn.mutDst M R' ∧ (∀ (j : Nat) (r : Rec), R'[j]? = some r → all[j]? = some r.o) ∧ EndOf C fn.mutDst good all M R' e1 s1 ex e' s' := by
  intro n
  induction n with
  | zero => intro _ rest i met e s R ex e' s' h; simp [evOps] at h
  | succ n ih =>
    intro hgood rest i met e s R ex e' s' h hrest hRl hRo hmet hpairs hchain
    cases rest with
    | nil =>
      simp only [evOps, Option.some.injEq, Prod.mk.injEq] at h
      obtain ⟨rfl, rfl, rfl⟩ := h
      have hlen : all.length ≤ i := by
        have := congrArg List.length hrest
        simp at this; omega
      have hle : R.length ≤ all.length := by
        rcases Nat.lt_or_ge all.length R.length with hlt | hge
        · have hr : R[all.length]? = some R[all.length] := List.getElem?_eq_getElem hlt
          have := hRo _ _ hr
          simp at this
        · exact hge
      exact ⟨R, e, s, hchain, hpairs, hRo, .normal (by omega)⟩
    | cons o rest =>
      have hoi : all[i]? = some o := by
        have := congrArg (fun l => l[0]?) hrest
        simpa using this.symm
      have hrest' : rest = all.drop (i + 1) := by
        have := congrArg List.tail hrest
        simpa using this
      have next : ∀ (r : Rec), r.o = o → ∀ (j : Nat) (q : Rec), (R ++ [r])[j]? = some q → all[j]? = some q.o := fun r hr j q hq => by
        by_cases hj : j < R.length
        · rw [List.getElem?_append_left hj] at hq; exact hRo j q hq
        · rw [List.getElem?_append_right (by omega)] at hq
          have : j - R.length = 0 := by
            cases hh : j - R.length with
            | zero => rfl
            | succ n => rw [hh] at hq; simp at hq
          rw [this] at hq
          simp only [List.getElem?_cons_zero, Option.some.injEq] at hq
          subst hq
          have : j = i := by omega
          subst this
          rw [hr]; exact hoi
      have hgood' : ∀ k, k < n → good (callA C k) := fun k hk => hgood k (by omega)
      simp only [evOps] at h
      rw [tail_drop, headD_drop] at h
      split at h
      · cases h
      · -- not wanted
        rename_i hw
        have hrec : RecOk C fn.mutDst good all ⟨o, e, s, undefA, s, false⟩ := ⟨hw, fun _ => ⟨rfl, rfl⟩, fun hh => (by cases hh), fun hh => (by cases hh)⟩
        exact ih hgood' rest (i + 1) met _ s (R ++ [⟨o, e, s, undefA, s, false⟩]) ex e' s' h hrest' (by simp [hRl]) (next _ rfl) (hmet.snoc (fun x hx => hx) (fun hh => (by simp [Rec.loud] at hh)) (fun hh => (by simp [Rec.read] at hh)))
          (hpairs.snoc (fun _ _ _ _ hh => (by simp [Rec.read] at hh)) (fun _ _ _ _ hh => (by simp [Rec.loud] at hh))) (hchain.snoc rfl rfl hrec)
      · rename_i hw
        split at h
        · -- still
          rename_i hst
          split at h
          · cases h
          · rename_i v hv
            have hrec : RecOk C fn.mutDst good all ⟨o, e, s, v, s, true⟩ := ⟨hw, fun hh => (by cases hh), fun _ _ => ⟨hv, rfl⟩, fun _ hh => (by rw [hst] at hh; cases hh)⟩
            split at h
            · rename_i hrd
              have hrd' : readsHeap o.op = false := by simpa using hrd
              exact ih hgood' rest (i + 1) met _ s (R ++ [⟨o, e, s, v, s, true⟩]) ex e' s' h hrest' (by simp [hRl]) (next _ rfl) (hmet.snoc (fun x hx => hx) (fun hh => (by simp [Rec.loud, hst] at hh)) (fun hh => (by simp [Rec.read, hrd'] at hh)))
                (hpairs.snoc (fun _ _ _ _ hh => (by simp [Rec.read, hrd'] at hh)) (fun _ _ _ _ hh => (by simp [Rec.loud, hst] at hh))) (hchain.snoc rfl rfl hrec)
            · rename_i hrd
              split at h
              · rename_i hok
                exact ih hgood' rest (i + 1) _ _ s (R ++ [⟨o, e, s, v, s, true⟩]) ex e' s' h hrest' (by simp [hRl]) (next _ rfl) (hmet.snoc (fun x hx => List.mem_cons_of_mem _ hx) (fun hh => (by simp [Rec.loud, hst] at hh)) (fun _ => (by rw [hRl]; simp)))
                  (hpairs.snoc (fun j rj hj hl _ => by rw [hRl]; exact okRead_mem hok j rj.s ((hmet j rj hj).1 hl)) (fun _ _ _ _ hh => (by simp [Rec.loud, hst] at hh))) (hchain.snoc rfl rfl hrec)
              · cases h
        · -- loud
          rename_i hst
          split at h
          · cases h
          · rename_i r2 s2 hl
            have hgn : good (callA C n) := hgood n (by omega)
            simp only [Bool.not_true, Bool.false_or] at h
            split at h
            · cases h
            · rename_i hok
              split at h
              · rename_i v
                have hrec : RecOk C fn.mutDst good all ⟨o, e, s, v, s2, true⟩ := ⟨hw, fun hh => (by cases hh), fun _ hh => (by rw [hst] at hh; cases hh), fun _ _ => ⟨_, hgn, hl⟩⟩
                exact ih hgood' rest (i + 1) _ _ s2 (R ++ [⟨o, e, s, v, s2, true⟩]) ex e' s' h hrest' (by simp [hRl]) (next _ rfl) (hmet.snoc (fun x hx => List.mem_cons_of_mem _ hx) (fun _ => (by rw [hRl]; simp)) (fun hh => (by simp [Rec.read, hst] at hh)))
                  (hpairs.snoc (fun _ _ _ _ hh => (by simp [Rec.read, hst] at hh)) (fun j rj hj hl2 _ => by rw [hRl]; exact okLoud_mem hok j rj.o.op rj.e rj.v ((hmet j rj hj).2 hl2))) (hchain.snoc rfl rfl hrec)
              · rename_i v
                split at h
                · rename_i hb
                  cases h
                  refine ⟨R, e, s, hchain, hpairs, hRo, .pan o v _ (by rw [hRl]; exact hoi) hw hst ⟨_, hgn, hl⟩ (fun j h1 h2 => ?_)⟩
                  have hb' : ∀ x ∈ M.drop (i + 1), bit x i = true := by simpa [allBehind, List.all_eq_true] using hb
                  have hjm : j < M.length := by omega
                  rw [hRl, List.getD_eq_getElem?_getD, List.getElem?_eq_getElem hjm, Option.getD_some]
                  refine hb' _ ?_
                  rw [List.mem_iff_getElem?]
                  exact ⟨j - (i + 1), by rw [List.getElem?_drop, show i + 1 + (j - (i + 1)) = j by omega, List.getElem?_eq_getElem hjm]⟩
                · cases h

theorem masksL_length : ∀ (ops : List Oper) (acc : List Nat), (masksL acc ops).length = acc.length + ops.length
  | [], acc => by simp [masksL]
  | o :: r, acc => by simp only [masksL, masksL_length r]; simp; omega

end
end Go.Am
namespace Go.Am
set_option linter.unusedVariables false
set_option linter.unusedSimpArgs false
open Go.RowKit

/-! ### What an operation looks at -/
section
variable {T : Tr TI} {h : Tr Blk} {e e' : Env}

theorem ev_congr {x : Operand} (hx : ∀ t, x = .tmp t → e.get t = e'.get t) : ev e x = ev e' x := by
  cases x with
  | tmp t => simp only [ev, hx t rfl]
  | _ => rfl

theorem evs_congr : ∀ (xs : List Operand), (∀ t, .tmp t ∈ xs → e.get t = e'.get t) → evs e xs = evs e' xs
  | [], _ => rfl
  | x :: xs, hx => by
    simp only [evs]
    rw [ev_congr (x := x) (fun t ht => hx t (by simp [ht])), evs_congr xs (fun t ht => hx t (by simp [ht]))]

theorem evParts_congr : ∀ (xs : List (Nat × Operand)), (∀ t, .tmp t ∈ xs.map (·.2) → e.get t = e'.get t) → evParts e xs = evParts e' xs
  | [], _ => rfl
  | (i, x) :: xs, hx => by
    simp only [evParts]
    rw [ev_congr (x := x) (fun t ht => hx t (by simp [ht])), evParts_congr xs (fun t ht => hx t (by simp only [List.map_cons, List.mem_cons]; exact .inr ht))]

theorem evOpt_congr {x : Option Operand} (hx : ∀ t, .tmp t ∈ x.toList → e.get t = e'.get t) : evOpt e x = evOpt e' x := by
  cases x with
  | none => rfl
  | some x => simp only [evOpt]; rw [ev_congr (x := x) (fun t ht => hx t (by simp [ht]))]

theorem stillOp_congr {o : Op} (hx : ∀ t, .tmp t ∈ o.operands.toList → e.get t = e'.get t) : stillOp T h e o = stillOp T h e' o := by
  cases o <;> simp only [Op.operands] at hx <;> simp only [stillOp]
  case move x => exact ev_congr fun t ht => hx t (by simp [ht])
  case assign x => exact ev_congr fun t ht => hx t (by simp [ht])
  case pick c a b =>
    rw [ev_congr (x := c) (e := e) (e' := e') fun t ht => hx t (by simp [ht]), ev_congr (x := a) (e := e) (e' := e') fun t ht => hx t (by simp [ht]), ev_congr (x := b) (e := e) (e' := e') fun t ht => hx t (by simp [ht])]
  case build t ps => rw [evParts_congr ps.toList fun t ht => hx t (by simpa using ht)]
  case buildSlice t n ps => rw [evParts_congr ps.toList fun t ht => hx t (by simpa using ht)]
  case load t x => rw [ev_congr (x := x) fun t ht => hx t (by simp [ht])]
  case nilCheck x => rw [ev_congr (x := x) fun t ht => hx t (by simp [ht])]
  case binOp op t x y t2 => rw [ev_congr (x := x) (e := e) (e' := e') fun t ht => hx t (by simp [ht]), ev_congr (x := y) (e := e) (e' := e') fun t ht => hx t (by simp [ht])]
  case unOp op t x => rw [ev_congr (x := x) fun t ht => hx t (by simp [ht])]
  case convert s d x => rw [ev_congr (x := x) fun t ht => hx t (by simp [ht])]
  case makeInterface t x => rw [ev_congr (x := x) fun t ht => hx t (by simp [ht])]
  case makeFunc fn a b => rw [evs_congr a.toList (e := e) (e' := e') fun t ht => hx t (by simp; exact .inl (by simpa using ht)), evs_congr b.toList (e := e) (e' := e') fun t ht => hx t (by simp; exact .inr (by simpa using ht))]
  case slice t x lo hi mx =>
    rw [ev_congr (x := x) (e := e) (e' := e') fun t ht => hx t (by simp [ht]), evOpt_congr (x := lo) (e := e) (e' := e') fun t ht => hx t (by simp at ht ⊢; simp [ht]), evOpt_congr (x := hi) (e := e) (e' := e') fun t ht => hx t (by simp at ht ⊢; simp [ht]),
      evOpt_congr (x := mx) (e := e) (e' := e') fun t ht => hx t (by simp at ht ⊢; simp [ht])]
  case fieldAddr s x f => rw [ev_congr (x := x) fun t ht => hx t (by simp [ht])]
  case field s x f => rw [ev_congr (x := x) fun t ht => hx t (by simp [ht])]
  case indexAddr t x i => rw [ev_congr (x := x) (e := e) (e' := e') fun t ht => hx t (by simp [ht]), ev_congr (x := i) (e := e) (e' := e') fun t ht => hx t (by simp [ht])]
  case index t x i => rw [ev_congr (x := x) (e := e) (e' := e') fun t ht => hx t (by simp [ht]), ev_congr (x := i) (e := e) (e' := e') fun t ht => hx t (by simp [ht])]
  case typeAssert x t u ok => rw [ev_congr (x := x) fun t ht => hx t (by simp [ht])]
  case extract x i => rw [ev_congr (x := x) fun t ht => hx t (by simp [ht])]
  case call c => rw [evs_congr c.args.toList fun t ht => hx t (by simp [Call.operands]; exact .inr (by simpa using ht))]

theorem loudOp_congr {C : Ctx} {m : List Nat} {call : Nat → List AV → St → Option (Res × St)} {s : St} {o : Oper} (hx : ∀ t, .tmp t ∈ o.op.operands.toList → e.get t = e'.get t) : loudOp C m call e s o = loudOp C m call e' s o := by
  obtain ⟨dst, op, type, pos, after, guard⟩ := o
  cases op <;> simp only [Op.operands] at hx <;> simp only [loudOp]
  case box t x => rw [ev_congr (x := x) fun t ht => hx t (by simp [ht])]
  case buildSlice t n ps => rw [evParts_congr ps.toList fun t ht => hx t (by simpa using ht)]
  case store t x y => rw [ev_congr (x := x) (e := e) (e' := e') fun t ht => hx t (by simp [ht]), ev_congr (x := y) (e := e) (e' := e') fun t ht => hx t (by simp [ht])]
  case range t x => rw [ev_congr (x := x) fun t ht => hx t (by simp [ht])]
  case next x b => cases b <;> simp only [] <;> rw [ev_congr (x := x) fun t ht => hx t (by simp [ht])]
  case makeSlice t x y => rw [ev_congr (x := x) (e := e) (e' := e') fun t ht => hx t (by simp [ht]), ev_congr (x := y) (e := e) (e' := e') fun t ht => hx t (by simp [ht])]
  case panic x => rw [ev_congr (x := x) fun t ht => hx t (by simp [ht])]
  case call c =>
    rw [evs_congr c.args.toList fun t ht => hx t (by simp [Call.operands]; exact .inr (by simpa using ht))]
    split
    · rfl
    · split
      · rfl
      · rename_i f hf
        rw [ev_congr (x := f) (e := e) (e' := e') fun t ht => hx t (by simp [Call.operands, hf, ht])]
      · rfl

theorem wantedA_congr {ops : Array Oper} {o : Oper} (hx : ∀ t ∈ o.looksAt ops, e.get t = e'.get t) : wantedA ops.toList e o = wantedA ops.toList e' o := by
  unfold wantedA
  cases hg : o.guard with
  | none => rfl
  | some g =>
    obtain ⟨j, want⟩ := g
    have : yieldedA ops.toList e j = yieldedA ops.toList e' j := by
      simp only [yieldedA]
      cases hj : ops.toList[j]? with
      | none => rfl
      | some q =>
        simp only [Option.bind_some]
        cases hd : q.dst with
        | none => rfl
        | some d =>
          simp only [Option.bind_some]
          have hj' : ops[j]? = some q := by simpa using hj
          rw [hx d (by simp [Oper.looksAt, hg, hj', hd])]
    simp only [this]

theorem looks_operand {ops : Array Oper} {o : Oper} {t : Nat} (h : .tmp t ∈ o.op.operands.toList) : t ∈ o.looksAt ops := by
  unfold Oper.looksAt
  refine List.mem_append_left _ ?_
  rw [List.mem_filterMap]
  exact ⟨.tmp t, h, rfl⟩
end

end Go.Am
namespace Go.Am
open Go.RowKit

def edgesOk (ops : List Oper) : Bool := (List.range ops.length).all fun j => match ops[j]? with
  | some o => o.after.toList.all fun e => !Region.binds .any e || decide (e.on < j)
  | none => true

def pairsOk (m : List Nat) (ops : Array Oper) : Bool := (List.range ops.size).all fun j => match ops[j]? with
  | some y => let mask := (masksL [] ops.toList).getD j 0
    (List.range j).all fun i => match ops[i]? with
      | some x => mask.testBit i || (x.apart ops y && (isStill m x || isStill m y))
      | none => true
  | none => true

def regionOk (m : List Nat) (ops : Array Oper) : Bool := edgesOk ops.toList && pairsOk m ops

section
variable {P : Program} {B : Nat → Prop} {NG : Nat} {w0 : World} {C : Ctx} {m : List Nat} {good : (Nat → List AV → St → Option (Res × St)) → Prop} {ops : Array Oper}

theorem edgesOk_spec {l : List Oper} (h : edgesOk l = true) {j : Nat} {o : Oper} (ho : l[j]? = some o) : ∀ e ∈ o.after.toList, Region.binds .any e = true → e.on < j := by
  intro e he hb
  unfold edgesOk at h
  rw [List.all_eq_true] at h
  have := h j (by rw [List.mem_range]; exact (List.getElem?_eq_some_iff.1 ho).1)
  rw [ho] at this
  simp only [List.all_eq_true] at this
  have := this e he
  rw [hb] at this
  simpa using this

theorem pairsOk_spec (h : pairsOk m ops = true) {i j : Nat} {x y : Oper} (hij : i < j) (hx : ops[i]? = some x) (hy : ops[j]? = some y) (hb : ((masksL [] ops.toList).getD j 0).testBit i = false) :
    x.apart ops y = true ∧ (isStill m x = true ∨ isStill m y = true) := by
  unfold pairsOk at h
  rw [List.all_eq_true] at h
  have := h j (by rw [List.mem_range]; exact (Array.getElem?_eq_some_iff.1 hy).1)
  rw [hy] at this
  simp only [List.all_eq_true] at this
  have := this i (by rw [List.mem_range]; exact hij)
  rw [hx] at this
  simp only [hb, Bool.false_or, Bool.and_eq_true, Bool.or_eq_true] at this
  exact this

def listedD (listed : Array Bool) (j : Nat) : Bool := listed.getD j false

/-- What holds when just the operations that are listed have been carried out. -/
structure Inv (P : Program) (B : Nat → Prop) (NG : Nat) (w0 : World) (C : Ctx) (m : List Nat) (ops : Array Oper) (R : List Rec) (e0 : Env) (s0 : St) (G : Gh) (a0 : Act) (listed : Array Bool) (a : Act) (w : World) : Prop where
  size : listed.size = ops.size
  closed : ∀ j o, ops.toList[j]? = some o → listedD listed j = true → ∀ e ∈ o.after.toList, Region.binds .any e = true → listedD listed e.on = true
  inside : ∀ j, listedD listed j = true → j < R.length
  rel : ∃ G', G.Le G' ∧ WR B w0 G' (stD m (listedD listed) 0 R s0) w ∧ GOk NG G' ∧ EnvR G' (envD (listedD listed) 0 R e0) a
  tmps : a.tmps.size = a0.tmps.size
  defers : a.defers = a0.defers

def left (listed : Array Bool) (n : Nat) : Nat := ((List.range n).filter fun i => !listed.getD i true).length

theorem filter_one {p q : Nat → Bool} {i : Nat} : ∀ (l : List Nat), l.Nodup → i ∈ l → p i = true → (∀ j, q j = (p j && decide (j ≠ i))) → (l.filter p).length = (l.filter q).length + 1
  | [], _, h, _, _ => by cases h
  | x :: l, hn, h, hp, hq => by
    rw [List.nodup_cons] at hn
    by_cases hx : x = i
    · subst hx
      have hqx : q x = false := by rw [hq]; simp
      have hrest : l.filter q = l.filter p := by
        apply List.filter_congr
        intro y hy
        have : y ≠ x := fun e => hn.1 (e ▸ hy)
        rw [hq]; simp [this]
      rw [List.filter_cons_of_pos hp, List.filter_cons_of_neg (by simp [hqx]), hrest]
      rfl
    · have hil : i ∈ l := by
        rcases List.mem_cons.1 h with h | h
        · exact absurd h.symm hx
        · exact h
      have ih := filter_one l hn.2 hil hp hq
      have hqx : q x = p x := by rw [hq]; simp [hx]
      cases hpx : p x with
      | true => rw [List.filter_cons_of_pos hpx, List.filter_cons_of_pos (by rw [hqx]; exact hpx)]; simp [ih]
      | false => rw [List.filter_cons_of_neg (by simp [hpx]), List.filter_cons_of_neg (by simp [hqx, hpx])]; exact ih

theorem left_set {listed : Array Bool} {n i : Nat} (hs : listed.size = n) (hi : listed.getD i true = false) : left listed n = left (listed.setIfInBounds i true) n + 1 := by
  have hlt : i < listed.size := by
    rcases Nat.lt_or_ge i listed.size with h | h
    · exact h
    · simp [Array.getElem?_eq_none h] at hi
  refine filter_one (i := i) (List.range n) List.nodup_range (by rw [List.mem_range]; omega) (by simp at hi ⊢; exact hi) (fun j => ?_)
  by_cases hj : j = i
  · subst hj; simp [hlt]
  · rw [getD_set_ne true (fun e => hj e.symm)]; simp [hj]

theorem left_zero {listed : Array Bool} {n : Nat} (h : left listed n = 0) : ∀ j, j < n → listed.getD j true = true := by
  intro j hj
  unfold left at h
  have := List.eq_nil_of_length_eq_zero h
  rw [List.filter_eq_nil_iff] at this
  have := this j (by rw [List.mem_range]; exact hj)
  simpa using this

end
end Go.Am
