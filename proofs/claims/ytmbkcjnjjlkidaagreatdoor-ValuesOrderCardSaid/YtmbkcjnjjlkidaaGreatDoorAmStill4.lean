/- The abstract machine: comparisons at the top, conversions, literals, assertions, small builtins against the model's. -/
import Derived.Test.YtmbkcjnjjlkidaaGreatDoorAmStill3
import Derived.Laws.IdiomStrings
namespace Go.Am
open Go.RowKit

section
variable {P : Program} {T : Tr TI} {B : Nat → Prop} {w0 : World} {G : Gh} {s : St} {w : World} {t : Nat} {ti : TI}

theorem eqGuard_agg (hp : P.eqGuardType P.depth t = false) (op : BinOp) (ox oy : Operand) (us vs : Array Value) (w : World) : (eqGuard op t ox oy (.agg us) (.agg vs)).run P w = .ok () w := by
  cases op <;> simp [eqGuard, hp]

theorem equalIn_nn {m : Array (String × TypeId)} (g : P.underlying t = some (.interface m)) (d : Nat) (w : World) : (Op.equalIn (d + 1) t .nilIface .nilIface).run P w = .ok true w := by
  simp [Op.equalIn, run_underlying g]

theorem eqA_agg_plain {n : Nat} {xs ys : List AV} {b : Bool} (h : eqA T (n + 1) t (.agg xs) (.agg ys) = some b) (hti : T.get t = some ti) : ti.plain = true := by
  simp only [eqA, hti] at h
  cases hp : ti.plain with
  | true => rfl
  | false =>
    cases hk : ti.kd <;> rw [hk] at h <;> simp [hp] at h

/-- What '==' asks first, and what it answers. -/
theorem eqTop_sim (hT : TOk P T) {ox oy : Operand} {x y : AV} {u v : Value} {b : Bool} (h : eqTop T t ox oy x y = some b) (hx : VR G x u) (hy : VR G y v) (op : BinOp) (w : World) :
    (eqGuard op t ox oy u v).run P w = .ok () w ∧ (Op.equal t u v).run P w = .ok b w := by
  unfold eqTop at h
  split at h
  · cases hx; cases hy
    split at h
    · rename_i ti hc hti
      split at h
      · rename_i hk
        cases h
        obtain ⟨inf, d, z, g1, g2, g3, _⟩ := hT t ti hti
        rw [hk] at g3; obtain ⟨m, hd⟩ := tk_iface g3; subst hd
        refine ⟨?_, ?_⟩
        · simp only [Bool.or_eq_true] at hc
          rcases hc with hc | hc
          · cases ox <;> simp [isConstO] at hc
            rw [eqGuard_nil_constL]; rfl
          · cases oy <;> simp [isConstO] at hc
            rw [eqGuard_nil_constR]; rfl
        · exact equalIn_nn g2 9999 w
      · cases h
    · cases h
  · rename_i hne
    have he := eqA_sim (w := w) hT 12 10000 t x y b u v (by omega) h hx hy
    refine ⟨?_, he⟩
    cases hx <;> first
      | (simp only [eqGuard_at_bool, eqGuard_at_int, eqGuard_at_string, eqGuard_at_pointer, eqGuard_at_slice, eqGuard_at_map, eqGuard_at_func, eqGuard_at_nilFunc, eqGuard_at_iface, eqGuard_at_tuple]; rfl)
      | skip
    case nili =>
      cases hy <;> first
        | exact (hne rfl rfl).elim
        | (cases op <;> rfl)
    case agg xs us hx =>
      cases hy <;> first
        | (cases op <;> rfl)
        | skip
      rename_i ys vs hy
      cases hti : T.get t with
      | none => simp [eqA, hti] at h
      | some ti =>
        obtain ⟨inf, d, z, g1, g2, g3, g4, g5, g6, g7, g8, g9, g10, g11⟩ := hT t ti hti
        exact eqGuard_agg (g11 (eqA_agg_plain h hti)).2.2 op ox oy _ _ w

theorem binOp_eqq {x y : AV} {u v : Value} (hx : VR G x u) (hy : VR G y v) (h1 : ¬ (∃ k a j b, x = .int k a ∧ y = .int j b)) (h2 : ¬ ∃ a b, x = .str a ∧ y = .str b) (t : Nat) :
    binOp .eql t u v = (do pure (.bool ((← Op.equal t u v)))) := by
  cases hx <;> cases hy <;> first
    | exact absurd ⟨_, _, _, _, rfl, rfl⟩ h1
    | exact absurd ⟨_, _, rfl, rfl⟩ h2
    | rfl

theorem binOp_neqq {x y : AV} {u v : Value} (hx : VR G x u) (hy : VR G y v) (h1 : ¬ (∃ k a j b, x = .int k a ∧ y = .int j b)) (h2 : ¬ ∃ a b, x = .str a ∧ y = .str b) (t : Nat) :
    binOp .neq t u v = (do pure (.bool (!(← Op.equal t u v)))) := by
  cases hx <;> cases hy <;> first
    | exact absurd ⟨_, _, _, _, rfl, rfl⟩ h1
    | exact absurd ⟨_, _, rfl, rfl⟩ h2
    | rfl

theorem binA_sim (hT : TOk P T) {op : BinOp} {ox oy : Operand} {x y z : AV} {u v : Value} (h : binA T op t ox oy x y = some z) (hx : VR G x u) (hy : VR G y v) (w : World) :
    ∃ r, (do eqGuard op t ox oy u v; binOp op t u v : Sem Value).run P w = .ok r w ∧ VR G z r := by
  unfold binA at h
  split at h
  · rename_i k a j b
    cases hx; cases hy
    simp only [Sem.run_bind, eqGuard_at_int, Sem.run_pure, Result.andThen_ok]
    split at h
    · exact shiftA_sim (j := j) h w
    · exact shiftA_sim (j := j) h w
    · split at h
      · rename_i hkj
        have : k = j := by simpa using hkj
        subst this
        exact arithA_sim h t w
      · cases h
  · cases hx; cases hy
    simp only [Sem.run_bind, eqGuard_at_string, Sem.run_pure, Result.andThen_ok]
    exact strA_sim h t w
  · rename_i hn1 hn2
    have n1 : ¬ (∃ k a j b, x = .int k a ∧ y = .int j b) := fun ⟨k, a, j, b, e1, e2⟩ => hn1 k a j b e1 e2
    have n2 : ¬ (∃ a b, x = .str a ∧ y = .str b) := fun ⟨a, b, e1, e2⟩ => hn2 a b e1 e2
    split at h
    · split at h
      · rename_i b hb
        cases h
        obtain ⟨e1, e2⟩ := eqTop_sim hT hb hx hy .eql w
        refine ⟨_, ?_, .bool _⟩
        rw [binOp_eqq hx hy n1 n2]
        simp [e1, e2]
      · cases h
    · split at h
      · rename_i b hb
        cases h
        obtain ⟨e1, e2⟩ := eqTop_sim hT hb hx hy .neq w
        refine ⟨_, ?_, .bool _⟩
        rw [binOp_neqq hx hy n1 n2]
        simp [e1, e2]
      · cases h
    · cases h

theorem bytesOf_sim : ∀ (xs : List AV) {l : List UInt8} {vs : List Value}, bytesOf xs = some l → VRs G xs vs → ∃ ns : List Int, vs = ns.map (Value.int .u8) ∧ l = ns.map fun n => UInt8.ofNat n.toNat := by
  intro xs
  induction xs with
  | nil =>
    intro l vs h hv
    simp only [bytesOf, Option.some.injEq] at h
    subst h; cases hv; exact ⟨[], rfl, rfl⟩
  | cons x xs ih =>
    intro l vs h hv
    unfold bytesOf at h
    split at h
    · rename_i heq; cases heq
    · rename_i n xs' heq
      cases heq
      split at h
      · rename_i l' hl'
        cases h
        cases hv
        rename_i v vs hv hs
        obtain ⟨ns, e1, e2⟩ := ih hl' hs
        cases hv
        exact ⟨n :: ns, by simp [e1], by simp [e2]⟩
      · cases h
    · cases h

theorem foldl_push (ns : List Int) : ∀ (r : ByteArray), ns.foldl (fun r n => r.push (UInt8.ofNat n.toNat)) r = ⟨r.data ++ (ns.map fun n => UInt8.ofNat n.toNat).toArray⟩ := by
  induction ns with
  | nil => intro r; simp
  | cons n ns ih => intro r; simp only [List.foldl_cons, ih, List.map_cons]; simp [ByteArray.push]

/-- The bytes of a row as a string. -/
theorem bytes_sim {xs : List AV} {l : List UInt8} {vs : List Value} (h : bytesOf xs = some l) (hv : VRs G xs vs) {c base : Nat} (hc : ∀ j v, vs[j]? = some v → w.cell? ⟨c, base + j, none⟩ = some v)
    {src dst e cap : Nat} (hs : P.underlying src = some (.slice e)) (he : P.underlying e = some (.int .u8)) (hd : P.underlying dst = some .string) :
    (convert src dst (.slice (some ⟨c, base, none⟩) xs.length cap)).run P w = .ok (.string ⟨l.toArray⟩) w := by
  obtain ⟨ns, e1, e2⟩ := bytesOf_sim _ h hv
  rw [run_convert_bytes_string w src dst e _ _ cap hs he hd]
  have hlen : xs.length = vs.length := hv.length
  have hl := run_loadCells_list (P := P) w ⟨c, base, none⟩ vs (fun j v hj => by rw [Addr.add_lit]; exact hc j v hj)
  rw [hlen, run_bytesToString w _ vs.length cap ns (by rw [hl, e1]), foldl_push, ← e2]
  have : ByteArray.empty.data = #[] := rfl
  rw [this]; simp

theorem flatOne {xs : List AV} {l : List UInt8} (h : bytesOf xs = some l) : xs.flatMap cellsOf = xs := by
  induction xs generalizing l with
  | nil => rfl
  | cons x xs ih =>
    unfold bytesOf at h
    split at h
    · rename_i heq; cases heq
    · rename_i n xs' heq
      cases heq
      split at h
      · rename_i l' hl'
        rw [List.flatMap_cons, ih hl']; rfl
      · cases h
    · cases h

theorem ofBytes_VRs (b : ByteArray) : VRs G (ofBytes b) (b.data.toList.map fun b => Value.int .u8 b.toNat) := by
  unfold ofBytes
  induction b.data.toList with
  | nil => exact .nil
  | cons x l ih => exact .cons _ _ _ _ (.int _ _) ih

theorem flat_one {xs : List AV} (h : ∀ x ∈ xs, isFlat x = true) : xs.flatMap cellsOf = xs := by
  induction xs with
  | nil => rfl
  | cons x xs ih =>
    have hx := h x (by simp)
    have : cellsOf x = [x] := by cases x <;> simp [isFlat] at hx <;> rfl
    rw [List.flatMap_cons, ih (fun y hy => h y (by simp [hy])), this]; rfl

theorem ofBytes_flat (b : ByteArray) : ∀ x ∈ ofBytes b, isFlat x = true := by
  intro x hx
  simp only [ofBytes, List.mem_map] at hx
  obtain ⟨_, _, rfl⟩ := hx
  rfl

theorem convA_sim (hT : TOk P T) (hw : WR B w0 G s w) {src dst : Nat} {x y : AV} {u : Value} (h : convA T s.heap src dst x = some y) (hx : VR G x u) :
    ∃ G' w' v, G.Le G' ∧ WR B w0 G' s w' ∧ VR G' y v ∧ (convert src dst u).run P w = .ok v w' := by
  unfold convA at h
  split at h
  · rename_i ts td hts htd
    obtain ⟨i1, d1, z1, s1, s2, s3, _⟩ := hT src ts hts
    obtain ⟨i2, d2, z2, q1, q2, q3, _⟩ := hT dst td htd
    split at h
    · rename_i k _ n hk
      rw [hk] at q3; have hd := tk_int q3; subst hd
      cases hx; cases h
      exact ⟨G, w, _, .refl G, hw, .int _ _, by simp [convert, run_underlying s2, run_underlying q2, Conv.intToInt]⟩
    · rename_i str hk
      rw [hk] at q3; have hd := tk_str q3; subst hd
      cases hx; cases h
      exact ⟨G, w, _, .refl G, hw, .str _, by simp [convert, run_underlying s2, run_underlying q2]⟩
    · rename_i e str hk
      rw [hk] at q3; have hd := tk_slice q3; subst hd
      cases hx
      split at h
      · rename_i te hks hte
        rw [hks] at s3; have hd := tk_str s3; subst hd
        split at h
        · rename_i hke
          cases h
          obtain ⟨i3, d3, z3, r1, r2, r3, _⟩ := hT e te hte
          rw [hke] at r3; have hd := tk_int r3; subst hd
          have hrun := run_bytes_of_string (P := P) w src dst e str s2 q2 r2
          refine ⟨_, _, _, Gh.le_withI hw.drew str.size (fun o => (bytesRow str (grownCap w str.size 0 e))[o]?), hw.drew.allocImm _ e str.size _, ?_, hrun⟩
          have hlen : (ofBytes str).length = str.size := by simp [ofBytes]
          refine .sl _ _ w.heap.size 0 1 str.size _ _ (fun x hx => ?_) (by rw [flat_one (ofBytes_flat str)]; exact ofBytes_VRs str) (fun j hj => ?_) hlen.symm ?_ trivial
          · have := ofBytes_flat str x hx
            cases x <;> simp [isFlat] at this <;> rfl
          · have hj' : j < str.size := by simpa using hj
            have hj2 : j < str.data.size := hj'
            simp only [Gh.withI, Nat.zero_add]
            rw [if_pos ⟨rfl, hj'⟩, bytesRow_at str _ j hj2]
            simp [List.getElem?_map]
            rw [Array.getElem?_eq_getElem hj2]; rfl
          · unfold grownCap
            simp only [Question.cut]; omega
        · cases h
      · cases h
    · rename_i hk hneg
      rw [hk] at q3; have hd := tk_str q3; subst hd
      split at h
      · rename_i e hks
        rw [hks] at s3; have hd := tk_slice s3; subst hd
        split at h
        · rename_i te hte
          obtain ⟨i3, d3, z3, r1, r2, r3, _⟩ := hT e te hte
          split at h
          · rename_i hke
            rw [hke] at r3; have hd := tk_int r3; subst hd
            cases hx; cases h
            refine ⟨G, w, _, .refl G, hw, .str _, ?_⟩
            rw [run_convert_bytes_string w src dst e _ _ _ s2 r2 q2]
            rfl
          · rename_i xs kk hke
            rw [hke] at r3; have hd := tk_int r3; subst hd
            split at h
            · rename_i l hl
              cases h
              cases hx
              rename_i c base sz len cap vs hI hcap hsz hv hlen hkk
              rw [flatOne hl] at hv
              subst hlen
              refine ⟨G, w, _, .refl G, hw, .str _, ?_⟩
              exact bytes_sim hl hv (hw.immRow hI) s2 r2 q2
            · cases h
          · rename_i b off n zz hke
            rw [hke] at r3; have hd := tk_int r3; subst hd
            split at h
            · rename_i xs hxs
              split at h
              · rename_i l hl
                cases h
                cases hx
                rename_i c m cap hr hlc hc
                unfold msCells at hxs
                split at hxs
                · rename_i cs f hb
                  split at hxs
                  · rename_i hle
                    cases hxs
                    have hle' : off + n ≤ cs.length := by simpa using hle
                    obtain ⟨vs, h1, h2⟩ := hw.row hb hr
                    have hlen : ((cs.drop off).take n).length = n := by simp; omega
                    have := bytes_sim (P := P) (w := w) (src := src) (dst := dst) (cap := cap) (c := c) (base := off) hl ((h1.drop off).take n) (fun j v hj => by
                      rw [List.getElem?_take] at hj
                      split at hj
                      · rw [List.getElem?_drop] at hj; exact h2 _ _ hj
                      · cases hj) s2 r2 q2
                    rw [hlen] at this
                    exact ⟨G, w, _, .refl G, hw, .str _, this⟩
                  · cases hxs
                · cases hxs
              · cases h
            · cases h
          · cases h
        · cases h
      · cases h
    · cases h
  · cases h

theorem typeAssertA_sim (hT : TOk P T) {x y : AV} {u : Value} {a xt : Nat} {ok : Bool} (h : typeAssertA T x a ok = some y) (hx : VR G x u) (w : World) :
    ∃ v, (Instr.typeAssert u xt a ok).run P w = .ok v w ∧ VR G y v := by
  unfold typeAssertA at h
  split at h
  · cases h
  · rename_i ti hti
    obtain ⟨inf, d, z, g1, g2, g3, _⟩ := hT a ti hti
    obtain ⟨z, hz, hzv⟩ := r_zero hT hti w
    split at h
    · cases h
    · rename_i hni
      have hd : ∀ m, d ≠ .interface m := fun m hm => hni (by rw [g3, hm]; rfl)
      split at h
      · rename_i t v
        cases hx
        rename_i v' hv
        split at h
        · rename_i hta
          have hta' : t = a := by simpa using hta
          subst hta'
          split at h
          · cases h
            refine ⟨_, ?_, .tup _ _ (.cons _ _ _ _ hv (.cons _ _ _ _ (.bool true) .nil))⟩
            simp only [Instr.typeAssert, Sem.run_bind, run_underlying g2, Result.andThen_ok]
            cases d <;> first | exact absurd rfl (hd _) | simp
          · cases h
            refine ⟨_, ?_, hv⟩
            simp only [Instr.typeAssert, Sem.run_bind, run_underlying g2, Result.andThen_ok]
            cases d <;> first | exact absurd rfl (hd _) | simp
        · rename_i hta
          have hta' : t ≠ a := by simpa using hta
          split at h
          · cases h
            refine ⟨_, ?_, .tup _ _ (.cons _ _ _ _ (hzv G) (.cons _ _ _ _ (.bool false) .nil))⟩
            simp only [Instr.typeAssert, Sem.run_bind, run_underlying g2, Result.andThen_ok]
            cases d <;> first | exact absurd rfl (hd _) | simp [hta', hz]
          · cases h
      · cases hx
        split at h
        · cases h
          refine ⟨_, ?_, .tup _ _ (.cons _ _ _ _ (hzv G) (.cons _ _ _ _ (.bool false) .nil))⟩
          simp only [Instr.typeAssert, Sem.run_bind, run_underlying g2, Result.andThen_ok]
          cases d <;> first | exact absurd rfl (hd _) | simp [hz]
        · cases h
      · cases h

theorem lenA_sim (hT : TOk P T) {x : AV} {u : Value} {n ty : Nat} (h : lenA T t x = some n) (hx : VR G x u) (ts : List Nat) (us : List Value) (w : World) :
    (Builtin.len_ (t :: ts).toArray ty (u :: us).toArray).run P w = .ok (.int .i64 n) w := by
  unfold lenA at h
  split at h
  · cases h
  · rename_i ti hti
    obtain ⟨inf, d, z, g1, g2, g3, _⟩ := hT t ti hti
    split at h
    all_goals (first | (cases h; done) | rename_i hk)
    · rw [hk] at g3; have hd := tk_str g3; subst hd
      cases hx; cases h
      simp [Builtin.len_, run_underlying g2, goInt]
    · rw [hk] at g3; have hd := tk_arr g3; subst hd
      cases h
      simp [Builtin.len_, run_underlying g2, goInt]
    · rw [hk] at g3; have hd := tk_slice g3; subst hd
      cases hx; cases h
      simp [Builtin.len_, run_underlying g2, goInt]
    · rw [hk] at g3; have hd := tk_slice g3; subst hd
      cases hx; cases h
      rename_i hlen _
      simp [Builtin.len_, run_underlying g2, goInt, hlen]
    · rw [hk] at g3; have hd := tk_slice g3; subst hd
      cases hx; cases h
      simp [Builtin.len_, run_underlying g2, goInt]
    · rw [hk] at g3; have hd := tk_map g3; subst hd
      cases hx; cases h
      simp [Builtin.len_, run_underlying g2, goInt]

theorem minMaxA_sim (isMax : Bool) : ∀ (rest : List AV) (x y : AV) (us : List Value) (u : Value), minMaxA isMax x rest = some y → VR G x u → VRs G rest us →
    ∃ v, (us.foldlM (if isMax then Builtin.max2 else Builtin.min2) u : Sem Value).run P w = .ok v w ∧ VR G y v
  | [], x, y, us, u, h, hx, hr => by
    simp only [minMaxA, Option.some.injEq] at h
    subst h
    cases hr
    exact ⟨u, by simp, hx⟩
  | a :: rest, x, y, us, u, h, hx, hr => by
    cases hr
    rename_i v vs hv hs
    unfold minMaxA at h
    split at h
    · rename_i heq; cases heq
    · rename_i k m j n rest' heq
      cases heq
      cases hx; cases hv
      have ih := minMaxA_sim isMax rest _ y vs _ h (.int _ _) hs
      obtain ⟨r, hr, hy⟩ := ih
      refine ⟨r, ?_, hy⟩
      rw [List.foldlM_cons, Sem.run_bind]
      cases isMax <;> simpa [Builtin.max2, Builtin.min2] using hr
    · cases h

end
end Go.Am
