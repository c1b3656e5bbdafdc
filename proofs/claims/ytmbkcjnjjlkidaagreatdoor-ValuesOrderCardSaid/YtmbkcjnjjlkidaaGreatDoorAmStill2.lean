/- The abstract machine: slice expressions, operators, conversions, literals against the model's. -/
import Derived.Test.YtmbkcjnjjlkidaaGreatDoorAmStill1
namespace Go.Am
open Go.RowKit

inductive OR (G : Gh) : Option AV → Option Value → Prop
  | none : OR G none none
  | some (a : AV) (v : Value) (h : VR G a v) : OR G (some a) (some v)

section
variable {P : Program} {T : Tr TI} {B : Nat → Prop} {w0 : World} {G : Gh} {s : St} {w : World} {t : Nat} {ti : TI}

theorem bound_sim {a : AV} {v : Value} {d most most' r : Nat} (h : bound (some a) d most = some r) (hv : VR G a v) (hm : most ≤ most') (code : BoundsCode) (w : World) :
    (Instr.sliceBound v most' code).run P w = .ok r w ∧ r ≤ most := by
  unfold bound at h
  cases hv <;> simp only [reduceCtorEq] at h
  rename_i k n
  split at h
  · rename_i hb
    cases h
    simp only [Bool.and_eq_true, decide_eq_true_eq] at hb
    refine ⟨?_, by omega⟩
    have : n ≤ (most' : Int) := by omega
    simp [Instr.sliceBound, asIntOf, hb.1, this]
  · cases h

theorem bounds_sim {len cap l h : Nat} {m : Option Nat} {lo hi mx : Option AV} {lo' hi' mx' : Option Value} (hb : bounds len lo hi mx = some (l, h, m)) (h1 : OR G lo lo') (h2 : OR G hi hi') (h3 : OR G mx mx')
    (hc : len ≤ cap) (isS : Bool) (w : World) :
    (Instr.sliceBounds isS len cap lo' hi' mx').run P w = .ok (l, h, m.getD cap) w ∧ l ≤ h ∧ h ≤ len ∧ (∀ m', m = some m' → h ≤ m' ∧ m' ≤ len) := by
  unfold bounds at hb
  cases h3 with
  | none =>
    simp only [] at hb
    split at hb
    · rename_i hh hhe
      split at hb
      · rename_i ll lle
        cases hb
        have e1 : ∃ q, q = h ∧ h ≤ len ∧ ∀ w, (match hi' with | some v => Instr.sliceBound v cap (if isS then .sliceAcap else .sliceAlen) | none => pure len : Sem Nat).run P w = .ok q w := by
          cases h2 with
          | none => simp only [bound, Option.some.injEq] at hhe; exact ⟨len, hhe, by omega, fun w => rfl⟩
          | some a v hv =>
            refine ⟨h, rfl, (bound_sim (P := P) hhe hv (Nat.le_refl _) .index w).2, fun w => ?_⟩
            exact (bound_sim hhe hv hc _ w).1
        obtain ⟨q, rfl, hle, er⟩ := e1
        have e2 : l ≤ q ∧ ∀ w, (match lo' with | some v => Instr.sliceBound v q (if false then .slice3C else .sliceB) | none => pure 0 : Sem Nat).run P w = .ok l w := by
          cases h1 with
          | none => simp only [bound, Option.some.injEq] at lle; subst lle; exact ⟨Nat.zero_le _, fun w => rfl⟩
          | some a v hv => exact ⟨(bound_sim (P := P) lle hv (Nat.le_refl _) .index w).2, fun w => (bound_sim lle hv (Nat.le_refl _) _ w).1⟩
        refine ⟨?_, e2.1, hle, by simp⟩
        cases h1 with
        | none =>
          have e3 := e2.2 w
          simp only [Sem.run_pure, Result.ok.injEq, and_true] at e3
          subst e3
          cases h2 with
          | none => have := er w; simp only [Sem.run_pure, Result.ok.injEq, and_true] at this; subst this; simp [Instr.sliceBounds]
          | some a v hv => have := er w; simp only [] at this; simp [Instr.sliceBounds, this]
        | some a v hv =>
          have e3 := e2.2 w
          simp only [Bool.false_eq_true, if_false] at e3
          cases h2 with
          | none => have := er w; simp only [Sem.run_pure, Result.ok.injEq, and_true] at this; subst this; simp [Instr.sliceBounds, e3]
          | some a' v' hv' => have := er w; simp only [] at this; simp [Instr.sliceBounds, this, e3]
      · cases hb
    · cases hb
  | some am vm hvm =>
    simp only [] at hb
    split at hb
    · rename_i mm ah hme
      split at hb
      · rename_i hh hhe
        split at hb
        · rename_i ll lle
          cases hb
          cases h2 with
          | some ah vh hvh =>
            have b1 := fun w => bound_sim (P := P) hme hvm hc (if isS then .slice3Acap else .slice3Alen) w
            have b2 := fun w => bound_sim (P := P) hhe hvh (Nat.le_refl _) .slice3B w
            have e2 : l ≤ h ∧ ∀ w, (match lo' with | some v => Instr.sliceBound v h (if true then .slice3C else .sliceB) | none => pure 0 : Sem Nat).run P w = .ok l w := by
              cases h1 with
              | none => simp only [bound, Option.some.injEq] at lle; subst lle; exact ⟨Nat.zero_le _, fun w => rfl⟩
              | some a v hv => exact ⟨(bound_sim (P := P) lle hv (Nat.le_refl _) .index w).2, fun w => (bound_sim lle hv (Nat.le_refl _) _ w).1⟩
            refine ⟨?_, e2.1, Nat.le_trans (b2 w).2 (b1 w).2, fun m' hm' => by cases hm'; exact ⟨(b2 w).2, (b1 w).2⟩⟩
            cases h1 with
            | none =>
              have e3 := e2.2 w
              simp only [Sem.run_pure, Result.ok.injEq, and_true] at e3
              subst e3
              simp [Instr.sliceBounds, (b1 w).1, (b2 w).1]
            | some a v hv =>
              have e3 := e2.2 w
              simp only [if_true] at e3
              simp [Instr.sliceBounds, (b1 w).1, (b2 w).1, e3]
        · cases hb
      · cases hb
    · cases hb

/-- A part of an immutable row is one. -/
theorem VR.sub {xs : List AV} {k : SK} {c base sz cap : Nat} {vs : List Value} (hsz : ∀ x ∈ xs, (cellsOf x).length = sz) (hv : VRs G (xs.flatMap cellsOf) vs)
    (hI : ∀ j, j < vs.length → G.I c (base + j) = vs[j]?) (hcap : xs.length ≤ cap) (hk : KOk G k c base sz xs.length cap) {l h : Nat} {m : Option Nat} (hlh : l ≤ h) (hh : h ≤ xs.length) (hm : ∀ m', m = some m' → h ≤ m' ∧ m' ≤ xs.length)
    {a : Option Addr} (ha : a = some ⟨c, base + l * sz, none⟩ ∨ (m.getD cap = l ∧ a = some ⟨c, base, none⟩)) :
    VR G (.sl ((xs.drop l).take (h - l)) (subKind k xs.length l h m)) (.slice a (h - l) (m.getD cap - l)) := by
  have hsz' : ∀ x ∈ (xs.drop l).take (h - l), (cellsOf x).length = sz := fun x hx => hsz x (List.mem_of_mem_drop (List.mem_of_mem_take hx))
  have hlen' : ((xs.drop l).take (h - l)).length = h - l := by simp; omega
  have hflat : ((xs.drop l).take (h - l)).flatMap cellsOf = ((xs.flatMap cellsOf).drop (l * sz)).take ((h - l) * sz) := by
    rw [flat_drop l hsz, flat_take (h - l) (fun x hx => hsz x (List.mem_of_mem_drop hx))]
  have hvs : VRs G (((xs.drop l).take (h - l)).flatMap cellsOf) ((vs.drop (l * sz)).take ((h - l) * sz)) := by
    rw [hflat]; exact (hv.drop _).take _
  have hcapm : h ≤ m.getD cap := by
    cases m with
    | none => simp; omega
    | some m' => exact (hm m' rfl).1
  have hIs : ∀ j, j < ((vs.drop (l * sz)).take ((h - l) * sz)).length → G.I c (base + l * sz + j) = ((vs.drop (l * sz)).take ((h - l) * sz))[j]? := fun j hj => by
    have hj' : j < (h - l) * sz ∧ l * sz + j < vs.length := by simp at hj; omega
    have := hI (l * sz + j) hj'.2
    rw [List.getElem?_take, if_pos hj'.1, List.getElem?_drop, ← this, Nat.add_assoc]
  rcases ha with rfl | ⟨hml, rfl⟩
  · refine .sl _ _ c (base + l * sz) sz (h - l) _ _ hsz' hvs hIs hlen'.symm (by omega) ?_
    rw [hlen']
    unfold subKind
    cases m with
    | some m' =>
      simp only [Option.getD_some]
      split
      · rename_i e; simp at e; subst e; rfl
      · trivial
    | none =>
      simp only [Option.getD_none]
      split
      · rename_i e; simp at e; subst e
        cases k with
        | full => have : cap = xs.length := hk; subst this; rfl
        | dead => trivial
        | tag t =>
          simp only []
          split
          · trivial
          · rename_i e2
            have e2' : l ≠ xs.length := by simpa using e2
            refine ⟨by omega, ?_⟩
            have hq := hk.2
            rw [hq]
            have a1 : base + l * sz + (xs.length - l) * sz = base + xs.length * sz := by rw [Nat.add_assoc, ← Nat.add_mul]; congr 2; omega
            have a2 : base + l * sz + (cap - l) * sz = base + cap * sz := by rw [Nat.add_assoc, ← Nat.add_mul]; congr 2; omega
            rw [a1, a2]
      · trivial
  · have hl0 : h - l = 0 := by omega
    have hx0 : (xs.drop l).take (h - l) = [] := by simp [hl0]
    rw [hx0]
    refine .sl _ _ c base sz (h - l) _ [] (by simp) (by simpa using VRs.nil) (by simp) (by simpa using hl0) (by omega) ?_
    have hm0 : m.getD cap - l = 0 := by omega
    unfold subKind
    cases m with
    | some m' =>
      simp only [Option.getD_some] at *
      split
      · simp [KOk, hm0]
      · trivial
    | none =>
      simp only [Option.getD_none] at *
      split
      · rename_i e; simp at e; subst e
        cases k with
        | full => simp [KOk, hm0]
        | dead => trivial
        | tag t =>
          simp only []
          split
          · trivial
          · rename_i e2
            have e2' : l ≠ xs.length := by simpa using e2
            omega
      · trivial

theorem sliceA_sim (hT : TOk P T) (hw : WR B w0 G s w) {x y : AV} {v : Value} {lo hi mx : Option AV} {lo' hi' mx' : Option Value} (hl : sliceA T s.heap t x lo hi mx = some y) (hv : VR G x v) (h1 : OR G lo lo') (h2 : OR G hi hi') (h3 : OR G mx mx') :
    ∃ u, (Instr.sliceAt t v lo' hi' mx').run P w = .ok u w ∧ VR G y u := by
  unfold sliceA at hl
  split at hl
  · cases hl
  · rename_i ti hti
    obtain ⟨inf, d, z, g1, g2, g3, _⟩ := hT t ti hti
    split at hl
    · rename_i str hk
      rw [hk] at g3
      have hd := tk_str g3
      subst hd
      cases hv
      split at hl
      · rename_i l h m hb
        cases hl
        cases h3
        obtain ⟨e, b1, b2, b3⟩ := bounds_sim (P := P) hb h1 h2 .none (Nat.le_refl _) false w
        refine ⟨_, ?_, .str _⟩
        simp [Instr.sliceAt, run_underlying g2, Instr.slice, e]
      · cases hl
    · rename_i e hk
      rw [hk] at g3
      have hd := tk_slice g3
      subst hd
      cases hv
      split at hl
      · rename_i b te hb hte
        cases hl
        obtain ⟨l, h, m⟩ := b
        obtain ⟨er, b1, b2, b3⟩ := bounds_sim (P := P) hb h1 h2 h3 (Nat.le_refl _) true w
        have hh : h = 0 := by omega
        have hl0 : l = 0 := by omega
        subst hh; subst hl0
        refine ⟨_, ?_, .nils⟩
        have hm0 : m.getD 0 = 0 := by
          cases m with
          | none => rfl
          | some m' => have := (b3 m' rfl).2; simp; omega
        rw [hm0] at er
        simp [Instr.sliceAt, run_underlying g2, Instr.slice, er, r_sizeOf hT hte]
      · cases hl
    · rename_i e xs k hk
      rw [hk] at g3
      have hd := tk_slice g3
      subst hd
      cases hv
      rename_i c base sz len cap vs hI hcap hsz hv hlen hkk
      subst hlen
      split at hl
      · rename_i l h m te hb hte
        split at hl
        · rename_i hhd
          cases hl
          obtain ⟨er, b1, b2, b3⟩ := bounds_sim (P := P) hb h1 h2 h3 hcap true w
          have hsize : l * te.size = l * sz := by
            cases xs with
            | nil =>
              have : l = 0 := by simp at b2; omega
              simp [this]
            | cons x r =>
              have e1 : (cellsOf x).length = te.size := by simpa [headIs] using hhd
              have e2 := hsz x (by simp)
              rw [← e1, e2]
          refine ⟨_, ?_, VR.sub hsz hv hI hcap hkk b1 b2 b3 (a := if m.getD cap = l then some ⟨c, base, none⟩ else some ⟨c, base + l * sz, none⟩) ?_⟩
          · simp only [Instr.sliceAt, Sem.run_bind, run_underlying g2, Result.andThen_ok, Instr.slice, er, r_sizeOf hT hte, Sem.run_pure, Option.map_some, Addr.add_lit, hsize]
          · by_cases e : m.getD cap = l
            · exact .inr ⟨e, by simp [e]⟩
            · exact .inl (by simp [e])
        · cases hl
      · cases hl
    · rename_i e b off n zz hk
      rw [hk] at g3
      have hd := tk_slice g3
      subst hd
      cases hv
      rename_i c nn cap hr hlc hc
      split at hl
      · rename_i l h m te hb hte
        split at hl
        · rename_i hz
          have hz' : zz = te.size := by simpa using hz
          subst hz'
          obtain ⟨er, b1, b2, b3⟩ := bounds_sim (P := P) hb h1 h2 h3 hlc true w
          have hmc : m.getD cap ≤ cap ∧ h ≤ m.getD cap := by
            cases m with
            | none => simp; omega
            | some m' => have := b3 m' rfl; simp; omega
          refine ⟨.slice (if m.getD cap = l then some ⟨c, off, none⟩ else some ⟨c, off + l * te.size, none⟩) (h - l) (m.getD cap - l), ?_, ?_⟩
          · simp only [Instr.sliceAt, Sem.run_bind, run_underlying g2, Result.andThen_ok, Instr.slice, er, r_sizeOf hT hte, Sem.run_pure, Option.map_some, Addr.add_lit]
          · split at hl
            · rename_i e
              cases hl
              have e' : l = h := by simpa using e
              subst e'
              have : ∃ o, (if m.getD cap = l then some (⟨c, off, none⟩ : Addr) else some ⟨c, off + l * te.size, none⟩) = some ⟨c, o, none⟩ := by split <;> exact ⟨_, rfl⟩
              obtain ⟨o, ho⟩ := this
              rw [ho, Nat.sub_self]
              exact .sl [] _ c o 0 0 _ [] (by simp) (by simpa using VRs.nil) (by simp) rfl (Nat.zero_le _) trivial
            · rename_i e
              cases hl
              have e' : l ≠ h := by simpa using e
              rw [if_neg (by omega)]
              refine .ms b _ _ _ c nn _ hr (by omega) ?_
              have : off + l * te.size + (m.getD cap - l) * te.size = off + m.getD cap * te.size := by rw [Nat.add_assoc, ← Nat.add_mul]; congr 2; omega
              rw [this]
              exact Nat.le_trans (Nat.add_le_add_left (Nat.mul_le_mul_right _ hmc.1) _) hc
        · cases hl
      · cases hl
    · rename_i n e b off hk
      rw [hk] at g3
      have hd := tk_arr g3
      subst hd
      cases hv
      rename_i c nn hr
      split at hl
      · rename_i l h m te hb hte
        cases h3
        obtain ⟨er, b1, b2, b3⟩ := bounds_sim (P := P) hb h1 h2 .none (Nat.le_refl _) false w
        have hm0 : m = none := by
          unfold bounds at hb
          simp only [] at hb
          split at hb
          · split at hb
            · cases hb; rfl
            · cases hb
          · cases hb
        subst hm0
        split at hl
        · rename_i cells hcells
          have hfit : off + n * te.size ≤ nn := by
            unfold msCells at hcells
            split at hcells
            · rename_i cs f hb2
              split at hcells
              · rename_i hle
                have hle' : off + n * te.size ≤ cs.length := by simpa using hle
                obtain ⟨arr, _, _, _, _, q3, _⟩ := hw.cells b cs f c nn hb2 hr
                omega
              · cases hcells
            · cases hcells
          refine ⟨.slice (if n = l then some ⟨c, off, none⟩ else some ⟨c, off + l * te.size, none⟩) (h - l) (n - l), ?_, ?_⟩
          · simp only [Option.getD_none] at er
            by_cases e : n = l
            · subst e; simp [Instr.sliceAt, run_underlying g2, Instr.sureAddr, er, r_sizeOf hT hte]
            · simp [Instr.sliceAt, run_underlying g2, Instr.sureAddr, er, r_sizeOf hT hte, e, Addr.add_lit]
          · split at hl
            · rename_i e
              cases hl
              have e' : l = h := by simpa using e
              subst e'
              have : ∃ o, (if n = l then some (⟨c, off, none⟩ : Addr) else some ⟨c, off + l * te.size, none⟩) = some ⟨c, o, none⟩ := by split <;> exact ⟨_, rfl⟩
              obtain ⟨o, ho⟩ := this
              rw [ho, Nat.sub_self]
              exact .sl [] _ c o 0 0 _ [] (by simp) (by simpa using VRs.nil) (by simp) rfl (Nat.zero_le _) trivial
            · rename_i e
              cases hl
              have e' : l ≠ h := by simpa using e
              rw [if_neg (by omega)]
              refine .ms b _ _ _ c nn _ hr (by omega) ?_
              have : off + l * te.size + (n - l) * te.size = off + n * te.size := by rw [Nat.add_assoc, ← Nat.add_mul]; congr 2; omega
              omega
        · cases hl
      · cases hl
    · cases hl

end
end Go.Am
