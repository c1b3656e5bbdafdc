/- The abstract machine: operators and comparisons against the model's. -/
import Derived.Test.YtmbkcjnjjlkidaaGreatDoorAmStill2
import Derived.ChangeKeysEq
import Derived.Laws.StructEq
namespace Go.Am
open Go.RowKit

section
variable {P : Program} {T : Tr TI} {B : Nat → Prop} {w0 : World} {G : Gh} {s : St} {w : World} {t : Nat} {ti : TI}

theorem arithA_sim {op : BinOp} {k : IntKind} {a b : Int} {x : AV} (h : arithA op k a b = some x) (t : Nat) (w : World) :
    ∃ v, (binOp op t (.int k a) (.int k b)).run P w = .ok v w ∧ VR G x v := by
  cases op <;> simp only [arithA, reduceCtorEq, Option.some.injEq] at h
  case quo =>
    split at h
    · cases h
    · rename_i hb
      cases h
      have hb' : ¬ b = 0 := by simpa using hb
      exact ⟨_, by simp [binOp_quo, Op.intDiv, hb'], .int _ _⟩
  case rem =>
    split at h
    · cases h
    · rename_i hb
      cases h
      have hb' : ¬ b = 0 := by simpa using hb
      exact ⟨_, by simp [binOp_rem, Op.intDiv, hb'], .int _ _⟩
  all_goals subst h
  case add => exact ⟨_, by simp [binOp_add, Op.intArith], .int _ _⟩
  case sub => exact ⟨_, by simp [binOp_sub, Op.intArith], .int _ _⟩
  case mul => exact ⟨_, by simp [binOp_mul, Op.intArith], .int _ _⟩
  case and => exact ⟨_, by rw [binOp_and]; rfl, .int _ _⟩
  case or => exact ⟨_, by rw [binOp_or]; rfl, .int _ _⟩
  case xor => exact ⟨_, by rw [binOp_xor]; rfl, .int _ _⟩
  case andNot => exact ⟨_, by rw [binOp_andNot]; rfl, .int _ _⟩
  case eql => exact ⟨_, by rw [binOp_eql]; rfl, .bool _⟩
  case neq => exact ⟨_, by rw [binOp_neq]; rfl, .bool _⟩
  case lss => exact ⟨_, by rw [binOp_lss]; rfl, .bool _⟩
  case leq => exact ⟨_, by rw [binOp_leq]; rfl, .bool _⟩
  case gtr => exact ⟨_, by rw [binOp_gtr]; rfl, .bool _⟩
  case geq => exact ⟨_, by rw [binOp_geq]; rfl, .bool _⟩

theorem shiftA_sim {op : BinOp} {k j : IntKind} {a b : Int} {x : AV} (h : shiftA op k a b = some x) (w : World) :
    ∃ v, (Op.shift op k a j b).run P w = .ok v w ∧ VR G x v := by
  unfold shiftA at h
  split at h
  · cases h
  · rename_i hb
    have hb' : ¬ b < 0 := by simpa using hb
    split at h
    · cases h; exact ⟨_, by simp [Op.shift, hb'], .int _ _⟩
    · cases h; exact ⟨_, by simp [Op.shift, hb'], .int _ _⟩
    · cases h

theorem strA_sim {op : BinOp} {a b : ByteArray} {x : AV} (h : strA op a b = some x) (t : Nat) (w : World) :
    ∃ v, (binOp op t (.string a) (.string b)).run P w = .ok v w ∧ VR G x v := by
  have hb : binOp op t (.string a) (.string b) = Op.stringOp op a b := by cases op <;> rfl
  rw [hb]
  cases op <;> simp only [strA, reduceCtorEq, Option.some.injEq] at h
  case add =>
    split at h
    · cases h
    · rename_i hs
      cases h
      have hs' : ¬ ((a.size + b.size : Nat) : Int) > IntKind.i64.max := by simpa using hs
      refine ⟨.string (a ++ b), ?_, .str _⟩
      simp only [Op.stringOp]
      rw [if_neg hs']; rfl
  all_goals (subst h; exact ⟨_, rfl, .bool _⟩)

theorem unA_sim {op : UnOp} {a x : AV} {v : Value} (h : unA op a = some x) (hv : VR G a v) (w : World) : ∃ u, (Op.unary op v).run P w = .ok u w ∧ VR G x u := by
  unfold unA at h
  split at h
  · cases hv
    simp only [arithA, Option.some.injEq] at h
    subst h
    exact ⟨_, rfl, .int _ _⟩
  · cases hv
    simp only [arithA, Option.some.injEq] at h
    subst h
    exact ⟨_, rfl, .int _ _⟩
  · cases hv
    cases h
    exact ⟨_, rfl, .bool _⟩
  · cases h

theorem eqFs_sim (hT : TOk P T) {c : Nat → AV → AV → Option Bool} {d : Nat} (hc : ∀ t x y b u v, c t x y = some b → VR G x u → VR G y v → (Op.equalIn d t u v).run P w = .ok b w) {xs ys : List AV} {us vs : List Value} (hx : VRs G xs us) (hy : VRs G ys vs) :
    ∀ (fl : List Field) (b : Bool), eqFs T c xs ys (fl.map fun f => (f.offset, f.type, f.name == "_")) = some b → (Op.eqFields d us.toArray vs.toArray fl).run P w = .ok b w
  | [], b, h => by simp only [List.map_nil, eqFs, Option.some.injEq] at h; subst h; rfl
  | f :: fl, b, h => by
    simp only [List.map_cons, eqFs] at h
    split at h
    · rename_i hn
      have hn' : f.name = "_" := by simpa using hn
      have ih := eqFs_sim hT hc hx hy fl b h
      simp only [Op.eqFields]
      rw [if_neg (by simp [hn'])]
      exact ih
    · rename_i hn
      have hn' : f.name ≠ "_" := by simpa using hn
      simp only [Op.eqFields]
      rw [if_pos hn']
      split at h
      · rename_i x y hpx hpy
        obtain ⟨u, hu, hxu⟩ := part_sim hT hpx hx w
        obtain ⟨v, hv, hyv⟩ := part_sim hT hpy hy w
        split at h
        · rename_i he
          have e := hc _ _ _ _ _ _ he hxu hyv
          have ih := eqFs_sim hT hc hx hy fl b h
          simp [hu, hv, e, ih]
        · rename_i he
          cases h
          have e := hc _ _ _ _ _ _ he hxu hyv
          simp [hu, hv, e]
        · cases h
      · cases h

theorem eqAt_sim (hT : TOk P T) {c : Nat → AV → AV → Option Bool} {d e size : Nat} (hc : ∀ t x y b u v, c t x y = some b → VR G x u → VR G y v → (Op.equalIn d t u v).run P w = .ok b w) {xs ys : List AV} {us vs : List Value} (hx : VRs G xs us) (hy : VRs G ys vs) :
    ∀ (n i : Nat) (b : Bool), eqAt T c xs ys e size n i = some b → (Op.eqItems d e size us.toArray vs.toArray (List.range' i n)).run P w = .ok b w
  | 0, i, b, h => by simp only [eqAt, Option.some.injEq] at h; subst h; rfl
  | n + 1, i, b, h => by
    simp only [eqAt] at h
    simp only [List.range'_succ, Op.eqItems]
    split at h
    · rename_i x y hpx hpy
      obtain ⟨u, hu, hxu⟩ := part_sim hT hpx hx w
      obtain ⟨v, hv, hyv⟩ := part_sim hT hpy hy w
      split at h
      · rename_i he
        have e := hc _ _ _ _ _ _ he hxu hyv
        have ih := eqAt_sim hT hc hx hy n (i + 1) b h
        simp [hu, hv, e, ih]
      · rename_i he
        cases h
        have e := hc _ _ _ _ _ _ he hxu hyv
        simp [hu, hv, e]
      · cases h
    · cases h

set_option maxHeartbeats 4000000 in
theorem eqA_sim (hT : TOk P T) : ∀ (n d t : Nat) (x y : AV) (b : Bool) (u v : Value), n ≤ d → eqA T n t x y = some b → VR G x u → VR G y v → (Op.equalIn d t u v).run P w = .ok b w := by
  intro n
  induction n with
  | zero => intro d t x y b u v _ h; simp [eqA] at h
  | succ n ih =>
    intro d t x y b u v hd h hx hy
    obtain ⟨d, rfl⟩ : ∃ m, d = m + 1 := ⟨d - 1, by omega⟩
    simp only [eqA] at h
    split at h
    · cases h
    · rename_i ti hti
      obtain ⟨inf, de, z, g1, g2, g3, g4, g5, g6, g7, g8, g9, g10, g11⟩ := hT t ti hti
      split at h
      · rename_i a c hk
        rw [hk] at g3; have hd := tk_bool g3; subst hd
        cases hx; cases hy; cases h
        simp [Op.equalIn, run_underlying g2]
      · rename_i kk k a j c hk
        rw [hk] at g3; have hd := tk_int g3; subst hd
        cases hx; cases hy
        split at h
        · rename_i hkj
          cases h
          have : k = j := by simpa using hkj
          subst this
          simp [Op.equalIn, run_underlying g2]
        · cases h
      · rename_i a c hk
        rw [hk] at g3; have hd := tk_str g3; subst hd
        cases hx; cases hy; cases h
        simp [Op.equalIn, run_underlying g2]
      · rename_i e hk
        rw [hk] at g3; have hd := tk_ptr g3; subst hd
        cases hx; cases hy; cases h
        simp [Op.equalIn, run_underlying g2]
      · rename_i e _ _ hk
        rw [hk] at g3; have hd := tk_ptr g3; subst hd
        cases hx; cases hy; cases h
        simp [Op.equalIn, run_underlying g2]
      · rename_i e _ _ _ hk
        rw [hk] at g3; have hd := tk_ptr g3; subst hd
        cases hx; cases hy; cases h
        simp [Op.equalIn, run_underlying g2]
      · rename_i e _ _ hk
        rw [hk] at g3; have hd := tk_ptr g3; subst hd
        cases hx; cases hy; cases h
        simp [Op.equalIn, run_underlying g2]
      · rename_i e _ _ _ hk
        rw [hk] at g3; have hd := tk_ptr g3; subst hd
        cases hx; cases hy; cases h
        simp [Op.equalIn, run_underlying g2]
      · rename_i e hk
        rw [hk] at g3; have hd := tk_slice g3; subst hd
        cases hx; cases hy; cases h
        simp [Op.equalIn, run_underlying g2]
      · rename_i e _ _ hk
        rw [hk] at g3; have hd := tk_slice g3; subst hd
        cases hx; cases hy; cases h
        simp [Op.equalIn, run_underlying g2]
      · rename_i e _ _ _ _ hk
        rw [hk] at g3; have hd := tk_slice g3; subst hd
        cases hx; cases hy; cases h
        simp [Op.equalIn, run_underlying g2]
      · rename_i e _ _ hk
        rw [hk] at g3; have hd := tk_slice g3; subst hd
        cases hx; cases hy; cases h
        simp [Op.equalIn, run_underlying g2]
      · rename_i e _ _ _ _ hk
        rw [hk] at g3; have hd := tk_slice g3; subst hd
        cases hx; cases hy; cases h
        simp [Op.equalIn, run_underlying g2]
      · rename_i _ _ hk
        rw [hk] at g3; obtain ⟨m, hd⟩ := tk_iface g3; subst hd
        cases hx; cases hy; cases h
        simp [Op.equalIn, run_underlying g2]
      · rename_i _ _ hk
        rw [hk] at g3; obtain ⟨m, hd⟩ := tk_iface g3; subst hd
        cases hx; cases hy; cases h
        simp [Op.equalIn, run_underlying g2]
      · rename_i u' a v' c hk
        rw [hk] at g3; obtain ⟨m, hd⟩ := tk_iface g3; subst hd
        cases hx; cases hy
        rename_i va hva vb hvb
        split at h
        · rename_i hne
          cases h
          have hne' : u' ≠ v' := by simpa using hne
          simp [Op.equalIn, run_underlying g2, hne']
        · rename_i heq
          have heq' : u' = v' := by simpa using heq
          subst heq'
          split at h
          · rename_i tu htu
            split at h
            · rename_i hpl
              obtain ⟨inf', de', z', q1, _, _, _, _, _, _, _, _, _, q11⟩ := hT u' tu htu
              have hcmp := (q11 hpl).1
              have e := ih d u' a c b _ _ (by omega) h hva hvb
              simp [Op.equalIn, run_underlying g2, r_typeInfo q1, hcmp, e]
            · cases h
          · cases h
      · rename_i e a o c q hk
        rw [hk] at g3; have hd := tk_ptr g3; subst hd
        cases hx; cases hy
        rename_i c1 n1 hr1 c2 n2 hr2
        split at h
        · rename_i te hab hte
          have hab' : a = c := by simpa using hab
          subst hab'
          rw [hr1] at hr2; cases hr2
          split at h
          · rename_i hsz
            have hsz' : te.size ≠ 0 := by simpa using hsz
            cases h
            simp only [Op.equalIn, Sem.run_bind, run_underlying g2, Result.andThen_ok, r_sizeOf hT hte, ne_eq, hsz', not_false_eq_true, if_true, Sem.run_ite, sameAddr]
            simp
            rw [Bool.eq_iff_iff]; simp
          · cases h
        · cases h
      · rename_i hk
        rw [hk] at g3; obtain ⟨a, b', c, hd⟩ := tk_func g3; subst hd
        cases hx; cases hy; cases h
        simp [Op.equalIn, run_underlying g2]
      · rename_i _ _ _ hk
        rw [hk] at g3; obtain ⟨a, b', c, hd⟩ := tk_func g3; subst hd
        cases hx; cases hy; cases h
        simp [Op.equalIn, run_underlying g2]
      · rename_i _ _ _ hk
        rw [hk] at g3; obtain ⟨a, b', c, hd⟩ := tk_func g3; subst hd
        cases hx; cases hy; cases h
        simp [Op.equalIn, run_underlying g2]
      · rename_i hk
        rw [hk] at g3; have hd := tk_map g3; subst hd
        cases hx; cases hy; cases h
        simp [Op.equalIn, run_underlying g2]
      · rename_i hk
        rw [hk] at g3; have hd := tk_map g3; subst hd
        cases hx; cases hy; cases h
        simp [Op.equalIn, run_underlying g2]
      · rename_i hk
        rw [hk] at g3; have hd := tk_map g3; subst hd
        cases hx; cases hy; cases h
        simp [Op.equalIn, run_underlying g2]
      · rename_i fs xs ys hk
        split at h
        · rename_i hpl
          rw [hk] at g3; obtain ⟨fl, hd, hfs⟩ := tk_struct g3; subst hd
          cases hx; cases hy
          rename_i us hx vs hy
          have hst := (g11 hpl).2.1
          have hfo : P.fieldsOf t = fl := by simp [Program.fieldsOf, g2]
          rw [run_equalIn_struct w d t _ _ (by rw [hfo]; exact g2) hst, hfo]
          rw [hfs] at h
          exact eqFs_sim hT (fun t x y b u v h1 h2 h3 => ih d t x y b u v (by omega) h1 h2 h3) hx hy _ b h
        · cases h
      · rename_i len e xs ys hk
        split at h
        · rename_i te hpl hte
          rw [hk] at g3; have hd := tk_arr g3; subst hd
          cases hx; cases hy
          rename_i us hx vs hy
          obtain ⟨inf', de', z', q1, q2, q3, q4, _⟩ := hT e te hte
          rw [run_equalIn_array w d _ _ g2 q1]
          have hcs : P.cellsOf e = te.size := by simp [Program.cellsOf, q1, q4]
          rw [hcs, List.range_eq_range']
          exact eqAt_sim hT (fun t x y b u v h1 h2 h3 => ih d t x y b u v (by omega) h1 h2 h3) hx hy _ _ b h
        · cases h
      · cases h

end
end Go.Am
