/- Values as a plain type, their order, and how they are read off abstract values. -/
import Derived.Test.YtmbkcjnjjlkidaaGreatDoorAmRules
import Derived.Lib.Bytealg
import Derived.Lib.MinMaxS
namespace Go.Am

inductive V where
  | mk (k n : Int) (s : ByteArray) (kids : List V)

def cmpI (a b : Int) : Int := if a < b then -1 else if a > b then 1 else 0
def cmpB (a b : ByteArray) : Int := Extern.BytealgCompare.cmp a b

mutual
def cmpV : V → V → Int
  | .mk k n s l, .mk k' n' s' l' =>
    if cmpI k k' ≠ 0 then cmpI k k' else if cmpI n n' ≠ 0 then cmpI n n' else if cmpB s s' ≠ 0 then cmpB s s' else cmpVs l l'
def cmpVs : List V → List V → Int
  | [], [] => 0
  | [], _ :: _ => -1
  | _ :: _, [] => 1
  | x :: xs, y :: ys => if cmpV x y ≠ 0 then cmpV x y else cmpVs xs ys
end

theorem cmpL_anti : ∀ a b : List UInt8, Lib.compareBytes b a = - Lib.compareBytes a b
  | [], [] => rfl
  | [], _ :: _ => rfl
  | _ :: _, [] => rfl
  | x :: a, y :: b => by
    unfold Lib.compareBytes
    have ih := cmpL_anti a b
    have h1 : x < y → ¬ y < x := fun h h' => absurd (UInt8.lt_trans h h') (UInt8.lt_irrefl x)
    by_cases h : x < y
    · simp [h, h1 h]
    · by_cases h' : y < x <;> simp [h, h', ih]
theorem cmpL_trans : ∀ a b c : List UInt8, Lib.compareBytes a b ≤ 0 → Lib.compareBytes b c ≤ 0 → Lib.compareBytes a c ≤ 0 ∧ (Lib.compareBytes a c = 0 → Lib.compareBytes a b = 0 ∧ Lib.compareBytes b c = 0)
  | [], [], [], _, _ => by simp [Lib.compareBytes]
  | [], [], _ :: _, _, _ => by simp [Lib.compareBytes]
  | [], _ :: _, [], _, h => by simp [Lib.compareBytes] at h
  | [], _ :: _, _ :: _, _, _ => by simp [Lib.compareBytes]
  | _ :: _, [], _, h, _ => by simp [Lib.compareBytes] at h
  | _ :: _, _ :: _, [], _, h => by simp [Lib.compareBytes] at h
  | x :: a, y :: b, z :: c, h, h' => by
    have ih := cmpL_trans a b c
    unfold Lib.compareBytes at h h' ⊢
    simp only [UInt8.lt_iff_toNat_lt] at h h' ⊢
    by_cases e1 : x.toNat < y.toNat
    · by_cases e2 : y.toNat < z.toNat
      · have : x.toNat < z.toNat := by omega
        simp [this]
      · by_cases e3 : z.toNat < y.toNat
        · simp [e2, e3] at h'
        · have : x.toNat < z.toNat := by omega
          simp [this]
    · by_cases e1' : y.toNat < x.toNat
      · simp [e1, e1'] at h
      · simp only [e1, e1', if_false] at h ⊢
        by_cases e2 : y.toNat < z.toNat
        · have : x.toNat < z.toNat := by omega
          simp [this]
        · by_cases e3 : z.toNat < y.toNat
          · simp [e2, e3] at h'
          · simp only [e2, e3, if_false] at h' ⊢
            have e4 : ¬ x.toNat < z.toNat := by omega
            have e5 : ¬ z.toNat < x.toNat := by omega
            simp only [e4, e5, if_false]
            exact ih h h'

theorem cmpB_anti (a b : ByteArray) : cmpB b a = - cmpB a b := by
  unfold cmpB; rw [Lib.cmp_eq, Lib.cmp_eq]; exact cmpL_anti _ _
theorem cmpB_trans (a b c : ByteArray) (h : cmpB a b ≤ 0) (h' : cmpB b c ≤ 0) : cmpB a c ≤ 0 ∧ (cmpB a c = 0 → cmpB a b = 0 ∧ cmpB b c = 0) := by
  unfold cmpB at h h' ⊢; rw [Lib.cmp_eq] at h h' ⊢; rw [Lib.cmp_eq, Lib.cmp_eq]; exact cmpL_trans _ _ _ h h'
theorem cmpI_anti (a b : Int) : cmpI b a = - cmpI a b := by
  unfold cmpI; split <;> split <;> (try split) <;> (try split) <;> omega
theorem cmpI_trans (a b c : Int) (h : cmpI a b ≤ 0) (h' : cmpI b c ≤ 0) : cmpI a c ≤ 0 ∧ (cmpI a c = 0 → cmpI a b = 0 ∧ cmpI b c = 0) := by
  unfold cmpI at *
  by_cases e1 : a < b <;> by_cases e2 : b < c <;> by_cases e3 : a < c <;> by_cases e4 : a > b <;> by_cases e5 : b > c <;> by_cases e6 : a > c <;> simp_all <;> omega

mutual
theorem cmpV_anti : ∀ v w : V, cmpV w v = - cmpV v w
  | .mk k n s l, .mk k' n' s' l' => by
    unfold cmpV
    have h1 := cmpI_anti k k'
    have h2 := cmpI_anti n n'
    have h3 := cmpB_anti s s'
    have h4 := cmpVs_anti l l'
    rw [h1, h2, h3, h4]
    simp only [ne_eq, Int.neg_eq_zero]
    split
    · rfl
    · split
      · rfl
      · split <;> rfl
theorem cmpVs_anti : ∀ v w : List V, cmpVs w v = - cmpVs v w
  | [], [] => rfl
  | [], _ :: _ => rfl
  | _ :: _, [] => rfl
  | x :: xs, y :: ys => by
    unfold cmpVs
    rw [cmpV_anti x y, cmpVs_anti xs ys]
    simp only [ne_eq, Int.neg_eq_zero]
    split <;> rfl
end

/-- One step of a lexicographic order. -/
theorem lex_trans {p q r p' q' r' : Int} (h1 : p ≤ 0 → q ≤ 0 → r ≤ 0 ∧ (r = 0 → p = 0 ∧ q = 0)) (h2 : p' ≤ 0 → q' ≤ 0 → r' ≤ 0 ∧ (r' = 0 → p' = 0 ∧ q' = 0))
    (_hz : p = 0 → q = 0 → r = 0) (hp : (if p ≠ 0 then p else p') ≤ 0) (hq : (if q ≠ 0 then q else q') ≤ 0) :
    (if r ≠ 0 then r else r') ≤ 0 ∧ ((if r ≠ 0 then r else r') = 0 → (if p ≠ 0 then p else p') = 0 ∧ (if q ≠ 0 then q else q') = 0) := by
  have hp0 : p ≤ 0 := by by_cases e : p = 0 <;> simp_all
  have hq0 : q ≤ 0 := by by_cases e : q = 0 <;> simp_all
  obtain ⟨a1, a2⟩ := h1 hp0 hq0
  by_cases e : r = 0
  · obtain ⟨b1, b2⟩ := a2 e
    simp only [e, b1, b2, ne_eq, not_true_eq_false, if_false] at hp hq ⊢
    exact h2 hp hq
  · rw [if_pos e]
    exact ⟨a1, fun h => absurd h e⟩

theorem zero_trans {f : Int} : f = 0 → f = 0 := id

theorem cmpI_zero {a b : Int} : cmpI a b = 0 ↔ a = b := by unfold cmpI; split <;> (try split) <;> omega
theorem cmpL_zero : ∀ {a b : List UInt8}, Lib.compareBytes a b = 0 → a = b
  | [], [], _ => rfl
  | [], _ :: _, h => by simp [Lib.compareBytes] at h
  | _ :: _, [], h => by simp [Lib.compareBytes] at h
  | x :: a, y :: b, h => by
    unfold Lib.compareBytes at h
    by_cases e1 : x < y
    · simp [e1] at h
    · by_cases e2 : y < x
      · simp [e1, e2] at h
      · simp only [e1, e2, if_false] at h
        rw [cmpL_zero h, UInt8.le_antisymm (UInt8.not_lt.1 e2) (UInt8.not_lt.1 e1)]
theorem cmpL_refl : ∀ a : List UInt8, Lib.compareBytes a a = 0
  | [] => rfl
  | x :: a => by unfold Lib.compareBytes; simp [UInt8.lt_irrefl, cmpL_refl a]
theorem cmpB_zero {a b : ByteArray} : cmpB a b = 0 ↔ a = b := by
  unfold cmpB
  rw [Lib.cmp_eq]
  constructor
  · intro h
    have := cmpL_zero h
    obtain ⟨⟨a⟩⟩ := a; obtain ⟨⟨b⟩⟩ := b
    simp at this; rw [this]
  · rintro rfl; exact cmpL_refl _

mutual
theorem cmpV_zero : ∀ {v w : V}, cmpV v w = 0 → v = w
  | .mk k n s l, .mk k' n' s' l', h => by
    unfold cmpV at h
    by_cases e1 : cmpI k k' = 0
    · by_cases e2 : cmpI n n' = 0
      · by_cases e3 : cmpB s s' = 0
        · simp only [e1, e2, e3, ne_eq, not_true_eq_false, if_false] at h
          rw [cmpI_zero.1 e1, cmpI_zero.1 e2, cmpB_zero.1 e3, cmpVs_zero h]
        · simp [e1, e2, e3] at h
      · simp [e1, e2] at h
    · simp [e1] at h
theorem cmpVs_zero : ∀ {v w : List V}, cmpVs v w = 0 → v = w
  | [], [], _ => rfl
  | [], _ :: _, h => by simp [cmpVs] at h
  | _ :: _, [], h => by simp [cmpVs] at h
  | x :: xs, y :: ys, h => by
    unfold cmpVs at h
    by_cases e : cmpV x y = 0
    · simp only [e, ne_eq, not_true_eq_false, if_false] at h
      rw [cmpV_zero e, cmpVs_zero h]
    · simp [e] at h
end

mutual
theorem cmpV_trans : ∀ u v w : V, cmpV u v ≤ 0 → cmpV v w ≤ 0 → cmpV u w ≤ 0 ∧ (cmpV u w = 0 → cmpV u v = 0 ∧ cmpV v w = 0)
  | .mk k n s l, .mk k' n' s' l', .mk k'' n'' s'' l'', h, h' => by
    unfold cmpV at h h' ⊢
    refine lex_trans (cmpI_trans k k' k'') (lex_trans (cmpI_trans n n' n'') (lex_trans (cmpB_trans s s' s'') (cmpVs_trans l l' l'') ?_) ?_) ?_ h h'
    · intro a b; rw [cmpB_zero] at *; rw [a, b]
    · intro a b; rw [cmpI_zero] at *; rw [a, b]
    · intro a b; rw [cmpI_zero] at *; rw [a, b]
theorem cmpVs_trans : ∀ u v w : List V, cmpVs u v ≤ 0 → cmpVs v w ≤ 0 → cmpVs u w ≤ 0 ∧ (cmpVs u w = 0 → cmpVs u v = 0 ∧ cmpVs v w = 0)
  | [], [], [], _, _ => by simp [cmpVs]
  | [], [], _ :: _, _, _ => by simp [cmpVs]
  | [], _ :: _, [], _, h => by simp [cmpVs] at h
  | [], _ :: _, _ :: _, _, _ => by simp [cmpVs]
  | _ :: _, [], _, h, _ => by simp [cmpVs] at h
  | _ :: _, _ :: _, [], _, h => by simp [cmpVs] at h
  | x :: xs, y :: ys, z :: zs, h, h' => by
    unfold cmpVs at h h' ⊢
    refine lex_trans (cmpV_trans x y z) (cmpVs_trans xs ys zs) ?_ h h'
    intro a b
    have e1 := cmpV_zero a
    have e2 := cmpV_zero b
    subst e1; subst e2
    exact a
end

/- A value out of an abstract value. -/
mutual
def decV : AV → Option V
  | .agg [.int .i64 k, .int .i64 n, .str s, .nils] => some (.mk k n s [])
  | .agg [.int .i64 k, .int .i64 n, .str s, .sl xs _] => match decVs xs, decide (xs.length < 2 ^ 62) with
    | some l, true => some (.mk k n s l)
    | _, _ => none
  | _ => none
def decVs : List AV → Option (List V)
  | [] => some []
  | x :: xs => match decV x, decVs xs with
    | some v, some l => some (v :: l)
    | _, _ => none
end

mutual
theorem dec_facts : ∀ (v : V) (a : AV), decV a = some v → decV (deaden a) = some v ∧ pureV a = true
  | .mk k n s l, a, h => by
    unfold decV at h
    split at h
    · cases h
      exact ⟨rfl, rfl⟩
    · rename_i k' n' s' xs kk
      split at h
      · rename_i l' hl hb
        cases h
        obtain ⟨h1, h2⟩ := decs_facts l xs hl
        exact ⟨by simp only [deaden, deadens, decV, h1, deadens_length, hb], by simp [pureV, pureVs, h2]⟩
      · cases h
    · cases h
theorem decs_facts : ∀ (l : List V) (xs : List AV), decVs xs = some l → decVs (deadens xs) = some l ∧ pureVs xs = true
  | [], xs, h => by
    cases xs with
    | nil => exact ⟨rfl, rfl⟩
    | cons x xs => simp only [decVs] at h; split at h <;> cases h
  | v :: l, xs, h => by
    cases xs with
    | nil => simp [decVs] at h
    | cons x xs =>
      simp only [decVs] at h
      split at h
      · rename_i v' l' hv hl
        cases h
        obtain ⟨h1, h2⟩ := dec_facts v x hv
        obtain ⟨h3, h4⟩ := decs_facts l xs hl
        exact ⟨by simp [deadens, decVs, h1, h3], by simp [pureVs, h2, h4]⟩
      · cases h
end

/-- The slice of a value's kids. -/
abbrev KidsA (y : AV) (xs : List AV) : Prop := SlA y xs

theorem dec_shape {a : AV} {v : V} (h : decV a = some v) : ∃ k n s l y xs, a = .agg [.int .i64 k, .int .i64 n, .str s, y] ∧ v = .mk k n s l ∧ KidsA y xs ∧ decVs xs = some l ∧ xs.length < 2 ^ 62 := by
  unfold decV at h
  split at h
  · cases h; exact ⟨_, _, _, _, _, [], rfl, rfl, .inl ⟨rfl, rfl⟩, rfl, by simp⟩
  · rename_i k' n' s' xs kk
    split at h
    · rename_i l' hl hb
      cases h
      exact ⟨_, _, _, _, _, xs, rfl, rfl, .inr ⟨kk, rfl⟩, hl, by simpa using hb⟩
    · cases h
  · cases h

theorem decs_length : ∀ {xs : List AV} {l : List V}, decVs xs = some l → xs.length = l.length
  | [], l, h => by simp only [decVs, Option.some.injEq] at h; subst h; rfl
  | x :: xs, l, h => by
    simp only [decVs] at h
    split at h
    · rename_i v' l' hv hl
      cases h
      simp [decs_length hl]
    · cases h
theorem decs_get : ∀ {xs : List AV} {l : List V} {i : Nat} (hi : i < l.length), decVs xs = some l → ∃ x, xs[i]? = some x ∧ decV x = some l[i]
  | [], l, i, hi, h => by simp only [decVs, Option.some.injEq] at h; subst h; simp at hi
  | x :: xs, l, i, hi, h => by
    simp only [decVs] at h
    split at h
    · rename_i v' l' hv hl
      cases h
      cases i with
      | zero => exact ⟨x, rfl, hv⟩
      | succ i =>
        obtain ⟨x', h1, h2⟩ := decs_get (xs := xs) (l := l') (i := i) (by simpa using hi) hl
        exact ⟨x', by simpa using h1, by simpa using h2⟩
    · cases h

mutual
def szV : V → Nat
  | .mk _ _ _ l => 1 + szVs l
def szVs : List V → Nat
  | [] => 0
  | v :: l => szV v + szVs l
end
theorem szVs_get : ∀ {l : List V} {i : Nat} (hi : i < l.length), szV l[i] ≤ szVs l
  | v :: l, 0, hi => by simp [szVs]
  | v :: l, i + 1, hi => by
    have := szVs_get (l := l) (i := i) (by simpa using hi)
    simp only [szVs, List.getElem_cons_succ]; omega

def cmpG : List AV → Option AV
  | [a, b] => match decV a, decV b with
    | some v, some w => some (.int .i64 (cmpV v w))
    | _, _ => none
  | _ => none
def cmpSize : List AV → Nat
  | a :: _ => match decV a with
    | some v => szV v
    | none => 0
  | _ => 0

theorem less_eq : ∀ a b : List UInt8, a ≠ b → (if Op.bytesLess a b then (-1 : Int) else 1) = Lib.compareBytes a b
  | [], [], h => absurd rfl h
  | [], _ :: _, _ => by simp [Op.bytesLess, Lib.compareBytes]
  | _ :: _, [], _ => by simp [Op.bytesLess, Lib.compareBytes]
  | x :: a, y :: b, h => by
    unfold Op.bytesLess Lib.compareBytes
    by_cases e1 : x < y
    · simp [e1]
    · by_cases e2 : y < x
      · have : x ≠ y := fun e => by subst e; exact e1 e2
        simp [e1, e2, this]
      · have e : x = y := UInt8.le_antisymm (UInt8.not_lt.1 e2) (UInt8.not_lt.1 e1)
        subst e
        have := less_eq a b (fun e => h (by rw [e]))
        simp only [e1, decide_false, Bool.false_or, beq_self_eq_true, Bool.true_and, if_false]
        exact this

section
variable {k n k' n' : Int} {s s' : ByteArray} {l l' : List V}
theorem cmpV_k (h : (k != k') = true) : (if decide (k < k') then (-1 : Int) else 1) = cmpV (.mk k n s l) (.mk k' n' s' l') := by
  have h : k ≠ k' := by simpa using h
  have e : cmpI k k' ≠ 0 := fun e => h (cmpI_zero.1 e)
  refine Eq.symm ?_
  unfold cmpV
  rw [if_pos e]
  unfold cmpI
  simp only [decide_eq_true_eq]
  split
  · rfl
  · rw [if_pos (by omega)]
theorem cmpV_n (hk : (k != k') = false) (h : (n != n') = true) : (if decide (n < n') then (-1 : Int) else 1) = cmpV (.mk k n s l) (.mk k' n' s' l') := by
  have hk : k = k' := by simpa using hk
  have h : n ≠ n' := by simpa using h
  have e : cmpI n n' ≠ 0 := fun e => h (cmpI_zero.1 e)
  refine Eq.symm ?_
  unfold cmpV
  rw [if_neg (by simp [cmpI_zero, hk]), if_pos e]
  unfold cmpI
  simp only [decide_eq_true_eq]
  split
  · rfl
  · rw [if_pos (by omega)]
theorem cmpV_s (hk : (k != k') = false) (hn : (n != n') = false) (h : (!(s.toList == s'.toList)) = true) : (if Op.bytesLess s.toList s'.toList then (-1 : Int) else 1) = cmpV (.mk k n s l) (.mk k' n' s' l') := by
  have hk : k = k' := by simpa using hk
  have hn : n = n' := by simpa using hn
  have h : s.toList ≠ s'.toList := by simpa using h
  have e : cmpB s s' ≠ 0 := fun e => h (by rw [cmpB_zero.1 e])
  refine Eq.symm ?_
  unfold cmpV
  rw [if_neg (by simp [cmpI_zero, hk]), if_neg (by simp [cmpI_zero, hn]), if_pos e, less_eq _ _ h]
  unfold cmpB
  rw [Lib.cmp_eq, Lib.toList_data, Lib.toList_data]
theorem cmpV_l (hk : (k != k') = false) (hn : (n != n') = false) (hs : (!(s.toList == s'.toList)) = false) : cmpVs l l' = cmpV (.mk k n s l) (.mk k' n' s' l') := by
  have hk : k = k' := by simpa using hk
  have hn : n = n' := by simpa using hn
  have hs : s = s' := by
    have : s.toList = s'.toList := by simpa using hs
    rw [Lib.toList_data, Lib.toList_data] at this
    obtain ⟨⟨a⟩⟩ := s; obtain ⟨⟨b⟩⟩ := s'
    simp at this; rw [this]
  unfold cmpV
  rw [if_neg (by simp [cmpI_zero, hk]), if_neg (by simp [cmpI_zero, hn]), if_neg (by simp [cmpB_zero, hs])]
theorem cmpVs_drop {i : Nat} (hi : i < l.length) (hi' : i < l'.length) : cmpVs (l.drop i) (l'.drop i) = if cmpV l[i] l'[i] ≠ 0 then cmpV l[i] l'[i] else cmpVs (l.drop (i + 1)) (l'.drop (i + 1)) := by
  rw [List.drop_eq_getElem_cons hi, List.drop_eq_getElem_cons hi']
  rfl
theorem cmpVs_end {i : Nat} (hi : i ≤ l.length) (hi' : i ≤ l'.length) (h : ¬ (i < l.length ∧ i < l'.length)) : cmpVs (l.drop i) (l'.drop i) = if l.length = l'.length then 0 else if l.length < l'.length then -1 else 1 := by
  by_cases e : i < l.length
  · have : l'.drop i = [] := List.drop_eq_nil_of_le (by omega)
    rw [this, List.drop_eq_getElem_cons e, if_neg (by omega), if_neg (by omega)]
    rfl
  · have e0 : l.drop i = [] := List.drop_eq_nil_of_le (by omega)
    by_cases e' : i < l'.length
    · rw [e0, List.drop_eq_getElem_cons e', if_neg (by omega), if_pos (by omega)]
      rfl
    · have : l'.drop i = [] := List.drop_eq_nil_of_le (by omega)
      rw [e0, this, if_pos (by omega)]
      rfl
end
theorem wrap_pos {n : Int} (h0 : 0 ≤ n) (h : n < 2 ^ 63) : IntKind.i64.wrap n = n := by
  simp [IntKind.wrap, IntKind.bits, IntKind.signed]
  omega

theorem dec_flat {x : AV} {v : V} (h : decV x = some v) : ∃ cs, x = .agg cs ∧ cs.length = 4 ∧ cs.all isFlat = true := by
  obtain ⟨k, n, s, l, y, xs, rfl, _, hy, _⟩ := dec_shape h
  rcases hy with ⟨rfl, _⟩ | ⟨kk, rfl⟩ <;> exact ⟨_, rfl, rfl, rfl⟩
theorem dec_cells {x : AV} {v : V} (h : decV x = some v) : (cellsOf x).length = 4 := by
  obtain ⟨cs, rfl, h4, _⟩ := dec_flat h; exact h4
theorem decs_cells : ∀ {xs : List AV} {l : List V}, decVs xs = some l → ∀ x ∈ xs, (cellsOf x).length = 4
  | [], _, _ => by simp
  | y :: ys, l, h => by
    simp only [decVs] at h
    split at h
    · rename_i v' l' hv hl
      intro x hx
      rcases List.mem_cons.1 hx with rfl | hx
      · exact dec_cells hv
      · exact decs_cells hl x hx
    · cases h
theorem decs_append : ∀ {xs ys : List AV} {l m : List V}, decVs xs = some l → decVs ys = some m → decVs (xs ++ ys) = some (l ++ m)
  | [], ys, l, m, h, hx => by simp only [decVs, Option.some.injEq] at h; subst h; exact hx
  | a :: xs, ys, l, m, h, hx => by
    simp only [decVs] at h
    split at h
    · rename_i v' l' hv hl
      cases h
      have := decs_append hl hx
      simp only [List.cons_append, decVs, hv, this]
    · cases h
theorem decs_snoc {xs : List AV} {l : List V} {x : AV} {v : V} (h : decVs xs = some l) (hx : decV x = some v) : decVs (xs ++ [x]) = some (l ++ [v]) :=
  decs_append h (by simp [decVs, hx])
theorem dec_mk {k n : Int} {s : ByteArray} {y : AV} {xs : List AV} {l : List V} (hy : SlA y xs) (hl : decVs xs = some l) (hb : xs.length < 2 ^ 62) : decV (.agg [.int .i64 k, .int .i64 n, .str s, y]) = some (.mk k n s l) := by
  rcases hy with ⟨rfl, rfl⟩ | ⟨kk, rfl⟩
  · simp only [decVs, Option.some.injEq] at hl; subst hl; rfl
  · simp only [decV, hl, decide_eq_true hb]
theorem dec_dead {a : AV} {v : V} (h : decV a = some v) : decV (deaden a) = some v := (dec_facts v a h).1
theorem dec_pure {a : AV} {v : V} (h : decV a = some v) : pureV a = true := (dec_facts v a h).2
theorem decs_dead {a : List AV} {v : List V} (h : decVs a = some v) : decVs (deadens a) = some v := (decs_facts v a h).1
theorem decs_pure {a : List AV} {v : List V} (h : decVs a = some v) : pureVs a = true := (decs_facts v a h).2
theorem dec_flat2 {cs : List AV} {v : V} (h : decV (.agg cs) = some v) : cs.all isFlat = true := by
  obtain ⟨cs2, e, _, h2⟩ := dec_flat h; cases e; exact h2
theorem decs_flat : ∀ {xs : List AV} {l : List V}, decVs xs = some l → (xs.flatMap cellsOf).all isFlat = true
  | [], _, _ => rfl
  | y :: ys, l, h => by
    simp only [decVs] at h
    split at h
    · rename_i v' l' hv hl
      obtain ⟨cs, rfl, _, h2⟩ := dec_flat hv
      rw [List.flatMap_cons, List.all_append, decs_flat hl]
      simpa [cellsOf] using h2
    · cases h
theorem len_le_sz : ∀ l : List V, l.length ≤ szVs l
  | [] => Nat.le_refl _
  | .mk k n s l' :: l => by
    have := len_le_sz l
    simp only [List.length_cons, szVs, szV]; omega
theorem szVs_set : ∀ {l : List V} {i : Nat} {w : V} (hi : i < l.length), szVs (l.set i w) + szV l[i] = szVs l + szV w
  | v :: l, 0, w, hi => by simp only [List.set_cons_zero, szVs, List.getElem_cons_zero]; omega
  | v :: l, i + 1, w, hi => by
    have := szVs_set (l := l) (i := i) (w := w) (by simpa using hi)
    simp only [List.set_cons_succ, szVs, List.getElem_cons_succ]; omega
theorem decs_set : ∀ {xs : List AV} {l : List V} {i : Nat} {x : AV} {w : V}, decVs xs = some l → decV x = some w → decVs (xs.set i x) = some (l.set i w)
  | [], l, i, x, w, h, _ => by simp only [decVs, Option.some.injEq] at h; subst h; rfl
  | y :: ys, l, 0, x, w, h, hx => by
    simp only [decVs] at h
    split at h
    · rename_i v' l' hv hl
      cases h
      simp only [List.set_cons_zero, decVs, hx, hl]
    · cases h
  | y :: ys, l, i + 1, x, w, h, hx => by
    simp only [decVs] at h
    split at h
    · rename_i v' l' hv hl
      cases h
      have := decs_set (i := i) hl hx
      simp only [List.set_cons_succ, decVs, hv, this]
    · cases h
end Go.Am
