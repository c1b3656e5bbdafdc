/- The values seat: what the generator makes. -/
import Derived.Test.YtmbkcjnjjlkidaaGreatDoorPValid
set_option linter.all false
namespace Go.Am.Tryz
open Go.Proofs Go.Am

theorem neI_lit {a : Int} (h : a ≠ 0) {ρ : Type} {t : Option ρ} : chk (neI a 0) t = t := by
  have : neI a 0 = true := by simpa [neI] using h
  rw [this]; rfl

theorem next_ok {n : Nat} (hn : 1 ≤ n) {l : List Int} {a : Int} (h0 : 0 ≤ a) (h1 : a < 4611686018427387904) {m : Int} (hm : m < 4611686018427387904) : ∃ k : Int, next n l a m = some (k, (l, a + 1)) ∧ 0 ≤ k ∧ (k = 0 ∨ k < m) := by
  obtain ⟨n, rfl⟩ : ∃ q, n = q + 1 := ⟨n - 1, by omega⟩
  rw [next_eq, addI_ok (by omega) (by omega)]
  cases hg : geI a (lenL l) with
  | true => exact ⟨0, rfl, by omega, .inl rfl⟩
  | false =>
    cases hl : ltI m 2 with
    | true => exact ⟨0, rfl, by omega, .inl rfl⟩
    | false =>
      have hlt : a < lenL l := by simpa [geI] using hg
      have hm2 : 2 ≤ m := by simpa [ltI] using hl
      have hlen : lenL l = (l.length : Int) := rfl
      obtain ⟨i, rfl⟩ : ∃ i : Nat, a = (i : Int) := ⟨a.toNat, by omega⟩
      have hi : i < l.length := by omega
      rw [brB_f, brB_f, atL_nat, List.getElem?_eq_getElem hi, bindO_s, neI_lit (by omega)]
      have h2 : remI l[i] m < m := by unfold remI; have := Int.tmod_lt_of_pos l[i] (show 0 < m by omega); exact this
      have h3 : -m < remI l[i] m := by unfold remI; have := Int.lt_tmod_of_pos l[i] (show 0 < m by omega); exact this
      cases hr : ltI (remI l[i] m) 0 with
      | true =>
        have : remI l[i] m < 0 := by simpa [ltI] using hr
        rw [brB_t, addI_ok (by omega) (by omega)]
        exact ⟨_, rfl, by omega, .inr (by omega)⟩
      | false =>
        have : ¬ remI l[i] m < 0 := by simpa [ltI] using hr
        exact ⟨_, rfl, by omega, .inr h2⟩

theorem atL_lt {α : Type} {xs : List α} {k : Int} (h0 : 0 ≤ k) (h1 : k < xs.length) : ∃ x ∈ xs, atL xs k = some x := by
  obtain ⟨i, rfl⟩ : ∃ i : Nat, k = (i : Int) := ⟨k.toNat, by omega⟩
  have hi : i < xs.length := by omega
  exact ⟨xs[i], List.getElem_mem hi, by rw [atL_nat, List.getElem?_eq_getElem hi]⟩

theorem room_ok' {a b : Nat} (h : a + b ≤ 1000000) : room 56 (Nat.add a b) = true := by
  simp only [room, Bool.and_eq_true, decide_eq_true_eq]
  show (a + b) * 56 ≤ 2 ^ 47 ∧ a + b < 2 ^ 62
  omega

/-- Some value is made, with a size that is small. -/
def gsize : Nat → Nat
  | 0 => 1
  | d + 1 => 1 + 3 * gsize d
def gcost : Nat → Int
  | 0 => 6
  | d + 1 => 6 + 3 * gcost d
theorem gcost_pos : ∀ d, 6 ≤ gcost d
  | 0 => by simp [gcost]
  | d + 1 => by have := gcost_pos d; simp only [gcost]; omega
theorem gsize_pos : ∀ d, 1 ≤ gsize d
  | 0 => by simp [gsize]
  | d + 1 => by simp only [gsize]; omega

/-- What a call for a value answers. -/
def VOut (l : List Int) (a : Int) (d : Nat) (r : Option (V × List Int × Int)) : Prop := ∃ v a', r = some (v, (l, a')) ∧ szV v ≤ gsize d ∧ a ≤ a' ∧ a' ≤ a + gcost d

theorem VOut.leaf {l : List Int} {a a' : Int} {d : Nat} {k n : Int} {s : ByteArray} (h1 : a ≤ a') (h2 : a' ≤ a + 6) : VOut l a d (some (V.mk k n s [], (l, a'))) :=
  ⟨_, _, rfl, by simp only [szV, szVs]; exact gsize_pos d, h1, by have := gcost_pos d; omega⟩

theorem leaf0 {n : Nat} (hn : 1 ≤ n) {l : List Int} {a a0 : Int} {d : Nat} (h0 : 0 ≤ a0) (ha : a = a0 + 1) (h1 : a0 < 1000000000) : VOut l a0 d (
    bindO (next n l a 5) fun r_1 =>
    bindO (next n ((r_1.2).1) ((r_1.2).2) 100) fun r_2 =>
    bindO (next n ((r_2.2).1) ((r_2.2).2) 7) fun r_3 =>
    bindO (atL [0, 0, 0, 1, 1, 2, 3] (r_3.1)) fun r_4 =>
    bindO (atL [(r_1.1), (subI IntKind.i64 (r_2.1) 50), 9223372036854775807, (-9223372036854775808)] r_4) fun r_5 =>
    some ((V.mk 0 r_5 (nmB []) ([] : List V)), (((r_3.2).1), ((r_3.2).2)))) := by
  obtain ⟨k1, e1, b1, c1⟩ := next_ok hn (l := l) (a := a) (m := 5) (by omega) (by omega) (by omega)
  rw [e1, bindO_s]
  obtain ⟨k2, e2, b2, c2⟩ := next_ok hn (l := l) (a := a + 1) (m := 100) (by omega) (by omega) (by omega)
  simp only []
  rw [e2, bindO_s]
  obtain ⟨k3, e3, b3, c3⟩ := next_ok hn (l := l) (a := a + 1 + 1) (m := 7) (by omega) (by omega) (by omega)
  simp only []
  rw [e3, bindO_s]
  obtain ⟨x, hx, e4⟩ := atL_lt (xs := ([0, 0, 0, 1, 1, 2, 3] : List Int)) (k := k3) b3 (by simp; omega)
  simp only []
  rw [e4, bindO_s]
  have hx4 : 0 ≤ x ∧ x < 4 := by
    simp only [List.mem_cons, List.not_mem_nil, or_false] at hx
    omega
  obtain ⟨y, _, e5⟩ := atL_lt (xs := [k1, subI .i64 k2 50, 9223372036854775807, (-9223372036854775808)]) (k := x) hx4.1 (by simp; omega)
  rw [e5, bindO_s]
  exact .leaf (by omega) (by omega)

theorem leaf1 {n : Nat} (hn : 1 ≤ n) {l : List Int} {a a0 : Int} {d : Nat} (h0 : 0 ≤ a0) (ha : a = a0 + 1) (h1 : a0 < 1000000000) : VOut l a0 d (
    bindO (next n l a 2) fun r_1 =>
    some ((V.mk 1 (r_1.1) (nmB []) ([] : List V)), (((r_1.2).1), ((r_1.2).2)))) := by
  obtain ⟨k1, e1, b1, c1⟩ := next_ok hn (l := l) (a := a) (m := 2) (by omega) (by omega) (by omega)
  rw [e1, bindO_s]
  simp only []
  exact .leaf (by omega) (by omega)

theorem leaf3 {n : Nat} (hn : 1 ≤ n) {l : List Int} {a a0 : Int} {d : Nat} (h0 : 0 ≤ a0) (ha : a = a0 + 1) (h1 : a0 < 1000000000) : VOut l a0 d (
    bindO (next n l a 4) fun r_1 =>
    bindO (atL [(nmB [76, 101, 97, 102]), (nmB [65]), (nmB [69, 109, 112, 116, 121]), (nmB [66, 95, 50])] (r_1.1)) fun r_2 =>
    some ((V.mk 3 0 r_2 ([] : List V)), (((r_1.2).1), ((r_1.2).2)))) := by
  obtain ⟨k1, e1, b1, c1⟩ := next_ok hn (l := l) (a := a) (m := 4) (by omega) (by omega) (by omega)
  rw [e1, bindO_s]
  obtain ⟨y, _, e5⟩ := atL_lt (xs := [(nmB [76, 101, 97, 102]), (nmB [65]), (nmB [69, 109, 112, 116, 121]), (nmB [66, 95, 50])]) (k := k1) b1 (by simp; omega)
  simp only []
  rw [e5, bindO_s]
  exact .leaf (by omega) (by omega)

theorem szVs_append (a b : List V) : szVs (a ++ b) = szVs a + szVs b := by
  induction a with
  | nil => simp [szVs]
  | cons v a ih => simp only [List.cons_append, szVs, ih]; omega

/-- The loop over the kids. -/
theorem kids_loop {n : Nat} {l : List Int} {d : Nat} {v2 v3 : Int} {v4 : ByteArray} {v5 v6 : Int} {v7 : ByteArray} {q B : Int} (hB : B < 900000000) (hd : d ≤ 9) (hq : q ≤ 3) (hq0 : 0 ≤ q) (hv : ∀ a : Int, 0 ≤ a → a < B → VOut l a d (value n l a d)) :
    ∀ (k i : Nat) (a : Int) (ks : List V), (4 : Nat) ≤ i + k → (i : Int) ≤ q → 0 ≤ a → a + (3 - i) * gcost d < B → ks.length = i → szVs ks ≤ i * gsize d →
    ∃ v a', Lvalue_2042 n k l a v2 v3 v4 v5 v6 v7 ks ((d + 1 : Nat) : Int) q i = some (v, (l, a')) ∧ szV v ≤ 1 + 3 * gsize d ∧ a ≤ a' ∧ a' ≤ a + (3 - i) * gcost d := by
  intro k
  induction k with
  | zero => intro i a ks h1 h2; omega
  | succ k ih =>
    intro i a ks h1 h2 h3 h4 h5 h6
    have hc := gcost_pos d
    rw [Lvalue_2042_eq]
    by_cases hi : (i : Int) < q
    · have hlt : ltI (i : Int) q = true := by simpa [ltI] using hi
      have hi3 : (i : Int) ≤ 2 := by omega
      have hmul : (3 - (i : Int)) * gcost d = gcost d + (3 - ((i + 1 : Nat) : Int)) * gcost d := by
        rw [show (3 - (i : Int)) = 1 + (3 - ((i + 1 : Nat) : Int)) by omega, Int.add_mul, Int.one_mul]
      have hnn : 0 ≤ (3 - ((i + 1 : Nat) : Int)) * gcost d := Int.mul_nonneg (by omega) (by omega)
      rw [hlt, brB_t, subI_ok (by omega) (by omega), show ((d + 1 : Nat) : Int) - 1 = (d : Int) by omega]
      obtain ⟨v, a', e1, e2, e3, e4⟩ := hv a h3 (by omega)
      rw [e1, bindO_s]
      simp only [lenN, List.length_singleton]
      rw [room_ok' (by omega), chk_t, succI (by omega)]
      obtain ⟨w, a2, f1, f2, f3, f4⟩ := ih (i + 1) a' (catL ks [v]) (by omega) (by omega) (by omega) (by omega) (by simp [catL, h5]) (by
        rw [catL, szVs_append, Nat.succ_mul]
        simp only [szVs]; omega)
      exact ⟨w, a2, f1, f2, by omega, by omega⟩
    · have hlt : ltI (i : Int) q = false := by simpa [ltI] using hi
      have hnn : 0 ≤ (3 - (i : Int)) * gcost d := Int.mul_nonneg (by omega) (by omega)
      rw [hlt, brB_f]
      refine ⟨_, a, rfl, ?_, by omega, by omega⟩
      have : i * gsize d ≤ 3 * gsize d := Nat.mul_le_mul_right _ (by omega)
      simp only [szV]; omega

theorem eqI_t {a b : Int} (h : a = b) : eqI a b = true := by simpa [eqI] using h
theorem eqI_f {a b : Int} (h : a ≠ b) : eqI a b = false := by simpa [eqI] using h

theorem value_ok : ∀ (d : Nat), d ≤ 3 → ∀ (n : Nat), d + 6 ≤ n → ∀ (l : List Int) (a : Int), 0 ≤ a → a < 900000000 - 20 * gcost d → VOut l a d (value n l a d) := by
  intro d
  induction d with
  | zero =>
    intro _ n hn l a h0 h1
    have hc : gcost 0 = 6 := rfl
    obtain ⟨n, rfl⟩ : ∃ m, n = m + 1 := ⟨n - 1, by omega⟩
    obtain ⟨k, e1, b1, c1⟩ := next_ok (n := n) (by omega) (l := l) (a := a) (m := 7) h0 (by omega) (by omega)
    rw [value_eq, e1, bindO_s]
    simp only []
    rw [eqI_t (show ((0 : Nat) : Int) = 0 from rfl), brB_t, neI_lit (by omega)]
    have hk : remI k 4 = 0 ∨ remI k 4 = 1 ∨ remI k 4 = 2 ∨ remI k 4 = 3 := by
      unfold remI
      rw [Int.tmod_eq_emod_of_nonneg b1]
      omega
    rcases hk with e | e | e | e <;> rw [e]
    · simp only [eqI_t, brB_t]
      exact leaf0 (by omega) h0 rfl (by omega)
    · rw [eqI_f (by omega), brB_f, eqI_t rfl, brB_t]
      exact leaf0 (by omega) h0 rfl (by omega)
    · rw [eqI_f (by omega), brB_f, eqI_f (by omega), brB_f, eqI_t rfl, brB_t]
      exact leaf1 (by omega) h0 rfl (by omega)
    · rw [eqI_f (by omega), brB_f, eqI_f (by omega), brB_f, eqI_f (by omega), brB_f, eqI_t rfl, brB_t]
      exact leaf3 (by omega) h0 rfl (by omega)
  | succ d ih =>
    intro hd n hn l a h0 h1
    have hc := gcost_pos d
    have hc1 : gcost (d + 1) = 6 + 3 * gcost d := rfl
    obtain ⟨n, rfl⟩ : ∃ m, n = m + 1 := ⟨n - 1, by omega⟩
    obtain ⟨k, e1, b1, c1⟩ := next_ok (n := n) (by omega) (l := l) (a := a) (m := 7) h0 (by omega) (by omega)
    rw [value_eq, e1, bindO_s]
    simp only []
    rw [eqI_f (show ((d + 1 : Nat) : Int) ≠ 0 by omega), brB_f]
    have hloop : ∀ {v2 v3 : Int} {v4 : ByteArray} {v5 v6 : Int} {v7 : ByteArray} {q : Int} {a' : Int}, a ≤ a' → a' ≤ a + 3 → 0 ≤ q → q ≤ 3 → VOut l a (d + 1) (Lvalue_2042 n n l a' v2 v3 v4 v5 v6 v7 ([] : List V) ((d + 1 : Nat) : Int) q 0) := by
      intro v2 v3 v4 v5 v6 v7 q a' g1 g2 g3 g4
      obtain ⟨v, a2, f1, f2, f3, f4⟩ := kids_loop (n := n) (l := l) (d := d) (v2 := v2) (v3 := v3) (v4 := v4) (v5 := v5) (v6 := v6) (v7 := v7) (B := 900000000 - 20 * gcost d) (by omega) (by omega) g4 g3 (fun a ha hb => ih (by omega) n (by omega) l a ha hb) n 0 a' [] (by omega) (by omega) (by omega) (by omega) rfl (by simp [szVs])
      exact ⟨v, a2, f1, f2, by omega, by rw [hc1]; omega⟩
    by_cases k0 : k = 0
    · subst k0
      simp only [eqI_t, brB_t]
      exact leaf0 (by omega) h0 rfl (by omega)
    rw [eqI_f k0, brB_f]
    by_cases k1 : k = 1
    · subst k1
      rw [eqI_t rfl, brB_t]
      exact leaf0 (by omega) h0 rfl (by omega)
    rw [eqI_f k1, brB_f]
    by_cases k2 : k = 2
    · subst k2
      rw [eqI_t rfl, brB_t]
      exact leaf1 (by omega) h0 rfl (by omega)
    rw [eqI_f k2, brB_f]
    by_cases k3 : k = 3
    · subst k3
      rw [eqI_t rfl, brB_t]
      exact leaf3 (by omega) h0 rfl (by omega)
    rw [eqI_f k3, brB_f]
    by_cases k6 : k = 6
    · subst k6
      rw [eqI_t rfl, brB_t]
      obtain ⟨q1, e2, b2, c2⟩ := next_ok (n := n) (by omega) (l := l) (a := a + 1) (m := 3) (by omega) (by omega) (by omega)
      rw [e2, bindO_s]
      obtain ⟨x, _, e3⟩ := atL_lt (xs := [(nmB [70, 111, 114, 107]), (nmB [65]), (nmB [90, 122])]) (k := q1) b2 (by simp; omega)
      simp only []
      rw [e3, bindO_s]
      obtain ⟨q2, e4, b4, c4⟩ := next_ok (n := n) (by omega) (l := l) (a := a + 1 + 1) (m := 4) (by omega) (by omega) (by omega)
      rw [e4, bindO_s]
      simp only []
      exact hloop (by omega) (by omega) b4 (by omega)
    · rw [eqI_f k6, brB_f]
      obtain ⟨q2, e4, b4, c4⟩ := next_ok (n := n) (by omega) (l := l) (a := a + 1) (m := 4) (by omega) (by omega) (by omega)
      rw [e4, bindO_s]
      simp only []
      exact hloop (by omega) (by omega) b4 (by omega)

theorem many_loop (n : Nat) {m : Int} (hm : m ≤ 1000) : ∀ (k i : Nat) (ks : List V), 1 ≤ k → m < i + k → ks.length = i → szVs ks = i → i ≤ 1000 → ∃ l : List V, Lmany_58 n k m ks i = some l ∧ szVs l ≤ 1000 := by
  intro k
  induction k with
  | zero =>
    intro i ks h0
    omega
  | succ k ih =>
    intro i ks h0 h1 h2 h3 h4
    rw [Lmany_58_eq]
    by_cases hi : (i : Int) < m
    · have hlt : ltI (i : Int) m = true := by simpa [ltI] using hi
      rw [hlt, brB_t, neI_lit (by omega)]
      simp only [lenN, List.length_singleton]
      rw [room_ok' (by omega), chk_t, succI (by omega)]
      exact ih (i + 1) _ (by omega) (by omega) (by simp [catL, h2]) (by rw [catL, szVs_append, h3]; simp [szVs, szV]) (by omega)
    · have hlt : ltI (i : Int) m = false := by simpa [ltI] using hi
      rw [hlt, brB_f]
      exact ⟨ks, rfl, by omega⟩

theorem many_ok {n : Nat} (hn : 1100 ≤ n) {m : Int} (hm : m ≤ 1000) : ∃ l : List V, many n m = some l ∧ szVs l ≤ 1000 := by
  obtain ⟨n, rfl⟩ : ∃ q, n = q + 1 := ⟨n - 1, by omega⟩
  rw [many_eq]
  exact many_loop n hm n 0 [] (by omega) (by omega) rfl rfl (by omega)

theorem szVs_set {l : List V} {i : Nat} {w : V} (h : i < l.length) : szVs (l.set i w) + szV l[i] = szVs l + szV w := by
  induction l generalizing i with
  | nil => simp at h
  | cons v l ih =>
    cases i with
    | zero => simp only [List.set_cons_zero, szVs, List.getElem_cons_zero]; omega
    | succ i =>
      simp only [List.set_cons_succ, szVs, List.getElem_cons_succ]
      have := ih (i := i) (by simpa using h)
      omega

/-- A value of which one part may be changed is still small. -/
def BOut (v : V) (r : Option V) : Prop := ∃ w, r = some w ∧ szV w ≤ 2 * szV v + 5000

theorem bent7 {n : Nat} (hn : 1200 ≤ n) (v : V) (by_ : Int) {q : Int} (hs : szV v < 100000) : BOut v (
    brB (eqI q 0)
      (some (V.mk by_ (V.n v) (V.s v) (V.kids v)))
      (brB (eqI q 1)
        (some (V.mk (V.kind v) by_ (V.s v) (V.kids v)))
        (brB (eqI q 2)
          (bindO (next n [by_] 0 7) fun r_1 =>
          bindO (atL [(nmB []), (nmB [97]), (nmB [90]), (nmB [65, 66, 67, 68, 69, 70, 71, 72, 73, 74, 75, 76, 77, 78, 79, 80]), (nmB [65, 66, 67, 68, 69, 70, 71, 72, 73, 74, 75, 76, 77, 78, 79, 80, 81]), (nmB [65, 45]), (nmB [65, 98, 57, 95])] (r_1.1)) fun r_2 =>
          some (V.mk (V.kind v) (V.n v) r_2 (V.kids v)))
          (brB (eqI q 3)
            (chk (room 56 (Nat.add (lenN [(V.mk 0 by_ (nmB []) ([] : List V))]) (lenN (V.kids v))))
              (some (V.mk (V.kind v) (V.n v) (V.s v) (catL [(V.mk 0 by_ (nmB []) ([] : List V))] (V.kids v)))))
            (brB (eqI q 4)
              (bindO (next n [by_] 0 6) fun r_1 =>
              bindO (many n (addI IntKind.i64 253 (r_1.1))) fun r_2 =>
              some (V.mk 2 0 (nmB []) r_2))
              (brB (eqI q 5)
                (bindO (next n [by_] 0 5) fun r_1 =>
                bindO (many n (addI IntKind.i64 14 (r_1.1))) fun r_2 =>
                some (V.mk 3 0 (nmB [77]) r_2))
                (bindO (many n 250) fun r_1 =>
                bindO (many n 255) fun r_2 =>
                bindO (many n 256) fun r_3 =>
                bindO (next n [by_] 0 5) fun r_4 =>
                bindO (many n (addI IntKind.i64 252 (r_4.1))) fun r_5 =>
                some (V.mk 2 0 (nmB []) [(V.mk 2 0 (nmB []) r_1), (V.mk 2 0 (nmB []) r_2), (V.mk 2 0 (nmB []) r_3), (V.mk 2 0 (nmB []) r_5), (V.mk 0 by_ (nmB []) ([] : List V)), (V.mk 0 1 (nmB []) ([] : List V))])))))))) := by
  have hk := szV_kids v
  have hlen := szVs_len v.kids
  cases eqI q 0 with
  | true => exact ⟨_, rfl, by simp only [szV]; omega⟩
  | false =>
  rw [brB_f]
  cases eqI q 1 with
  | true => exact ⟨_, rfl, by simp only [szV]; omega⟩
  | false =>
  rw [brB_f]
  cases eqI q 2 with
  | true =>
    rw [brB_t]
    obtain ⟨k, e1, b1, c1⟩ := next_ok (n := n) (by omega) (l := [by_]) (a := 0) (m := 7) (by omega) (by omega) (by omega)
    rw [e1, bindO_s]
    obtain ⟨x, _, e2⟩ := atL_lt (xs := [(nmB []), (nmB [97]), (nmB [90]), (nmB [65, 66, 67, 68, 69, 70, 71, 72, 73, 74, 75, 76, 77, 78, 79, 80]), (nmB [65, 66, 67, 68, 69, 70, 71, 72, 73, 74, 75, 76, 77, 78, 79, 80, 81]), (nmB [65, 45]), (nmB [65, 98, 57, 95])]) (k := k) b1 (by simp; omega)
    simp only []
    rw [e2, bindO_s]
    exact ⟨_, rfl, by simp only [szV]; omega⟩
  | false =>
  rw [brB_f]
  cases eqI q 3 with
  | true =>
    rw [brB_t]
    simp only [lenN, List.length_singleton]
    rw [room_ok' (by omega), chk_t]
    exact ⟨_, rfl, by simp only [szV, catL, szVs_append, szVs]; omega⟩
  | false =>
  rw [brB_f]
  cases eqI q 4 with
  | true =>
    rw [brB_t]
    obtain ⟨k, e1, b1, c1⟩ := next_ok (n := n) (by omega) (l := [by_]) (a := 0) (m := 6) (by omega) (by omega) (by omega)
    rw [e1, bindO_s]
    simp only []
    rw [addI_ok (by omega) (by omega)]
    obtain ⟨x, e2, h2⟩ := many_ok (n := n) (by omega) (m := 253 + k) (by omega)
    rw [e2, bindO_s]
    exact ⟨_, rfl, by simp only [szV]; omega⟩
  | false =>
  rw [brB_f]
  cases eqI q 5 with
  | true =>
    rw [brB_t]
    obtain ⟨k, e1, b1, c1⟩ := next_ok (n := n) (by omega) (l := [by_]) (a := 0) (m := 5) (by omega) (by omega) (by omega)
    rw [e1, bindO_s]
    simp only []
    rw [addI_ok (by omega) (by omega)]
    obtain ⟨x, e2, h2⟩ := many_ok (n := n) (by omega) (m := 14 + k) (by omega)
    rw [e2, bindO_s]
    exact ⟨_, rfl, by simp only [szV]; omega⟩
  | false =>
  rw [brB_f]
  obtain ⟨x1, e1, h1⟩ := many_ok (n := n) (by omega) (m := 250) (by omega)
  obtain ⟨x2, e2, h2⟩ := many_ok (n := n) (by omega) (m := 255) (by omega)
  obtain ⟨x3, e3, h3⟩ := many_ok (n := n) (by omega) (m := 256) (by omega)
  obtain ⟨k, e4, b4, c4⟩ := next_ok (n := n) (by omega) (l := [by_]) (a := 0) (m := 5) (by omega) (by omega) (by omega)
  rw [e1, bindO_s, e2, bindO_s, e3, bindO_s, e4, bindO_s]
  simp only []
  rw [addI_ok (by omega) (by omega)]
  obtain ⟨x5, e5, h5⟩ := many_ok (n := n) (by omega) (m := 252 + k) (by omega)
  rw [e5, bindO_s]
  exact ⟨_, rfl, by simp only [szV, szVs]; omega⟩

theorem bent_ok : ∀ (N : Nat) (v : V), szV v ≤ N → N < 100000 → ∀ n, szV v + 1300 ≤ n → ∀ (which by_ : Int), BOut v (bent n v which by_) := by
  intro N
  induction N with
  | zero => intro v h; have := szV_kids v; omega
  | succ N ih =>
    intro v h hN n hn which by_
    have hsz := szV_kids v
    have hlen := szVs_len v.kids
    obtain ⟨n, rfl⟩ : ∃ q, n = q + 1 := ⟨n - 1, by omega⟩
    rw [bent_eq, neI_lit (by omega), neI_lit (by omega)]
    cases hg : gtI (lenL v.kids) 0 with
    | false =>
      rw [brB_f]
      obtain ⟨k, e1, b1, c1⟩ := next_ok (n := n) (by omega) (l := [which, (quoI IntKind.i64 which 7), (quoI IntKind.i64 which 49)]) (a := 0) (m := 7) (by omega) (by omega) (by omega)
      rw [e1, bindO_s]
      exact bent7 (by omega) v by_ (by omega)
    | true =>
      rw [brB_t]
      obtain ⟨k, e1, b1, c1⟩ := next_ok (n := n) (by omega) (l := [which, (quoI IntKind.i64 which 7), (quoI IntKind.i64 which 49)]) (a := 0) (m := 2) (by omega) (by omega) (by omega)
      rw [e1, bindO_s]
      simp only []
      cases eqI k 0 with
      | false =>
        rw [brB_f]
        obtain ⟨k, e1, b1, c1⟩ := next_ok (n := n) (by omega) (l := [which, (quoI IntKind.i64 which 7), (quoI IntKind.i64 which 49)]) (a := 0 + 1) (m := 7) (by omega) (by omega) (by omega)
        rw [e1, bindO_s]
        exact bent7 (by omega) v by_ (by omega)
      | true =>
        rw [brB_t]
        have hpos : 0 < v.kids.length := by
          have : lenL v.kids > 0 := by simpa [gtI] using hg
          have h2 : lenL v.kids = (v.kids.length : Int) := rfl
          omega
        obtain ⟨q, e2, b2, c2⟩ := next_ok (n := n) (by omega) (l := [which, (quoI IntKind.i64 which 7), (quoI IntKind.i64 which 49)]) (a := 0 + 1) (m := lenL v.kids) (by omega) (by omega) (by show (v.kids.length : Int) < _; omega)
        rw [e2, bindO_s]
        have hnil : nilL v.kids = false := by
          cases hv : v.kids with
          | nil => rw [hv] at hpos; simp at hpos
          | cons => rfl
        simp only []
        rw [hnil, brB_f]
        simp only [lenN, List.length_nil, catL, List.nil_append]
        rw [room_ok' (by omega), chk_t]
        obtain ⟨i, rfl⟩ : ∃ i : Nat, q = (i : Int) := ⟨q.toNat, by omega⟩
        have hi : i < v.kids.length := by
          have h2 : lenL v.kids = (v.kids.length : Int) := rfl
          omega
        have hr : inR (i : Int) v.kids.length = true := by simp [inR, hi]
        have ha : atN v.kids (addN 0 (posN (i : Int))) = some v.kids[i] := by
          simp only [atN, addN, posN, Int.toNat_natCast, Nat.zero_add]
          exact List.getElem?_eq_getElem hi
        have hm := szVs_mem (List.getElem_mem hi)
        obtain ⟨w, e3, h3⟩ := ih v.kids[i] (by omega) (by omega) n (by omega) (quoI IntKind.i64 which 4) by_
        have hst := szVs_set (l := v.kids) (i := i) (w := w) hi
        simp only [hr, chk_t, ha, bindO_s, e3]
        rw [neI_lit (by omega)]
        have hl : andB (eqN 0 0) (eqN v.kids.length (setL v.kids (addN 0 (posN (i : Int))) w).length) = true := by
          simp only [setL, List.length_set, andB, eqN, Nat.beq_refl, Bool.and_self]
        rw [hl, chk_t]
        refine ⟨_, rfl, ?_⟩
        simp only [szV, setL, addN, posN, Int.toNat_natCast, Nat.zero_add]
        omega

theorem some_ok {n : Nat} (hn : 10000 ≤ n) (l : List Int) (b by_ : Int) : ∃ v, some_ n l b by_ = some v ∧ szV v ≤ 10000 := by
  obtain ⟨n, rfl⟩ : ∃ q, n = q + 1 := ⟨n - 1, by omega⟩
  have h3 : gcost 3 = 240 := rfl
  have g3 : gsize 3 = 40 := rfl
  obtain ⟨v, a', e1, h1, _⟩ := value_ok 3 (by omega) n (by omega) l 0 (by omega) (by omega)
  rw [some__eq, show (3 : Int) = ((3 : Nat) : Int) from rfl, e1, bindO_s]
  simp only [V.re_eq]
  cases gtI b 0 with
  | false => exact ⟨v, rfl, by omega⟩
  | true =>
    obtain ⟨w, e2, h2⟩ := bent_ok _ v (Nat.le_refl _) (by omega) n (by omega) b by_
    rw [brB_t, e2, bindO_s]
    exact ⟨w, rfl, by omega⟩

theorem law_loop {n : Nat} (hn : 300000 ≤ n) {vs : List V} (h3 : vs.length = 3) (hv : ∀ v ∈ vs, szV v ≤ 50000) (hl : xlives n = some true) : ∀ (k i : Nat), 4 ≤ i + k → i ≤ 3 → LlawValid_58 n k vs i = some true := by
  intro k
  induction k with
  | zero => intro i h1 h2; omega
  | succ k ih =>
    intro i h1 h2
    rw [LlawValid_58_eq]
    by_cases hi : i < 3
    · have hlt : ltI (i : Int) 3 = true := by simp [ltI]; omega
      have hi' : i < vs.length := by omega
      have hs := hv _ (List.getElem_mem hi')
      obtain ⟨r, e1, e2⟩ := valid_same (v := vs[i]) (by omega) (n := n) (by omega)
      have ne : ∀ a : Int, neI a a = false := fun a => by simp [neI]
      simp only [hlt, brB_t, atL_nat, List.getElem?_eq_getElem hi', bindO_s, e1, e2, ne, brB_f, size_ok (v := vs[i]) (by omega) (n := n) (by omega), rsize_ok _ vs[i] (Nat.le_refl _) (by omega) n (by omega),
        depth_ok _ vs[i] (Nat.le_refl _) (by omega) n (by omega), rdepth_ok _ vs[i] (Nat.le_refl _) (by omega) n (by omega)]
      rw [succI (by omega)]
      exact ih (i + 1) (by omega) (by omega)
    · have hlt : ltI (i : Int) 3 = false := by simp [ltI]; omega
      rw [hlt, brB_f, hl, bindO_s]

/-- The law, in plain words. -/
theorem lawValid_true (hl : ∀ n, 1 ≤ n → xlives n = some true) (l : List Int) (b by_ twice : Int) : lawValid 400001 l b by_ twice = some true := by
  rw [lawValid_eq]
  obtain ⟨v1, e1, h1⟩ := some_ok (n := 400000) (by omega) l 0 0
  obtain ⟨v2, e2, h2⟩ := some_ok (n := 400000) (by omega) l b by_
  obtain ⟨v3, e3, h3⟩ := bent_ok _ v2 (Nat.le_refl _) (by omega) 400000 (by omega) twice (quoI IntKind.i64 by_ 3)
  rw [e1, bindO_s, e2, bindO_s, bindO_s, neI_lit (by omega), e3, bindO_s]
  exact law_loop (by omega) rfl (fun v hv => by
    simp only [List.mem_cons, List.not_mem_nil, or_false] at hv
    rcases hv with rfl | rfl | rfl <;> omega) (hl _ (by omega)) 400000 0 (by omega) (by omega)
end Go.Am.Tryz
