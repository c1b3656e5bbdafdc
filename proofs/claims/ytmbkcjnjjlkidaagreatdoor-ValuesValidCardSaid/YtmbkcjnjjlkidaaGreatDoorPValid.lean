/- The values seat: the plain law of ValuesValid. -/
import Derived.Test.YtmbkcjnjjlkidaaGreatDoorXSeatEq
set_option linter.all false
namespace Go.Am.Tryz
open Go.Proofs Go.Am

theorem brB_t {ρ : Type} {t e : Option ρ} : brB true t e = t := rfl
theorem brB_f {ρ : Type} {t e : Option ρ} : brB false t e = e := rfl
theorem chk_t {ρ : Type} {t : Option ρ} : chk true t = t := rfl
theorem bindO_s {α ρ : Type} {x : α} {K : α → Option ρ} : bindO (some x) K = K x := rfl
theorem brB_ite {ρ : Type} {c : Bool} {t e : Option ρ} : brB c t e = if c = true then t else e := by cases c <;> rfl
theorem atL_nat {α : Type} (xs : List α) (i : Nat) : atL xs (i : Int) = xs[i]? := by
  unfold atL
  rw [show decide (0 ≤ (i : Int)) = true by simp]
  rfl
theorem atS_nat (s : ByteArray) (i : Nat) : atS s (i : Int) = (s[i]?).map fun b => (b.toNat : Int) := by
  unfold atS
  rw [if_pos (by omega)]
  simp only [Int.toNat_natCast]
  cases s[i]? <;> rfl
theorem addI_ok {a b : Int} (h0 : -9223372036854775808 ≤ a + b) (h1 : a + b < 9223372036854775808) : addI .i64 a b = a + b := by
  unfold addI
  exact IntWalk.i64_in _ (by omega)
theorem subI_ok {a b : Int} (h0 : -9223372036854775808 ≤ a - b) (h1 : a - b < 9223372036854775808) : subI .i64 a b = a - b := by
  unfold subI
  exact IntWalk.i64_in _ (by omega)
theorem succI {i : Nat} (h : i < 4611686018427387904) : addI .i64 (i : Int) 1 = ((i + 1 : Nat) : Int) := by
  rw [addI_ok (by omega) (by omega)]; rfl

/-! Names. -/
theorem capLoop (n : Nat) : ∀ (k : Nat) (s : ByteArray) (i : Int), Lcapital_58 n k s (lenS s) i = Lrcapital_58 n k s i := by
  intro k
  induction k with
  | zero => intro s i; rw [Lcapital_58_zero, Lrcapital_58_zero]
  | succ k ih =>
    intro s i
    rw [Lcapital_58_eq, Lrcapital_58_eq]
    congr 1
    cases atS s i with
    | none => rfl
    | some r =>
      simp only [bindO_s, ih]
      congr 1
      simp only [pickB, notB, neI, ltI, gtI, geI, leI]
      by_cases h1 : r = 95
      · subst h1; decide
      · have h2 : (r != 95) = true := by simpa using h1
        rw [h2]
        by_cases a1 : r < 48 <;> by_cases a2 : r > 57 <;> by_cases a3 : r < 97 <;> by_cases a4 : r > 122 <;> by_cases a5 : r < 65 <;> by_cases a6 : r > 90 <;>
          simp only [a1, a2, a3, a4, a5, a6, decide_true, decide_false] <;>
          (first
            | (exfalso; omega)
            | (rw [show decide (r ≥ 97) = !decide (r < 97) by by_cases r < 97 <;> simp_all <;> omega, show decide (r ≤ 122) = !decide (r > 122) by by_cases r > 122 <;> simp_all <;> omega, show decide (r ≥ 65) = !decide (r < 65) by by_cases r < 65 <;> simp_all <;> omega,
                show decide (r ≤ 90) = !decide (r > 90) by by_cases r > 90 <;> simp_all <;> omega, show decide (r ≥ 48) = !decide (r < 48) by by_cases r < 48 <;> simp_all <;> omega, show decide (r ≤ 57) = !decide (r > 57) by by_cases r > 57 <;> simp_all <;> omega]
               simp only [a1, a2, a3, a4, a5, a6, decide_true, decide_false]
               rfl))
theorem capEq (n : Nat) (s : ByteArray) : capital n s = rcapital n s := by
  cases n with
  | zero => rfl
  | succ n => rw [capital_eq, rcapital_eq, capLoop]

/-- Is a string a name? -/
noncomputable def capS (s : ByteArray) : Bool := (rcapital 20 s).getD false

theorem capLoop_some (s : ByteArray) (h16 : s.size ≤ 16) : ∀ (k i : Nat), s.size < i + k → i ≤ s.size → ∃ b, ∀ (n' k' : Nat), k ≤ k' → Lrcapital_58 n' k' s i = some b := by
  intro k
  induction k with
  | zero => intro i h1 h2; omega
  | succ k ih =>
    intro i h1 h2
    by_cases hi : i < s.size
    · obtain ⟨b, hb⟩ := ih (i + 1) (by omega) (by omega)
      have hx : s[i]? = some s[i] := by simp [hi]
      have hlt : ltI (i : Int) (lenS s) = true := by simp [ltI, lenS, hi]
      generalize hc : pickB (pickB (notB (pickB (pickB (geI (s[i].toNat : Int) 97) (leI (s[i].toNat : Int) 122) false) true (pickB (geI (s[i].toNat : Int) 65) (leI (s[i].toNat : Int) 90) false))) (notB (pickB (geI (s[i].toNat : Int) 48) (leI (s[i].toNat : Int) 57) false)) false) (neI (s[i].toNat : Int) 95) false = c
      refine ⟨if c = true then false else b, fun n' k' hk => ?_⟩
      obtain ⟨k', rfl⟩ : ∃ m, k' = m + 1 := ⟨k' - 1, by omega⟩
      rw [Lrcapital_58_eq, hlt, brB_t, atS_nat, hx]
      simp only [Option.map_some, bindO_s, hc]
      cases c with
      | true => rfl
      | false =>
        rw [brB_f, succI (by omega)]
        exact hb n' k' (by omega)
    · refine ⟨true, fun n' k' hk => ?_⟩
      obtain ⟨k', rfl⟩ : ∃ m, k' = m + 1 := ⟨k' - 1, by omega⟩
      have hlt : ltI (i : Int) (lenS s) = false := by simp [ltI, lenS]; omega
      rw [Lrcapital_58_eq, hlt, brB_f]

theorem rcap_ok {n : Nat} (hn : 20 ≤ n) (s : ByteArray) : rcapital n s = some (capS s) := by
  have key : ∃ b, ∀ n, 20 ≤ n → rcapital n s = some b := by
    by_cases h : pickB (ltI (lenS s) 1) true (gtI (lenS s) 16) = true
    · refine ⟨false, fun n hn => ?_⟩
      obtain ⟨m, rfl⟩ : ∃ m, n = m + 1 := ⟨n - 1, by omega⟩
      rw [rcapital_eq, h, brB_t]
    · have hs : 1 ≤ s.size ∧ s.size ≤ 16 := by
        simp only [pickB, ltI, gtI, lenS] at h
        by_cases h1 : (s.size : Int) < 1 <;> simp [h1] at h
        omega
      have h : pickB (ltI (lenS s) 1) true (gtI (lenS s) 16) = false := by simpa using h
      have hx : atS s 0 = some (s[0].toNat : Int) := by
        have := atS_nat s 0
        simpa [show 0 < s.size by omega] using this
      obtain ⟨b, hb⟩ := capLoop_some s hs.2 18 0 (by omega) (by omega)
      refine ⟨if ltI (s[0].toNat : Int) 65 = true then false else if gtI (s[0].toNat : Int) 90 = true then false else b, fun n hn => ?_⟩
      obtain ⟨m, rfl⟩ : ∃ m, n = m + 1 := ⟨n - 1, by omega⟩
      rw [rcapital_eq, h, brB_f, hx]
      simp only [bindO_s, brB_ite]
      have := hb m m (by omega)
      rw [show ((0 : Nat) : Int) = 0 from rfl] at this
      rw [this]
      split
      · rfl
      · split <;> rfl
  obtain ⟨b, hb⟩ := key
  rw [hb n hn, capS, hb 20 (Nat.le_refl _)]
  rfl
theorem cap_ok {n : Nat} (hn : 20 ≤ n) (s : ByteArray) : capital n s = some (capS s) := by rw [capEq, rcap_ok hn]

/-! Form. -/
noncomputable def form1 (v : V) : Bool :=
  if v.kind = 0 then eqS v.s (nmB []) && eqI (lenL v.kids) 0
  else if v.kind = 1 then eqS v.s (nmB []) && eqI (lenL v.kids) 0 && (eqI v.n 0 || eqI v.n 1)
  else if v.kind = 2 then eqS v.s (nmB []) && eqI v.n 0
  else if v.kind = 3 then eqI v.n 0 && capS v.s
  else false

theorem formed_ok {n : Nat} (hn : 21 ≤ n) (v : V) : formed n v = some (form1 v) := by
  obtain ⟨m, rfl⟩ : ∃ m, n = m + 1 := ⟨n - 1, by omega⟩
  rw [formed_eq, cap_ok (by omega)]
  simp only [bindO_s, brB_ite, form1]
  by_cases h0 : v.kind = 0
  · simp [h0, eqI, pickB]; cases eqS v.s (nmB []) <;> rfl
  · by_cases h1 : v.kind = 1
    · simp [h1, eqI, pickB]; cases eqS v.s (nmB []) <;> cases (lenL v.kids == 0) <;> cases (v.n == 0) <;> rfl
    · by_cases h2 : v.kind = 2
      · simp [h2, eqI, pickB]; cases eqS v.s (nmB []) <;> rfl
      · by_cases h3 : v.kind = 3
        · simp only [h3, eqI, pickB]; cases hn0 : (v.n == 0) <;> simp
        · have h3' : (v.kind == 3) = false := by simpa using h3
          simp [h0, h1, h2, h3, h3', eqI, pickB]

mutual
noncomputable def formV : V → Bool
  | .mk k n s l => form1 (.mk k n s l) && formVs l
noncomputable def formVs : List V → Bool
  | [] => true
  | v :: l => formV v && formVs l
end
theorem formVs_all (l : List V) : formVs l = l.all formV := by induction l <;> simp_all [formVs]

def narrow1 (v : V) : Bool := leI (lenL v.kids) 16 || (eqI v.kind 2 && leI (lenL v.kids) 256)
theorem narrow_ok {n : Nat} (hn : 1 ≤ n) (v : V) : narrow n v = some (narrow1 v) := by
  obtain ⟨m, rfl⟩ : ∃ m, n = m + 1 := ⟨n - 1, by omega⟩
  rw [narrow_eq, narrow1]
  cases leI (lenL v.kids) 16 <;> cases eqI v.kind 2 <;> rfl
mutual
def narV : V → Bool
  | .mk k n s l => narrow1 (.mk k n s l) && narVs l
def narVs : List V → Bool
  | [] => true
  | v :: l => narV v && narVs l
end
theorem narVs_all (l : List V) : narVs l = l.all narV := by induction l <;> simp_all [narVs]

theorem szV_kids (v : V) : szV v = 1 + szVs v.kids := by cases v; rfl
theorem formV_kids (v : V) : formV v = (form1 v && formVs v.kids) := by cases v; rfl
theorem narV_kids (v : V) : narV v = (narrow1 v && narVs v.kids) := by cases v; rfl
theorem szVs_len : ∀ l : List V, l.length ≤ szVs l
  | [] => by simp [szVs]
  | v :: l => by have := szVs_len l; have := szV_kids v; simp only [List.length_cons, szVs]; omega
theorem szVs_mem {l : List V} {v : V} (h : v ∈ l) : szV v ≤ szVs l := by
  induction l with
  | nil => cases h
  | cons w l ih =>
    simp only [szVs]
    rcases List.mem_cons.1 h with rfl | h
    · omega
    · have := ih h; omega

theorem drop_all {α : Type} {l : List α} {i : Nat} (p : α → Bool) (h : i < l.length) : (l.drop i).all p = (p l[i] && (l.drop (i + 1)).all p) := by
  rw [List.drop_eq_getElem_cons h, List.all_cons]

theorem indexF_loop {n : Nat} {l : List V} (hl : l.length < 4611686018427387904) (h : ∀ v ∈ l, ∃ u, allfF n v = some (!formV v, u)) : ∀ (k i : Nat), l.length < i + k → i ≤ l.length → ∃ r u, LindexF_26 n k l (lenL l) i = some (r, u) ∧ geI r 0 = !((l.drop i).all formV) := by
  intro k
  induction k with
  | zero => intro i h1 h2; omega
  | succ k ih =>
    intro i h1 h2
    rw [LindexF_26_eq]
    by_cases hi : i < l.length
    · have hlt : ltI (i : Int) (lenL l) = true := by simp [ltI, lenL, hi]
      rw [hlt, brB_t, atL_nat, List.getElem?_eq_getElem hi, bindO_s]
      obtain ⟨u, hu⟩ := h l[i] (List.getElem_mem hi)
      rw [hu, bindO_s, drop_all formV hi]
      cases hf : formV l[i] with
      | false => exact ⟨_, _, rfl, by simp [geI]⟩
      | true =>
        simp only [Bool.not_true, brB_f, Bool.true_and]
        rw [succI (by omega)]
        exact ih (i + 1) (by omega) (by omega)
    · have hlt : ltI (i : Int) (lenL l) = false := by simp [ltI, lenL]; omega
      rw [hlt, brB_f, List.drop_eq_nil_of_le (by omega)]
      exact ⟨_, _, rfl, by simp [geI]⟩

theorem allF_ok : ∀ (N : Nat) (v : V), szV v ≤ N → N < 1000000 → ∀ n, 4 * szV v + 25 ≤ n → allF n v = some (formV v) := by
  intro N
  induction N with
  | zero => intro v h; have := szV_kids v; omega
  | succ N ih =>
    intro v h hN n hn
    have hsz := szV_kids v
    have hlen := szVs_len v.kids
    obtain ⟨m, rfl⟩ : ∃ m, n = m + 4 := ⟨n - 4, by omega⟩
    rw [show m + 4 = m + 3 + 1 from rfl, allF_eq, formed_ok (by omega), V.re_eq, bindO_s, formV_kids, formVs_all]
    cases hf : form1 v with
    | false => rfl
    | true =>
      rw [brB_t, show m + 3 = m + 2 + 1 from rfl, hasF_eq, show m + 2 = m + 1 + 1 from rfl, indexF_eq]
      obtain ⟨r, u, h1, h2⟩ := indexF_loop (n := m + 1) (l := v.kids) (by omega) (fun w hw => by
        have := szVs_mem hw
        refine ⟨((((), ()), ()), ()), ?_⟩
        rw [allfF_eq, V.re_eq, ih w (by omega) (by omega) m (by omega)]
        rfl) (m + 1) 0 (by omega) (by omega)
      rw [show ((0 : Nat) : Int) = 0 from rfl] at h1
      rw [h1]
      simp only [bindO_s, h2, List.drop_zero, notB, Bool.not_not, Bool.true_and]

theorem indexN_loop {n : Nat} {l : List V} (hl : l.length < 4611686018427387904) (h : ∀ v ∈ l, ∃ u, allfN n v = some (!narV v, u)) : ∀ (k i : Nat), l.length < i + k → i ≤ l.length → ∃ r u, LindexN_26 n k l (lenL l) i = some (r, u) ∧ geI r 0 = !((l.drop i).all narV) := by
  intro k
  induction k with
  | zero => intro i h1 h2; omega
  | succ k ih =>
    intro i h1 h2
    rw [LindexN_26_eq]
    by_cases hi : i < l.length
    · have hlt : ltI (i : Int) (lenL l) = true := by simp [ltI, lenL, hi]
      rw [hlt, brB_t, atL_nat, List.getElem?_eq_getElem hi, bindO_s]
      obtain ⟨u, hu⟩ := h l[i] (List.getElem_mem hi)
      rw [hu, bindO_s, drop_all narV hi]
      cases hf : narV l[i] with
      | false => exact ⟨_, _, rfl, by simp [geI]⟩
      | true =>
        simp only [Bool.not_true, brB_f, Bool.true_and]
        rw [succI (by omega)]
        exact ih (i + 1) (by omega) (by omega)
    · have hlt : ltI (i : Int) (lenL l) = false := by simp [ltI, lenL]; omega
      rw [hlt, brB_f, List.drop_eq_nil_of_le (by omega)]
      exact ⟨_, _, rfl, by simp [geI]⟩

theorem allN_ok : ∀ (N : Nat) (v : V), szV v ≤ N → N < 1000000 → ∀ n, 4 * szV v + 25 ≤ n → allN n v = some (narV v) := by
  intro N
  induction N with
  | zero => intro v h; have := szV_kids v; omega
  | succ N ih =>
    intro v h hN n hn
    have hsz := szV_kids v
    have hlen := szVs_len v.kids
    obtain ⟨m, rfl⟩ : ∃ m, n = m + 4 := ⟨n - 4, by omega⟩
    rw [show m + 4 = m + 3 + 1 from rfl, allN_eq, narrow_ok (by omega), V.re_eq, bindO_s, narV_kids, narVs_all]
    cases hf : narrow1 v with
    | false => rfl
    | true =>
      rw [brB_t, show m + 3 = m + 2 + 1 from rfl, hasN_eq, show m + 2 = m + 1 + 1 from rfl, indexN_eq]
      obtain ⟨r, u, h1, h2⟩ := indexN_loop (n := m + 1) (l := v.kids) (by omega) (fun w hw => by
        have := szVs_mem hw
        refine ⟨((((), ()), ()), ()), ?_⟩
        rw [allfN_eq, V.re_eq, ih w (by omega) (by omega) m (by omega)]
        rfl) (m + 1) 0 (by omega) (by omega)
      rw [show ((0 : Nat) : Int) = 0 from rfl] at h1
      rw [h1]
      simp only [bindO_s, h2, List.drop_zero, notB, Bool.not_not, Bool.true_and]

/-! Sizes. -/
theorem szVs_drop {l : List V} {i : Nat} (h : i < l.length) : szVs (l.drop i) = szV l[i] + szVs (l.drop (i + 1)) := by
  rw [List.drop_eq_getElem_cons h, szVs]
theorem szVs_drop_le (l : List V) : ∀ i, szVs (l.drop i) ≤ szVs l := by
  induction l with
  | nil => intro i; simp [szVs]
  | cons v l ih =>
    intro i
    cases i with
    | zero => simp
    | succ i => simp only [List.drop_succ_cons, szVs]; have := ih i; omega

theorem indexS_loop {n : Nat} {l : List V} (hl : szVs l < 1000000) (h : ∀ v ∈ l, ∀ c : Nat, c + szV v < 10000000 → allfS n c v = some (false, ((c + szV v : Nat) : Int))) : ∀ (k i c : Nat), l.length < i + k → i ≤ l.length → c + szVs (l.drop i) < 10000000 →
    LindexS_26 n k (c : Int) l (lenL l) i = some (-1, ((c + szVs (l.drop i) : Nat) : Int)) := by
  intro k
  induction k with
  | zero => intro i c h1 h2; omega
  | succ k ih =>
    intro i c h1 h2 h3
    have hlen := szVs_len l
    rw [LindexS_26_eq]
    by_cases hi : i < l.length
    · have hlt : ltI (i : Int) (lenL l) = true := by simp [ltI, lenL, hi]
      have hd := szVs_drop hi
      rw [hlt, brB_t, atL_nat, List.getElem?_eq_getElem hi, bindO_s, h l[i] (List.getElem_mem hi) c (by omega), bindO_s]
      simp only [brB_f]
      rw [succI (by omega), ih (i + 1) (c + szV l[i]) (by omega) (by omega) (by omega), hd]
      congr 3
      omega
    · have hlt : ltI (i : Int) (lenL l) = false := by simp [ltI, lenL]; omega
      rw [hlt, brB_f, List.drop_eq_nil_of_le (by omega)]
      simp [szVs]

theorem allS_ok : ∀ (N : Nat) (v : V), szV v ≤ N → N < 1000000 → ∀ n, 4 * szV v + 25 ≤ n → ∀ c : Nat, c + szV v < 10000000 → allS n c v = some (true, ((c + szV v : Nat) : Int)) := by
  intro N
  induction N with
  | zero => intro v h; have := szV_kids v; omega
  | succ N ih =>
    intro v h hN n hn c hc
    have hsz := szV_kids v
    have hlen := szVs_len v.kids
    obtain ⟨m, rfl⟩ : ∃ m, n = m + 4 := ⟨n - 4, by omega⟩
    rw [show m + 4 = m + 3 + 1 from rfl, allS_eq, show m + 3 = m + 2 + 1 from rfl, count_eq, bindO_s]
    simp only [brB_t]
    rw [hasS_eq, show m + 2 = m + 1 + 1 from rfl, indexS_eq, succI (by omega)]
    have h1 := indexS_loop (n := m + 1) (l := v.kids) (by omega) (fun w hw c hc => by
        have := szVs_mem hw
        rw [allfS_eq, V.re_eq, ih w (by omega) (by omega) m (by omega) c hc]
        rfl) (m + 1) 0 (c + 1) (by omega) (by omega) (by rw [List.drop_zero]; omega)
    rw [show ((0 : Nat) : Int) = 0 from rfl, List.drop_zero] at h1
    rw [h1]
    simp only [bindO_s]
    rw [hsz]
    congr 3
    omega

theorem size_ok {n : Nat} {v : V} (h : szV v < 1000000) (hn : 4 * szV v + 26 ≤ n) : size n v = some (szV v : Int) := by
  obtain ⟨m, rfl⟩ : ∃ m, n = m + 1 := ⟨n - 1, by omega⟩
  rw [size_eq, V.re_eq]
  have := allS_ok _ v (Nat.le_refl _) h m (by omega) 0 (by omega)
  rw [show ((0 : Nat) : Int) = 0 from rfl] at this
  rw [this, bindO_s, Nat.zero_add]

theorem rsize_loop {n : Nat} {v : V} (hl : szVs v.kids < 1000000) (h : ∀ w ∈ v.kids, rsize n w = some (szV w : Int)) : ∀ (k i c : Nat), v.kids.length < i + k → i ≤ v.kids.length → c + szVs (v.kids.drop i) < 10000000 →
    Lrsize_58 n k v c i = some ((c + szVs (v.kids.drop i) : Nat) : Int) := by
  intro k
  induction k with
  | zero => intro i c h1 h2; omega
  | succ k ih =>
    intro i c h1 h2 h3
    have hlen := szVs_len v.kids
    rw [Lrsize_58_eq]
    by_cases hi : i < v.kids.length
    · have hlt : ltI (i : Int) (lenL v.kids) = true := by simp [ltI, lenL, hi]
      have hd := szVs_drop hi
      rw [hlt, brB_t, atL_nat, List.getElem?_eq_getElem hi, bindO_s, h _ (List.getElem_mem hi), bindO_s, V.re_eq, succI (by omega), addI_ok (by omega) (by omega),
        show (c : Int) + (szV v.kids[i] : Int) = ((c + szV v.kids[i] : Nat) : Int) by omega, ih (i + 1) (c + szV v.kids[i]) (by omega) (by omega) (by omega), hd]
      congr 2
      omega
    · have hlt : ltI (i : Int) (lenL v.kids) = false := by simp [ltI, lenL]; omega
      rw [hlt, brB_f, List.drop_eq_nil_of_le (by omega)]
      simp [szVs]

theorem rsize_ok : ∀ (N : Nat) (v : V), szV v ≤ N → N < 1000000 → ∀ n, 4 * szV v + 25 ≤ n → rsize n v = some (szV v : Int) := by
  intro N
  induction N with
  | zero => intro v h; have := szV_kids v; omega
  | succ N ih =>
    intro v h hN n hn
    have hsz := szV_kids v
    have hlen := szVs_len v.kids
    obtain ⟨m, rfl⟩ : ∃ m, n = m + 1 := ⟨n - 1, by omega⟩
    rw [rsize_eq, V.re_eq]
    have h1 := rsize_loop (n := m) (v := v) (by omega) (fun w hw => by
      have := szVs_mem hw
      exact ih w (by omega) (by omega) m (by omega)) m 0 1 (by omega) (by omega) (by rw [List.drop_zero]; omega)
    rw [List.drop_zero] at h1
    rw [show (1 : Int) = ((1 : Nat) : Int) from rfl, show (0 : Int) = ((0 : Nat) : Int) from rfl, h1, hsz]

/-! Depths. -/
mutual
def dpV : V → Nat
  | .mk _ _ _ l => dpVs l + 1
def dpVs : List V → Nat
  | [] => 0
  | v :: l => max (dpV v) (dpVs l)
end
theorem dpV_kids (v : V) : dpV v = dpVs v.kids + 1 := by cases v; rfl
mutual
theorem dpV_le : ∀ v : V, dpV v ≤ szV v
  | .mk _ _ _ l => by have := dpVs_le l; simp only [dpV, szV]; omega
theorem dpVs_le : ∀ l : List V, dpVs l ≤ szVs l
  | [] => by simp [dpVs]
  | v :: l => by have := dpV_le v; have := dpVs_le l; simp only [dpVs, szVs]; omega
end
theorem maxI_nat (a b : Nat) : maxI (a : Int) (b : Int) = ((max a b : Nat) : Int) := by
  unfold maxI
  split <;> omega
theorem dpVs_drop {l : List V} {i : Nat} (h : i < l.length) : dpVs (l.drop i) = max (dpV l[i]) (dpVs (l.drop (i + 1))) := by
  rw [List.drop_eq_getElem_cons h, dpVs]
theorem dpVs_drop_le (l : List V) : ∀ i, dpVs (l.drop i) ≤ dpVs l := by
  induction l with
  | nil => intro i; simp [dpVs]
  | cons v l ih =>
    intro i
    cases i with
    | zero => simp
    | succ i => simp only [List.drop_succ_cons, dpVs]; have := ih i; omega

theorem rdepth_loop {n : Nat} {v : V} (hl : szVs v.kids < 1000000) (h : ∀ w ∈ v.kids, rdepth n w = some (dpV w : Int)) : ∀ (k i c : Nat), v.kids.length < i + k → i ≤ v.kids.length → c < 10000000 →
    Lrdepth_58 n k v c i = some ((max c (dpVs (v.kids.drop i)) + 1 : Nat) : Int) := by
  intro k
  induction k with
  | zero => intro i c h1 h2; omega
  | succ k ih =>
    intro i c h1 h2 h3
    have hlen := szVs_len v.kids
    rw [Lrdepth_58_eq]
    by_cases hi : i < v.kids.length
    · have hlt : ltI (i : Int) (lenL v.kids) = true := by simp [ltI, lenL, hi]
      have hd := dpVs_drop hi
      have hle := dpV_le v.kids[i]
      have hm := szVs_mem (List.getElem_mem hi)
      rw [hlt, brB_t, atL_nat, List.getElem?_eq_getElem hi, bindO_s, h _ (List.getElem_mem hi), bindO_s, V.re_eq, succI (by omega), maxI_nat, ih (i + 1) _ (by omega) (by omega) (by omega), hd]
      congr 3
      omega
    · have hlt : ltI (i : Int) (lenL v.kids) = false := by simp [ltI, lenL]; omega
      rw [hlt, brB_f, List.drop_eq_nil_of_le (by omega), succI (by omega)]
      simp [dpVs]

theorem rdepth_ok : ∀ (N : Nat) (v : V), szV v ≤ N → N < 1000000 → ∀ n, 4 * szV v + 25 ≤ n → rdepth n v = some (dpV v : Int) := by
  intro N
  induction N with
  | zero => intro v h; have := szV_kids v; omega
  | succ N ih =>
    intro v h hN n hn
    have hsz := szV_kids v
    have hlen := szVs_len v.kids
    obtain ⟨m, rfl⟩ : ∃ m, n = m + 1 := ⟨n - 1, by omega⟩
    rw [rdepth_eq, V.re_eq]
    have h1 := rdepth_loop (n := m) (v := v) (by omega) (fun w hw => by
      have := szVs_mem hw
      exact ih w (by omega) (by omega) m (by omega)) m 0 0 (by omega) (by omega) (by omega)
    rw [List.drop_zero] at h1
    rw [show (0 : Int) = ((0 : Nat) : Int) from rfl, h1, dpV_kids, Nat.zero_max]

theorem depth_loop {n : Nat} {v : V} {l : List V} (hl : szVs l < 1000000) (h : ∀ w ∈ l, depth n w = some (dpV w : Int)) : ∀ (k i c : Nat), l.length < i + k → i ≤ l.length → c < 10000000 →
    Ldepth_58 n k v c l (lenL l) i = some ((max c (dpVs (l.drop i)) + 1 : Nat) : Int) := by
  intro k
  induction k with
  | zero => intro i c h1 h2; omega
  | succ k ih =>
    intro i c h1 h2 h3
    have hlen := szVs_len l
    rw [Ldepth_58_eq]
    by_cases hi : i < l.length
    · have hlt : ltI (i : Int) (lenL l) = true := by simp [ltI, lenL, hi]
      have hd := dpVs_drop hi
      have hle := dpV_le l[i]
      have hm := szVs_mem (List.getElem_mem hi)
      rw [hlt, brB_t, atL_nat, List.getElem?_eq_getElem hi, bindO_s, V.re_eq, h _ (List.getElem_mem hi), bindO_s, V.re_eq, succI (by omega), maxI_nat, ih (i + 1) _ (by omega) (by omega) (by omega), hd]
      congr 3
      omega
    · have hlt : ltI (i : Int) (lenL l) = false := by simp [ltI, lenL]; omega
      rw [hlt, brB_f, List.drop_eq_nil_of_le (by omega), succI (by omega)]
      simp [dpVs]

theorem depth_ok : ∀ (N : Nat) (v : V), szV v ≤ N → N < 1000000 → ∀ n, 4 * szV v + 25 ≤ n → depth n v = some (dpV v : Int) := by
  intro N
  induction N with
  | zero => intro v h; have := szV_kids v; omega
  | succ N ih =>
    intro v h hN n hn
    have hsz := szV_kids v
    have hlen := szVs_len v.kids
    obtain ⟨m, rfl⟩ : ∃ m, n = m + 1 := ⟨n - 1, by omega⟩
    rw [depth_eq, V.re_eq]
    have h1 := depth_loop (n := m) (v := v) (l := v.kids) (by omega) (fun w hw => by
      have := szVs_mem hw
      exact ih w (by omega) (by omega) m (by omega)) m 0 0 (by omega) (by omega) (by omega)
    rw [List.drop_zero] at h1
    rw [show (0 : Int) = ((0 : Nat) : Int) from rfl, h1, dpV_kids, Nat.zero_max]

/-! The reference. -/
theorem neS_not (a b : ByteArray) : neS a b = !eqS a b := rfl
theorem lenL_pos {α : Type} (l : List α) : gtI (lenL l) 0 = !eqI (lenL l) 0 := by
  cases l with
  | nil => rfl
  | cons x l =>
    have : lenL (x :: l) = ((l.length + 1 : Nat) : Int) := rfl
    have h1 : gtI (lenL (x :: l)) 0 = true := by rw [this]; exact decide_eq_true (by omega)
    have h2 : eqI (lenL (x :: l)) 0 = false := by rw [this]; simp [eqI]; omega
    rw [h1, h2]; rfl

theorem rform1 (v : V) {ρ : Type} (x : Option ρ) (y : Option ρ) : brB (pickB (eqI (V.kind v) 0) (pickB (neS (V.s v) (nmB [])) true (gtI (lenL (V.kids v)) 0)) false) x
    (brB (pickB (eqI (V.kind v) 1) (pickB (pickB (pickB (neS (V.s v) (nmB [])) true (gtI (lenL (V.kids v)) 0)) true (ltI (V.n v) 0)) true (gtI (V.n v) 1)) false) x
      (brB (pickB (eqI (V.kind v) 2) (pickB (neS (V.s v) (nmB [])) true (neI (V.n v) 0)) false) x
        (brB (pickB (eqI (V.kind v) 3) (pickB (notB (capS v.s)) true (neI (V.n v) 0)) false) x
          (brB (pickB (ltI (V.kind v) 0) true (gtI (V.kind v) 3)) x y)))) = brB (form1 v) y x := by
  rw [neS_not, lenL_pos, form1]
  have hb : ∀ a : Int, ltI a 0 = decide (a < 0) ∧ gtI a 1 = decide (a > 1) ∧ gtI a 3 = decide (a > 3) ∧ neI a 0 = (a != 0) ∧ eqI a 0 = (a == 0) ∧ eqI a 1 = (a == 1) ∧ eqI a 2 = (a == 2) ∧ eqI a 3 = (a == 3) := fun a => ⟨rfl, rfl, rfl, rfl, rfl, rfl, rfl, rfl⟩
  by_cases h0 : v.kind = 0
  · have e : eqI v.kind 0 = true := by rw [h0]; rfl
    rw [e, h0]
    cases eqS v.s (nmB []) <;> cases eqI (lenL v.kids) 0 <;> rfl
  · have e0 : eqI v.kind 0 = false := by simpa [eqI] using h0
    by_cases h1 : v.kind = 1
    · rw [h1]
      have hn : (pickB (ltI v.n 0) true (gtI v.n 1)) = !(eqI v.n 0 || eqI v.n 1) := by
        simp only [pickB, ltI, gtI, eqI]
        by_cases a : v.n < 0
        · have b1 : (v.n == 0) = false := by simp; omega
          have b2 : (v.n == 1) = false := by simp; omega
          simp [a, b1, b2]
        · by_cases b : v.n > 1
          · have b1 : (v.n == 0) = false := by simp; omega
            have b2 : (v.n == 1) = false := by simp; omega
            simp [a, b, b1, b2]
          · have : v.n = 0 ∨ v.n = 1 := by omega
            rcases this with h | h <;> simp [h]
      cases he : eqS v.s (nmB []) <;> cases hl : eqI (lenL v.kids) 0
      · rfl
      · rfl
      · rfl
      · have : (pickB (pickB (pickB (!true) true (!true)) true (ltI v.n 0)) true (gtI v.n 1)) = !(eqI v.n 0 || eqI v.n 1) := by rw [← hn]; rfl
        rw [this]
        cases (eqI v.n 0 || eqI v.n 1) <;> rfl
    · have e1 : eqI v.kind 1 = false := by simpa [eqI] using h1
      by_cases h2 : v.kind = 2
      · rw [h2]
        have : neI v.n 0 = !eqI v.n 0 := rfl
        rw [this]
        cases eqS v.s (nmB []) <;> cases eqI v.n 0 <;> rfl
      · have e2 : eqI v.kind 2 = false := by simpa [eqI] using h2
        by_cases h3 : v.kind = 3
        · rw [h3]
          have : neI v.n 0 = !eqI v.n 0 := rfl
          rw [this]
          cases capS v.s <;> cases eqI v.n 0 <;> rfl
        · have e3 : eqI v.kind 3 = false := by simpa [eqI] using h3
          have e4 : pickB (ltI v.kind 0) true (gtI v.kind 3) = true := by
            simp only [pickB, ltI, gtI]
            by_cases a : v.kind < 0
            · simp [a]
            · have : v.kind > 3 := by omega
              simp [a, this]
          rw [e0, e1, e2, e3, e4, if_neg h0, if_neg h1, if_neg h2, if_neg h3]
          rfl

theorem rformed_loop {n : Nat} {v : V} (hl : v.kids.length < 1000000) (h : ∀ w ∈ v.kids, rformed n w = some (formV w)) : ∀ (k i : Nat), v.kids.length < i + k → i ≤ v.kids.length →
    Lrformed_2042 n k v i = some ((v.kids.drop i).all formV) := by
  intro k
  induction k with
  | zero => intro i h1 h2; omega
  | succ k ih =>
    intro i h1 h2
    rw [Lrformed_2042_eq]
    by_cases hi : i < v.kids.length
    · have hlt : ltI (i : Int) (lenL v.kids) = true := by simp [ltI, lenL, hi]
      rw [hlt, brB_t, atL_nat, List.getElem?_eq_getElem hi, bindO_s, h _ (List.getElem_mem hi), bindO_s, V.re_eq, succI (by omega), drop_all formV hi]
      cases formV v.kids[i] with
      | false => rfl
      | true => simp only [notB, Bool.not_true, brB_f, Bool.true_and]; exact ih (i + 1) (by omega) (by omega)
    · have hlt : ltI (i : Int) (lenL v.kids) = false := by simp [ltI, lenL]; omega
      rw [hlt, brB_f, List.drop_eq_nil_of_le (by omega)]
      rfl

theorem rformed_ok : ∀ (N : Nat) (v : V), szV v ≤ N → N < 1000000 → ∀ n, 4 * szV v + 25 ≤ n → rformed n v = some (formV v) := by
  intro N
  induction N with
  | zero => intro v h; have := szV_kids v; omega
  | succ N ih =>
    intro v h hN n hn
    have hsz := szV_kids v
    have hlen := szVs_len v.kids
    obtain ⟨m, rfl⟩ : ∃ m, n = m + 1 := ⟨n - 1, by omega⟩
    rw [rformed_eq, rcap_ok (by omega), bindO_s, rform1, V.re_eq]
    have h1 := rformed_loop (n := m) (v := v) (by omega) (fun w hw => by
      have := szVs_mem hw
      exact ih w (by omega) (by omega) m (by omega)) m 0 (by omega) (by omega)
    rw [show (0 : Int) = ((0 : Nat) : Int) from rfl, h1, formV_kids, formVs_all, List.drop_zero]
    cases form1 v <;> rfl

theorem rwide_loop {n : Nat} {v : V} (hl : v.kids.length < 1000000) (h : ∀ w ∈ v.kids, formV w = true → rwide n w = some (!narV w)) (hf : formVs v.kids = true) : ∀ (k i : Nat), v.kids.length < i + k → i ≤ v.kids.length →
    Lrwide_58 n k v i = some (!(v.kids.drop i).all narV) := by
  rw [formVs_all, List.all_eq_true] at hf
  intro k
  induction k with
  | zero => intro i h1 h2; omega
  | succ k ih =>
    intro i h1 h2
    rw [Lrwide_58_eq]
    by_cases hi : i < v.kids.length
    · have hlt : ltI (i : Int) (lenL v.kids) = true := by simp [ltI, lenL, hi]
      rw [hlt, brB_t, atL_nat, List.getElem?_eq_getElem hi, bindO_s, h _ (List.getElem_mem hi) (hf _ (List.getElem_mem hi)), bindO_s, V.re_eq, succI (by omega), drop_all narV hi]
      cases narV v.kids[i] with
      | false => rfl
      | true => simp only [Bool.not_true, brB_f, Bool.true_and]; exact ih (i + 1) (by omega) (by omega)
    · have hlt : ltI (i : Int) (lenL v.kids) = false := by simp [ltI, lenL]; omega
      rw [hlt, brB_f, List.drop_eq_nil_of_le (by omega)]
      rfl

theorem rwide1 {v : V} (h : form1 v = true) : pickB (pickB (eqI (V.kind v) 2) (gtI (lenL (V.kids v)) 256) false) true (pickB (eqI (V.kind v) 3) (gtI (lenL (V.kids v)) 16) false) = !narrow1 v := by
  have hgt : ∀ a b : Int, gtI a b = !leI a b := fun a b => by simp only [gtI, leI]; by_cases h : a > b <;> simp [h] <;> omega
  have hle : leI (lenL v.kids) 16 = true → leI (lenL v.kids) 256 = true := fun h => by
    simp only [leI, decide_eq_true_eq] at h ⊢; omega
  rw [hgt, hgt, narrow1]
  unfold form1 at h
  split at h
  · rename_i h0
    rw [Bool.and_eq_true] at h
    have : lenL v.kids = 0 := by simpa [eqI] using h.2
    rw [h0, this]; rfl
  · split at h
    · rename_i _ h1
      rw [Bool.and_eq_true, Bool.and_eq_true] at h
      have : lenL v.kids = 0 := by simpa [eqI] using h.1.2
      rw [h1, this]; rfl
    · split at h
      · rename_i _ _ h2
        rw [h2]
        cases h16 : leI (lenL v.kids) 16 with
        | true => rw [hle h16]; rfl
        | false => cases leI (lenL v.kids) 256 <;> rfl
      · split at h
        · rename_i _ _ _ h3
          rw [h3]
          cases leI (lenL v.kids) 16 <;> rfl
        · cases h

theorem rwide_ok : ∀ (N : Nat) (v : V), szV v ≤ N → N < 1000000 → formV v = true → ∀ n, 4 * szV v + 25 ≤ n → rwide n v = some (!narV v) := by
  intro N
  induction N with
  | zero => intro v h; have := szV_kids v; omega
  | succ N ih =>
    intro v h hN hf n hn
    have hsz := szV_kids v
    have hlen := szVs_len v.kids
    rw [formV_kids, Bool.and_eq_true] at hf
    obtain ⟨m, rfl⟩ : ∃ m, n = m + 1 := ⟨n - 1, by omega⟩
    rw [rwide_eq, rwide1 hf.1, V.re_eq]
    have h1 := rwide_loop (n := m) (v := v) (by omega) (fun w hw hfw => by
      have := szVs_mem hw
      exact ih w (by omega) (by omega) hfw m (by omega)) hf.2 m 0 (by omega) (by omega)
    rw [show (0 : Int) = ((0 : Nat) : Int) from rfl, h1, narV_kids, narVs_all, List.drop_zero]
    cases narrow1 v <;> rfl

/-- Both judge alike. -/
theorem valid_same {v : V} (h : szV v < 1000000) {n : Nat} (hn : 4 * szV v + 30 ≤ n) : ∃ r : Int, valid n v = some r ∧ rvalid n v = some r := by
  obtain ⟨m, rfl⟩ : ∃ m, n = m + 1 := ⟨n - 1, by omega⟩
  rw [valid_eq, rvalid_eq, V.re_eq, allF_ok _ v (Nat.le_refl _) h m (by omega), rformed_ok _ v (Nat.le_refl _) h m (by omega), bindO_s, bindO_s]
  cases hf : formV v with
  | false => exact ⟨1, rfl, rfl⟩
  | true =>
    rw [allN_ok _ v (Nat.le_refl _) h m (by omega), rwide_ok _ v (Nat.le_refl _) h hf m (by omega), bindO_s, bindO_s, size_ok h (by omega), rsize_ok _ v (Nat.le_refl _) h m (by omega)]
    simp only [notB, Bool.not_true, brB_f]
    cases narV v with
    | false => exact ⟨4, rfl, rfl⟩
    | true =>
      simp only [Bool.not_true, brB_f, bindO_s]
      cases gtI (szV v : Int) 1024 with
      | true => exact ⟨4, rfl, rfl⟩
      | false => exact ⟨0, rfl, rfl⟩
end Go.Am.Tryz
