/- The abstract machine: the record of a region's run in the order of the text. -/
import Derived.Test.YtmbkcjnjjlkidaaGreatDoorAmRegion
namespace Go.Am
open Go.RowKit

structure Rec where
  o : Oper
  e : Env
  s : St
  v : AV
  s' : St
  wanted : Bool

section
variable (C : Ctx) (m : List Nat) (good : (Nat → List AV → St → Option (Res × St)) → Prop) (all : List Oper)

def Rec.loud (m : List Nat) (r : Rec) : Bool := r.wanted && !isStill m r.o
def Rec.read (m : List Nat) (r : Rec) : Bool := r.wanted && (isStill m r.o && readsHeap r.o.op)

structure RecOk (r : Rec) : Prop where
  wanted : wantedA all r.e r.o = some r.wanted
  off : r.wanted = false → r.v = undefA ∧ r.s' = r.s
  still : r.wanted = true → isStill m r.o = true → stillOp C.T r.s.heap r.e r.o.op = some r.v ∧ r.s' = r.s
  loud : r.wanted = true → isStill m r.o = false → ∃ call, good call ∧ loudOp C m call r.e r.s r.o = some (.ret r.v, r.s')

inductive Chain : List Rec → Env → St → Env → St → Prop
  | nil (e : Env) (s : St) : Chain [] e s e s
  | cons (r : Rec) (R : List Rec) (e' : Env) (s' : St) (h : RecOk C m good all r) (t : Chain R (putA r.e r.o.dst r.v) r.s' e' s') : Chain (r :: R) r.e r.s e' s'

/-- The frame when just the operations of D have been carried out. -/
def envD (D : Nat → Bool) : Nat → List Rec → Env → Env
  | _, [], e => e
  | j, r :: R, e => envD D (j + 1) R (if D j = true then putA e r.o.dst r.v else e)

def stD (m : List Nat) (D : Nat → Bool) : Nat → List Rec → St → St
  | _, [], s => s
  | j, r :: R, s => stD m D (j + 1) R (if D j = true ∧ r.loud m = true then r.s' else s)
end

section
variable {C : Ctx} {m : List Nat} {good : (Nat → List AV → St → Option (Res × St)) → Prop} {all : List Oper}

theorem putA_get (e : Env) (d : Option Nat) (v : AV) (t : Nat) : (putA e d v).get t = if d = some t then some v else e.get t := by
  cases d with
  | none => simp [putA]
  | some d =>
    simp only [putA, Tr.get_set, Option.some.injEq]
    by_cases h : t = d
    · subst h; simp
    · rw [if_neg h, if_neg (fun e => h e.symm)]

theorem envD_congr {D1 D2 : Nat → Bool} {t : Nat} : ∀ (R : List Rec) (k : Nat) (e1 e2 : Env), (∀ j r, R[j]? = some r → r.o.dst = some t → D1 (k + j) = D2 (k + j)) → e1.get t = e2.get t → (envD D1 k R e1).get t = (envD D2 k R e2).get t
  | [], k, e1, e2, _, h => h
  | r :: R, k, e1, e2, hD, h => by
    simp only [envD]
    refine envD_congr R (k + 1) _ _ (fun j r' hj hd => by have := hD (j + 1) r' (by simpa using hj) hd; rwa [show k + (j + 1) = k + 1 + j by omega] at this) ?_
    by_cases hd : r.o.dst = some t
    · have := hD 0 r (by simp) hd
      simp only [Nat.add_zero] at this
      rw [this]
      split
      · simp [putA_get, hd]
      · exact h
    · split <;> split <;> simp [putA_get, hd, h]

theorem envD_insert {D : Nat → Bool} {t i : Nat} {r : Rec} : ∀ (R : List Rec) (k : Nat) (e : Env), R[i]? = some r → r.o.dst = some t → D (k + i) = true → (∀ j r', R[j]? = some r' → r'.o.dst = some t → i < j → D (k + j) = false) →
    (envD D k R e).get t = some r.v := by
  induction i with
  | zero =>
    intro R k e hr hd hD hno
    cases R with
    | nil => simp at hr
    | cons r0 R =>
      simp only [List.getElem?_cons_zero, Option.some.injEq] at hr
      subst hr
      simp only [Nat.add_zero] at hD
      simp only [envD, hD, if_true]
      have h2 := envD_congr (D1 := D) (D2 := fun _ => false) (t := t) R (k + 1) (putA e r0.o.dst r0.v) (putA e r0.o.dst r0.v) (fun j r' hj hd' => by
        have := hno (j + 1) r' (by simpa using hj) hd' (by omega)
        rwa [show k + (j + 1) = k + 1 + j by omega] at this) rfl
      rw [h2]
      have h3 : ∀ (R : List Rec) (k : Nat) (e : Env), envD (fun _ => false) k R e = e := by
        intro R
        induction R with
        | nil => intro k e; rfl
        | cons r R ih => intro k e; simp [envD, ih]
      rw [h3, putA_get, if_pos hd]
  | succ i ih =>
    intro R k e hr hd hD hno
    cases R with
    | nil => simp at hr
    | cons r0 R =>
      simp only [envD]
      exact ih R (k + 1) _ (by simpa using hr) hd (by rwa [show k + 1 + i = k + (i + 1) by omega]) (fun j r' hj hd' hlt => by
        have := hno (j + 1) r' (by simpa using hj) hd' (by omega)
        rwa [show k + (j + 1) = k + 1 + j by omega] at this)

theorem stD_congr {D1 D2 : Nat → Bool} : ∀ (R : List Rec) (k : Nat) (s : St), (∀ j r, R[j]? = some r → r.loud m = true → D1 (k + j) = D2 (k + j)) → stD m D1 k R s = stD m D2 k R s
  | [], k, s, _ => rfl
  | r :: R, k, s, hD => by
    simp only [stD]
    have hc : (D1 k = true ∧ r.loud m = true) ↔ (D2 k = true ∧ r.loud m = true) := by
      by_cases hl : r.loud m = true
      · have := hD 0 r (by simp) hl
        simp only [Nat.add_zero] at this
        rw [this]
      · simp [hl]
    have : (if D1 k = true ∧ r.loud m = true then r.s' else s) = (if D2 k = true ∧ r.loud m = true then r.s' else s) := by
      by_cases h : D1 k = true ∧ r.loud m = true
      · rw [if_pos h, if_pos (hc.1 h)]
      · rw [if_neg h, if_neg (fun h2 => h (hc.2 h2))]
    rw [this]
    exact stD_congr R (k + 1) _ (fun j r' hj hl => by have := hD (j + 1) r' (by simpa using hj) hl; rwa [show k + (j + 1) = k + 1 + j by omega] at this)

theorem chain_env {t : Nat} : ∀ {R : List Rec} {e : Env} {s : St} {e' : Env} {s' : St}, Chain C m good all R e s e' s' → ∀ (k i : Nat) (r : Rec), R[i]? = some r → (envD (fun j => decide (j < k + i)) k R e).get t = r.e.get t
  | _, _, _, _, _, .nil e s, k, i, r, h => by simp at h
  | _, _, _, _, _, .cons r0 R e' s' h0 tl, k, 0, r, h => by
    simp only [List.getElem?_cons_zero, Option.some.injEq] at h
    subst h
    rw [envD_congr (D1 := fun j => decide (j < k + 0)) (D2 := fun _ => false) (r0 :: R) k r0.e r0.e (fun j r' _ _ => by simp) rfl]
    have h3 : ∀ (R : List Rec) (k : Nat) (e : Env), envD (fun _ => false) k R e = e := by
      intro R
      induction R with
      | nil => intro k e; rfl
      | cons r R ih => intro k e; simp [envD, ih]
    rw [h3]
  | _, _, _, _, _, .cons r0 R e' s' h0 tl, k, i + 1, r, h => by
    have := chain_env (t := t) tl (k + 1) i r (by simpa using h)
    simp only [envD]
    rw [if_pos (by simp)]
    rwa [show k + 1 + i = k + (i + 1) by omega] at this

theorem chain_st : ∀ {R : List Rec} {e : Env} {s : St} {e' : Env} {s' : St}, Chain C m good all R e s e' s' → ∀ (k i : Nat) (r : Rec), R[i]? = some r →
    stD m (fun j => decide (j < k + i)) k R s = r.s ∧ stD m (fun j => decide (j < k + i + 1)) k R s = r.s'
  | _, _, _, _, _, .nil e s, k, i, r, h => by simp at h
  | _, _, _, _, _, .cons r0 R e' s' h0 tl, k, 0, r, h => by
    simp only [List.getElem?_cons_zero, Option.some.injEq] at h
    subst h
    have h3 : ∀ (R : List Rec) (k : Nat) (s : St), stD m (fun _ => false) k R s = s := by
      intro R
      induction R with
      | nil => intro k e; rfl
      | cons r R ih => intro k e; simp [stD, ih]
    refine ⟨?_, ?_⟩
    · rw [stD_congr (D1 := fun j => decide (j < k + 0)) (D2 := fun _ => false) (r0 :: R) k _ (fun j r' _ _ => by simp), h3]
    · simp only [stD]
      rw [stD_congr (D1 := fun j => decide (j < k + 0 + 1)) (D2 := fun _ => false) R (k + 1) _ (fun j r' _ _ => by simp), h3]
      split
      · rfl
      · rename_i hn
        have hl : r0.loud m = false := by simpa using hn
        unfold Rec.loud at hl
        cases hw : r0.wanted with
        | false => exact (h0.off hw).2.symm
        | true =>
          rw [hw] at hl
          exact ((h0.still hw (by simpa using hl)).2).symm
  | _, _, _, _, _, .cons r0 R e' s' h0 tl, k, i + 1, r, h => by
    have := chain_st tl (k + 1) i r (by simpa using h)
    have hs : (if decide (k < k + (i + 1)) = true ∧ r0.loud m = true then r0.s' else r0.s) = r0.s' := by
      split
      · rfl
      · rename_i hn
        have hl : r0.loud m = false := by simpa using hn
        unfold Rec.loud at hl
        cases hw : r0.wanted with
        | false => exact (h0.off hw).2.symm
        | true =>
          rw [hw] at hl
          exact ((h0.still hw (by simpa using hl)).2).symm
    have hs2 : (if decide (k < k + (i + 1) + 1) = true ∧ r0.loud m = true then r0.s' else r0.s) = r0.s' := by
      rw [← hs]
      congr 2
      simp; omega
    simp only [stD]
    rw [hs, hs2, show k + (i + 1) = k + 1 + i by omega]
    exact this

theorem chain_rec : ∀ {R : List Rec} {e : Env} {s : St} {e' : Env} {s' : St}, Chain C m good all R e s e' s' → ∀ (i : Nat) (r : Rec), R[i]? = some r → RecOk C m good all r
  | _, _, _, _, _, .nil e s, i, r, h => by simp at h
  | _, _, _, _, _, .cons r0 R e' s' h0 tl, 0, r, h => by simp at h; subst h; exact h0
  | _, _, _, _, _, .cons r0 R e' s' h0 tl, i + 1, r, h => chain_rec tl i r (by simpa using h)

theorem chain_end {t : Nat} : ∀ {R : List Rec} {e : Env} {s : St} {e' : Env} {s' : St}, Chain C m good all R e s e' s' → ∀ (k : Nat) (D : Nat → Bool), (∀ j, j < R.length → D (k + j) = true) → (envD D k R e).get t = e'.get t ∧ stD m D k R s = s'
  | _, _, _, _, _, .nil e s, k, D, _ => ⟨rfl, rfl⟩
  | _, _, _, _, _, .cons r0 R e' s' h0 tl, k, D, hD => by
    have h1 := hD 0 (by simp)
    simp only [Nat.add_zero] at h1
    have ih := chain_end (t := t) tl (k + 1) D (fun j hj => by have := hD (j + 1) (by simpa using hj); rwa [show k + (j + 1) = k + 1 + j by omega] at this)
    have hs : (if D k = true ∧ r0.loud m = true then r0.s' else r0.s) = r0.s' := by
      split
      · rfl
      · rename_i hn
        have hl : r0.loud m = false := by simpa [h1] using hn
        unfold Rec.loud at hl
        cases hw : r0.wanted with
        | false => exact (h0.off hw).2.symm
        | true =>
          rw [hw] at hl
          exact ((h0.still hw (by simpa using hl)).2).symm
    simp only [envD, stD, h1, if_true]
    simp only [h1] at hs
    rw [hs]
    exact ih

/-- A still operation that reads nothing from the heap. -/
theorem still_indep (T : Tr TI) (h h' : Tr Blk) (e : Env) (o : Op) (hr : readsHeap o = false) : stillOp T h e o = stillOp T h' e o := by
  cases o <;> first | rfl | (simp [readsHeap] at hr)

/-- What the two looks of the evaluator have shown, pair by pair. -/
structure PairsOk (C : Ctx) (m : List Nat) (M : List Nat) (R : List Rec) : Prop where
  ld : ∀ i j ri rj, i < j → R[i]? = some ri → R[j]? = some rj → ri.loud m = true → rj.read m = true → (M.getD j 0).testBit i = true ∨ stillOp C.T ri.s.heap rj.e rj.o.op = some rj.v
  rd : ∀ i j ri rj, i < j → R[i]? = some ri → R[j]? = some rj → ri.read m = true → rj.loud m = true → (M.getD j 0).testBit i = true ∨ stillOp C.T rj.s'.heap ri.e ri.o.op = some ri.v

/-- The value of a still operation in whatever state it may come up. -/
theorem still_any {M : List Nat} {R : List Rec} {e : Env} {s : St} {e' : Env} {s' : St} (hc : Chain C m good all R e s e' s') (hp : PairsOk C m M R) {D : Nat → Bool}
    (hll : ∀ i j ri rj, i < j → R[i]? = some ri → R[j]? = some rj → ri.loud m = true → rj.loud m = true → D j = true → D i = true)
    {i : Nat} {r : Rec} (hr : R[i]? = some r) (hw : r.wanted = true) (hs : isStill m r.o = true) (hDi : D i = false)
    (hbefore : ∀ j rj, R[j]? = some rj → j < i → (M.getD i 0).testBit j = true → D j = true) (hafter : ∀ j rj, R[j]? = some rj → i < j → D j = true → (M.getD j 0).testBit i = false) :
    stillOp C.T (stD m D 0 R s).heap r.e r.o.op = some r.v := by
  have hrec := chain_rec hc i r hr
  have hown := (hrec.still hw hs).1
  cases hread : readsHeap r.o.op with
  | false => rw [still_indep C.T _ r.s.heap _ _ hread]; exact hown
  | true =>
    have hrd : r.read m = true := by simp [Rec.read, hw, hs, hread]
    have hnl : r.loud m = false := by simp [Rec.loud, hs]
    -- the first loud one that has not come up
    by_cases hex : ∃ j rj, R[j]? = some rj ∧ j < i ∧ rj.loud m = true ∧ D j = false
    · -- the least such
      obtain ⟨c, ⟨rc, h1, h2, h3, h4⟩, hmin⟩ : ∃ c, (∃ rj, R[c]? = some rj ∧ c < i ∧ rj.loud m = true ∧ D c = false) ∧ ∀ c' < c, ¬ ∃ rj, R[c']? = some rj ∧ c' < i ∧ rj.loud m = true ∧ D c' = false := by
        obtain ⟨j, rj, q⟩ := hex
        induction j using Nat.strongRecOn generalizing rj with
        | _ j ih =>
          by_cases hlow : ∃ c' < j, ∃ rj, R[c']? = some rj ∧ c' < i ∧ rj.loud m = true ∧ D c' = false
          · obtain ⟨c', hc', rj', q'⟩ := hlow
            exact ih c' hc' rj' q'
          · exact ⟨j, ⟨rj, q⟩, fun c' hc' q' => hlow ⟨c', hc', q'⟩⟩
      have hst : stD m D 0 R s = rc.s := by
        rw [← (chain_st hc 0 c rc h1).1]
        refine stD_congr R 0 s (fun j rj hj hl => ?_)
        simp only [Nat.zero_add]
        by_cases hjc : j < c
        · rw [decide_eq_true hjc]
          cases hD : D j with
          | true => rfl
          | false => exact absurd ⟨rj, hj, by omega, hl, hD⟩ (hmin j hjc)
        · rw [decide_eq_false hjc]
          cases hD : D j with
          | false => rfl
          | true =>
            by_cases hjc2 : j = c
            · subst hjc2; rw [h4] at hD; cases hD
            · have := hll c j rc rj (by omega) h1 hj h3 hl hD
              rw [h4] at this; cases this
      rw [hst]
      rcases hp.ld c i rc r h2 h1 hr h3 hrd with hb | hv
      · have := hbefore c rc h1 h2 hb
        rw [h4] at this; cases this
      · exact hv
    · -- all loud ones ahead of it have come up
      have hlow : ∀ j rj, R[j]? = some rj → j < i → rj.loud m = true → D j = true := fun j rj hj hji hl => by
        cases hD : D j with
        | true => rfl
        | false => exact absurd ⟨j, rj, hj, hji, hl, hD⟩ hex
      -- step by step over the loud ones behind it
      have key : ∀ n, i < n → n ≤ R.length → stillOp C.T (stD m (fun j => decide (j < n) && (decide (j < i) || D j)) 0 R s).heap r.e r.o.op = some r.v := by
        intro n
        induction n with
        | zero => intro h; omega
        | succ n ih =>
          intro hn hle
          by_cases hni : n = i
          · subst hni
            have : stD m (fun j => decide (j < n + 1) && (decide (j < n) || D j)) 0 R s = r.s := by
              rw [← (chain_st hc 0 n r hr).1]
              refine stD_congr R 0 s (fun j rj hj hl => ?_)
              simp only [Nat.zero_add]
              by_cases hjn : j < n
              · simp [hjn, Nat.lt_succ_of_lt hjn]
              · by_cases hjn2 : j = n
                · subst hjn2; simp [hDi]
                · simp [hjn, show ¬ j < n + 1 by omega]
            rw [this]; exact hown
          · have ih' := ih (by omega) (by omega)
            have hnl2 : n < R.length := by omega
            have hrn : R[n]? = some R[n] := List.getElem?_eq_getElem hnl2
            by_cases hc2 : R[n].loud m = true ∧ D n = true
            · -- a loud one that has come up
              have hst : stD m (fun j => decide (j < n + 1) && (decide (j < i) || D j)) 0 R s = R[n].s' := by
                rw [← (chain_st hc 0 n R[n] hrn).2]
                refine stD_congr R 0 s (fun j rj hj hl => ?_)
                simp only [Nat.zero_add]
                by_cases hjn : j < n + 1
                · simp only [hjn, decide_true, Bool.true_and]
                  by_cases hji : j < i
                  · simp [hji]
                  · by_cases hjn2 : j = n
                    · subst hjn2; simp [hc2.2]
                    · simp [hll j n rj R[n] (by omega) hj hrn hl hc2.1 hc2.2]
                · simp [hjn]
              rw [hst]
              rcases hp.rd i n r R[n] (by omega) hr hrn hrd hc2.1 with hb | hv
              · have := hafter n R[n] hrn (by omega) hc2.2
                rw [this] at hb; cases hb
              · exact hv
            · have : stD m (fun j => decide (j < n + 1) && (decide (j < i) || D j)) 0 R s = stD m (fun j => decide (j < n) && (decide (j < i) || D j)) 0 R s := by
                refine stD_congr R 0 s (fun j rj hj hl => ?_)
                simp only [Nat.zero_add]
                by_cases hjn : j = n
                · subst hjn
                  rw [hrn] at hj; cases hj
                  have hDn : D j = false := by
                    cases hD : D j with
                    | false => rfl
                    | true => exact absurd ⟨hl, hD⟩ hc2
                  simp [hDn, show ¬ j < i by omega]
                · by_cases hjn2 : j < n
                  · simp [hjn2, Nat.lt_succ_of_lt hjn2]
                  · simp [hjn2, show ¬ j < n + 1 by omega]
              rw [this]; exact ih'
      have hil : i < R.length := (List.getElem?_eq_some_iff.1 hr).1
      have hfin := key R.length hil (Nat.le_refl _)
      have : stD m (fun j => decide (j < R.length) && (decide (j < i) || D j)) 0 R s = stD m D 0 R s := by
        refine stD_congr R 0 s (fun j rj hj hl => ?_)
        simp only [Nat.zero_add]
        have hjl : j < R.length := (List.getElem?_eq_some_iff.1 hj).1
        by_cases hji : j < i
        · simp [hjl, hji, hlow j rj hj hji hl]
        · simp [hjl, hji]
      rw [this] at hfin
      exact hfin

end
end Go.Am
