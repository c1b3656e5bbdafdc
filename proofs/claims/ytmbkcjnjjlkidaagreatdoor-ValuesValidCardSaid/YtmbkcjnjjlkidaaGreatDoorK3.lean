/- The abstract machine: a region that draws its order does what its run in the order of the text does: the induction. -/
import Derived.Test.YtmbkcjnjjlkidaaGreatDoorK2
import Derived.LoopN
import Derived.Test.YtmbkcjnjjlkidaaGreatDoorK1
set_option linter.all false
namespace Go.Am
open Go.RowKit

section
variable {P : Program} {B : Nat → Prop} {NG N : Nat} {w0 : World} {C : Ctx} {m : List Nat} {good : (Nat → List AV → St → Option (Res × St)) → Prop} {ops : Array Oper}

theorem listedD_set {listed : Array Bool} {i j : Nat} (hi : i < listed.size) : listedD (listed.setIfInBounds i true) j = (listedD listed j || decide (j = i)) := by
  unfold listedD
  by_cases h : j = i
  · subst h; simp [hi]
  · rw [getD_set_ne false (fun e => h e.symm)]; simp [h]

/-- What is known where an operation may come up. -/
structure ReadyAt (m : List Nat) (ops : Array Oper) (R : List Rec) (listed : Array Bool) (i : Nat) (o : Oper) : Prop where
  op : ops[i]? = some o
  off : listedD listed i = false
  lt : i < listed.size
  before : ∀ j, ((masksL [] ops.toList).getD i 0).testBit j = true → listedD listed j = true
  after : ∀ j, j < ops.size → listedD listed j = true → ((masksL [] ops.toList).getD j 0).testBit i = false
  early : ∀ j x, j < i → ops[j]? = some x → listedD listed j = false → x.apart ops o = true ∧ (isStill m x = true ∨ isStill m o = true)
  late : ∀ j y, i < j → ops[j]? = some y → listedD listed j = true → o.apart ops y = true ∧ (isStill m o = true ∨ isStill m y = true)

theorem readyAt (hok : regionOk m ops = true) {listed : Array Bool} (hs : listed.size = ops.size) (hcl : ∀ j o, ops.toList[j]? = some o → listedD listed j = true → ∀ e ∈ o.after.toList, Region.binds .any e = true → listedD listed e.on = true)
    {R : List Rec} {i : Nat} (hi : i ∈ Region.ready .any ops listed) : ∃ o, ReadyAt m ops R listed i o := by
  rw [mem_ready] at hi
  obtain ⟨h0, o, ho, hall⟩ := hi
  have hlt : i < ops.size := (Array.getElem?_eq_some_iff.1 ho).1
  have ho' : ops.toList[i]? = some o := by simpa using ho
  have hoff : listedD listed i = false := by
    unfold listedD
    have hl : i < listed.size := by omega
    simp [hl] at h0 ⊢; exact h0
  simp only [regionOk, Bool.and_eq_true] at hok
  have hbefore : ∀ j, ((masksL [] ops.toList).getD i 0).testBit j = true → listedD listed j = true := fun j hj =>
    mask_closed (D := listedD listed) hcl i o j ho' (fun e he hb => hall e (by simpa using he) hb) hj
  have hafter : ∀ j, j < ops.size → listedD listed j = true → ((masksL [] ops.toList).getD j 0).testBit i = false := fun j hj hD => by
    cases hb : ((masksL [] ops.toList).getD j 0).testBit i with
    | false => rfl
    | true =>
      have hoj : ops.toList[j]? = some ops[j] := by simp [hj]
      have := mask_closed (D := listedD listed) hcl j _ i hoj (hcl j _ hoj hD) hb
      rw [hoff] at this; cases this
  refine ⟨o, ho, hoff, by omega, hbefore, hafter, fun j x hji hx hD => ?_, fun j y hij hy hD => ?_⟩
  · refine pairsOk_spec hok.2 hji hx ho ?_
    cases hb : ((masksL [] ops.toList).getD i 0).testBit j with
    | false => rfl
    | true => have := hbefore j hb; rw [hD] at this; cases this
  · exact pairsOk_spec hok.2 hij ho hy (hafter j (Array.getElem?_eq_some_iff.1 hy).1 hD)

variable {R : List Rec} {e0 : Env} {s0 : St} {e1 : Env} {s1 : St}

theorem env_agree (hc : Chain C m good ops.toList R e0 s0 e1 s1) (hRo : ∀ (j : Nat) (r : Rec), R[j]? = some r → ops.toList[j]? = some r.o) {listed : Array Bool} {i : Nat} {o : Oper} (hra : ReadyAt m ops R listed i o) {r : Rec} (hr : R[i]? = some r)
    {t : Nat} (ht : t ∈ o.looksAt ops) : (envD (listedD listed) 0 R e0).get t = r.e.get t := by
  rw [← chain_env (t := t) hc 0 i r hr]
  refine envD_congr R 0 e0 e0 (fun j rj hj hd => ?_) rfl
  simp only [Nat.zero_add]
  have hoj : ops[j]? = some rj.o := by simpa using hRo j rj hj
  by_cases hji : j < i
  · rw [decide_eq_true hji]
    cases hD : listedD listed j with
    | true => rfl
    | false =>
      have := (Oper.apart_spec (hra.early j rj.o hji hoj hD).1).1 t hd
      exact absurd ht this
  · rw [decide_eq_false hji]
    cases hD : listedD listed j with
    | false => rfl
    | true =>
      have hne : j ≠ i := fun e => by subst e; rw [hra.off] at hD; cases hD
      have := (Oper.apart_spec (hra.late j rj.o (by omega) hoj hD).1).2.2 t hd
      exact absurd ht this

/-- The same at the operation that panics: all records lie ahead of it. -/
theorem env_agree_end (hc : Chain C m good ops.toList R e0 s0 e1 s1) (hRo : ∀ (j : Nat) (r : Rec), R[j]? = some r → ops.toList[j]? = some r.o) {listed : Array Bool} {i : Nat} {o : Oper} (hra : ReadyAt m ops R listed i o) (hi : i = R.length)
    {t : Nat} (ht : t ∈ o.looksAt ops) : (envD (listedD listed) 0 R e0).get t = e1.get t := by
  rw [← (chain_end (t := t) hc 0 (fun _ => true) (fun _ _ => rfl)).1]
  refine envD_congr R 0 e0 e0 (fun j rj hj hd => ?_) rfl
  simp only [Nat.zero_add]
  have hoj : ops[j]? = some rj.o := by simpa using hRo j rj hj
  have hji : j < i := by rw [hi]; exact (List.getElem?_eq_some_iff.1 hj).1
  cases hD : listedD listed j with
  | true => rfl
  | false =>
    have := (Oper.apart_spec (hra.early j rj.o hji hoj hD).1).1 t hd
    exact absurd ht this

theorem st_agree_end (hc : Chain C m good ops.toList R e0 s0 e1 s1) (hRo : ∀ (j : Nat) (r : Rec), R[j]? = some r → ops.toList[j]? = some r.o) {listed : Array Bool} {i : Nat} {o : Oper} (hra : ReadyAt m ops R listed i o) (hi : i = R.length) (hns : isStill m o = false) :
    stD m (listedD listed) 0 R s0 = s1 := by
  rw [← (chain_end (t := 0) hc 0 (fun _ => true) (fun _ _ => rfl)).2]
  refine stD_congr R 0 s0 (fun j rj hj hl => ?_)
  simp only [Nat.zero_add]
  have hoj : ops[j]? = some rj.o := by simpa using hRo j rj hj
  have hji : j < i := by rw [hi]; exact (List.getElem?_eq_some_iff.1 hj).1
  cases hD : listedD listed j with
  | true => rfl
  | false =>
    have hsj : isStill m rj.o = false := by simp [Rec.loud] at hl; exact hl.2
    rcases (hra.early j rj.o hji hoj hD).2 with h | h
    · rw [hsj] at h; cases h
    · rw [hns] at h; cases h

theorem st_agree (hc : Chain C m good ops.toList R e0 s0 e1 s1) (hRo : ∀ (j : Nat) (r : Rec), R[j]? = some r → ops.toList[j]? = some r.o) {listed : Array Bool} {i : Nat} {o : Oper} (hra : ReadyAt m ops R listed i o) {r : Rec} (hr : R[i]? = some r) (hns : isStill m o = false) :
    stD m (listedD listed) 0 R s0 = r.s ∧ ∀ i', (i' = i) → stD m (fun j => listedD listed j || decide (j = i')) 0 R s0 = (if r.loud m = true then r.s' else r.s) := by
  have hlow : ∀ j rj, R[j]? = some rj → rj.loud m = true → listedD listed j = decide (j < i) := fun j rj hj hl => by
    have hoj : ops[j]? = some rj.o := by simpa using hRo j rj hj
    have hsj : isStill m rj.o = false := by simp [Rec.loud] at hl; exact hl.2
    by_cases hji : j < i
    · rw [decide_eq_true hji]
      cases hD : listedD listed j with
      | true => rfl
      | false =>
        rcases (hra.early j rj.o hji hoj hD).2 with h | h
        · rw [hsj] at h; cases h
        · rw [hns] at h; cases h
    · rw [decide_eq_false hji]
      cases hD : listedD listed j with
      | false => rfl
      | true =>
        have hne : j ≠ i := fun e => by subst e; rw [hra.off] at hD; cases hD
        rcases (hra.late j rj.o (by omega) hoj hD).2 with h | h
        · rw [hns] at h; cases h
        · rw [hsj] at h; cases h
  refine ⟨?_, fun i' hi' => ?_⟩
  · rw [← (chain_st hc 0 i r hr).1]
    exact stD_congr R 0 s0 (fun j rj hj hl => by simp only [Nat.zero_add]; exact hlow j rj hj hl)
  · subst hi'
    split
    · rename_i hl
      rw [← (chain_st hc 0 i' r hr).2]
      refine stD_congr R 0 s0 (fun j rj hj hl => ?_)
      simp only [Nat.zero_add]
      rw [hlow j rj hj hl]
      by_cases h1 : j < i'
      · simp [h1, Nat.lt_succ_of_lt h1]
      · by_cases h2 : j = i'
        · subst h2; simp
        · simp [h1, h2, show ¬ j < i' + 1 by omega]
    · rename_i hl
      rw [← (chain_st hc 0 i' r hr).1]
      refine stD_congr R 0 s0 (fun j rj hj hl2 => ?_)
      simp only [Nat.zero_add]
      rw [hlow j rj hj hl2]
      have : j ≠ i' := fun e => by subst e; rw [hr] at hj; cases hj; exact hl hl2
      simp [this]

theorem inv_step {G : Gh} {a0 : Act} (hc : Chain C m good ops.toList R e0 s0 e1 s1) (hRo : ∀ (j : Nat) (r : Rec), R[j]? = some r → ops.toList[j]? = some r.o) {listed : Array Bool} {i : Nat} {o : Oper} (hra : ReadyAt m ops R listed i o) {a : Act} {w w' : World}
    (hinv : Inv P B NG w0 C m ops R e0 s0 G a0 listed a w) {r : Rec} (hr : R[i]? = some r) (hN : N ≤ a0.tmps.size) (hops : ∀ o ∈ ops.toList, opOk NG N o = true)
    (hcl : ∀ e ∈ o.after.toList, Region.binds .any e = true → listedD listed e.on = true) {G1 G2 : Gh} {v : Value} (hle : G.Le G1) (hle2 : G1.Le G2) (hg : GOk NG G1) (he : EnvR G1 (envD (listedD listed) 0 R e0) a)
    (hw : WR B w0 G2 (if r.loud m = true then r.s' else stD m (listedD listed) 0 R s0) w') (hst : r.loud m = true → isStill m o = false) (hv : VR G2 r.v v) :
    Inv P B NG w0 C m ops R e0 s0 G a0 (listed.setIfInBounds i true) (a.put o.dst v) w' := by
  have hoo : r.o = o := by
    have h1 := hRo i r hr
    have h2 : ops.toList[i]? = some o := by simpa using hra.op
    rw [h1] at h2; cases h2; rfl
  have hom : o ∈ ops.toList := by
    have h2 : ops.toList[i]? = some o := by simpa using hra.op
    exact List.mem_of_getElem? h2
  have hset : listedD (listed.setIfInBounds i true) = fun j => listedD listed j || decide (j = i) := funext fun j => listedD_set hra.lt
  have hdst : ∀ d, o.dst = some d → d < a.tmps.size := fun d hd => by
    have := hops o hom
    simp only [opOk, hd, Bool.and_eq_true, decide_eq_true_eq] at this
    rw [hinv.tmps]; exact Nat.lt_of_lt_of_le this.2 hN
  refine { size := by simp [hinv.size], closed := ?_, inside := ?_, rel := ⟨G2, hle.trans hle2, ?_, hg.mono hle2, ?_⟩, tmps := ?_, defers := ?_ }
  · intro j q hq hD e he' hb
    rw [hset] at hD ⊢
    simp only [Bool.or_eq_true, decide_eq_true_eq] at hD ⊢
    rcases hD with hD | rfl
    · exact .inl (hinv.closed j q hq hD e he' hb)
    · have h2 : ops.toList[j]? = some o := by simpa using hra.op
      rw [h2] at hq; cases hq
      exact .inl (hcl e he' hb)
  · intro j hD
    rw [hset] at hD
    simp only [Bool.or_eq_true, decide_eq_true_eq] at hD
    rcases hD with hD | rfl
    · exact hinv.inside j hD
    · exact (List.getElem?_eq_some_iff.1 hr).1
  · rw [hset]
    by_cases hl : r.loud m = true
    · have := (st_agree hc hRo hra hr (hst hl)).2 i rfl
      rw [this, if_pos hl]; rw [if_pos hl] at hw; exact hw
    · rw [if_neg hl] at hw
      have : stD m (fun j => listedD listed j || decide (j = i)) 0 R s0 = stD m (listedD listed) 0 R s0 := by
        refine stD_congr R 0 s0 (fun j rj hj hl2 => ?_)
        have : j ≠ i := fun e => by subst e; rw [hr] at hj; cases hj; exact hl hl2
        simp [this]
      rw [this]; exact hw
  · rw [hset]
    intro t x hx
    by_cases hd : o.dst = some t
    · have hins := envD_insert (D := fun j => listedD listed j || decide (j = i)) (t := t) R 0 e0 hr (by rw [hoo]; exact hd) (by simp) (fun j rj hj hdj hij => by
        simp only [Nat.zero_add]
        have hoj : ops[j]? = some rj.o := by simpa using hRo j rj hj
        cases hD : listedD listed j with
        | false => simp; omega
        | true =>
          have := (Oper.apart_spec (hra.late j rj.o hij hoj hD).1).2.1 t hd
          exact absurd hdj this)
      rw [hins] at hx
      cases hx
      have hlt := hdst t hd
      have : (a.put o.dst v).tmps.getD t undef = v := by simp [Act.put, hd, hlt]
      rw [this]; exact hv
    · have hcg := envD_congr (D1 := fun j => listedD listed j || decide (j = i)) (D2 := listedD listed) (t := t) R 0 e0 e0 (fun j rj hj hdj => by
        have : j ≠ i := fun e => by subst e; rw [hr] at hj; cases hj; exact hd (by rw [← hoo]; exact hdj)
        simp [this]) rfl
      rw [hcg] at hx
      have : (a.put o.dst v).tmps.getD t undef = a.tmps.getD t undef := by
        unfold Act.put
        cases hdd : o.dst with
        | none => rfl
        | some d =>
          have : d ≠ t := fun e => hd (by rw [hdd, e])
          simp [Array.getElem?_setIfInBounds_ne this]
      rw [this]
      exact (he t x hx).mono hle2
  · rw [← hinv.tmps]; unfold Act.put; split <;> simp
  · rw [← hinv.defers]; unfold Act.put; split <;> rfl

theorem region_any (hT : TOk P C.T) (hok : regionOk m ops = true) (hops : ∀ o ∈ ops.toList, opOk NG N o = true) {ex : Ex} {e' : Env} {s' : St} (hc : Chain C m good ops.toList R e0 s0 e1 s1) (hp : PairsOk C m (masksL [] ops.toList) R)
    (hRo : ∀ (j : Nat) (r : Rec), R[j]? = some r → ops.toList[j]? = some r.o) (hend : EndOf C m good ops.toList (masksL [] ops.toList) R e1 s1 ex e' s') (hgood : ∀ call, good call → CallsOk P NG B w0 call) {G : Gh} {a0 : Act} (hN : N ≤ a0.tmps.size)
    {Q : Exit → Act → World → Prop}
    (hQn : ex = .normal → ∀ G' a' w', G.Le G' → WR B w0 G' s' w' → EnvR G' e' a' → a'.tmps.size = a0.tmps.size → a'.defers = a0.defers → Q .normal a' w')
    (hQp : ∀ v, ex = .pan v → ∀ G' a' w' u, G.Le G' → WR B w0 G' s' w' → VR G' v u → a'.defers = a0.defers → Q (.panic [{ v := u, recovered := false }]) a' w') :
    ∀ (fuel : Nat) (listed : Array Bool) (a : Act) (w : World), Inv P B NG w0 C m ops R e0 s0 G a0 listed a w → left listed ops.size = fuel → wpAny P .any ops Q fuel listed a w := by
  have hok' := hok
  simp only [regionOk, Bool.and_eq_true] at hok'
  -- all operations have come up
  have done : ∀ (listed : Array Bool) (a : Act) (w : World), Inv P B NG w0 C m ops R e0 s0 G a0 listed a w → (∀ j, j < ops.size → listed.getD j true = true) → Q .normal a w := by
    intro listed a w hinv hall
    have hD : ∀ j, j < ops.size → listedD listed j = true := fun j hj => by
      have hl : j < listed.size := by rw [hinv.size]; exact hj
      have := hall j hj
      unfold listedD
      simp [hl] at this ⊢; exact this
    cases hend with
    | normal hlen =>
      have hlen' : R.length = ops.size := by simpa using hlen
      obtain ⟨G', q1, q2, q3, q4⟩ := hinv.rel
      have hDR : ∀ j, j < R.length → listedD listed (0 + j) = true := fun j hj => by rw [Nat.zero_add]; exact hD j (by omega)
      refine hQn rfl G' a w q1 ?_ ?_ hinv.tmps hinv.defers
      · rw [(chain_end (t := 0) hc 0 _ hDR).2] at q2; exact q2
      · intro t
        have := q4 t
        rw [(chain_end (t := t) hc 0 _ hDR).1] at this; exact this
    | pan o v s' ho hw hs hl hb =>
      have hlt : R.length < ops.size := by simpa using (List.getElem?_eq_some_iff.1 ho).1
      have := hinv.inside R.length (hD _ hlt)
      omega
  intro fuel
  induction fuel with
  | zero =>
    intro listed a w hinv hl
    have hall := left_zero hl
    refine ⟨?_, done listed a w hinv hall⟩
    rw [List.eq_nil_iff_forall_not_mem]
    intro j hj
    rw [mem_ready] at hj
    obtain ⟨h0, o, ho, _⟩ := hj
    have := hall j (Array.getElem?_eq_some_iff.1 ho).1
    rw [h0] at this; cases this
  | succ fuel ih =>
    intro listed a w hinv hl
    refine ⟨fun hnil => done listed a w hinv (fun j hj => ?_), fun i hi => ?_⟩
    · -- where none may come up, all have
      induction j using Nat.strongRecOn with
      | _ j ihj =>
        cases hb : listed.getD j true with
        | true => rfl
        | false =>
          have ho : ops[j]? = some ops[j] := by simp [hj]
          have hmem : j ∈ Region.ready .any ops listed := by
            rw [mem_ready]
            refine ⟨hb, _, ho, fun e he hbd => ?_⟩
            have hlt := edgesOk_spec hok'.1 (j := j) (o := ops[j]) (by simp) e (by simpa using he) hbd
            have := ihj e.on hlt (by omega)
            have hl2 : e.on < listed.size := by rw [hinv.size]; omega
            simp [hl2] at this ⊢; exact this
          rw [hnil] at hmem; cases hmem
    · obtain ⟨o, hra⟩ := readyAt (R := R) hok hinv.size hinv.closed hi
      have hedges : ∀ e ∈ o.after.toList, Region.binds .any e = true → listedD listed e.on = true := fun e he hb => by
        rw [mem_ready] at hi
        obtain ⟨_, o2, ho2, hall⟩ := hi
        rw [hra.op] at ho2; cases ho2
        exact hall e (by simpa using he) hb
      have hiop : ops.toList[i]? = some o := by simpa using hra.op
      have hom : o ∈ ops.toList := List.mem_of_getElem? hiop
      have hoo := hops o hom
      simp only [opOk, Bool.and_eq_true, List.all_eq_true] at hoo
      have hi0 : listed.getD i true = false := by
        rw [mem_ready] at hi; exact hi.1
      have hleft : left (listed.setIfInBounds i true) ops.size = fuel := by
        have := left_set hinv.size hi0
        omega
      obtain ⟨G1, q1, q2, q3, q4⟩ := hinv.rel
      have hdall : ∀ q ∈ ops.toList, ∀ d, q.dst = some d → d < a.tmps.size := fun q hq d hd => by
        have := hops q hq
        simp only [opOk, hd, Bool.and_eq_true, decide_eq_true_eq] at this
        rw [hinv.tmps]; exact Nat.lt_of_lt_of_le this.2 hN
      have hwant := fun {b : Bool} => wanted_sim (b := b) q4 ops o hdall
      have hlen : i ≤ R.length := by
        cases hend with
        | normal hlen => have : i < ops.size := by rw [← hinv.size]; exact hra.lt
                         have : R.length = ops.size := by simpa using hlen
                         omega
        | pan o2 v s' ho hw hs hl hb =>
          rcases Nat.lt_or_ge R.length i with hlt | hge
          · have hb' := hb i hlt (by have := hra.lt; rw [hinv.size] at this; simpa using this)
            have := hinv.inside _ (hra.before _ hb')
            omega
          · exact hge
      unfold wpOp
      rw [hra.op]
      simp only []
      rcases Nat.lt_or_ge i R.length with hlt | hge
      · -- an operation of the record
        have hr : R[i]? = some R[i] := List.getElem?_eq_getElem hlt
        have hro : R[i].o = o := by
          have h1 := hRo i _ hr
          rw [hiop] at h1; cases h1; rfl
        have hrec := chain_rec hc i _ hr
        have hagree : ∀ t ∈ o.looksAt ops, (envD (listedD listed) 0 R e0).get t = R[i].e.get t := fun t ht => env_agree hc hRo hra hr ht
        have hwc : wantedA ops.toList (envD (listedD listed) 0 R e0) o = some R[i].wanted := by
          rw [wantedA_congr hagree, ← hro]; exact hrec.wanted
        rw [hwant hwc]
        cases hwt : R[i].wanted with
        | false =>
          simp only [Bool.false_eq_true, if_false]
          obtain ⟨hv, hs2⟩ := hrec.off hwt
          have hnl : ¬ R[i].loud m = true := by simp [Rec.loud, hwt]
          exact ih _ _ _ (inv_step hc hRo hra hinv hr hN hops hedges q1 (.refl G1) q3 q4 (by rw [if_neg hnl]; exact q2) (fun hh => absurd hh hnl) (by rw [hv]; exact .tup [] [] .nil)) hleft
        | true =>
          simp only [if_true]
          left
          cases hst : isStill m o with
          | true =>
            have hnl : ¬ R[i].loud m = true := by simp [Rec.loud, hro, hst]
            have hval := still_any hc hp (D := listedD listed) (fun j1 j2 r1 r2 h12 hj1 hj2 hl1 hl2 hD2 => by
              cases hD1 : listedD listed j1 with
              | true => rfl
              | false =>
                have ho1 : ops[j1]? = some r1.o := by simpa using hRo j1 r1 hj1
                have ho2 : ops[j2]? = some r2.o := by simpa using hRo j2 r2 hj2
                have hs1 : isStill m r1.o = false := by simp [Rec.loud] at hl1; exact hl1.2
                have hs2 : isStill m r2.o = false := by simp [Rec.loud] at hl2; exact hl2.2
                cases hb : ((masksL [] ops.toList).getD j2 0).testBit j1 with
                | true =>
                  have := mask_closed (D := listedD listed) hinv.closed j2 r2.o j1 (hRo j2 r2 hj2) (hinv.closed j2 r2.o (hRo j2 r2 hj2) hD2) hb
                  rw [hD1] at this; cases this
                | false =>
                  rcases (pairsOk_spec hok'.2 h12 ho1 ho2 hb).2 with h | h
                  · rw [hs1] at h; cases h
                  · rw [hs2] at h; cases h) hr hwt (by rw [hro]; exact hst) hra.off (fun j rj hj hji hb => hra.before j hb)
              (fun j rj hj hij hD => hra.after j (by have := (List.getElem?_eq_some_iff.1 (hRo j rj hj)).1; simpa using this) hD)
            have hval2 : stillOp C.T (stD m (listedD listed) 0 R s0).heap (envD (listedD listed) 0 R e0) o.op = some R[i].v := by
              rw [stillOp_congr (e' := R[i].e) (fun t ht => hagree t (looks_operand ht)), ← hro]; exact hval
            refine still_wp hT q2 q3 q4 o hoo.1 hval2 (fun G2 v w2 p1 p2 p3 => ?_)
            exact ih _ _ _ (inv_step hc hRo hra hinv hr hN hops hedges q1 p1 q3 q4 (by rw [if_neg hnl]; exact p2) (fun hh => absurd hh hnl) p3) hleft
          | false =>
            have hl2 : R[i].loud m = true := by simp [Rec.loud, hwt, hro, hst]
            obtain ⟨call, hgc, hlo⟩ := hrec.loud hwt (by rw [hro]; exact hst)
            have hs1 := (st_agree hc hRo hra hr hst).1
            have hlo2 : loudOp C m call (envD (listedD listed) 0 R e0) (stD m (listedD listed) 0 R s0) o = some (.ret R[i].v, R[i].s') := by
              rw [hs1, loudOp_congr (e' := R[i].e) (fun t ht => hagree t (looks_operand ht))]
              rw [hro] at hlo; exact hlo
            refine loud_wp hT q2 q3 q4 (hgood call hgc) o hoo.1 hlo2 (fun G2 v w2 x hx p1 p2 p3 => ?_) (fun G2 v w2 x hx => by cases hx)
            cases hx
            exact ih _ _ _ (inv_step hc hRo hra hinv hr hN hops hedges q1 p1 q3 q4 (by rw [if_pos hl2]; exact p2) (fun _ => hst) p3) hleft
      · -- the call that panics
        have hie : i = R.length := by omega
        cases hend with
        | normal hlen =>
          have h1 := hra.lt
          rw [hinv.size] at h1
          have : R.length = ops.size := by simpa using hlen
          omega
        | pan o2 v s' ho hw hs hl hb =>
          have : o2 = o := by rw [← hie, hiop] at ho; cases ho; rfl
          subst this
          have hagree : ∀ t ∈ o2.looksAt ops, (envD (listedD listed) 0 R e0).get t = e1.get t := fun t ht => env_agree_end hc hRo hra hie ht
          rw [hwant ((wantedA_congr hagree).trans hw)]
          simp only [if_true]
          left
          obtain ⟨call, hgc, hlo⟩ := hl
          have hs1 := st_agree_end hc hRo hra hie hs
          have hlo2 : loudOp C m call (envD (listedD listed) 0 R e0) (stD m (listedD listed) 0 R s0) o2 = some (.pan v, s') := by
            rw [hs1, loudOp_congr (e' := e1) (fun t ht => hagree t (looks_operand ht))]; exact hlo
          refine loud_wp hT q2 q3 q4 (hgood call hgc) o2 hoo.1 hlo2 (fun G2 u w2 x hx => by cases hx) (fun G2 u w2 x hx p1 p2 p3 => ?_)
          cases hx
          exact hQp v rfl G2 a w2 u (q1.trans p1) p2 p3 hinv.defers

end
end Go.Am
namespace Go.Am
open Go.RowKit

def codeOk (NG N : Nat) (m : List Nat) : Code → Bool
  | .region _ ops draw => ops.toList.all (opOk NG N) && (!draw || regionOk m ops)
  | .seq a b => codeOk NG N m a && codeOk NG N m b
  | .cond c a b => okO NG c && codeOk NG N m a && codeOk NG N m b
  | .block _ a => codeOk NG N m a
  | .loop a => codeOk NG N m a
  | _ => true

def CodePost (B : Nat → Prop) (w0 : World) (G : Gh) (a0 : Act) (ex : Ex) (e' : Env) (s' : St) : Exit → Act → World → Prop := fun x a' w' =>
  ∃ G', G.Le G' ∧ WR B w0 G' s' w' ∧ a'.defers = a0.defers ∧ match ex with
    | .normal => x = .normal ∧ EnvR G' e' a' ∧ a'.tmps.size = a0.tmps.size
    | .exit id => x = .exit id ∧ EnvR G' e' a' ∧ a'.tmps.size = a0.tmps.size
    | .goto l => x = .goto l ∧ EnvR G' e' a' ∧ a'.tmps.size = a0.tmps.size
    | .ret => x = .ret ∧ EnvR G' e' a' ∧ a'.tmps.size = a0.tmps.size
    | .pan v => ∃ u, x = .panic [{ v := u, recovered := false }] ∧ VR G' v u

section
variable {P : Program} {B : Nat → Prop} {NG N : Nat} {w0 : World} {C : Ctx} {fn : AFun}

theorem CodePost.trans {G G1 : Gh} {a0 a1 : Act} {ex : Ex} {e' : Env} {s' : St} {x : Exit} {a' : Act} {w' : World} (h : CodePost B w0 G1 a1 ex e' s' x a' w') (hle : G.Le G1) (hd : a1.defers = a0.defers) (ht : a1.tmps.size = a0.tmps.size) :
    CodePost B w0 G a0 ex e' s' x a' w' := by
  obtain ⟨G', q1, q2, q3, q4⟩ := h
  refine ⟨G', hle.trans q1, q2, q3.trans hd, ?_⟩
  cases ex <;> simp only [] at q4 ⊢
  · exact ⟨q4.1, q4.2.1, q4.2.2.trans ht⟩
  · exact ⟨q4.1, q4.2.1, q4.2.2.trans ht⟩
  · exact ⟨q4.1, q4.2.1, q4.2.2.trans ht⟩
  · exact ⟨q4.1, q4.2.1, q4.2.2.trans ht⟩
  · exact q4

end

section
variable {P : Program} {B : Nat → Prop} {NG N : Nat} {w0 : World} {C : Ctx} {fn : AFun}
def resRun (tmps : Array Value) : ResultVar → Sem Value
  | .tmp t => pure (tmps.getD t undef)
  | .cell b t => do loadVar t (← asAddr (tmps.getD b undef))

theorem results_eq (fn : Func) (tmps : Array Value) : results fn tmps = (do
    let vs ← fn.results.mapM (resRun tmps)
    pure (if h : vs.size = 1 then vs[0] else .tuple vs)) := by
  unfold results
  congr 2

theorem results_sim (hT : TOk P C.T) {G : Gh} {s : St} {w : World} {e : Env} {a : Act} (hw : WR B w0 G s w) (he : EnvR G e a) : ∀ (rs : List ResultVar) (xs : List AV), resultsA C.T s e rs = some xs →
    ∃ vs, (rs.mapM (resRun a.tmps)).run P w = .ok vs w ∧ VRs G xs vs
  | [], xs, h => by simp only [resultsA, Option.some.injEq] at h; subst h; exact ⟨[], by simp, .nil⟩
  | .tmp t :: rs, xs, h => by
    simp only [resultsA] at h
    split at h
    · rename_i y ys hy hys
      cases h
      obtain ⟨vs, h1, h2⟩ := results_sim hT hw he rs ys hys
      refine ⟨a.tmps.getD t undef :: vs, ?_, .cons _ _ _ _ (he t y hy) h2⟩
      rw [List.mapM_cons]
      simp only [resRun, Sem.run_bind, Sem.run_pure, Result.andThen_ok]
      rw [h1]; rfl
    · cases h
  | .cell b t :: rs, xs, h => by
    simp only [resultsA] at h
    split at h
    · rename_i p hp
      split at h
      · rename_i x ys hx hys
        cases h
        obtain ⟨vs, h1, h2⟩ := results_sim hT hw he rs ys hys
        have hb := he b p hp
        obtain ⟨u, hu, hv⟩ := loadA_sim hT hw hx hb
        refine ⟨u :: vs, ?_, .cons _ _ _ _ hv h2⟩
        rw [List.mapM_cons]
        have hav : (do loadVar t (← asAddr (a.tmps.getD b undef)) : Sem Value).run P w = .ok u w := by
          generalize a.tmps.getD b undef = pv at *
          unfold loadA at hx
          split at hx
          · cases hx
          · cases hb <;> first
              | (simp at hx; done)
              | (simpa [Instr.loadAt, Instr.sureAddr, asAddr] using hu)
        simp only [Sem.run_bind, resRun] at hav ⊢
        rw [hav]
        simp only [Result.andThen_ok]
        rw [h1]; rfl
      · cases h
    · cases h

theorem pack_sim {G : Gh} {xs : List AV} {vs : List Value} (h : VRs G xs vs) : VR G (packA xs) (if h : vs.toArray.size = 1 then vs.toArray[0] else .tuple vs.toArray) := by
  cases h with
  | nil => exact .tup [] [] .nil
  | cons x v xs vs hx hs =>
    cases hs with
    | nil => simpa [packA] using hx
    | cons y u ys us hy hs' =>
      have : ¬ (v :: u :: us).toArray.size = 1 := by simp
      rw [dif_neg this]
      exact .tup _ _ (.cons _ _ _ _ hx (.cons _ _ _ _ hy hs'))

theorem freeze_sim (hT : TOk P C.T) {G : Gh} {s : St} {w : World} (hw : WR B w0 G s w) {ty : Nat} {x x' : AV} {v : Value} {s' : St} (h : freezeA C.T s ty x = some (x', s')) (hv : VR G x v) :
    ∃ G', G.Le G' ∧ WR B w0 G' s' w ∧ VR G' x' v := by
  unfold freezeA at h
  split at h
  · rename_i b off n z
    split at h
    · rename_i te cs hte hb
      split at h
      · rename_i hc
        cases h
        simp only [Bool.and_eq_true, decide_eq_true_eq, beq_iff_eq] at hc
        obtain ⟨⟨⟨⟨c1, c2⟩, c3⟩, rfl⟩, c5⟩ := hc
        cases hv
        rename_i c m cap hr hlc hcc
        obtain ⟨arr, T', fr, g1, g2, g3, g4, g5⟩ := hw.cells b cs false c m hb hr
        have h1 := hw.freeze hb hr (off + n * te.size) (off + cap * te.size) c1 hcc g1
        have hle := Gh.le_frozen hw hb hr (off + n * te.size) (fun o => arr[o]?) (off + cap * te.size)
        refine ⟨_, hle, h1, ?_⟩
        have hl : ((cs.drop off).take (n * te.size)).length = n * te.size := by simp; omega
        obtain ⟨e1, e2, e3⟩ := chunk_flat (fun ha => size_one hT hte ha) n ((cs.drop off).take (n * te.size)) hl c5
        have hvs : VRs G ((cs.drop off).take (n * te.size)) (((arr.toList.take cs.length).drop off).take (n * te.size)) := (g4.drop off).take _
        have hvl : (((arr.toList.take cs.length).drop off).take (n * te.size)).length = n * te.size := by rw [← hvs.length, hl]
        refine .sl _ _ c off te.size n cap (((arr.toList.take cs.length).drop off).take (n * te.size)) e2 (by rw [e1]; exact hvs.mono hle) (fun j hj => ?_) e3.symm hlc ⟨by rw [e3]; exact c3, ?_⟩
        · simp only [Gh.frozen]
          rw [hvl] at hj
          rw [if_pos (by first | rfl | trivial), if_pos (by omega), List.getElem?_take, if_pos hj, List.getElem?_drop, List.getElem?_take, if_pos (by omega)]
          simp
        · simp only [Gh.frozen, e3, if_true]
      · cases h
    · cases h
  · cases h
    exact ⟨G, .refl G, hw, hv⟩

end

def SK.deaden : SK → SK
  | .full => .full
  | _ => .dead

mutual
def deaden : AV → AV
  | .elem xs i o => .elem (deadens xs) i o
  | .sl xs k => .sl (deadens xs) k.deaden
  | .fn f a b => .fn f (deadens a) (deadens b)
  | .ifc t v => .ifc t (deaden v)
  | .agg cs => .agg (deadens cs)
  | .tup vs => .tup (deadens vs)
  | v => v
def deadens : List AV → List AV
  | [] => []
  | x :: xs => deaden x :: deadens xs
end

mutual
/-- It names no abstract block. -/
def pureV : AV → Bool
  | .ptr _ _ => false
  | .ms _ _ _ _ => false
  | .map _ => false
  | .elem xs _ _ => pureVs xs
  | .sl xs _ => pureVs xs
  | .fn _ a b => pureVs a && pureVs b
  | .ifc _ v => pureV v
  | .agg cs => pureVs cs
  | .tup vs => pureVs vs
  | _ => true
def pureVs : List AV → Bool
  | [] => true
  | x :: xs => pureV x && pureVs xs
end

theorem deadens_append (a b : List AV) : deadens (a ++ b) = deadens a ++ deadens b := by
  induction a with
  | nil => simp [deadens]
  | cons x a ih => simp [deadens, ih]
theorem cellsOf_deaden (a : AV) : cellsOf (deaden a) = deadens (cellsOf a) := by
  cases a <;> simp [deaden, cellsOf, deadens]
theorem deadens_length (a : List AV) : (deadens a).length = a.length := by
  induction a with
  | nil => simp [deadens]
  | cons x a ih => simp [deadens, ih]
theorem deadens_flatMap (a : List AV) : (deadens a).flatMap cellsOf = deadens (a.flatMap cellsOf) := by
  induction a with
  | nil => simp [deadens]
  | cons x a ih => simp [deadens, ih, cellsOf_deaden, deadens_append]
theorem deadens_mem {a : List AV} {x : AV} (h : x ∈ deadens a) : ∃ y ∈ a, x = deaden y := by
  induction a with
  | nil => simp [deadens] at h
  | cons y a ih =>
    simp only [deadens, List.mem_cons] at h
    rcases h with rfl | h
    · exact ⟨y, by simp, rfl⟩
    · obtain ⟨z, hz, rfl⟩ := ih h; exact ⟨z, by simp [hz], rfl⟩
theorem pureVs_append (a b : List AV) : pureVs (a ++ b) = (pureVs a && pureVs b) := by
  induction a with
  | nil => simp [pureVs]
  | cons x a ih => simp [pureVs, ih, Bool.and_assoc]
theorem pure_cells {a : AV} (h : pureV a = true) : pureVs (cellsOf a) = true := by
  cases a <;> simp_all [pureV, cellsOf, pureVs]
theorem pure_flatMap {a : List AV} (h : pureVs a = true) : pureVs (a.flatMap cellsOf) = true := by
  induction a with
  | nil => simp [pureVs]
  | cons x a ih =>
    simp only [pureVs, Bool.and_eq_true] at h
    simp [pureVs_append, pure_cells h.1, ih h.2]

mutual
theorem VR.pure {G H : Gh} (hI : ∀ c o v, G.I c o = some v → H.I c o = some v) : ∀ {a : AV} {v : Value}, VR G a v → pureV a = true → VR H (deaden a) v
  | _, _, .bool b, _ => .bool b
  | _, _, .int k n, _ => .int k n
  | _, _, .str s, _ => .str s
  | _, _, .nilp, _ => .nilp
  | _, _, .ptr b off c n e, h => by simp [pureV] at h
  | _, _, .elem xs i off c base sz vs hsz hv hc, h => by
    simp only [deaden]
    refine .elem _ i off c base sz vs (fun x hx => ?_) (by rw [deadens_flatMap]; exact VRs.pure hI hv (pure_flatMap (by simpa [pureV] using h))) (fun j hj => ?_)
    · obtain ⟨y, hy, rfl⟩ := deadens_mem hx
      rw [cellsOf_deaden, deadens_length]; exact hsz y hy
    · have e := hc j hj
      rw [List.getElem?_eq_getElem hj] at e ⊢
      exact hI _ _ _ e
  | _, _, .nils, _ => .nils
  | _, _, .sl xs k c base sz len cap vs hsz hv hc hl hcap hk, h => by
    simp only [deaden]
    refine .sl _ _ c base sz len cap vs (fun x hx => ?_) (by rw [deadens_flatMap]; exact VRs.pure hI hv (pure_flatMap (by simpa [pureV] using h))) (fun j hj => ?_) (by rw [deadens_length]; exact hl) hcap ?_
    · obtain ⟨y, hy, rfl⟩ := deadens_mem hx
      rw [cellsOf_deaden, deadens_length]; exact hsz y hy
    · have e := hc j hj
      rw [List.getElem?_eq_getElem hj] at e ⊢
      exact hI _ _ _ e
    · cases k with
      | full => rw [deadens_length]; exact hk
      | tag t => trivial
      | dead => trivial
  | _, _, .ms b off len sz c n cap e hl hc, h => by simp [pureV] at h
  | _, _, .nilm, _ => .nilm
  | _, _, .map b c n e, h => by simp [pureV] at h
  | _, _, .nilf, _ => .nilf
  | _, _, .fn f a b asq bs ha hb, h => by
    simp only [pureV, Bool.and_eq_true] at h
    exact .fn f _ _ asq bs (VRs.pure hI ha h.1) (VRs.pure hI hb h.2)
  | _, _, .nili, _ => .nili
  | _, _, .ifc t a v e, h => .ifc t _ v (VR.pure hI e (by simpa [pureV] using h))
  | _, _, .agg cs vs e, h => .agg _ vs (VRs.pure hI e (by simpa [pureV] using h))
  | _, _, .tup cs vs e, h => .tup _ vs (VRs.pure hI e (by simpa [pureV] using h))
theorem VRs.pure {G H : Gh} (hI : ∀ c o v, G.I c o = some v → H.I c o = some v) : ∀ {a : List AV} {v : List Value}, VRs G a v → pureVs a = true → VRs H (deadens a) v
  | _, _, .nil, _ => .nil
  | _, _, .cons a v asq vs e es, h => by
    simp only [pureVs, Bool.and_eq_true] at h
    exact .cons _ _ _ _ (VR.pure hI e h.1) (VRs.pure hI es h.2)
end

/-- The start: a heap of variables that are only read, in blocks below nx. -/
structure Start (NG : Nat) (h : Tr Blk) (nx : Nat) (ρ : Nat → Option (Nat × Nat)) (w : World) : Prop where
  g : ∀ g, g < NG → ∃ n, ρ g = some (g, n)
  dom : ∀ b blk, h.get b = some blk → b < nx ∧ ∃ cs, blk = .cells cs true
  cells : ∀ b cs c n, h.get b = some (.cells cs true) → ρ b = some (c, n) →
    ∃ arr T fr, w.heap[c]? = some (.cells arr T fr) ∧ arr.size = n ∧ cs.length ≤ n ∧ ∀ G : Gh, G.ρ = ρ → VRs G cs (arr.toList.take cs.length)
  lt : ∀ b c n, ρ b = some (c, n) → b < nx ∧ c < w.heap.size
  map : ∀ b blk, h.get b = some blk → ∃ x, ρ b = some x

def St.fresh (h : Tr Blk) (nx : Nat) : St := ⟨h, nx, .nil, 0⟩
def Gh.start (ρ : Nat → Option (Nat × Nat)) (I : Nat → Nat → Option Value) : Gh := ⟨ρ, I, fun _ => none, (I, ρ)⟩

section
variable {P : Program} {NG nx : Nat} {h : Tr Blk} {ρ : Nat → Option (Nat × Nat)} {w0 w : World}

theorem Start.kept {K : Nat → Prop} (hS : Start NG h nx ρ w0) (hk : ∀ b c n, ρ b = some (c, n) → K c) (hb : Kept K w0 w) : Start NG h nx ρ w where
  g := hS.g
  dom := hS.dom
  cells := fun b cs c n hb' hr => by
    obtain ⟨arr, T, fr, h1, h2⟩ := hS.cells b cs c n hb' hr
    exact ⟨arr, T, fr, (hb.block c (hk b c n hr)).trans h1, h2⟩
  lt := fun b c n hr => ⟨(hS.lt b c n hr).1, Nat.lt_of_lt_of_le (hS.lt b c n hr).2 hb.size⟩
  map := hS.map

theorem Start.wr (hS : Start NG h nx ρ w) (I : Nat → Nat → Option Value) (hI : ∀ c o v, I c o = some v → w.cell? ⟨c, o, none⟩ = some v) : WR (fun c => c < w.heap.size) w (Gh.start ρ I) (St.fresh h nx) w where
  below := Kept.refl _ _
  hB := fun _ hc => hc
  cells := fun b cs f c n hb hr => by
    obtain ⟨_, cs', e⟩ := hS.dom b _ hb
    cases e
    obtain ⟨arr, T, fr, h1, h2, h3, h4⟩ := hS.cells b cs c n hb hr
    exact ⟨arr, T, fr, h1, h2, h3, h4 _ rfl, fun e => by cases e⟩
  siter := fun b str pos c n hb => by
    obtain ⟨_, cs', e⟩ := hS.dom b _ hb
    cases e
  inj := fun b b' c n n' hc hr => absurd (hS.lt b c n hr).2 hc
  lt := hS.lt
  imm := hI
  tags := fun t c e ce ht => by rw [show (St.fresh h nx).live = .nil from rfl, Tr.get_nil] at ht; cases ht
  tdist := fun t t' c e ce e' ce' ht => by rw [show (St.fresh h nx).live = .nil from rfl, Tr.get_nil] at ht; cases ht
  tlt := fun t x e => by cases e
  hlt := fun b blk e => (hS.dom b blk e).1
  old := fun c o v _ e => e
  oldρ := fun b c n _ e => e
  hmap := hS.map
  tdef := fun t ht => by rw [show (St.fresh h nx).live = .nil from rfl, Tr.get_nil] at ht; cases ht
  tlow := fun t c e ce ht => by rw [show (St.fresh h nx).live = .nil from rfl, Tr.get_nil] at ht; cases ht

theorem CallDoes.mono {f : Nat} {args : Array Value} {R R' : Ending → World → Prop} (hd : CallDoes P f args w R) (hR : ∀ e w', R e w' → R' e w') : CallDoes P f args w R' := by
  unfold CallDoes at hd ⊢
  split
  · rename_i g asq w' e; rw [e] at hd; exact Calls.mono hd hR
  · rename_i v w' e; rw [e] at hd; exact hR _ _ hd
  · rename_i v w' e; rw [e] at hd; exact hR _ _ hd
  · rename_i hn1 hn2 hn3
    split at hd
    · rename_i g asq w' e; exact hn1 _ _ _ e
    · rename_i v w' e; exact hn2 _ _ e
    · rename_i v w' e; exact hn3 _ _ e
    · exact hd

end
end Go.Am
namespace Go.Am
open Go.RowKit

/-- A program, its tables, and the variables that are only read. -/
structure Sys where
  P : Program
  NG : Nat
  h : Tr Blk
  nx : Nat
  ρ : Nat → Option (Nat × Nat)
  T : Tr TI
  F : Tr AFun

def Sys.C (S : Sys) : Ctx := ⟨S.T, .nil, .nil⟩

structure Sys.Ok (S : Sys) : Prop where
  T : TOk S.P S.T
  F : ∀ f afn, S.F.get f = some afn →
    ∃ fn, S.P.funcs[f]? = some fn ∧ (fn.name == "runtime.NumGoroutine") = false ∧ fn.body = some afn.body ∧ fn.results.toList = afn.results ∧ codeOk S.NG fn.ntmps afn.mutDst afn.body = true
  mixed : S.P.follows .mixedOrders = true
  dom : ∀ b blk, S.h.get b = some blk → b < S.nx

structure StartK (S : Sys) (K : Nat → Prop) (w0 : World) : Prop where
  start : Start S.NG S.h S.nx S.ρ w0
  kept : ∀ b c n, S.ρ b = some (c, n) → K c

/-- A call at a state comes to an answer and a state, whatever the world. -/
def CallDet (S : Sys) (f : Nat) (args : List AV) (s : St) (r : Res) (s' : St) : Prop :=
  ∀ K w0, StartK S K w0 → ∀ G w vs, WR K w0 G s w → GOk S.NG G → VRs G args vs → CallDoes S.P f vs.toArray w (CallPost K w0 G s' r)

/-- That a table of calls is true. -/
def Good (S : Sys) (call : Nat → List AV → St → Option (Res × St)) : Prop := ∀ f args s r s', call f args s = some (r, s') → CallDet S f args s r s'

theorem Good.ok {S : Sys} {call : Nat → List AV → St → Option (Res × St)} (h : Good S call) {K : Nat → Prop} {w0 : World} (hS : StartK S K w0) : CallsOk S.P S.NG K w0 call :=
  fun f args s r s' hc G w vs hw hg hv => h f args s r s' hc K w0 hS G w vs hw hg hv

def metL (draw : Bool) (i : Nat) (s : St) (met : List Met) : List Met := match draw with | true => .ld i s :: met | false => met

/-- A region's run. -/
def EvO (S : Sys) (m : List Nat) (all : List Oper) (draw : Bool) (Q : Ex → Env → St → Prop) : List Nat → List Oper → Nat → List Met → Env → St → Prop
  | _, [], _, _, e, s => Q .normal e s
  | masks, o :: rest, i, met, e, s => ∃ b, wantedA all e o = some b ∧ match b with
    | false => EvO S m all draw Q masks.tail rest (i + 1) met (putA e o.dst undefA) s
    | true => match isStill m o with
      | true => ∃ v, stillOp S.T s.heap e o.op = some v ∧ match draw && readsHeap o.op with
        | false => EvO S m all draw Q masks.tail rest (i + 1) met (putA e o.dst v) s
        | true => okRead S.C (masks.headD 0) e o.op v met = true ∧ EvO S m all draw Q masks.tail rest (i + 1) (.rd i o.op e v :: met) (putA e o.dst v) s
      | false => ∃ call r s2, Good S call ∧ loudOp S.C m call e s o = some (r, s2) ∧ (!draw || okLoud S.C (masks.headD 0) s2 met) = true ∧ match r with
        | .ret v => EvO S m all draw Q masks.tail rest (i + 1) (metL draw i s met) (putA e o.dst v) s2
        | .pan v => (!draw || allBehind i masks.tail) = true ∧ Q (.pan v) e s2

theorem EvO.pick {S : Sys} {m : List Nat} {all : List Oper} {draw : Bool} {Q : Ex → Env → St → Prop} : ∀ (rest : List Oper) (masks : List Nat) (i : Nat) (met : List Met) (e : Env) (s : St), EvO S m all draw Q masks rest i met e s →
    ∃ ex e' s', EvO S m all draw (fun x y z => x = ex ∧ y = e' ∧ z = s') masks rest i met e s ∧ Q ex e' s'
  | [], masks, i, met, e, s, h => ⟨.normal, e, s, ⟨rfl, rfl, rfl⟩, h⟩
  | o :: rest, masks, i, met, e, s, h => by
    simp only [EvO] at h
    obtain ⟨b, hb, h⟩ := h
    cases b with
    | false =>
      obtain ⟨ex, e', s', h1, h2⟩ := EvO.pick rest _ _ _ _ _ h
      exact ⟨ex, e', s', ⟨false, hb, h1⟩, h2⟩
    | true =>
      cases hst : isStill m o with
      | true =>
        rw [hst] at h
        obtain ⟨v, hv, h⟩ := h
        cases hd : draw && readsHeap o.op with
        | false =>
          rw [hd] at h
          obtain ⟨ex, e', s', h1, h2⟩ := EvO.pick rest _ _ _ _ _ h
          exact ⟨ex, e', s', ⟨true, hb, by rw [hst]; exact ⟨v, hv, by rw [hd]; exact h1⟩⟩, h2⟩
        | true =>
          rw [hd] at h
          obtain ⟨ho, h⟩ := h
          obtain ⟨ex, e', s', h1, h2⟩ := EvO.pick rest _ _ _ _ _ h
          exact ⟨ex, e', s', ⟨true, hb, by rw [hst]; exact ⟨v, hv, by rw [hd]; exact ⟨ho, h1⟩⟩⟩, h2⟩
      | false =>
        rw [hst] at h
        obtain ⟨call, r, s2, hg, hl, ho, h⟩ := h
        cases r with
        | ret v =>
          obtain ⟨ex, e', s', h1, h2⟩ := EvO.pick rest _ _ _ _ _ h
          exact ⟨ex, e', s', ⟨true, hb, by rw [hst]; exact ⟨call, .ret v, s2, hg, hl, ho, h1⟩⟩, h2⟩
        | pan v => exact ⟨.pan v, e, s2, ⟨true, hb, by rw [hst]; exact ⟨call, .pan v, s2, hg, hl, ho, h.1, rfl, rfl, rfl⟩⟩, h.2⟩

section
variable {S : Sys} {K : Nat → Prop} {w0 : World} {N : Nat}

/-- A region in the order of the text. -/
theorem ops_seq (hS : S.Ok) (hK : StartK S K w0) {m : List Nat} (ops : Array Oper) (hops : ∀ o ∈ ops.toList, opOk S.NG N o = true) {G0 : Gh} {a0 : Act} (hN : N ≤ a0.tmps.size) {ex : Ex} {e' : Env} {s' : St} :
    ∀ (rest : List Oper) (masks : List Nat) (i : Nat) (met : List Met) (e : Env) (s : St) (G : Gh) (a : Act) (w : World), EvO S m ops.toList false (fun x y z => x = ex ∧ y = e' ∧ z = s') masks rest i met e s →
      rest = ops.toList.drop i → G0.Le G → WR K w0 G s w → GOk S.NG G → EnvR G e a → a.tmps.size = a0.tmps.size → a.defers = a0.defers →
      wpOps S.P ops (CodePost K w0 G0 a0 ex e' s') (List.range' i rest.length) a w := by
  intro rest
  induction rest with
  | nil =>
    intro masks i met e s G a w h hrest hle hw hg he hsz hd
    simp only [EvO] at h
    obtain ⟨rfl, rfl, rfl⟩ := h
    exact ⟨G, hle, hw, hd, rfl, he, hsz⟩
  | cons o rest ih =>
    intro masks i met e s G a w h hrest hle hw hg he hsz hd
    have hoi : ops.toList[i]? = some o := by
      have := congrArg (fun l => l[0]?) hrest
      simpa using this.symm
    have hoi' : ops[i]? = some o := by simpa using hoi
    have hrest' : rest = ops.toList.drop (i + 1) := by
      have := congrArg List.tail hrest
      simpa using this
    have hoo := hops o (List.mem_of_getElem? hoi)
    simp only [opOk, Bool.and_eq_true, List.all_eq_true] at hoo
    have hdall : ∀ q ∈ ops.toList, ∀ d, q.dst = some d → d < a.tmps.size := fun q hq d hdq => by
      have := hops q hq
      simp only [opOk, hdq, Bool.and_eq_true, decide_eq_true_eq] at this
      rw [hsz]; exact Nat.lt_of_lt_of_le this.2 hN
    have hwant := fun {b : Bool} => wanted_sim (b := b) he ops o hdall
    have hput : ∀ (v : Value), (a.put o.dst v).tmps.size = a0.tmps.size ∧ (a.put o.dst v).defers = a0.defers := fun v => by
      rw [← hsz, ← hd]; unfold Act.put; split <;> simp
    have hdo := hdall o (List.mem_of_getElem? hoi)
    simp only [List.length_cons, List.range'_succ, wpOps, hoi']
    simp only [EvO] at h
    obtain ⟨b, hb, h⟩ := h
    rw [hwant hb]
    cases b with
    | false =>
      simp only [Bool.false_eq_true, if_false]
      exact ih _ (i + 1) met _ s G _ w h hrest' hle hw hg (he.put (.tup [] [] .nil) hdo) (hput _).1 (hput _).2
    | true =>
      simp only [if_true]
      left
      cases hst : isStill m o with
      | true =>
        rw [hst] at h
        obtain ⟨v, hv, h⟩ := h
        simp only [Bool.false_and] at h
        refine still_wp (C := S.C) hS.T hw hg he o hoo.1 hv (fun G' u w' p1 p2 p3 => ?_)
        exact ih _ (i + 1) met _ s G' _ w' h hrest' (hle.trans p1) p2 (hg.mono p1) ((he.mono p1).put p3 hdo) (hput _).1 (hput _).2
      | false =>
        rw [hst] at h
        obtain ⟨call, r, s2, hgood, hl, _, h⟩ := h
        cases r with
        | ret v =>
          refine loud_wp (C := S.C) hS.T hw hg he (hgood.ok hK) o hoo.1 hl (fun G' u w' x hx p1 p2 p3 => ?_) (fun G' u w' x hx => by cases hx)
          cases hx
          exact ih _ (i + 1) _ _ s2 G' _ w' h hrest' (hle.trans p1) p2 (hg.mono p1) ((he.mono p1).put p3 hdo) (hput _).1 (hput _).2
        | pan v =>
          obtain ⟨_, rfl, rfl, rfl⟩ := h
          refine loud_wp (C := S.C) hS.T hw hg he (hgood.ok hK) o hoo.1 hl (fun G' u w' x hx => by cases hx) (fun G' u w' x hx p1 p2 p3 => ?_)
          cases hx
          exact ⟨G', hle.trans p1, p2, hd, u, rfl, p3⟩

theorem EvO.trace {S : Sys} {m : List Nat} (all : List Oper) (M : List Nat) (hM : M.length = all.length) (e0 : Env) (s0 : St) {ex : Ex} {e' : Env} {s' : St} :
    ∀ (rest : List Oper) (i : Nat) (met : List Met) (e : Env) (s : St) (R : List Rec),
    EvO S m all true (fun x y z => x = ex ∧ y = e' ∧ z = s') (M.drop i) rest i met e s → rest = all.drop i → R.length = i → (∀ (j : Nat) (r : Rec), R[j]? = some r → all[j]? = some r.o) → MetOf m R met → PairsOk S.C m M R →
    Chain S.C m (Good S) all R e0 s0 e s →
    ∃ R' e1 s1, Chain S.C m (Good S) all R' e0 s0 e1 s1 ∧ PairsOk S.C m M R' ∧ (∀ (j : Nat) (r : Rec), R'[j]? = some r → all[j]? = some r.o) ∧ EndOf S.C m (Good S) all M R' e1 s1 ex e' s' := by
  intro rest
  induction rest with
  | nil =>
    intro i met e s R h hrest hRl hRo hmet hpairs hchain
    simp only [EvO] at h
    obtain ⟨rfl, rfl, rfl⟩ := h
    have hlen : all.length ≤ i := by
      have := congrArg List.length hrest
      simp at this; omega
    have hle : R.length ≤ all.length := by
      rcases Nat.lt_or_ge all.length R.length with hlt | hge
      · have hr : R[all.length]? = some R[all.length] := List.getElem?_eq_getElem hlt
        have := hRo _ _ hr
        simp at this
      · exact hge
    exact ⟨R, e, s, hchain, hpairs, hRo, .normal (by omega)⟩
  | cons o rest ih =>
    intro i met e s R h hrest hRl hRo hmet hpairs hchain
    have hoi : all[i]? = some o := by
      have := congrArg (fun l => l[0]?) hrest
      simpa using this.symm
    have hrest' : rest = all.drop (i + 1) := by
      have := congrArg List.tail hrest
      simpa using this
    have next : ∀ (r : Rec), r.o = o → ∀ (j : Nat) (q : Rec), (R ++ [r])[j]? = some q → all[j]? = some q.o := fun r hr j q hq => by
      by_cases hj : j < R.length
      · rw [List.getElem?_append_left hj] at hq; exact hRo j q hq
      · rw [List.getElem?_append_right (by omega)] at hq
        have : j - R.length = 0 := by
          cases hh : j - R.length with
          | zero => rfl
          | succ n => rw [hh] at hq; simp at hq
        rw [this] at hq
        simp only [List.getElem?_cons_zero, Option.some.injEq] at hq
        subst hq
        have : j = i := by omega
        subst this
        rw [hr]; exact hoi
    simp only [EvO] at h
    rw [tail_drop, headD_drop] at h
    obtain ⟨b, hw, h⟩ := h
    cases b with
    | false =>
      have hrec : RecOk S.C m (Good S) all ⟨o, e, s, undefA, s, false⟩ := ⟨hw, fun _ => ⟨rfl, rfl⟩, fun hh => (by cases hh), fun hh => (by cases hh)⟩
      exact ih (i + 1) met _ s (R ++ [⟨o, e, s, undefA, s, false⟩]) h hrest' (by simp [hRl]) (next _ rfl) (hmet.snoc (fun x hx => hx) (fun hh => (by simp [Rec.loud] at hh)) (fun hh => (by simp [Rec.read] at hh)))
        (hpairs.snoc (fun _ _ _ _ hh => (by simp [Rec.read] at hh)) (fun _ _ _ _ hh => (by simp [Rec.loud] at hh))) (hchain.snoc rfl rfl hrec)
    | true =>
      cases hst : isStill m o with
      | true =>
        rw [hst] at h
        obtain ⟨v, hv, h⟩ := h
        have hrec : RecOk S.C m (Good S) all ⟨o, e, s, v, s, true⟩ := ⟨hw, fun hh => (by cases hh), fun _ _ => ⟨hv, rfl⟩, fun _ hh => (by rw [hst] at hh; cases hh)⟩
        simp only [Bool.true_and] at h
        cases hrd : readsHeap o.op with
        | false =>
          rw [hrd] at h
          exact ih (i + 1) met _ s (R ++ [⟨o, e, s, v, s, true⟩]) h hrest' (by simp [hRl]) (next _ rfl) (hmet.snoc (fun x hx => hx) (fun hh => (by simp [Rec.loud, hst] at hh)) (fun hh => (by simp [Rec.read, hrd] at hh)))
            (hpairs.snoc (fun _ _ _ _ hh => (by simp [Rec.read, hrd] at hh)) (fun _ _ _ _ hh => (by simp [Rec.loud, hst] at hh))) (hchain.snoc rfl rfl hrec)
        | true =>
          rw [hrd] at h
          obtain ⟨hok, h⟩ := h
          exact ih (i + 1) _ _ s (R ++ [⟨o, e, s, v, s, true⟩]) h hrest' (by simp [hRl]) (next _ rfl) (hmet.snoc (fun x hx => List.mem_cons_of_mem _ hx) (fun hh => (by simp [Rec.loud, hst] at hh)) (fun _ => (by rw [hRl]; simp)))
            (hpairs.snoc (fun j rj hj hl _ => by rw [hRl]; exact okRead_mem hok j rj.s ((hmet j rj hj).1 hl)) (fun _ _ _ _ hh => (by simp [Rec.loud, hst] at hh))) (hchain.snoc rfl rfl hrec)
      | false =>
        rw [hst] at h
        obtain ⟨call, r2, s2, hgn, hl, hok, h⟩ := h
        simp only [Bool.not_true, Bool.false_or] at hok
        cases r2 with
        | ret v =>
          have hrec : RecOk S.C m (Good S) all ⟨o, e, s, v, s2, true⟩ := ⟨hw, fun hh => (by cases hh), fun _ hh => (by rw [hst] at hh; cases hh), fun _ _ => ⟨_, hgn, hl⟩⟩
          exact ih (i + 1) _ _ s2 (R ++ [⟨o, e, s, v, s2, true⟩]) h hrest' (by simp [hRl]) (next _ rfl) (hmet.snoc (fun x hx => List.mem_cons_of_mem _ hx) (fun _ => (by rw [hRl]; simp [metL])) (fun hh => (by simp [Rec.read, hst] at hh)))
            (hpairs.snoc (fun _ _ _ _ hh => (by simp [Rec.read, hst] at hh)) (fun j rj hj hl2 _ => by rw [hRl]; exact okLoud_mem hok j rj.o.op rj.e rj.v ((hmet j rj hj).2 hl2))) (hchain.snoc rfl rfl hrec)
        | pan v =>
          obtain ⟨hb, rfl, rfl, rfl⟩ := h
          simp only [Bool.not_true, Bool.false_or] at hb
          refine ⟨R, e, s, hchain, hpairs, hRo, .pan o v _ (by rw [hRl]; exact hoi) hw hst ⟨_, hgn, hl⟩ (fun j h1 h2 => ?_)⟩
          have hb' : ∀ x ∈ M.drop (i + 1), bit x i = true := by simpa [allBehind, List.all_eq_true] using hb
          have hjm : j < M.length := by omega
          rw [hRl, List.getD_eq_getElem?_getD, List.getElem?_eq_getElem hjm, Option.getD_some]
          refine hb' _ ?_
          rw [List.mem_iff_getElem?]
          exact ⟨j - (i + 1), by rw [List.getElem?_drop, show i + 1 + (j - (i + 1)) = j by omega, List.getElem?_eq_getElem hjm]⟩

theorem region_sim (hS : S.Ok) (hK : StartK S K w0) {m : List Nat} {id : Nat} {ops : Array Oper} {draw : Bool} {e : Env} {s : St} {ex : Ex} {e' : Env} {s' : St}
    (h : EvO S m ops.toList draw (fun x y z => x = ex ∧ y = e' ∧ z = s') (masksL [] ops.toList) ops.toList 0 [] e s) (hok : codeOk S.NG N m (.region id ops draw) = true) {G : Gh} {a : Act} {w : World} (hw : WR K w0 G s w) (hg : GOk S.NG G) (he : EnvR G e a) (hN : N ≤ a.tmps.size) :
    (Code.region id ops draw).wp S.P (CodePost K w0 G a ex e' s') a w := by
  simp only [codeOk, Bool.and_eq_true, List.all_eq_true] at hok
  cases draw with
  | false =>
    refine wp_region ?_
    have := ops_seq hS hK ops hok.1 (G0 := G) (a0 := a) hN ops.toList _ 0 [] e s G a w h (by simp) (.refl G) hw hg he rfl rfl
    rw [List.range_eq_range']
    simpa using this
  | true =>
    have hreg : regionOk m ops = true := by simpa using hok.2
    obtain ⟨R, e1, s1, hc, hp, hRo, hend⟩ := EvO.trace ops.toList (masksL [] ops.toList) (by rw [masksL_length]; simp) e s ops.toList 0 [] e s []
      (by simpa using h) (by simp) rfl (by simp) (fun i r hr => by simp at hr) ⟨fun _ _ _ _ _ hi => by simp at hi, fun _ _ _ _ _ hi => by simp at hi⟩ (.nil e s)
    refine wp_region_any hS.mixed ?_
    have hstart : ∀ (R : List Rec) (k : Nat) (e : Env) (s : St), envD (fun _ => false) k R e = e ∧ stD m (fun _ => false) k R s = s := by
      intro R
      induction R with
      | nil => intro k e s; exact ⟨rfl, rfl⟩
      | cons r R ih => intro k e s; simp only [envD, stD, Bool.false_eq_true, if_false, false_and]; exact ih (k + 1) e s
    have hD0 : listedD (Array.replicate ops.size false) = fun _ => false := funext fun j => by unfold listedD; simp [Array.getElem?_replicate]; split <;> rfl
    refine region_any (C := S.C) hS.T hreg hok.1 hc hp hRo hend (fun call hcall => hcall.ok hK) (G := G) (a0 := a) hN ?_ ?_ ops.size _ a _ ?_ ?_
    · intro hx G' a' w' q1 q2 q3 q4 q5
      subst hx
      exact ⟨G', q1, q2, q5, rfl, q3, q4⟩
    · intro v hx G' a' w' u q1 q2 q3 q4
      subst hx
      exact ⟨G', q1, q2, q4, u, rfl, q3⟩
    · refine { size := by simp, closed := fun j o _ hD => (by rw [hD0] at hD; cases hD), inside := fun j hD => (by rw [hD0] at hD; cases hD), rel := ⟨G, .refl G, ?_, hg, ?_⟩, tmps := rfl, defers := rfl }
      · rw [hD0, (hstart R 0 e s).2]; exact hw.drawn
      · rw [hD0, (hstart R 0 e s).1]; exact he
    · unfold left
      rw [List.filter_eq_self.2]
      · simp
      · intro j hj
        rw [List.mem_range] at hj
        simp [hj]
end

/-- Some code, from a frame and a state, comes to an exit, a frame and a state, whatever the world. -/
def Det (S : Sys) (m : List Nat) (c : Code) (e : Env) (s : St) (ex : Ex) (e' : Env) (s' : St) : Prop :=
  ∀ N, codeOk S.NG N m c = true → ∀ K w0, StartK S K w0 → ∀ G a w, WR K w0 G s w → GOk S.NG G → EnvR G e a → N ≤ a.tmps.size → c.wp S.P (CodePost K w0 G a ex e' s') a w

def EvC (S : Sys) (m : List Nat) (c : Code) (e : Env) (s : St) (Q : Ex → Env → St → Prop) : Prop := ∃ ex e' s', Det S m c e s ex e' s' ∧ Q ex e' s'

/-- A frame that knows less. -/
def Sub (e0 e : Env) : Prop := ∀ t v, e0.get t = some v → e.get t = some v

/-- From a state on, a frame and a state may be taken for others, of which less is known. -/
def Wk (S : Sys) (s : St) (e1 : Env) (s1 : St) (e2 : Env) (s2 : St) : Prop :=
  ∀ K w0, StartK S K w0 → ∀ G w, WR K w0 G s w → ∀ G1 a1 w1, G.Le G1 → WR K w0 G1 s1 w1 → EnvR G1 e1 a1 → ∃ G2, G.Le G2 ∧ WR K w0 G2 s2 w1 ∧ EnvR G2 e2 a1

theorem Wk.forget {S : Sys} {s : St} {e1 e2 : Env} {s1 : St} (h : Sub e2 e1) : Wk S s e1 s1 e2 s1 :=
  fun _ _ _ _ _ _ G1 _ _ hle hw he => ⟨G1, hle, hw, fun t v ht => he t v (h t v ht)⟩
theorem Wk.refl {S : Sys} {s : St} {e1 : Env} {s1 : St} : Wk S s e1 s1 e1 s1 := .forget fun _ _ h => h
theorem Wk.trans {S : Sys} {s s1 s2 s3 : St} {e1 e2 e3 : Env} (h : Wk S s e1 s1 e2 s2) (h' : Wk S s e2 s2 e3 s3) : Wk S s e1 s1 e3 s3 :=
  fun K w0 hK G w hw G1 a1 w1 hle hw1 he1 =>
    let ⟨G2, q1, q2, q3⟩ := h K w0 hK G w hw G1 a1 w1 hle hw1 he1
    h' K w0 hK G w hw G2 a1 w1 q1 q2 q3

section
variable {S : Sys} {m : List Nat} {e : Env} {s : St} {Q : Ex → Env → St → Prop}

theorem EvC.mono {c : Code} {Q' : Ex → Env → St → Prop} (h : EvC S m c e s Q) (hq : ∀ ex e' s', Q ex e' s' → Q' ex e' s') : EvC S m c e s Q' :=
  let ⟨ex, e', s', h1, h2⟩ := h; ⟨ex, e', s', h1, hq _ _ _ h2⟩
theorem EvC.forget {c : Code} {e0 : Env} (h : EvC S m c e0 s Q) (hs : Sub e0 e) : EvC S m c e s Q :=
  let ⟨ex, e', s', h1, h2⟩ := h; ⟨ex, e', s', fun N hc K w0 hK G a w hw hg he hN => h1 N hc K w0 hK G a w hw hg (fun t v ht => he t v (hs t v ht)) hN, h2⟩

theorem EvC.skip (h : Q .normal e s) : EvC S m .skip e s Q := ⟨.normal, e, s, fun _ _ _ _ _ G _ _ hw _ he _ => wp_skip ⟨G, .refl G, hw, rfl, rfl, he, rfl⟩, h⟩
theorem EvC.label {l : Nat} (h : Q .normal e s) : EvC S m (.label l) e s Q := ⟨.normal, e, s, fun _ _ _ _ _ G _ _ hw _ he _ => wp_label ⟨G, .refl G, hw, rfl, rfl, he, rfl⟩, h⟩
theorem EvC.exit {id : Nat} (h : Q (.exit id) e s) : EvC S m (.exit id) e s Q := ⟨.exit id, e, s, fun _ _ _ _ _ G _ _ hw _ he _ => wp_exit ⟨G, .refl G, hw, rfl, rfl, he, rfl⟩, h⟩
theorem EvC.goto {l : Nat} (h : Q (.goto l) e s) : EvC S m (.goto l) e s Q := ⟨.goto l, e, s, fun _ _ _ _ _ G _ _ hw _ he _ => wp_goto ⟨G, .refl G, hw, rfl, rfl, he, rfl⟩, h⟩
theorem EvC.ret (h : Q .ret e s) : EvC S m .ret e s Q := ⟨.ret, e, s, fun _ _ _ _ _ G _ _ hw _ he _ => wp_ret ⟨G, .refl G, hw, rfl, rfl, he, rfl⟩, h⟩

def seqQ (S : Sys) (m : List Nat) (b : Code) (Q : Ex → Env → St → Prop) : Ex → Env → St → Prop
  | .normal, e, s => EvC S m b e s Q
  | ex, e, s => Q ex e s

theorem EvC.seq {a b : Code} (h : EvC S m a e s (seqQ S m b Q)) : EvC S m (.seq a b) e s Q := by
  obtain ⟨ex, e', s', h1, h2⟩ := h
  cases ex with
  | normal =>
    obtain ⟨ex2, e2, s2, h3, h4⟩ := h2
    refine ⟨ex2, e2, s2, fun N hc K w0 hK G a w hw hg he hN => ?_, h4⟩
    simp only [codeOk, Bool.and_eq_true] at hc
    refine wp_seq (wp_mono (h1 N hc.1 K w0 hK G a w hw hg he hN) ?_)
    rintro z a1 w1 ⟨G1, q1, q2, q3, rfl, q5, q6⟩
    exact wp_mono (h3 N hc.2 K w0 hK G1 a1 w1 q2 (hg.mono q1) q5 (by omega)) (fun z a2 w2 hz => hz.trans q1 q3 q6)
  | pan v =>
    refine ⟨_, e', s', fun N hc K w0 hK G a w hw hg he hN => ?_, h2⟩
    simp only [codeOk, Bool.and_eq_true] at hc
    refine wp_seq (wp_mono (h1 N hc.1 K w0 hK G a w hw hg he hN) ?_)
    rintro z a1 w1 ⟨G1, q1, q2, q3, u, rfl, q5⟩
    exact ⟨G1, q1, q2, q3, u, rfl, q5⟩
  | _ =>
    refine ⟨_, e', s', fun N hc K w0 hK G a w hw hg he hN => ?_, h2⟩
    simp only [codeOk, Bool.and_eq_true] at hc
    refine wp_seq (wp_mono (h1 N hc.1 K w0 hK G a w hw hg he hN) ?_)
    rintro z a1 w1 ⟨G1, q1, q2, q3, rfl, q5, q6⟩
    exact ⟨G1, q1, q2, q3, rfl, q5, q6⟩

theorem EvC.cond {x : Operand} {a b : Code} (v : Bool) (hv : ev e x = some (.bool v)) (ht : v = true → EvC S m a e s Q) (hf : v = false → EvC S m b e s Q) : EvC S m (.cond x a b) e s Q := by
  have hx : ∀ (G : Gh) (a : Act), GOk S.NG G → EnvR G e a → okO S.NG x = true → a.eval x = .bool v := fun G a hg he ho => by
    have hv := ev_sim hg he ho hv
    cases hcv : a.eval x <;> rw [hcv] at hv <;> cases hv; rfl
  cases v with
  | true =>
    obtain ⟨ex, e', s', h1, h2⟩ := ht rfl
    refine ⟨ex, e', s', fun N hc K w0 hK G a w hw hg he hN => ?_, h2⟩
    simp only [codeOk, Bool.and_eq_true] at hc
    exact wp_cond_true (hx G a hg he hc.1.1) (h1 N hc.1.2 K w0 hK G a w hw hg he hN)
  | false =>
    obtain ⟨ex, e', s', h1, h2⟩ := hf rfl
    refine ⟨ex, e', s', fun N hc K w0 hK G a w hw hg he hN => ?_, h2⟩
    simp only [codeOk, Bool.and_eq_true] at hc
    exact wp_cond_false (hx G a hg he hc.1.1) (h1 N hc.2 K w0 hK G a w hw hg he hN)

def blockQ (id : Nat) (Q : Ex → Env → St → Prop) : Ex → Env → St → Prop
  | .exit j, e, s => match j == id with
    | true => Q .normal e s
    | false => Q (.exit j) e s
  | ex, e, s => Q ex e s

theorem EvC.block {id : Nat} {a : Code} (h : EvC S m a e s (blockQ id Q)) : EvC S m (.block id a) e s Q := by
  obtain ⟨ex, e', s', h1, h2⟩ := h
  cases ex with
  | exit j =>
    simp only [blockQ] at h2
    cases hj : j == id with
    | true =>
      rw [hj] at h2
      refine ⟨.normal, e', s', fun N hc K w0 hK G a w hw hg he hN => wp_block (wp_mono (h1 N hc K w0 hK G a w hw hg he hN) ?_), h2⟩
      rintro z a1 w1 ⟨G1, q1, q2, q3, rfl, q5, q6⟩
      simp only [Exit.inBlock]
      rw [if_pos (by simpa using hj)]
      exact ⟨G1, q1, q2, q3, rfl, q5, q6⟩
    | false =>
      rw [hj] at h2
      refine ⟨.exit j, e', s', fun N hc K w0 hK G a w hw hg he hN => wp_block (wp_mono (h1 N hc K w0 hK G a w hw hg he hN) ?_), h2⟩
      rintro z a1 w1 ⟨G1, q1, q2, q3, rfl, q5, q6⟩
      simp only [Exit.inBlock]
      rw [if_neg (by simpa using hj)]
      exact ⟨G1, q1, q2, q3, rfl, q5, q6⟩
  | pan v =>
    refine ⟨_, e', s', fun N hc K w0 hK G a w hw hg he hN => wp_block (wp_mono (h1 N hc K w0 hK G a w hw hg he hN) ?_), h2⟩
    rintro z a1 w1 ⟨G1, q1, q2, q3, u, rfl, q5⟩
    exact ⟨G1, q1, q2, q3, u, rfl, q5⟩
  | _ =>
    refine ⟨_, e', s', fun N hc K w0 hK G a w hw hg he hN => wp_block (wp_mono (h1 N hc K w0 hK G a w hw hg he hN) ?_), h2⟩
    rintro z a1 w1 ⟨G1, q1, q2, q3, rfl, q5, q6⟩
    exact ⟨G1, q1, q2, q3, rfl, q5, q6⟩

theorem EvC.region (hS : S.Ok) {id : Nat} {ops : Array Oper} {draw : Bool} (h : EvO S m ops.toList draw Q (masksL [] ops.toList) ops.toList 0 [] e s) : EvC S m (.region id ops draw) e s Q := by
  obtain ⟨ex, e', s', h1, h2⟩ := EvO.pick _ _ _ _ _ _ h
  exact ⟨ex, e', s', fun N hc K w0 hK G a w hw hg he hN => region_sim hS hK h1 hc hw hg he hN, h2⟩

/-- Rounds of a loop. -/
def DetR (S : Sys) (m : List Nat) (c : Code) (n : Nat) (e : Env) (s : St) (ex : Ex) (e' : Env) (s' : St) : Prop :=
  ∀ N, codeOk S.NG N m c = true → ∀ K w0, StartK S K w0 → ∀ G a w, WR K w0 G s w → GOk S.NG G → EnvR G e a → N ≤ a.tmps.size → Code.rounds S.P c (CodePost K w0 G a ex e' s') n a w

theorem rounds_mono {P : Program} {c : Code} {Q Q' : Exit → Act → World → Prop} (hq : ∀ x a w, Q x a w → Q' x a w) : ∀ (n : Nat) (a : Act) (w : World), Code.rounds P c Q n a w → Code.rounds P c Q' n a w
  | 0, _, _, h => h
  | n + 1, a, w, h => by
    refine wp_mono (h : c.wp P _ a w) ?_
    intro x a1 w1 hx
    cases x <;> first | exact rounds_mono hq n _ _ hx | exact hq _ _ _ hx

theorem DetR.zero {c : Code} {ex : Ex} {e' : Env} {s' : St} (h : Det S m c e s ex e' s') (hx : ex ≠ .normal) : DetR S m c 1 e s ex e' s' := by
  intro N hc K w0 hK G a w hw hg he hN
  refine wp_mono (h N hc K w0 hK G a w hw hg he hN) ?_
  rintro z a1 w1 ⟨G1, q1, q2, q3, q4⟩
  cases ex with
  | normal => exact absurd rfl hx
  | pan v =>
    obtain ⟨u, rfl, q5⟩ := q4
    exact ⟨G1, q1, q2, q3, u, rfl, q5⟩
  | _ =>
    obtain ⟨rfl, q5, q6⟩ := q4
    exact ⟨G1, q1, q2, q3, rfl, q5, q6⟩

theorem DetR.succ {c : Code} {n : Nat} {ex : Ex} {e1 e2 e' : Env} {s1 s2 s' : St} (h : Det S m c e s .normal e1 s1) (hk : Wk S s e1 s1 e2 s2) (h2 : DetR S m c n e2 s2 ex e' s') : DetR S m c (n + 1) e s ex e' s' := by
  intro N hc K w0 hK G a w hw hg he hN
  refine wp_mono (h N hc K w0 hK G a w hw hg he hN) ?_
  rintro z a1 w1 ⟨G1, q1, q2, q3, rfl, q5, q6⟩
  obtain ⟨G2, p1, p2, p3⟩ := hk K w0 hK G w hw G1 a1 w1 q1 q2 q5
  exact rounds_mono (fun z a2 w2 hz => CodePost.trans hz p1 q3 q6) n a1 w1 (h2 N hc K w0 hK G2 a1 w1 p2 (hg.mono p1) p3 (by omega))

theorem DetR.loop {c : Code} {n : Nat} {ex : Ex} {e' : Env} {s' : St} (h : DetR S m c n e s ex e' s') : Det S m (.loop c) e s ex e' s' :=
  fun N hc K w0 hK G a w hw hg he hN => wp_loop_rounds n (h N hc K w0 hK G a w hw hg he hN)

/-- What holds behind a round. -/
def roundQ (S : Sys) (s : St) (I : Nat → Env → St → Prop) (k : Nat) (Q : Ex → Env → St → Prop) : Ex → Env → St → Prop
  | .normal, e1, s1 => ∃ j, j < k ∧ ∃ e2 s2, Wk S s e1 s1 e2 s2 ∧ I j e2 s2
  | ex, e, s => Q ex e s

/-- A loop, by what holds ahead of each round and a number that falls. -/
theorem EvC.loop_inv {a : Code} (I : Nat → Env → St → Prop) (hround : ∀ k e s, I k e s → EvC S m a e s (roundQ S s I k Q)) (k : Nat) (e0 : Env) (hI : I k e0 s) (hsub : Sub e0 e) : EvC S m (.loop a) e s Q := by
  have main : ∀ (k : Nat) (e : Env) (s : St), I k e s → ∃ n ex e' s', DetR S m a n e s ex e' s' ∧ Q ex e' s' := by
    intro k
    induction k using Nat.strongRecOn with
    | _ k ih =>
      intro e s hI
      obtain ⟨ex, e1, s1, h1, h2⟩ := hround k e s hI
      cases ex with
      | normal =>
        obtain ⟨j, hj, e2, s2, hk, hI'⟩ := h2
        obtain ⟨n, ex, e', s', h3, h4⟩ := ih j hj e2 s2 hI'
        exact ⟨n + 1, ex, e', s', DetR.succ h1 hk h3, h4⟩
      | _ => exact ⟨1, _, e1, s1, DetR.zero h1 (fun h => by cases h), h2⟩
  obtain ⟨n, ex, e', s', h1, h2⟩ := main k e0 s hI
  exact EvC.forget ⟨ex, e', s', h1.loop, h2⟩ hsub

section ops
variable {all : List Oper} {draw : Bool} {masks : List Nat} {rest : List Oper} {o : Oper} {i : Nat} {met : List Met}

theorem EvO.nil (h : Q .normal e s) : EvO S m all draw Q masks [] i met e s := h

theorem EvO.skip (hw : wantedA all e o = some false) (h : EvO S m all draw Q masks.tail rest (i + 1) met (putA e o.dst undefA) s) : EvO S m all draw Q masks (o :: rest) i met e s :=
  ⟨false, hw, h⟩

theorem EvO.still {v : AV} (hw : wantedA all e o = some true) (hs : isStill m o = true) (hv : stillOp S.T s.heap e o.op = some v) (hd : (draw && readsHeap o.op) = false)
    (h : EvO S m all draw Q masks.tail rest (i + 1) met (putA e o.dst v) s) : EvO S m all draw Q masks (o :: rest) i met e s :=
  ⟨true, hw, by rw [hs]; exact ⟨v, hv, by rw [hd]; exact h⟩⟩

theorem EvO.read {v : AV} (hw : wantedA all e o = some true) (hs : isStill m o = true) (hv : stillOp S.T s.heap e o.op = some v) (hd : (draw && readsHeap o.op) = true) (hok : okRead S.C (masks.headD 0) e o.op v met = true)
    (h : EvO S m all draw Q masks.tail rest (i + 1) (.rd i o.op e v :: met) (putA e o.dst v) s) : EvO S m all draw Q masks (o :: rest) i met e s :=
  ⟨true, hw, by rw [hs]; exact ⟨v, hv, by rw [hd]; exact ⟨hok, h⟩⟩⟩

theorem good_none : Good S fun _ _ _ => none := fun _ _ _ _ _ h => by cases h

theorem EvO.loud {v : AV} {s2 : St} (hw : wantedA all e o = some true) (hs : isStill m o = false) (hl : loudOp S.C m (fun _ _ _ => none) e s o = some (.ret v, s2)) (hok : (!draw || okLoud S.C (masks.headD 0) s2 met) = true)
    (h : EvO S m all draw Q masks.tail rest (i + 1) (metL draw i s met) (putA e o.dst v) s2) : EvO S m all draw Q masks (o :: rest) i met e s :=
  ⟨true, hw, by rw [hs]; exact ⟨_, _, _, good_none, hl, hok, h⟩⟩

theorem EvO.pan {v : AV} {s2 : St} (hw : wantedA all e o = some true) (hs : isStill m o = false) (hl : loudOp S.C m (fun _ _ _ => none) e s o = some (.pan v, s2)) (hok : (!draw || okLoud S.C (masks.headD 0) s2 met) = true) (hb : (!draw || allBehind i masks.tail) = true)
    (h : Q (.pan v) e s2) : EvO S m all draw Q masks (o :: rest) i met e s :=
  ⟨true, hw, by rw [hs]; exact ⟨_, _, _, good_none, hl, hok, hb, h⟩⟩

/-- A call comes to an answer with a property. -/
def CallsTo (S : Sys) (f : Nat) (args : List AV) (s : St) (R : Res → St → Prop) : Prop := ∃ r s', CallDet S f args s r s' ∧ R r s'

open Classical in
theorem EvO.call {c : Call} {f : Operand} {fid : Nat} {first cap args : List AV} (hop : o.op = .call c) (hcal : c.callee = .value f) (hw : wantedA all e o = some true) (hargs : evs e c.args.toList = some args) (hf : ev e f = some (.fn (.func fid) first cap))
    (h : CallsTo S fid (first ++ args ++ cap) s fun r s2 => (!draw || okLoud S.C (masks.headD 0) s2 met) = true ∧ match r with
      | .ret v => EvO S m all draw Q masks.tail rest (i + 1) (metL draw i s met) (putA e o.dst v) s2
      | .pan v => (!draw || allBehind i masks.tail) = true ∧ Q (.pan v) e s2) : EvO S m all draw Q masks (o :: rest) i met e s := by
  obtain ⟨r, s2, h1, hok, h2⟩ := h
  have hs : isStill m o = false := by simp [isStill, hop, hcal]
  refine ⟨true, hw, ?_⟩
  rw [hs]
  refine ⟨fun f' a' st' => if f' = fid ∧ a' = first ++ args ++ cap ∧ st' = s then some (r, s2) else none, r, s2, ?_, ?_, hok, ?_⟩
  · intro f' a' st' r' s' hc
    simp only [] at hc
    split at hc
    · rename_i hx
      obtain ⟨rfl, rfl, rfl⟩ := hx
      cases hc
      exact h1
    · cases hc
  · simp only [loudOp, hop, hargs, hcal, hf]
    simp
  · cases r <;> exact h2
end ops

theorem CallsTo.mono {f : Nat} {args : List AV} {R R' : Res → St → Prop} (h : CallsTo S f args s R) (hq : ∀ r s', R r s' → R' r s') : CallsTo S f args s R' :=
  let ⟨r, s', h1, h2⟩ := h; ⟨r, s', h1, hq _ _ h2⟩
end
end Go.Am
namespace Go.Am

theorem loudOp_mono {C : Ctx} {m : List Nat} {call call' : Nat → List AV → St → Option (Res × St)} (hc : ∀ f args s x, call f args s = some x → call' f args s = some x) {e : Env} {s : St} {o : Oper} {x : Res × St}
    (h : loudOp C m call e s o = some x) : loudOp C m call' e s o = some x := by
  cases hop : o.op with
  | call c =>
    simp only [loudOp, hop] at h ⊢
    cases hargs : evs e c.args.toList with
    | none => simp only [hargs] at h; cases h
    | some args =>
      simp only [hargs] at h ⊢
      cases hcal : c.callee with
      | builtin b => simp only [hcal] at h ⊢; exact h
      | invoke a b => simp only [hcal] at h; cases h
      | value f =>
        simp only [hcal] at h ⊢
        split at h
        · rename_i fid first cap hv
          exact hc _ _ _ _ h
        · cases h
  | next it b => cases b <;> simp only [loudOp, hop] at h ⊢ <;> exact h
  | _ => simp only [loudOp, hop] at h ⊢; exact h

section
variable {C : Ctx} {fn : AFun} {n : Nat} {e : Env} {s : St}
theorem evCode_seq {a b : Code} : evCode C fn (n + 1) (.seq a b) e s = (match evCode C fn n a e s with
  | some (.normal, e', s') => evCode C fn n b e' s'
  | r => r) := rfl
theorem evCode_cond {x : Operand} {a b : Code} : evCode C fn (n + 1) (.cond x a b) e s = (match ev e x with
  | some (.bool true) => evCode C fn n a e s
  | some (.bool false) => evCode C fn n b e s
  | _ => none) := rfl
theorem evCode_block {id : Nat} {a : Code} : evCode C fn (n + 1) (.block id a) e s = (match evCode C fn n a e s with
  | some (.exit j, e', s') => match j == id with
    | true => some (.normal, e', s')
    | false => some (.exit j, e', s')
  | r => r) := rfl
theorem evCode_loop {a : Code} : evCode C fn (n + 1) (.loop a) e s = (match evCode C fn n a e s with
  | some (.normal, e', s') => evCode C fn n (.loop a) e' s'
  | r => r) := rfl
theorem evCode_region {id : Nat} {ops : Array Oper} {draw : Bool} : evCode C fn (n + 1) (.region id ops draw) e s = evOps C fn n ops.toList draw (masksL [] ops.toList) ops.toList 0 [] e s := rfl
end

theorem fuel_mono {C : Ctx} : ∀ n, (∀ f args s x, callA C n f args s = some x → callA C (n + 1) f args s = some x) ∧ (∀ fn c e s x, evCode C fn n c e s = some x → evCode C fn (n + 1) c e s = some x) ∧
    (∀ fn all draw masks ops i met e s x, evOps C fn n all draw masks ops i met e s = some x → evOps C fn (n + 1) all draw masks ops i met e s = some x) := by
  intro n
  induction n with
  | zero => exact ⟨fun _ _ _ _ h => by simp [callA] at h, fun _ _ _ _ _ h => by simp [evCode] at h, fun _ _ _ _ _ _ _ _ _ _ h => by simp [evOps] at h⟩
  | succ n ih =>
    obtain ⟨ih1, ih2, ih3⟩ := ih
    refine ⟨fun f args s x h => ?_, fun fn c e s x h => ?_, fun fn all draw masks ops i met e s x h => ?_⟩
    · simp only [callA] at h ⊢
      split at h
      · exact h
      · split at h
        · cases h
        · rename_i fn hfn
          cases hr : evCode C fn n fn.body (initEnv args 0 .nil) s with
          | none => rw [hr] at h; cases h
          | some y => rw [hr] at h; rw [ih2 _ _ _ _ _ hr]; exact h
    · cases c
      case region id ops draw => rw [evCode_region] at h ⊢; exact ih3 _ _ _ _ _ _ _ _ _ _ h
      case seq a b =>
        rw [evCode_seq] at h ⊢
        cases hr : evCode C fn n a e s with
        | none => rw [hr] at h; cases h
        | some y =>
          rw [hr] at h; rw [ih2 _ _ _ _ _ hr]
          obtain ⟨ex, e', s'⟩ := y
          cases ex <;> first | exact h | exact ih2 _ _ _ _ _ h
      case cond c a b =>
        rw [evCode_cond] at h ⊢
        split at h
        · exact ih2 _ _ _ _ _ h
        · exact ih2 _ _ _ _ _ h
        · cases h
      case block id a =>
        rw [evCode_block] at h ⊢
        cases hr : evCode C fn n a e s with
        | none => rw [hr] at h; cases h
        | some y => rw [hr] at h; rw [ih2 _ _ _ _ _ hr]; exact h
      case loop a =>
        rw [evCode_loop] at h ⊢
        cases hr : evCode C fn n a e s with
        | none => rw [hr] at h; cases h
        | some y =>
          rw [hr] at h; rw [ih2 _ _ _ _ _ hr]
          obtain ⟨ex, e', s'⟩ := y
          cases ex <;> first | exact h | exact ih2 _ _ _ _ _ h
      all_goals exact h
    · cases ops with
      | nil => simp only [evOps] at h ⊢; exact h
      | cons o rest =>
        simp only [evOps] at h ⊢
        split at h
        · cases h
        · rename_i hw; (try simp only [hw]); exact ih3 _ _ _ _ _ _ _ _ _ _ h
        · rename_i hw
          (try simp only [hw])
          split at h
          · rename_i hs
            (try simp only [hs])
            split at h
            · cases h
            · rename_i v hv
              (try simp only [hv])
              split at h
              · rename_i hd; (try simp only [hd]); exact ih3 _ _ _ _ _ _ _ _ _ _ h
              · rename_i hd
                (try simp only [hd])
                split at h
                · rename_i ho; (try simp only [ho]); exact ih3 _ _ _ _ _ _ _ _ _ _ h
                · cases h
          · rename_i hs
            (try simp only [hs])
            cases hl : loudOp C fn.mutDst (callA C n) e s o with
            | none => rw [hl] at h; cases h
            | some y =>
              rw [hl] at h
              rw [loudOp_mono ih1 hl]
              obtain ⟨r, s'⟩ := y
              simp only [] at h ⊢
              split at h
              · cases h
              · rename_i ho
                (try simp only [ho])
                cases r with
                | ret v => exact ih3 _ _ _ _ _ _ _ _ _ _ h
                | pan v => exact h

theorem callA_mono {C : Ctx} {n m f : Nat} {args : List AV} {s : St} {x : Res × St} (hnm : n ≤ m) (h : callA C n f args s = some x) : callA C m f args s = some x := by
  induction hnm with
  | refl => exact h
  | step _ ih => exact (fuel_mono _).1 _ _ _ _ ih
theorem evCode_mono {C : Ctx} {fn : AFun} {n m : Nat} {c : Code} {e : Env} {s : St} {x : Ex × Env × St} (hnm : n ≤ m) (h : evCode C fn n c e s = some x) : evCode C fn m c e s = some x := by
  induction hnm with
  | refl => exact h
  | step _ ih => exact (fuel_mono _).2.1 _ _ _ _ _ ih
theorem evOps_mono {C : Ctx} {fn : AFun} {n m : Nat} {all : List Oper} {draw : Bool} {masks : List Nat} {ops : List Oper} {i : Nat} {met : List Met} {e : Env} {s : St} {x : Ex × Env × St} (hnm : n ≤ m)
    (h : evOps C fn n all draw masks ops i met e s = some x) : evOps C fn m all draw masks ops i met e s = some x := by
  induction hnm with
  | refl => exact h
  | step _ ih => exact (fuel_mono _).2.2 _ _ _ _ _ _ _ _ _ _ ih

end Go.Am
namespace Go.Am
open Go.RowKit

/-- How a body ends. -/
def bodyQ (S : Sys) (fn : AFun) (R : Res → St → Prop) : Ex → Env → St → Prop := fun ex e s => match ex with
  | .normal => ∃ r, finishA S.C fn e s = some r ∧ R r.1 r.2
  | .ret => ∃ r, finishA S.C fn e s = some r ∧ R r.1 r.2
  | .pan v => R (.pan v) s
  | _ => False

section
variable {S : Sys}

theorem init_get : ∀ (xs : List AV) (i : Nat) (e : Env) (t : Nat), (initEnv xs i e).get t = if i ≤ t ∧ t < i + xs.length then xs[t - i]? else e.get t := by
  intro xs
  induction xs with
  | nil => intro i e t; simp only [initEnv, List.length_nil]; rw [if_neg (by omega)]
  | cons x xs ih =>
    intro i e t
    simp only [initEnv, ih, List.length_cons, Tr.get_set]
    by_cases h1 : i + 1 ≤ t ∧ t < i + 1 + xs.length
    · rw [if_pos h1, if_pos (by omega), show t - i = (t - (i + 1)) + 1 by omega, List.getElem?_cons_succ]
    · rw [if_neg h1]
      by_cases h2 : t = i
      · subst h2; rw [if_pos rfl, if_pos (by omega)]; simp
      · rw [if_neg h2, if_neg (by omega)]

theorem body_det (hS : S.Ok) {f : Nat} {fn : AFun} (hf : S.F.get f = some fn) {args : List AV} {s : St} {ex : Ex} {e' : Env} {s2 : St} (h : Det S fn.mutDst fn.body (initEnv args 0 .nil) s ex e' s2) {r : Res} {s' : St}
    (hfin : match ex with
      | .normal => finishA S.C fn e' s2 = some (r, s')
      | .ret => finishA S.C fn e' s2 = some (r, s')
      | .pan v => r = .pan v ∧ s' = s2
      | _ => False) : CallDet S f args s r s' := by
  intro K w0 hK G w vs hw hg hvs
  obtain ⟨gfn, f1, f2, f3, f4, f5⟩ := hS.F f fn hf
  have hrun : (callFunc f vs.toArray).run S.P w = .ok (.enter f vs.toArray) w := by
    have f2' : ¬ gfn.name = "runtime.NumGoroutine" := by simpa using f2
    simp [callFunc, f1, f2', f3]
  unfold CallDoes
  rw [hrun]
  simp only []
  let a0 : Act := { tmps := vs.toArray ++ Array.replicate (gfn.ntmps - vs.toArray.size) undef, defers := [] }
  have hN : gfn.ntmps ≤ a0.tmps.size := by simp [a0]; omega
  have he : EnvR G (initEnv args 0 .nil) a0 := by
    intro t x hx
    rw [init_get] at hx
    have hl := hvs.length
    by_cases ht : t < args.length
    · rw [if_pos (by omega), Nat.sub_zero] at hx
      obtain ⟨v, h1, h2⟩ := hvs.get hx
      have hlt : t < vs.length := by omega
      have : a0.tmps.getD t undef = v := by
        simp only [a0, Array.getD_eq_getD_getElem?]
        rw [Array.getElem?_append_left (by simpa using hlt)]
        simp [h1]
      rw [this]; exact h2
    · rw [if_neg (by omega), Tr.get_nil] at hx
      cases hx
  refine calls_of_wp f1 f3 ?_
  refine wp_mono (h gfn.ntmps f5 K w0 hK G a0 w hw hg he hN) ?_
  rintro x a1 w1 ⟨G1, q1, q2, q3, q4⟩
  have done : EnvR G1 e' a1 → finishA S.C fn e' s2 = some (r, s') → a1.defers = [] ∧ ∃ v, (results gfn a1.tmps).run S.P w1 = .ok v w1 ∧ CallPost K w0 G s' r (.returned v) w1 := by
    intro he1 hfin
    refine ⟨q3, ?_⟩
    unfold finishA at hfin
    split at hfin
    · rename_i xs hxs
      obtain ⟨us, h1, h2⟩ := results_sim hS.T q2 he1 fn.results xs hxs
      have hres : (results gfn a1.tmps).run S.P w1 = .ok (if h : us.toArray.size = 1 then us.toArray[0] else .tuple us.toArray) w1 := by
        rw [results_eq, Sem.run_bind, Array.mapM_eq_mapM_toList, Sem.run_map, f4, h1]
        simp only [Result.andThen_ok, Sem.run_pure]
      refine ⟨_, hres, ?_⟩
      have hpk := pack_sim h2
      split at hfin
      · cases hfin
        exact ⟨G1, q1, q2, _, rfl, hpk⟩
      · split at hfin
        · rename_i x' s3 hfz
          cases hfin
          obtain ⟨G2, p1, p2, p3⟩ := freeze_sim hS.T q2 hfz hpk
          exact ⟨G2, q1.trans p1, p2, _, rfl, p3⟩
        · cases hfin
    · cases hfin
  cases ex with
  | normal => obtain ⟨rfl, q5, _⟩ := q4; exact done q5 hfin
  | ret => obtain ⟨rfl, q5, _⟩ := q4; exact done q5 hfin
  | pan v =>
    obtain ⟨u, rfl, q5⟩ := q4
    obtain ⟨rfl, rfl⟩ := hfin
    exact ⟨q3, G1, q1, q2, u, rfl, q5⟩
  | exit id => exact hfin.elim
  | goto l => exact hfin.elim

/-- A call of a function whose body is run. -/
theorem CallsTo.fn_ (hS : S.Ok) {f : Nat} {fn : AFun} (hf : S.F.get f = some fn) {args : List AV} {s : St} {R : Res → St → Prop} (h : EvC S fn.mutDst fn.body (initEnv args 0 .nil) s (bodyQ S fn R)) : CallsTo S f args s R := by
  obtain ⟨ex, e', s2, h1, h2⟩ := h
  cases ex with
  | normal => obtain ⟨⟨r, s'⟩, h3, h4⟩ := h2; exact ⟨r, s', body_det hS hf h1 h3, h4⟩
  | ret => obtain ⟨⟨r, s'⟩, h3, h4⟩ := h2; exact ⟨r, s', body_det hS hf h1 h3, h4⟩
  | pan v => exact ⟨_, s2, body_det hS hf h1 ⟨rfl, rfl⟩, h2⟩
  | exit id => exact h2.elim
  | goto l => exact h2.elim

/-- What the evaluator finds is true. -/
theorem eval_det (hS : S.Ok) {C : Ctx} (hT : C.T = S.T) (hF : ∀ f fn, C.F.get f = some fn → S.F.get f = some fn) (hX : ∀ f x, C.X.get f = some x → ∀ args s r s', extA x args s = some (r, s') → CallDet S f args s r s') :
    ∀ n, (∀ f args s r s', callA C n f args s = some (r, s') → CallDet S f args s r s') ∧ (∀ fn c e s ex e' s', evCode C fn n c e s = some (ex, e', s') → Det S fn.mutDst c e s ex e' s') ∧
      (∀ fn all draw masks ops i met e s ex e' s', evOps C fn n all draw masks ops i met e s = some (ex, e', s') → EvO S fn.mutDst all draw (fun x y z => x = ex ∧ y = e' ∧ z = s') masks ops i met e s) := by
  have hC : ∀ (m : List Nat) (call : Nat → List AV → St → Option (Res × St)) (e : Env) (s : St) (o : Oper), loudOp C m call e s o = loudOp S.C m call e s o := fun m call e s o => by
    obtain ⟨T, F, X⟩ := C
    subst hT
    obtain ⟨dst, op, type, pos, after, guard⟩ := o
    cases op <;> rfl
  have hR : ∀ (mask : Nat) (e : Env) (o : Op) (v : AV) (met : List Met), okRead C mask e o v met = okRead S.C mask e o v met := fun mask e o v met => by
    induction met with
    | nil => rfl
    | cons x l ih => cases x <;> simp only [okRead, ih, hT, Sys.C]
  have hL : ∀ (mask : Nat) (s : St) (met : List Met), okLoud C mask s met = okLoud S.C mask s met := fun mask s met => by
    induction met with
    | nil => rfl
    | cons x l ih => cases x <;> simp only [okLoud, ih, hT, Sys.C]
  have hfin : ∀ fn e s, finishA C fn e s = finishA S.C fn e s := fun fn e s => by simp only [finishA, hT, Sys.C]
  intro n
  induction n with
  | zero => exact ⟨fun _ _ _ _ _ h => by simp [callA] at h, fun _ _ _ _ _ _ _ h => by simp [evCode] at h, fun _ _ _ _ _ _ _ _ _ _ _ _ h => by simp [evOps] at h⟩
  | succ n ih =>
    obtain ⟨ih1, ih2, ih3⟩ := ih
    have get : ∀ {m : List Nat} {c : Code} {e : Env} {s : St} {Q : Ex → Env → St → Prop}, EvC S m c e s Q → ∃ ex e' s', Det S m c e s ex e' s' ∧ Q ex e' s' := fun h => h
    refine ⟨fun f args s r s' h => ?_, fun fn c e s ex e' s' h => ?_, fun fn all draw masks ops i met e s ex e' s' h => ?_⟩
    · simp only [callA] at h
      split at h
      · rename_i x hx; exact hX f x hx _ _ _ _ h
      · split at h
        · cases h
        · rename_i fn hf
          cases hr : evCode C fn n fn.body (initEnv args 0 .nil) s with
          | none => rw [hr] at h; cases h
          | some y =>
            obtain ⟨ex, e', s2⟩ := y
            rw [hr] at h
            refine body_det hS (hF f fn hf) (ih2 _ _ _ _ _ _ _ hr) ?_
            cases ex with
            | normal => exact (hfin _ _ _).symm.trans h
            | ret => exact (hfin _ _ _).symm.trans h
            | pan v => cases h; exact ⟨rfl, rfl⟩
            | exit id => cases h
            | goto l => cases h
    · have fin : ∀ {Q : Ex → Env → St → Prop}, EvC S fn.mutDst c e s (fun x y z => x = ex ∧ y = e' ∧ z = s') → Det S fn.mutDst c e s ex e' s' := fun h => by
        obtain ⟨_, _, _, h1, rfl, rfl, rfl⟩ := h; exact h1
      refine fin (Q := fun _ _ _ => True) ?_
      cases c with
      | skip => simp only [evCode, Option.some.injEq, Prod.mk.injEq] at h; exact .skip h
      | label l => simp only [evCode, Option.some.injEq, Prod.mk.injEq] at h; exact .label h
      | exit id => simp only [evCode, Option.some.injEq, Prod.mk.injEq] at h; exact .exit h
      | goto l => simp only [evCode, Option.some.injEq, Prod.mk.injEq] at h; exact .goto h
      | ret => simp only [evCode, Option.some.injEq, Prod.mk.injEq] at h; exact .ret h
      | seq a b =>
        simp only [evCode] at h
        cases hr : evCode C fn n a e s with
        | none => rw [hr] at h; cases h
        | some y =>
          obtain ⟨ex1, e1, s1⟩ := y
          rw [hr] at h
          refine .seq ⟨ex1, e1, s1, ih2 _ _ _ _ _ _ _ hr, ?_⟩
          cases ex1 with
          | normal => exact ⟨ex, e', s', ih2 _ _ _ _ _ _ _ h, rfl, rfl, rfl⟩
          | _ => cases h; exact ⟨rfl, rfl, rfl⟩
      | cond x a b =>
        simp only [evCode] at h
        split at h
        · rename_i hx; exact .cond true hx (fun _ => ⟨_, _, _, ih2 _ _ _ _ _ _ _ h, rfl, rfl, rfl⟩) (fun hb => by cases hb)
        · rename_i hx; exact .cond false hx (fun hb => by cases hb) (fun _ => ⟨_, _, _, ih2 _ _ _ _ _ _ _ h, rfl, rfl, rfl⟩)
        · cases h
      | block id a =>
        simp only [evCode] at h
        cases hr : evCode C fn n a e s with
        | none => rw [hr] at h; cases h
        | some y =>
          obtain ⟨ex1, e1, s1⟩ := y
          rw [hr] at h
          refine .block ⟨ex1, e1, s1, ih2 _ _ _ _ _ _ _ hr, ?_⟩
          cases ex1 with
          | exit j =>
            simp only [] at h
            simp only [blockQ]
            split at h
            · rename_i hj; cases h; rw [hj]; exact ⟨rfl, rfl, rfl⟩
            · rename_i hj; cases h; rw [hj]; exact ⟨rfl, rfl, rfl⟩
          | _ => cases h; exact ⟨rfl, rfl, rfl⟩
      | loop a =>
        have main : ∀ (k : Nat), k ≤ n + 1 → ∀ (e : Env) (s : St), evCode C fn k (.loop a) e s = some (ex, e', s') → (∀ j, j < k → ∀ e s ex e' s', evCode C fn j a e s = some (ex, e', s') → Det S fn.mutDst a e s ex e' s') → ∃ r, DetR S fn.mutDst a r e s ex e' s' := by
          intro k
          induction k with
          | zero => intro _ e s h; simp [evCode] at h
          | succ k ihk =>
            intro hk e s h hall
            simp only [evCode] at h
            cases hr : evCode C fn k a e s with
            | none => rw [hr] at h; cases h
            | some y =>
              obtain ⟨ex1, e1, s1⟩ := y
              rw [hr] at h
              have h1 := hall k (by omega) _ _ _ _ _ hr
              cases ex1 with
              | normal =>
                obtain ⟨r, h2⟩ := ihk (by omega) e1 s1 h (fun j hj => hall j (by omega))
                exact ⟨r + 1, DetR.succ h1 .refl h2⟩
              | _ => cases h; exact ⟨1, DetR.zero h1 (fun h => by cases h)⟩
        have low : ∀ j, j < n + 1 → ∀ e s ex e' s', evCode C fn j a e s = some (ex, e', s') → Det S fn.mutDst a e s ex e' s' := fun j hj e s ex e' s' hh =>
          ih2 _ _ _ _ _ _ _ (evCode_mono (show j ≤ n by omega) hh)
        obtain ⟨r, hr⟩ := main (n + 1) (Nat.le_refl _) e s h low
        exact ⟨_, _, _, hr.loop, rfl, rfl, rfl⟩
      | region id ops draw =>
        simp only [evCode] at h
        exact .region hS (ih3 _ _ _ _ _ _ _ _ _ _ _ _ h)
      | rangeFunc f ps asg b => simp [evCode] at h
      | scope x => simp [evCode] at h
      | refuse y => simp [evCode] at h
    · cases ops with
      | nil =>
        simp only [evOps, Option.some.injEq, Prod.mk.injEq] at h
        exact h
      | cons o rest =>
        simp only [evOps] at h
        split at h
        · cases h
        · rename_i hw; exact .skip hw (ih3 _ _ _ _ _ _ _ _ _ _ _ _ h)
        · rename_i hw
          split at h
          · rename_i hs
            split at h
            · cases h
            · rename_i v hv
              split at h
              · rename_i hd; exact .still hw hs (hT ▸ hv) hd (ih3 _ _ _ _ _ _ _ _ _ _ _ _ h)
              · rename_i hd
                split at h
                · rename_i ho; exact .read hw hs (hT ▸ hv) hd ((hR _ _ _ _ _).symm.trans ho) (ih3 _ _ _ _ _ _ _ _ _ _ _ _ h)
                · cases h
          · rename_i hs
            cases hl : loudOp C fn.mutDst (callA C n) e s o with
            | none => rw [hl] at h; cases h
            | some y =>
              obtain ⟨r, s2⟩ := y
              rw [hl] at h
              simp only [] at h
              split at h
              · cases h
              · rename_i ho
                refine ⟨true, hw, ?_⟩
                rw [hs]
                refine ⟨callA C n, r, s2, ih1, (hC _ _ _ _ _).symm.trans hl, by rw [← hL]; exact ho, ?_⟩
                cases r with
                | ret v => exact ih3 _ _ _ _ _ _ _ _ _ _ _ _ h
                | pan v =>
                  simp only [] at h
                  split at h
                  · rename_i hb; cases h; exact ⟨hb, rfl, rfl, rfl⟩
                  · cases h
end
end Go.Am
namespace Go.Am
set_option linter.unusedVariables false
set_option linter.unusedSimpArgs false
open Go.RowKit

def RK (θ : Nat → Nat → Prop) : SK → SK → Prop
  | .full, k => k = .full ∨ k = .dead
  | .tag t, k => (∃ u, θ t u ∧ k = .tag u) ∨ k = .dead
  | .dead, k => k = .dead

mutual
/-- The same value, its blocks and tags under other names, or some tags forgotten. -/
def RV (β θ : Nat → Nat → Prop) : AV → AV → Prop
  | .bool a, b => b = .bool a
  | .int k n, b => b = .int k n
  | .str s, b => b = .str s
  | .nilp, b => b = .nilp
  | .ptr x o, b => ∃ y, β x y ∧ b = .ptr y o
  | .elem xs i o, b => ∃ ys, RVs β θ xs ys ∧ b = .elem ys i o
  | .nils, b => b = .nils
  | .sl xs k, b => ∃ ys k', RVs β θ xs ys ∧ RK θ k k' ∧ b = .sl ys k'
  | .ms x o l z, b => ∃ y, β x y ∧ b = .ms y o l z
  | .nilm, b => b = .nilm
  | .map x, b => ∃ y, β x y ∧ b = .map y
  | .nilf, b => b = .nilf
  | .fn f xs ys, b => ∃ us vs, RVs β θ xs us ∧ RVs β θ ys vs ∧ b = .fn f us vs
  | .nili, b => b = .nili
  | .ifc t v, b => ∃ w, RV β θ v w ∧ b = .ifc t w
  | .agg cs, b => ∃ ds, RVs β θ cs ds ∧ b = .agg ds
  | .tup cs, b => ∃ ds, RVs β θ cs ds ∧ b = .tup ds
def RVs (β θ : Nat → Nat → Prop) : List AV → List AV → Prop
  | [], b => b = []
  | x :: xs, b => ∃ y ys, RV β θ x y ∧ RVs β θ xs ys ∧ b = y :: ys
end

section
variable {β θ : Nat → Nat → Prop}

theorem RVs.length : ∀ {a b : List AV}, RVs β θ a b → b.length = a.length
  | [], b, h => by simp only [RVs] at h; subst h; rfl
  | x :: xs, b, h => by
    simp only [RVs] at h
    obtain ⟨y, ys, _, h2, rfl⟩ := h
    simp [h2.length]

theorem RVs.append : ∀ {a b c d : List AV}, RVs β θ a b → RVs β θ c d → RVs β θ (a ++ c) (b ++ d)
  | [], b, c, d, h, h' => by simp only [RVs] at h; subst h; exact h'
  | x :: xs, b, c, d, h, h' => by
    simp only [RVs] at h
    obtain ⟨y, ys, h1, h2, rfl⟩ := h
    simp only [List.cons_append, RVs]
    exact ⟨y, ys ++ d, h1, h2.append h', rfl⟩

theorem RV.cells {a b : AV} (h : RV β θ a b) : RVs β θ (cellsOf a) (cellsOf b) := by
  cases a with
  | agg cs =>
    simp only [RV] at h
    obtain ⟨ds, h1, rfl⟩ := h
    exact h1
  | _ =>
    have h0 := h
    simp only [RV] at h
    have hb : cellsOf b = [b] := by
      first
      | (subst h; rfl)
      | (obtain ⟨_, _, rfl⟩ := h; rfl)
      | (obtain ⟨_, _, _, _, rfl⟩ := h; rfl)
      | (obtain ⟨_, _, _, _, rfl⟩ := h; rfl)
    rw [hb]
    exact ⟨b, [], h0, rfl, rfl⟩

theorem RVs.flat : ∀ {a b : List AV}, RVs β θ a b → RVs β θ (a.flatMap cellsOf) (b.flatMap cellsOf)
  | [], b, h => by simp only [RVs] at h; subst h; rfl
  | x :: xs, b, h => by
    simp only [RVs] at h
    obtain ⟨y, ys, h1, h2, rfl⟩ := h
    simp only [List.flatMap_cons]
    exact (RV.cells h1).append h2.flat

theorem RVs.cell_len {sz : Nat} : ∀ {a b : List AV}, RVs β θ a b → (∀ x ∈ a, (cellsOf x).length = sz) → ∀ y ∈ b, (cellsOf y).length = sz
  | [], b, h, _ => by simp only [RVs] at h; subst h; simp
  | x :: xs, b, h, hx => by
    simp only [RVs] at h
    obtain ⟨y, ys, h1, h2, rfl⟩ := h
    intro z hz
    rcases List.mem_cons.1 hz with rfl | hz
    · rw [(RV.cells h1).length]; exact hx x (by simp)
    · exact h2.cell_len (fun x' hx' => hx x' (by simp [hx'])) z hz

theorem RK.weaken {β' θ' : Nat → Nat → Prop} (hθ : ∀ x y, θ x y → θ' x y) {k k' : SK} (h : RK θ k k') : RK θ' k k' := by
  cases k with
  | tag t =>
    simp only [RK] at h ⊢
    rcases h with ⟨u, hu, rfl⟩ | rfl
    · exact .inl ⟨u, hθ _ _ hu, rfl⟩
    · exact .inr rfl
  | _ => exact h

mutual
theorem RV.weaken {β' θ' : Nat → Nat → Prop} (hβ : ∀ x y, β x y → β' x y) (hθ : ∀ x y, θ x y → θ' x y) : ∀ {a b : AV}, RV β θ a b → RV β' θ' a b
  | .bool _, _, h => h
  | .int _ _, _, h => h
  | .str _, _, h => h
  | .nilp, _, h => h
  | .ptr x o, b, h => by simp only [RV] at h ⊢; obtain ⟨y, hy, rfl⟩ := h; exact ⟨y, hβ _ _ hy, rfl⟩
  | .elem xs i o, b, h => by simp only [RV] at h ⊢; obtain ⟨y, hy, rfl⟩ := h; exact ⟨y, RVs.weaken hβ hθ hy, rfl⟩
  | .nils, _, h => h
  | .sl xs k, b, h => by simp only [RV] at h ⊢; obtain ⟨y, k', hy, hk, rfl⟩ := h; exact ⟨y, k', RVs.weaken hβ hθ hy, RK.weaken (β' := β') hθ hk, rfl⟩
  | .ms x o l z, b, h => by simp only [RV] at h ⊢; obtain ⟨y, hy, rfl⟩ := h; exact ⟨y, hβ _ _ hy, rfl⟩
  | .nilm, _, h => h
  | .map x, b, h => by simp only [RV] at h ⊢; obtain ⟨y, hy, rfl⟩ := h; exact ⟨y, hβ _ _ hy, rfl⟩
  | .nilf, _, h => h
  | .fn f xs ys, b, h => by simp only [RV] at h ⊢; obtain ⟨u, v, hu, hv, rfl⟩ := h; exact ⟨u, v, RVs.weaken hβ hθ hu, RVs.weaken hβ hθ hv, rfl⟩
  | .nili, _, h => h
  | .ifc t v, b, h => by simp only [RV] at h ⊢; obtain ⟨y, hy, rfl⟩ := h; exact ⟨y, RV.weaken hβ hθ hy, rfl⟩
  | .agg cs, b, h => by simp only [RV] at h ⊢; obtain ⟨y, hy, rfl⟩ := h; exact ⟨y, RVs.weaken hβ hθ hy, rfl⟩
  | .tup cs, b, h => by simp only [RV] at h ⊢; obtain ⟨y, hy, rfl⟩ := h; exact ⟨y, RVs.weaken hβ hθ hy, rfl⟩
theorem RVs.weaken {β' θ' : Nat → Nat → Prop} (hβ : ∀ x y, β x y → β' x y) (hθ : ∀ x y, θ x y → θ' x y) : ∀ {a b : List AV}, RVs β θ a b → RVs β' θ' a b
  | [], _, h => h
  | x :: xs, b, h => by simp only [RVs] at h ⊢; obtain ⟨y, ys, h1, h2, rfl⟩ := h; exact ⟨y, ys, RV.weaken hβ hθ h1, RVs.weaken hβ hθ h2, rfl⟩
end

mutual
theorem RV.vr {G H : Gh} (hρ : ∀ x y, β x y → ∀ c n, G.ρ x = some (c, n) → H.ρ y = some (c, n)) (hτ : ∀ x y, θ x y → ∀ e, G.τ x = some e → H.τ y = some e) (hI : ∀ c o v, G.I c o = some v → H.I c o = some v) :
    ∀ {a b : AV} {v : Value}, VR G a v → RV β θ a b → VR H b v
  | _, _, _, .bool b, h => by simp only [RV] at h; subst h; exact .bool _
  | _, _, _, .int k n, h => by simp only [RV] at h; subst h; exact .int _ _
  | _, _, _, .str s, h => by simp only [RV] at h; subst h; exact .str _
  | _, _, _, .nilp, h => by simp only [RV] at h; subst h; exact .nilp
  | _, _, _, .ptr b off c n e, h => by
    simp only [RV] at h
    obtain ⟨y, hy, rfl⟩ := h
    exact .ptr y off c n (hρ _ _ hy _ _ e)
  | _, _, _, .elem xs i off c base sz vs hsz hv hc, h => by
    simp only [RV] at h
    obtain ⟨ys, hy, rfl⟩ := h
    refine .elem ys i off c base sz vs (hy.cell_len hsz) (RVs.vr hρ hτ hI hv hy.flat) (fun j hj => ?_)
    have e := hc j hj
    rw [List.getElem?_eq_getElem hj] at e ⊢
    exact hI _ _ _ e
  | _, _, _, .nils, h => by simp only [RV] at h; subst h; exact .nils
  | _, _, _, .sl xs k c base sz len cap vs hsz hv hc hl hcap hk, h => by
    simp only [RV] at h
    obtain ⟨ys, k', hy, hk', rfl⟩ := h
    refine .sl ys k' c base sz len cap vs (hy.cell_len hsz) (RVs.vr hρ hτ hI hv hy.flat) (fun j hj => ?_) (by rw [hy.length]; exact hl) hcap ?_
    · have e := hc j hj
      rw [List.getElem?_eq_getElem hj] at e ⊢
      exact hI _ _ _ e
    · rw [hy.length]
      cases k with
      | full => simp only [RK] at hk'; rcases hk' with rfl | rfl <;> first | exact hk | trivial
      | tag t =>
        simp only [RK] at hk'
        rcases hk' with ⟨u, hu, rfl⟩ | rfl
        · exact ⟨hk.1, hτ _ _ hu _ hk.2⟩
        · trivial
      | dead => simp only [RK] at hk'; subst hk'; trivial
  | _, _, _, .ms b off len sz c n cap e hl hc, h => by
    simp only [RV] at h
    obtain ⟨y, hy, rfl⟩ := h
    exact .ms y off len sz c n cap (hρ _ _ hy _ _ e) hl hc
  | _, _, _, .nilm, h => by simp only [RV] at h; subst h; exact .nilm
  | _, _, _, .map b c n e, h => by
    simp only [RV] at h
    obtain ⟨y, hy, rfl⟩ := h
    exact .map y c n (hρ _ _ hy _ _ e)
  | _, _, _, .nilf, h => by simp only [RV] at h; subst h; exact .nilf
  | _, _, _, .fn f a b asq bs ha hb, h => by
    simp only [RV] at h
    obtain ⟨us, vs, h1, h2, rfl⟩ := h
    exact .fn f us vs asq bs (RVs.vr hρ hτ hI ha h1) (RVs.vr hρ hτ hI hb h2)
  | _, _, _, .nili, h => by simp only [RV] at h; subst h; exact .nili
  | _, _, _, .ifc t a v e, h => by
    simp only [RV] at h
    obtain ⟨w, hw, rfl⟩ := h
    exact .ifc t w v (RV.vr hρ hτ hI e hw)
  | _, _, _, .agg cs vs e, h => by
    simp only [RV] at h
    obtain ⟨ds, hd, rfl⟩ := h
    exact .agg ds vs (RVs.vr hρ hτ hI e hd)
  | _, _, _, .tup cs vs e, h => by
    simp only [RV] at h
    obtain ⟨ds, hd, rfl⟩ := h
    exact .tup ds vs (RVs.vr hρ hτ hI e hd)
theorem RVs.vr {G H : Gh} (hρ : ∀ x y, β x y → ∀ c n, G.ρ x = some (c, n) → H.ρ y = some (c, n)) (hτ : ∀ x y, θ x y → ∀ e, G.τ x = some e → H.τ y = some e) (hI : ∀ c o v, G.I c o = some v → H.I c o = some v) :
    ∀ {a b : List AV} {v : List Value}, VRs G a v → RVs β θ a b → VRs H b v
  | _, _, _, .nil, h => by simp only [RVs] at h; subst h; exact .nil
  | _, _, _, .cons a v asq vs e es, h => by
    simp only [RVs] at h
    obtain ⟨y, ys, h1, h2, rfl⟩ := h
    exact .cons _ _ _ _ (RV.vr hρ hτ hI e h1) (RVs.vr hρ hτ hI es h2)
end

/-- The same block, under other names. -/
def RB (β θ : Nat → Nat → Prop) : Blk → Blk → Prop
  | .cells cs f, b => ∃ ds, RVs β θ cs ds ∧ b = .cells ds f
  | .siter s p, b => b = .siter s p
end

/-- The names of the blocks that a call is handed (from nx on), and of those that are new (from n0 on; outside from m0 on). -/
def bIn (nx : Nat) (bs : List Nat) : Nat → Nat → Prop := fun x y => ∃ j, x = nx + j ∧ bs[j]? = some y
def tIn (ts : List Nat) : Nat → Nat → Prop := fun x y => ts[x]? = some y
def bOut (nx : Nat) (bs : List Nat) (n0 m0 k : Nat) : Nat → Nat → Prop := fun x y => (∃ j, x = nx + j ∧ bs[j]? = some y) ∨ ∃ i, i < k ∧ x = n0 + i ∧ y = m0 + i
def tOut (ts : List Nat) (n0 m0 k : Nat) : Nat → Nat → Prop := fun x y => ts[x]? = some y ∨ ∃ i, i < k ∧ x = n0 + i ∧ y = m0 + i

def swap (β : Nat → Nat → Prop) : Nat → Nat → Prop := fun x y => β y x

/-- What a call is handed, seen from inside (s0) and from outside (s). -/
structure FrameIn (S : Sys) (bs ts : List Nat) (s0 s : St) : Prop where
  next : s0.next = S.nx + bs.length
  nt : s0.nt = ts.length
  bnd : bs.Nodup
  tnd : ts.Nodup
  heap : ∀ b blk, s0.heap.get b = some blk → (b < S.nx ∧ S.h.get b = some blk) ∨ ∃ j y cs0 cs, b = S.nx + j ∧ bs[j]? = some y ∧ blk = .cells cs0 false ∧ s.heap.get y = some (.cells cs false) ∧ RVs (swap (bIn S.nx bs)) (swap (tIn ts)) cs cs0
  own : ∀ y, y ∈ bs → ∃ cs, s.heap.get y = some (.cells cs false)
  live : ∀ j t, ts[j]? = some t → s0.live.get j = some true → s.live.get t = some true
  liveIn : ∀ j, s0.live.get j = some true → ∃ t, ts[j]? = some t
  tlt : ∀ t, t ∈ ts → t < s.nt

/-- What a call leaves, seen from inside (s1) and from outside (s'). -/
structure FrameOut (S : Sys) (bs ts : List Nat) (s0 s s1 s' : St) : Prop where
  next : s.next ≤ s'.next
  nt : s.nt ≤ s'.nt
  same : ∀ b, b < s.next → b ∉ bs → s'.heap.get b = s.heap.get b
  own : ∀ j y, bs[j]? = some y → ∃ cs1 cs', s1.heap.get (S.nx + j) = some (.cells cs1 false) ∧ s'.heap.get y = some (.cells cs' false) ∧ RVs (bOut S.nx bs s0.next s.next (s'.next - s.next)) (tOut ts s0.nt s.nt (s'.nt - s.nt)) cs1 cs'
  new : ∀ i blk, i < s'.next - s.next → s'.heap.get (s.next + i) = some blk → ∃ blk1, s1.heap.get (s0.next + i) = some blk1 ∧ RB (bOut S.nx bs s0.next s.next (s'.next - s.next)) (tOut ts s0.nt s.nt (s'.nt - s.nt)) blk1 blk
  frz : ∀ i cs1, i < s'.next - s.next → s1.heap.get (s0.next + i) = some (.cells cs1 true) → ∃ cs', s'.heap.get (s.next + i) = some (.cells cs' true) ∧ cs'.length = cs1.length
  none : ∀ b, s'.next ≤ b → b ∉ bs → s'.heap.get b = s.heap.get b
  live : ∀ t, s'.live.get t = some true → (t ∉ ts ∧ s.live.get t = some true) ∨ (∃ j, ts[j]? = some t ∧ s0.live.get j = some true ∧ s1.live.get j = some true) ∨ (∃ i, i < s'.nt - s.nt ∧ t = s.nt + i ∧ s1.live.get (s0.nt + i) = some true)

def RR (β θ : Nat → Nat → Prop) : Res → Res → Prop
  | .ret a, r => ∃ b, RV β θ a b ∧ r = .ret b
  | .pan a, r => ∃ b, RV β θ a b ∧ r = .pan b

theorem nodup_idx {l : List Nat} (h : l.Nodup) {i j x : Nat} (hi : l[i]? = some x) (hj : l[j]? = some x) : i = j := by
  obtain ⟨h1, e1⟩ := List.getElem?_eq_some_iff.1 hi
  obtain ⟨h2, e2⟩ := List.getElem?_eq_some_iff.1 hj
  exact (List.getElem_inj h).1 (e1.trans e2.symm)

open Classical in
set_option maxHeartbeats 2000000 in
theorem CallDet.frame {S : Sys} {f : Nat} {args0 args : List AV} {s0 s1 s s' : St} {r0 r : Res} {bs ts : List Nat} (h : CallDet S f args0 s0 r0 s1) (hin : FrameIn S bs ts s0 s) (hout : FrameOut S bs ts s0 s s1 s')
    (hargs : RVs (swap (bIn S.nx bs)) (swap (tIn ts)) args args0) (hr : RR (bOut S.nx bs s0.next s.next (s'.next - s.next)) (tOut ts s0.nt s.nt (s'.nt - s.nt)) r0 r) : CallDet S f args s r s' := by
  intro K w0 hK G w vs hw hg hvs
  let Own : Nat → Prop := fun c => (∃ y n, y ∈ bs ∧ G.ρ y = some (c, n)) ∨ ∃ j t e ce, ts[j]? = some t ∧ s0.live.get j = some true ∧ G.τ t = some (c, e, ce)
  let K' : Nat → Prop := fun c => c < w.heap.size ∧ ¬ Own c
  have hown : ∀ c, Own c → ¬ K c := by
    rintro c (⟨y, n, hy, hρ⟩ | ⟨j, t, e, ce, hj, hl, hτ⟩)
    · obtain ⟨cs, hcs⟩ := hin.own y hy
      obtain ⟨_, _, _, _, _, _, _, q⟩ := hw.cells y cs false c n hcs hρ
      exact (q rfl).2.1
    · exact (hw.tags t c e ce (hin.live j t hj hl) hτ).1
  have hKK : ∀ c, K c → K' c := fun c hc => ⟨hw.hB c hc, fun ho => hown c ho hc⟩
  have hnK : ∀ c, ¬ K' c → ¬ K c := fun c hc hk => hc (hKK c hk)
  have hstart : Start S.NG S.h S.nx S.ρ w := hK.start.kept hK.kept hw.below
  have hK' : StartK S K' w := ⟨hstart, fun b c n hb => hKK c (hK.kept b c n hb)⟩
  let G' : Gh := ⟨fun b => if b < S.nx then S.ρ b else (bs[b - S.nx]?).bind G.ρ, G.I, fun t => (ts[t]?).bind G.τ, (G.I, fun b => if b < S.nx then S.ρ b else (bs[b - S.nx]?).bind G.ρ)⟩
  have hρlow : ∀ b, b < S.nx → G'.ρ b = S.ρ b := fun b hb => if_pos hb
  have hρin : ∀ j y, bs[j]? = some y → G'.ρ (S.nx + j) = G.ρ y := fun j y hj => by
    show (if S.nx + j < S.nx then S.ρ (S.nx + j) else (bs[S.nx + j - S.nx]?).bind G.ρ) = _
    rw [if_neg (by omega), Nat.add_sub_cancel_left, hj]; rfl
  have hτin : ∀ j t, ts[j]? = some t → G'.τ j = G.τ t := fun j t hj => by
    show (ts[j]?).bind G.τ = _
    rw [hj]; rfl
  have hρcase : ∀ b c n, G'.ρ b = some (c, n) → (b < S.nx ∧ S.ρ b = some (c, n)) ∨ ∃ j y, b = S.nx + j ∧ bs[j]? = some y ∧ G.ρ y = some (c, n) := fun b c n hb => by
    by_cases hbx : b < S.nx
    · rw [hρlow b hbx] at hb; exact .inl ⟨hbx, hb⟩
    · have hb' : (bs[b - S.nx]?).bind G.ρ = some (c, n) := by
        have e : G'.ρ b = (bs[b - S.nx]?).bind G.ρ := if_neg hbx
        rw [← e]; exact hb
      cases hy : bs[b - S.nx]? with
      | none => rw [hy] at hb'; cases hb'
      | some y => rw [hy] at hb'; exact .inr ⟨b - S.nx, y, by omega, hy, hb'⟩
  have hτcase : ∀ j x, G'.τ j = some x → ∃ t, ts[j]? = some t ∧ G.τ t = some x := fun j x hj => by
    have hj' : (ts[j]?).bind G.τ = some x := hj
    cases ht : ts[j]? with
    | none => rw [ht] at hj'; cases hj'
    | some t => rw [ht] at hj'; exact ⟨t, rfl, hj'⟩
  have hρswap : ∀ x y, swap (bIn S.nx bs) x y → ∀ c n, G.ρ x = some (c, n) → G'.ρ y = some (c, n) := by
    rintro x y ⟨j, rfl, hj⟩ c n e
    rw [hρin j x hj]; exact e
  have hτswap : ∀ x y, swap (tIn ts) x y → ∀ e, G.τ x = some e → G'.τ y = some e := by
    rintro x y hj e he
    rw [hτin y x hj]; exact he
  have hlowK : ∀ b c n, b < S.nx → S.ρ b = some (c, n) → K c := fun b c n _ hb => hK.kept b c n hb
  have hw' : WR K' w G' s0 w :=
    { below := .refl _ _
      hB := fun c hc => hc.1
      cells := fun b cs f c n hb hρ => by
        rcases hin.heap b _ hb with ⟨hbx, hS⟩ | ⟨j, y, cs0, cs', rfl, hj, e, hy, hrv⟩
        · rw [hρlow b hbx] at hρ
          obtain ⟨_, cs', e⟩ := hstart.dom b _ hS
          cases e
          obtain ⟨arr, T, fr, h1, h2, h3, h4⟩ := hstart.cells b cs c n hS hρ
          have hle : Gh.Le ⟨S.ρ, fun _ _ => none, fun _ => none, G'.J⟩ G' := ⟨fun b x e => by rw [hρlow b (hstart.lt b x.1 x.2 e).1]; exact e, fun _ _ _ e => (by cases e), fun _ _ e => (by cases e), rfl⟩
          exact ⟨arr, T, fr, h1, h2, h3, VRs.mono hle (h4 _ rfl), fun e => by cases e⟩
        · cases e
          rw [hρin j y hj] at hρ
          obtain ⟨arr, T, fr, h1, h2, h3, h4, h5⟩ := hw.cells y cs' false c n hy hρ
          refine ⟨arr, T, fr, h1, h2, by rw [hrv.length]; exact h3, by rw [hrv.length]; exact RVs.vr hρswap hτswap (fun _ _ _ e => e) h4 hrv, fun _ => ⟨(h5 rfl).1, fun hc => hc.2 (.inl ⟨y, n, List.mem_of_getElem? hj, hρ⟩), (h5 rfl).2.2⟩⟩
      siter := fun b str pos c n hb hρ => by
        rcases hin.heap b _ hb with ⟨hbx, hS⟩ | ⟨j, y, cs0, cs', rfl, hj, e, hy, hrv⟩
        · obtain ⟨_, cs', e⟩ := hstart.dom b _ hS; cases e
        · cases e
      inj := fun b b' c n n' hc hb hb' => by
        rcases hρcase b c n hb with ⟨hbx, h1⟩ | ⟨j, y, rfl, hj, h1⟩
        · exact absurd (hKK c (hlowK b c n hbx h1)) hc
        · rcases hρcase b' c n' hb' with ⟨hbx, h2⟩ | ⟨j', y', rfl, hj', h2⟩
          · exact absurd (hKK c (hlowK b' c n' hbx h2)) hc
          · have e := hw.inj y y' c n n' (hnK c hc) h1 h2
            subst e
            rw [nodup_idx hin.bnd hj hj']
      lt := fun b c n hb => by
        rw [hin.next]
        rcases hρcase b c n hb with ⟨hbx, h1⟩ | ⟨j, y, rfl, hj, h1⟩
        · exact ⟨by omega, (hstart.lt b c n h1).2⟩
        · have := (List.getElem?_eq_some_iff.1 hj).1
          exact ⟨by omega, (hw.lt y c n h1).2⟩
      imm := hw.imm
      tags := fun t c e ce hl hτ => by
        obtain ⟨u, hu, hτ'⟩ := hτcase t _ hτ
        obtain ⟨q1, q2, q3, q4⟩ := hw.tags u c e ce (hin.live t u hu hl) hτ'
        refine ⟨fun hc => hc.2 (.inr ⟨t, u, e, ce, hu, hl, hτ'⟩), q2, q3, fun b n hb => ?_⟩
        rcases hρcase b c n hb with ⟨hbx, h1⟩ | ⟨j, y, rfl, hj, h1⟩
        · exact absurd (hlowK b c n hbx h1) q1
        · obtain ⟨cs, hcs, _⟩ := q4 y n h1
          obtain ⟨cs2, hcs2⟩ := hin.own y (List.mem_of_getElem? hj)
          rw [hcs] at hcs2; cases hcs2
      tdist := fun t t' c e ce e' ce' hl hl' hτ hτ' => by
        obtain ⟨u, hu, h1⟩ := hτcase t _ hτ
        obtain ⟨u', hu', h2⟩ := hτcase t' _ hτ'
        have e1 := hw.tdist u u' c e ce e' ce' (hin.live t u hu hl) (hin.live t' u' hu' hl') h1 h2
        subst e1
        exact nodup_idx hin.tnd hu hu'
      tlt := fun t x hτ => by
        obtain ⟨u, hu, _⟩ := hτcase t _ hτ
        rw [hin.nt]; exact (List.getElem?_eq_some_iff.1 hu).1
      hlt := fun b blk hb => by
        rw [hin.next]
        rcases hin.heap b _ hb with ⟨hbx, _⟩ | ⟨j, y, _, _, rfl, hj, _⟩
        · omega
        · have := (List.getElem?_eq_some_iff.1 hj).1; omega
      old := fun c o v _ e => e
      hmap := fun b blk hb => by
        rcases hin.heap b _ hb with ⟨hbx, hS⟩ | ⟨j, y, _, cs, rfl, hj, _, hy, _⟩
        · obtain ⟨x, hx⟩ := hstart.map b blk hS
          exact ⟨x, (hρlow b hbx).trans hx⟩
        · obtain ⟨x, hx⟩ := hw.hmap y _ hy
          exact ⟨x, (hρin j y hj).trans hx⟩
      oldρ := fun b c n _ e => e
      tdef := fun t hl => by
        obtain ⟨u, hu⟩ := hin.liveIn t hl
        obtain ⟨x, hx⟩ := hw.tdef u (hin.live t u hu hl)
        exact ⟨x, (hτin t u hu).trans hx⟩
      tlow := fun t c e ce hl hτ => by
        obtain ⟨u, hu, hτ'⟩ := hτcase t _ hτ
        exact hw.tlow u c e ce (hin.live t u hu hl) hτ' }
  have hg' : GOk S.NG G' := fun g hgl => by
    obtain ⟨n, hn⟩ := hstart.g g hgl
    exact ⟨n, by rw [hρlow g (hstart.lt g _ _ hn).1]; exact hn⟩
  have hvs' : VRs G' args0 vs := RVs.vr hρswap hτswap (fun _ _ _ e => e) hvs hargs
  refine (h K' w hK' G' w vs hw' hg' hvs').mono ?_
  rintro e w2 ⟨Ge, hle, hwe, hres⟩
  -- what is new is behind the last block, or one's own
  have hnew : ∀ x c n, Ge.ρ x = some (c, n) → c < w.heap.size → G'.ρ x = some (c, n) := fun x c n hx hc => by
    have := hwe.oldρ x c n hc hx
    rwa [hle.J] at this
  let kb := s'.next - s.next
  let kt := s'.nt - s.nt
  let ρ2 : Nat → Option (Nat × Nat) := fun b => if b < s.next then (if hx : ∃ j, bs[j]? = some b then Ge.ρ (S.nx + Classical.choose hx) else G.ρ b) else if b < s'.next then Ge.ρ (s0.next + (b - s.next)) else none
  let τ2 : Nat → Option (Nat × Nat × Nat) := fun t => if t < s.nt then (if hx : ∃ j, ts[j]? = some t then Ge.τ (Classical.choose hx) else G.τ t) else if t < s'.nt then Ge.τ (s0.nt + (t - s.nt)) else none
  let G2 : Gh := ⟨ρ2, fun c o => if K' c then G.I c o else Ge.I c o, τ2, G.J⟩
  have hbs : ∀ y, y ∈ bs → y < s.next := fun y hy => by
    obtain ⟨cs, hcs⟩ := hin.own y hy
    exact hw.hlt y _ hcs
  have ρ2own : ∀ j y, bs[j]? = some y → ρ2 y = Ge.ρ (S.nx + j) := fun j y hj => by
    have hx : ∃ j, bs[j]? = some y := ⟨j, hj⟩
    show (if y < s.next then (if hx : ∃ j, bs[j]? = some y then Ge.ρ (S.nx + Classical.choose hx) else G.ρ y) else _) = _
    rw [if_pos (hbs y (List.mem_of_getElem? hj)), dif_pos hx, nodup_idx hin.bnd (Classical.choose_spec hx) hj]
  have ρ2out : ∀ b, b < s.next → b ∉ bs → ρ2 b = G.ρ b := fun b hb hn => by
    show (if b < s.next then (if hx : ∃ j, bs[j]? = some b then Ge.ρ (S.nx + Classical.choose hx) else G.ρ b) else _) = _
    rw [if_pos hb, dif_neg (fun ⟨j, hj⟩ => hn (List.mem_of_getElem? hj))]
  have ρ2new : ∀ i, i < kb → ρ2 (s.next + i) = Ge.ρ (s0.next + i) := fun i hi => by
    have hi' : i < s'.next - s.next := hi
    show (if s.next + i < s.next then _ else if s.next + i < s'.next then Ge.ρ (s0.next + (s.next + i - s.next)) else none) = _
    rw [if_neg (by omega), if_pos (by omega), Nat.add_sub_cancel_left]
  have ρ2case : ∀ b c n, ρ2 b = some (c, n) → (b < s.next ∧ b ∉ bs ∧ G.ρ b = some (c, n)) ∨ (∃ j, bs[j]? = some b ∧ Ge.ρ (S.nx + j) = some (c, n)) ∨ (∃ i, i < kb ∧ b = s.next + i ∧ Ge.ρ (s0.next + i) = some (c, n)) := fun b c n hb => by
    by_cases h1 : b < s.next
    · by_cases h2 : b ∈ bs
      · obtain ⟨j, hj⟩ := List.mem_iff_getElem?.1 h2
        exact .inr (.inl ⟨j, hj, by rw [← ρ2own j b hj]; exact hb⟩)
      · exact .inl ⟨h1, h2, by rw [← ρ2out b h1 h2]; exact hb⟩
    · by_cases h2 : b < s'.next
      · refine .inr (.inr ⟨b - s.next, show b - s.next < s'.next - s.next by omega, by omega, ?_⟩)
        rw [← ρ2new (b - s.next) (show b - s.next < s'.next - s.next by omega), show s.next + (b - s.next) = b by omega]; exact hb
      · have : ρ2 b = none := by
          show (if b < s.next then _ else if b < s'.next then _ else none) = _
          rw [if_neg h1, if_neg h2]
        rw [this] at hb; cases hb
  have τ2own : ∀ j t, ts[j]? = some t → τ2 t = Ge.τ j := fun j t hj => by
    have hx : ∃ j, ts[j]? = some t := ⟨j, hj⟩
    show (if t < s.nt then (if hx : ∃ j, ts[j]? = some t then Ge.τ (Classical.choose hx) else G.τ t) else _) = _
    rw [if_pos (hin.tlt t (List.mem_of_getElem? hj)), dif_pos hx, nodup_idx hin.tnd (Classical.choose_spec hx) hj]
  have τ2out : ∀ t, t < s.nt → t ∉ ts → τ2 t = G.τ t := fun t ht hn => by
    show (if t < s.nt then (if hx : ∃ j, ts[j]? = some t then Ge.τ (Classical.choose hx) else G.τ t) else _) = _
    rw [if_pos ht, dif_neg (fun ⟨j, hj⟩ => hn (List.mem_of_getElem? hj))]
  have τ2new : ∀ i, i < kt → τ2 (s.nt + i) = Ge.τ (s0.nt + i) := fun i hi => by
    have hi' : i < s'.nt - s.nt := hi
    show (if s.nt + i < s.nt then _ else if s.nt + i < s'.nt then Ge.τ (s0.nt + (s.nt + i - s.nt)) else none) = _
    rw [if_neg (by omega), if_pos (by omega), Nat.add_sub_cancel_left]
  have hGle : G.Le G2 := by
    refine ⟨fun b x hb => ?_, fun c o v hI => ?_, fun t x ht => ?_, rfl⟩
    · have hlt := (hw.lt b x.1 x.2 hb).1
      by_cases h2 : b ∈ bs
      · obtain ⟨j, hj⟩ := List.mem_iff_getElem?.1 h2
        show ρ2 b = some x
        rw [ρ2own j b hj]
        exact hle.ρ _ _ ((hρin j b hj).trans hb)
      · show ρ2 b = some x
        rw [ρ2out b hlt h2]; exact hb
    · show (if K' c then G.I c o else Ge.I c o) = some v
      split
      · exact hI
      · exact hle.I _ _ _ hI
    · have hlt := hw.tlt t x ht
      by_cases h2 : t ∈ ts
      · obtain ⟨j, hj⟩ := List.mem_iff_getElem?.1 h2
        show τ2 t = some x
        rw [τ2own j t hj]
        exact hle.τ _ _ ((hτin j t hj).trans ht)
      · show τ2 t = some x
        rw [τ2out t hlt h2]; exact ht
  have hI2 : ∀ c o v, Ge.I c o = some v → G2.I c o = some v := fun c o v e => by
    show (if K' c then G.I c o else Ge.I c o) = some v
    split
    · rename_i hk
      have := hwe.old c o v hk e
      rw [hle.J] at this
      exact this
    · exact e
  have hI2n : ∀ c o, ¬ K' c → G2.I c o = Ge.I c o := fun c o hk => if_neg hk
  have hI2k : ∀ c o, K' c → G2.I c o = G.I c o := fun c o hk => if_pos hk
  have hρo : ∀ x y, bOut S.nx bs s0.next s.next kb x y → ∀ c n, Ge.ρ x = some (c, n) → G2.ρ y = some (c, n) := by
    rintro x y (⟨j, rfl, hj⟩ | ⟨i, hi, rfl, rfl⟩) c n e
    · show ρ2 y = _
      rw [ρ2own j y hj]; exact e
    · show ρ2 (s.next + i) = _
      rw [ρ2new i hi]; exact e
  have hτo : ∀ x y, tOut ts s0.nt s.nt kt x y → ∀ e, Ge.τ x = some e → G2.τ y = some e := by
    rintro x y (hj | ⟨i, hi, rfl, rfl⟩) e he
    · show τ2 y = _
      rw [τ2own x y hj]; exact he
    · show τ2 (s.nt + i) = _
      rw [τ2new i hi]; exact he
  have hlt : ∀ t, s.live.get t = some true → t < s.nt := fun t ht => by
    obtain ⟨x, hx⟩ := hw.tdef t ht
    exact hw.tlt t x hx
  have hkeep : ∀ c, K' c → w2.heap[c]? = w.heap[c]? := fun c hc => hwe.below.block c hc
  -- a block of the outside that is not handed in
  have hout1 : ∀ b c n, b < s.next → b ∉ bs → G.ρ b = some (c, n) → ¬ K c → (∀ y n', y ∈ bs → G.ρ y = some (c, n') → False) := fun b c n _ hb hρ hk y n' hy hy' => by
    have := hw.inj b y c n n' hk hρ hy'
    exact hb (this ▸ hy)
  have hinner : ∀ x c n, S.nx ≤ x → Ge.ρ x = some (c, n) → c < w.heap.size → ∃ j y, x = S.nx + j ∧ bs[j]? = some y ∧ G.ρ y = some (c, n) := fun x c n hx hρ hc => by
    rcases hρcase x c n (hnew x c n hρ hc) with ⟨hbx, _⟩ | h
    · omega
    · exact h
  have hinnerK : ∀ x c n, S.nx ≤ x → Ge.ρ x = some (c, n) → ¬ K' c := fun x c n hx hρ hk => by
    obtain ⟨j, y, rfl, hj, hy⟩ := hinner x c n hx hρ hk.1
    exact hk.2 (.inl ⟨y, n, List.mem_of_getElem? hj, hy⟩)
  have hnx0 : S.nx ≤ s0.next := by rw [hin.next]; omega
  refine ⟨G2, hGle, ?_, ?_⟩
  · exact
      { below := hw.below.trans (hwe.below.mono hKK)
        hB := fun c hc => Nat.lt_of_lt_of_le (hw.hB c hc) hwe.below.size
        cells := fun b cs f c n hb hρ => by
          rcases ρ2case b c n hρ with ⟨h1, h2, h3⟩ | ⟨j, hj, h3⟩ | ⟨i, hi, rfl, h3⟩
          · rw [hout.same b h1 h2] at hb
            obtain ⟨arr, T, fr, p1, p2, p3, p4, p5⟩ := hw.cells b cs f c n hb h3
            have hc := (hw.lt b c n h3).2
            by_cases hk : K' c
            · exact ⟨arr, T, fr, (hkeep c hk).trans p1, p2, p3, p4.mono hGle, fun hf => ⟨(p5 hf).1, (p5 hf).2.1, fun o => (hI2k c o hk).trans ((p5 hf).2.2 o)⟩⟩
            · have ho : Own c := by
                rcases Classical.em (Own c) with h | h
                · exact h
                · exact absurd ⟨hc, h⟩ hk
              rcases ho with ⟨y, n', hy, hy'⟩ | ⟨j, t, e1, ce, hj, hl, hτ⟩
              · exact (hout1 b c n h1 h2 h3 (hown c (.inl ⟨y, n', hy, hy'⟩)) y n' hy hy').elim
              · obtain ⟨q1, q2, ⟨arr1, T1, lo, hi, q3, q4, q5⟩, q6⟩ := hw.tags t c e1 ce (hin.live j t hj hl) hτ
                obtain ⟨cs1, hcs1, hlen⟩ := q6 b n h3
                rw [hb] at hcs1
                cases hcs1
                obtain ⟨arr2, T2, fr2, r1, r2⟩ := hwe.below.shape c arr T fr p1
                refine ⟨arr2, T2, fr2, r1, r2.trans p2, p3, ?_, fun hf => by cases hf⟩
                have : arr2.toList.take cs.length = arr.toList.take cs.length := by
                  refine List.ext_getElem? fun o => ?_
                  rw [List.getElem?_take, List.getElem?_take]
                  split
                  · rename_i ho
                    obtain ⟨v, hv⟩ := hw.tlow t c e1 ce (hin.live j t hj hl) hτ o (by omega)
                    have e1 := hw.imm c o v hv
                    have e2 := hwe.imm c o v (hle.I _ _ _ hv)
                    simp only [World.cell?, p1] at e1
                    simp only [World.cell?, r1] at e2
                    simpa using (by simpa using e2 : arr2[o]? = some v).trans (by simpa using e1 : arr[o]? = some v).symm
                  · rfl
                rw [this]
                exact p4.mono hGle
          · obtain ⟨cs1, cs', g1, g2, g3⟩ := hout.own j b hj
            rw [hb] at g2
            cases g2
            obtain ⟨arr, T, fr, p1, p2, p3, p4, p5⟩ := hwe.cells _ cs1 false c n g1 h3
            have hk := hinnerK _ c n (Nat.le_add_right _ _) h3
            exact ⟨arr, T, fr, p1, p2, by rw [g3.length]; exact p3, by rw [g3.length]; exact RVs.vr hρo hτo hI2 p4 g3, fun hf => ⟨(p5 rfl).1, hnK c hk, fun o => (hI2n c o hk).trans ((p5 rfl).2.2 o)⟩⟩
          · obtain ⟨blk1, g1, g2⟩ := hout.new i _ hi hb
            cases blk1 with
            | siter st p => simp only [RB] at g2; cases g2
            | cells cs1 f1 =>
              simp only [RB] at g2
              obtain ⟨ds, g3, e⟩ := g2
              cases e
              obtain ⟨arr, T, fr, p1, p2, p3, p4, p5⟩ := hwe.cells _ cs1 f c n g1 h3
              have hk := hinnerK _ c n (by omega) h3
              exact ⟨arr, T, fr, p1, p2, by rw [g3.length]; exact p3, by rw [g3.length]; exact RVs.vr hρo hτo hI2 p4 g3, fun hf => ⟨(p5 hf).1, hnK c hk, fun o => (hI2n c o hk).trans ((p5 hf).2.2 o)⟩⟩
        siter := fun b str pos c n hb hρ => by
          rcases ρ2case b c n hρ with ⟨h1, h2, h3⟩ | ⟨j, hj, h3⟩ | ⟨i, hi, rfl, h3⟩
          · rw [hout.same b h1 h2] at hb
            obtain ⟨p1, p2⟩ := hw.siter b str pos c n hb h3
            have hk : K' c := ⟨(hw.lt b c n h3).2, fun ho => by
              rcases ho with ⟨y, n', hy, hy'⟩ | ⟨j, t, e1, ce, hj, hl, hτ⟩
              · exact hout1 b c n h1 h2 h3 p2 y n' hy hy'
              · obtain ⟨_, _, _, q6⟩ := hw.tags t c e1 ce (hin.live j t hj hl) hτ
                obtain ⟨cs1, hcs1, _⟩ := q6 b n h3
                rw [hb] at hcs1; cases hcs1⟩
            exact ⟨(hkeep c hk).trans p1, p2⟩
          · obtain ⟨cs1, cs', g1, g2, g3⟩ := hout.own j b hj
            rw [hb] at g2; cases g2
          · obtain ⟨blk1, g1, g2⟩ := hout.new i _ hi hb
            cases blk1 with
            | cells cs1 f1 => simp only [RB] at g2; obtain ⟨_, _, e⟩ := g2; cases e
            | siter st p =>
              simp only [RB] at g2
              cases g2
              obtain ⟨p1, p2⟩ := hwe.siter _ _ _ c n g1 h3
              exact ⟨p1, hnK c p2⟩
        inj := fun b b' c n n' hc hb hb' => by
          have inner : ∀ x x', S.nx ≤ x → S.nx ≤ x' → Ge.ρ x = some (c, n) → Ge.ρ x' = some (c, n') → x = x' := fun x x' hx hx' e e' => hwe.inj x x' c n n' (hinnerK x c n hx e) e e'
          have mixed : ∀ b x n n', b < s.next → b ∉ bs → G.ρ b = some (c, n) → S.nx ≤ x → Ge.ρ x = some (c, n') → False := fun b x n n' h1 h2 h3 hx e => by
            obtain ⟨j, y, rfl, hj, hy⟩ := hinner x c n' hx e (hw.lt b c n h3).2
            exact hout1 b c n h1 h2 h3 hc y n' (List.mem_of_getElem? hj) hy
          rcases ρ2case b c n hb with ⟨h1, h2, h3⟩ | ⟨j, hj, h3⟩ | ⟨i, hi, rfl, h3⟩ <;> rcases ρ2case b' c n' hb' with ⟨h1', h2', h3'⟩ | ⟨j', hj', h3'⟩ | ⟨i', hi', rfl, h3'⟩
          · exact hw.inj b b' c n n' hc h3 h3'
          · exact (mixed b _ n n' h1 h2 h3 (Nat.le_add_right _ _) h3').elim
          · exact (mixed b _ n n' h1 h2 h3 (by omega) h3').elim
          · exact (mixed b' _ n' n h1' h2' h3' (Nat.le_add_right _ _) h3).elim
          · have := inner _ _ (Nat.le_add_right _ _) (Nat.le_add_right _ _) h3 h3'
            have : j = j' := by omega
            subst this
            rw [hj] at hj'; cases hj'; rfl
          · have := inner _ _ (Nat.le_add_right _ _) (by omega) h3 h3'
            have := (List.getElem?_eq_some_iff.1 hj).1
            have := hin.next
            omega
          · exact (mixed b' _ n' n h1' h2' h3' (by omega) h3).elim
          · have := inner _ _ (by omega) (Nat.le_add_right _ _) h3 h3'
            have := (List.getElem?_eq_some_iff.1 hj').1
            have := hin.next
            omega
          · have := inner _ _ (by omega) (by omega) h3 h3'
            omega
        lt := fun b c n hb => by
          rcases ρ2case b c n hb with ⟨h1, h2, h3⟩ | ⟨j, hj, h3⟩ | ⟨i, hi, rfl, h3⟩
          · exact ⟨Nat.lt_of_lt_of_le h1 hout.next, Nat.lt_of_lt_of_le (hw.lt b c n h3).2 hwe.below.size⟩
          · exact ⟨Nat.lt_of_lt_of_le (hbs b (List.mem_of_getElem? hj)) hout.next, (hwe.lt _ c n h3).2⟩
          · have hi' : i < s'.next - s.next := hi
            exact ⟨by omega, (hwe.lt _ c n h3).2⟩
        imm := fun c o v hv => by
          by_cases hk : K' c
          · rw [hI2k c o hk] at hv
            have := hw.imm c o v hv
            rw [← this]
            exact World.cell?_of_block (hkeep c hk)
          · rw [hI2n c o hk] at hv
            exact hwe.imm c o v hv
        tags := fun t c e1 ce hl hτ => by
          have notown : ∀ b n, b < s.next → b ∉ bs → G.ρ b = some (c, n) → ¬ K' c → ∃ j2 t2 e2 ce2 cs, ts[j2]? = some t2 ∧ s0.live.get j2 = some true ∧ G.τ t2 = some (c, e2, ce2) ∧ s.heap.get b = some (.cells cs true) ∧ cs.length ≤ e2 := fun b n h1 h2 h3 hk => by
            have ho : Own c := by
              rcases Classical.em (Own c) with h | h
              · exact h
              · exact absurd ⟨(hw.lt b c n h3).2, h⟩ hk
            rcases ho with ⟨y, n', hy, hy'⟩ | ⟨j2, t2, e2, ce2, hj2, hl2, hτ2⟩
            · exact (hout1 b c n h1 h2 h3 (hown c (.inl ⟨y, n', hy, hy'⟩)) y n' hy hy').elim
            · obtain ⟨_, _, _, q6⟩ := hw.tags t2 c e2 ce2 (hin.live j2 t2 hj2 hl2) hτ2
              obtain ⟨cs, hcs, hlen⟩ := q6 b n h3
              exact ⟨j2, t2, e2, ce2, cs, hj2, hl2, hτ2, hcs, hlen⟩
          rcases hout.live t hl with ⟨htn, hls⟩ | ⟨j, hj, hl0, hl1⟩ | ⟨i, hi, rfl, hl1⟩
          · have hτ' : G.τ t = some (c, e1, ce) := (τ2out t (hlt t hls) htn).symm.trans hτ
            obtain ⟨q1, q2, ⟨arr1, T1, lo, hi, q3, q4⟩, q6⟩ := hw.tags t c e1 ce hls hτ'
            have hk : K' c := ⟨(Array.getElem?_eq_some_iff.1 q3).1, fun ho => by
              rcases ho with ⟨y, n', hy, hy'⟩ | ⟨j2, t2, e2, ce2, hj2, hl2, hτ2⟩
              · obtain ⟨cs, hcs⟩ := hin.own y hy
                obtain ⟨cs2, hcs2, _⟩ := q6 y n' hy'
                rw [hcs] at hcs2; cases hcs2
              · have := hw.tdist t t2 c e1 ce e2 ce2 hls (hin.live j2 t2 hj2 hl2) hτ' hτ2
                exact htn (this ▸ List.mem_of_getElem? hj2)⟩
            refine ⟨q1, fun o ho => (hI2k c o hk).trans (q2 o ho), ⟨arr1, T1, lo, hi, (hkeep c hk).trans q3, q4⟩, fun b n hb => ?_⟩
            rcases ρ2case b c n hb with ⟨h1, h2, h3⟩ | ⟨j, hj, h3⟩ | ⟨i, hi, rfl, h3⟩
            · obtain ⟨cs, hcs, hlen⟩ := q6 b n h3
              exact ⟨cs, (hout.same b h1 h2).trans hcs, hlen⟩
            · exact absurd hk (hinnerK _ c n (Nat.le_add_right _ _) h3)
            · exact absurd hk (hinnerK _ c n (by omega) h3)
          · have hτ' : Ge.τ j = some (c, e1, ce) := (τ2own j t hj).symm.trans hτ
            obtain ⟨q1, q2, q3, q6⟩ := hwe.tags j c e1 ce hl1 hτ'
            refine ⟨hnK c q1, fun o ho => (hI2n c o q1).trans (q2 o ho), q3, fun b n hb => ?_⟩
            rcases ρ2case b c n hb with ⟨h1, h2, h3⟩ | ⟨j', hj', h3⟩ | ⟨i, hi, rfl, h3⟩
            · obtain ⟨j2, t2, e2, ce2, cs, hj2, hl2, hτ2, hcs, hlen⟩ := notown b n h1 h2 h3 q1
              obtain ⟨x, hx⟩ := hw.tdef t (hin.live j t hj hl0)
              have hx' := hle.τ _ _ ((hτin j t hj).trans hx)
              rw [hτ'] at hx'; cases hx'
              have e := hw.tdist t t2 c e1 ce e2 ce2 (hin.live j t hj hl0) (hin.live j2 t2 hj2 hl2) hx hτ2
              subst e
              rw [hx] at hτ2; cases hτ2
              exact ⟨cs, (hout.same b h1 h2).trans hcs, hlen⟩
            · obtain ⟨cs1, cs', g1, g2, g3⟩ := hout.own j' b hj'
              obtain ⟨cs2, hcs2, _⟩ := q6 _ n h3
              rw [g1] at hcs2; cases hcs2
            · obtain ⟨cs2, hcs2, hlen⟩ := q6 _ n h3
              obtain ⟨cs', g1, g2⟩ := hout.frz i cs2 hi hcs2
              exact ⟨cs', g1, by omega⟩
          · have hτ' : Ge.τ (s0.nt + i) = some (c, e1, ce) := (τ2new i hi).symm.trans hτ
            obtain ⟨q1, q2, q3, q6⟩ := hwe.tags _ c e1 ce hl1 hτ'
            refine ⟨hnK c q1, fun o ho => (hI2n c o q1).trans (q2 o ho), q3, fun b n hb => ?_⟩
            rcases ρ2case b c n hb with ⟨h1, h2, h3⟩ | ⟨j', hj', h3⟩ | ⟨i', hi', rfl, h3⟩
            · obtain ⟨j2, t2, e2, ce2, cs, hj2, hl2, hτ2, hcs, hlen⟩ := notown b n h1 h2 h3 q1
              refine ⟨cs, (hout.same b h1 h2).trans hcs, ?_⟩
              rcases Nat.lt_or_ge e1 e2 with hlt | hge
              · obtain ⟨v, hv⟩ := hw.tlow t2 c e2 ce2 (hin.live j2 t2 hj2 hl2) hτ2 e1 hlt
                have := hle.I _ _ _ hv
                rw [q2 e1 (Nat.le_refl _)] at this; cases this
              · omega
            · obtain ⟨cs1, cs', g1, g2, g3⟩ := hout.own j' b hj'
              obtain ⟨cs2, hcs2, _⟩ := q6 _ n h3
              rw [g1] at hcs2; cases hcs2
            · obtain ⟨cs2, hcs2, hlen⟩ := q6 _ n h3
              obtain ⟨cs', g1, g2⟩ := hout.frz i' cs2 hi' hcs2
              exact ⟨cs', g1, by omega⟩
        tdist := fun t t' c e1 ce1 e2 ce2 hl hl' hτ hτ' => by
          have outK : ∀ t e ce, t < s.nt → t ∉ ts → s.live.get t = some true → G.τ t = some (c, e, ce) → K' c := fun t e ce ht htn hls hτ => by
            obtain ⟨q1, q2, ⟨arr1, T1, lo, hi, q3, q4⟩, q6⟩ := hw.tags t c e ce hls hτ
            refine ⟨(Array.getElem?_eq_some_iff.1 q3).1, fun ho => ?_⟩
            rcases ho with ⟨y, n', hy, hy'⟩ | ⟨j2, t2, e2, ce2, hj2, hl2, hτ2⟩
            · obtain ⟨cs, hcs⟩ := hin.own y hy
              obtain ⟨cs2, hcs2, _⟩ := q6 y n' hy'
              rw [hcs] at hcs2; cases hcs2
            · have := hw.tdist t t2 c e ce e2 ce2 hls (hin.live j2 t2 hj2 hl2) hτ hτ2
              exact htn (this ▸ List.mem_of_getElem? hj2)
          rcases hout.live t hl with ⟨htn, hls⟩ | ⟨j, hj, _, hl1⟩ | ⟨i, hi, rfl, hl1⟩ <;> rcases hout.live t' hl' with ⟨htn', hls'⟩ | ⟨j', hj', _, hl1'⟩ | ⟨i', hi', rfl, hl1'⟩
          · exact hw.tdist t t' c e1 ce1 e2 ce2 hls hls' ((τ2out t (hlt t hls) htn).symm.trans hτ) ((τ2out t' (hlt t' hls') htn').symm.trans hτ')
          · exact absurd (outK t _ _ (hlt t hls) htn hls ((τ2out t (hlt t hls) htn).symm.trans hτ)) (hwe.tags j' c _ _ hl1' ((τ2own j' t' hj').symm.trans hτ')).1
          · exact absurd (outK t _ _ (hlt t hls) htn hls ((τ2out t (hlt t hls) htn).symm.trans hτ)) (hwe.tags _ c _ _ hl1' ((τ2new i' hi').symm.trans hτ')).1
          · exact absurd (outK t' _ _ (hlt t' hls') htn' hls' ((τ2out t' (hlt t' hls') htn').symm.trans hτ')) (hwe.tags j c _ _ hl1 ((τ2own j t hj).symm.trans hτ)).1
          · have := hwe.tdist j j' c _ _ _ _ hl1 hl1' ((τ2own j t hj).symm.trans hτ) ((τ2own j' t' hj').symm.trans hτ')
            subst this
            rw [hj] at hj'; cases hj'; rfl
          · have := hwe.tdist j _ c _ _ _ _ hl1 hl1' ((τ2own j t hj).symm.trans hτ) ((τ2new i' hi').symm.trans hτ')
            have := (List.getElem?_eq_some_iff.1 hj).1
            have := hin.nt
            omega
          · exact absurd (outK t' _ _ (hlt t' hls') htn' hls' ((τ2out t' (hlt t' hls') htn').symm.trans hτ')) (hwe.tags _ c _ _ hl1 ((τ2new i hi).symm.trans hτ)).1
          · have := hwe.tdist _ j' c _ _ _ _ hl1 hl1' ((τ2new i hi).symm.trans hτ) ((τ2own j' t' hj').symm.trans hτ')
            have := (List.getElem?_eq_some_iff.1 hj').1
            have := hin.nt
            omega
          · have := hwe.tdist _ _ c _ _ _ _ hl1 hl1' ((τ2new i hi).symm.trans hτ) ((τ2new i' hi').symm.trans hτ')
            omega
        tlt := fun t x hτ => by
          by_cases h1 : t < s.nt
          · exact Nat.lt_of_lt_of_le h1 hout.nt
          · by_cases h2 : t < s'.nt
            · exact h2
            · have : τ2 t = none := by
                show (if t < s.nt then _ else if t < s'.nt then _ else none) = _
                rw [if_neg h1, if_neg h2]
              have hτ2 : τ2 t = some x := hτ
              rw [this] at hτ2; cases hτ2
        hlt := fun b blk hb => by
          rcases Nat.lt_or_ge b s'.next with h | h
          · exact h
          · have hn := hout.next
            by_cases hbb : b ∈ bs
            · have := hbs b hbb; omega
            · rw [hout.none b h hbb] at hb
              have := hw.hlt b blk hb
              omega
        old := fun c o v hc hI => hw.old c o v hc ((hI2k c o (hKK c hc)).symm.trans hI)
        hmap := fun b blk hb => by
          by_cases hbb : b ∈ bs
          · obtain ⟨j, hj⟩ := List.mem_iff_getElem?.1 hbb
            obtain ⟨cs1, cs', g1, _, _⟩ := hout.own j b hj
            obtain ⟨x, hx⟩ := hwe.hmap _ _ g1
            exact ⟨x, (ρ2own j b hj).trans hx⟩
          · rcases Nat.lt_or_ge b s.next with h1 | h1
            · rw [hout.same b h1 hbb] at hb
              obtain ⟨x, hx⟩ := hw.hmap b _ hb
              exact ⟨x, (ρ2out b h1 hbb).trans hx⟩
            · rcases Nat.lt_or_ge b s'.next with h2 | h2
              · have hi : b - s.next < s'.next - s.next := by omega
                rw [show b = s.next + (b - s.next) by omega] at hb
                obtain ⟨blk1, g1, _⟩ := hout.new _ _ hi hb
                obtain ⟨x, hx⟩ := hwe.hmap _ _ g1
                refine ⟨x, ?_⟩
                rw [show b = s.next + (b - s.next) by omega]
                exact (ρ2new _ hi).trans hx
              · rw [hout.none b h2 hbb] at hb
                have := hw.hlt b _ hb
                omega
        oldρ := fun b c n hc hb => by
          have hcw : c < w.heap.size := Nat.lt_of_lt_of_le hc hw.below.size
          rcases ρ2case b c n hb with ⟨h1, h2, h3⟩ | ⟨j, hj, h3⟩ | ⟨i, hi, rfl, h3⟩
          · exact hw.oldρ b c n hc h3
          · obtain ⟨j', y, e, hj', hy⟩ := hinner _ c n (Nat.le_add_right _ _) h3 hcw
            have : j' = j := by omega
            subst this
            rw [hj] at hj'; cases hj'
            exact hw.oldρ b c n hc hy
          · obtain ⟨j', y, e, hj', hy⟩ := hinner _ c n (by omega) h3 hcw
            have := (List.getElem?_eq_some_iff.1 hj').1
            have := hin.next
            omega
        tdef := fun t hl => by
          rcases hout.live t hl with ⟨htn, hls⟩ | ⟨j, hj, _, hl1⟩ | ⟨i, hi, rfl, hl1⟩
          · obtain ⟨x, hx⟩ := hw.tdef t hls; exact ⟨x, (τ2out t (hlt t hls) htn).trans hx⟩
          · obtain ⟨x, hx⟩ := hwe.tdef j hl1; exact ⟨x, (τ2own j t hj).trans hx⟩
          · obtain ⟨x, hx⟩ := hwe.tdef _ hl1; exact ⟨x, (τ2new i hi).trans hx⟩
        tlow := fun t c e1 ce hl hτ o ho => by
          rcases hout.live t hl with ⟨htn, hls⟩ | ⟨j, hj, _, hl1⟩ | ⟨i, hi, rfl, hl1⟩
          · obtain ⟨v, hv⟩ := hw.tlow t c e1 ce hls ((τ2out t (hlt t hls) htn).symm.trans hτ) o ho; exact ⟨v, hGle.I _ _ _ hv⟩
          · obtain ⟨v, hv⟩ := hwe.tlow j c e1 ce hl1 ((τ2own j t hj).symm.trans hτ) o ho; exact ⟨v, hI2 _ _ _ hv⟩
          · obtain ⟨v, hv⟩ := hwe.tlow _ c e1 ce hl1 ((τ2new i hi).symm.trans hτ) o ho; exact ⟨v, hI2 _ _ _ hv⟩ }
  · cases r0 with
    | ret a =>
      simp only [RR] at hr
      obtain ⟨b, hb, rfl⟩ := hr
      obtain ⟨v, rfl, hv⟩ := hres
      exact ⟨v, rfl, RV.vr hρo hτo hI2 hv hb⟩
    | pan a =>
      simp only [RR] at hr
      obtain ⟨b, hb, rfl⟩ := hr
      obtain ⟨v, rfl, hv⟩ := hres
      exact ⟨v, rfl, RV.vr hρo hτo hI2 hv hb⟩
end Go.Am
namespace Go.Am
open Go.RowKit

def noT : Nat → Nat → Prop := fun _ _ => False

theorem RK_deaden (θ : Nat → Nat → Prop) (k : SK) : RK θ k k.deaden := by
  cases k <;> simp [RK, SK.deaden]

mutual
theorem pure_RV {β θ : Nat → Nat → Prop} : ∀ {a : AV}, pureV a = true → RV β θ a (deaden a)
  | .bool a, _ => rfl
  | .int k n, _ => rfl
  | .str s, _ => rfl
  | .nilp, _ => rfl
  | .ptr b o, h => by simp [pureV] at h
  | .elem xs i o, h => ⟨_, pure_RVs (by simpa [pureV] using h), rfl⟩
  | .nils, _ => rfl
  | .sl xs k, h => ⟨_, _, pure_RVs (by simpa [pureV] using h), RK_deaden θ k, rfl⟩
  | .ms b o l z, h => by simp [pureV] at h
  | .nilm, _ => rfl
  | .map b, h => by simp [pureV] at h
  | .nilf, _ => rfl
  | .fn f a b, h => by
    simp only [pureV, Bool.and_eq_true] at h
    exact ⟨_, _, pure_RVs h.1, pure_RVs h.2, rfl⟩
  | .nili, _ => rfl
  | .ifc t v, h => ⟨_, pure_RV (by simpa [pureV] using h), rfl⟩
  | .agg cs, h => ⟨_, pure_RVs (by simpa [pureV] using h), rfl⟩
  | .tup cs, h => ⟨_, pure_RVs (by simpa [pureV] using h), rfl⟩
theorem pure_RVs {β θ : Nat → Nat → Prop} : ∀ {a : List AV}, pureVs a = true → RVs β θ a (deadens a)
  | [], _ => rfl
  | x :: xs, h => by
    simp only [pureVs, Bool.and_eq_true] at h
    exact ⟨_, _, pure_RV h.1, pure_RVs h.2, rfl⟩
end

section
variable {S : Sys}

/-- The start of a run without blocks of one's own. -/
def Sys.s0 (S : Sys) : St := ⟨S.h, S.nx, .nil, 0⟩

theorem frame0_in (hS : S.Ok) (s : St) : FrameIn S [] [] S.s0 s where
  next := rfl
  nt := rfl
  bnd := List.nodup_nil
  tnd := List.nodup_nil
  heap := fun b blk hb => .inl ⟨hS.dom b blk hb, hb⟩
  own := fun y hy => by cases hy
  live := fun j t hj => by simp at hj
  liveIn := fun j hj => by rw [show S.s0.live = .nil from rfl, Tr.get_nil] at hj; cases hj
  tlt := fun t ht => by cases ht

theorem frame0_out (s1 s : St) : FrameOut S [] [] S.s0 s s1 s where
  next := Nat.le_refl _
  nt := Nat.le_refl _
  same := fun _ _ _ => rfl
  own := fun j y hj => by simp at hj
  new := fun i blk hi => by omega
  frz := fun i cs hi => by omega
  none := fun _ _ _ => rfl
  live := fun t ht => .inl ⟨by simp, ht⟩

/-- A call that is handed values alone and answers by a value is the same at every state. -/
theorem CallsTo.pure (hS : S.Ok) {f : Nat} {args : List AV} {s : St} {Q : AV → Prop} (hp : pureVs args = true) (h : CallsTo S f (deadens args) S.s0 fun r _ => ∃ v, r = .ret v ∧ pureV v = true ∧ Q (deaden v)) :
    CallsTo S f args s fun r s' => s' = s ∧ ∃ v, r = .ret v ∧ Q v := by
  obtain ⟨r, s1, h1, v, rfl, h2, h3⟩ := h
  exact ⟨.ret (deaden v), s, h1.frame (frame0_in hS s) (frame0_out s1 s) (pure_RVs hp) ⟨_, pure_RV h2, rfl⟩, rfl, _, rfl, h3⟩

/-- A function that is handed values alone and answers by a value. -/
theorem CallsTo.fnP (hS : S.Ok) {f : Nat} {fn : AFun} {args args0 : List AV} {s : St} {Q : AV → Prop} (hp : pureVs args = true) (hd : deadens args = args0) (hf : S.F.get f = some fn)
    (h : EvC S fn.mutDst fn.body (initEnv args0 0 .nil) S.s0 (bodyQ S fn fun r _ => ∃ v, r = .ret v ∧ pureV v = true ∧ Q (deaden v))) : CallsTo S f args s fun r s' => s' = s ∧ ∃ v, r = .ret v ∧ Q v :=
  CallsTo.pure hS hp (hd ▸ CallsTo.fn_ hS hf h)

/-- A state with one block of one's own. -/
def Sys.s1 (S : Sys) (cs : List AV) : St := ⟨S.h.set S.nx (.cells cs false), S.nx + 1, .nil, 0⟩

/-- The block y goes by the name nx. -/
def inB (S : Sys) (y : Nat) : Nat → Nat → Prop := swap (bIn S.nx [y])
theorem inB_own (y : Nat) : inB S y y S.nx := ⟨0, rfl, rfl⟩
def outB (S : Sys) (y : Nat) : Nat → Nat → Prop := fun a b => a = S.nx ∧ b = y
theorem outB_own (y : Nat) : outB S y S.nx y := ⟨rfl, rfl⟩

theorem frame1_in (hS : S.Ok) {s : St} {y : Nat} {cs cs0 : List AV} (hy : s.heap.get y = some (.cells cs false)) (hc : RVs (inB S y) noT cs cs0) : FrameIn S [y] [] (S.s1 cs0) s where
  next := rfl
  nt := rfl
  bnd := by simp
  tnd := List.nodup_nil
  heap := fun b blk hb => by
    simp only [Sys.s1, Tr.get_set] at hb
    split at hb
    · rename_i e
      cases hb
      refine .inr ⟨0, y, cs0, cs, e, rfl, rfl, hy, ?_⟩
      refine RVs.weaken (fun _ _ h => h) (fun _ _ h => h.elim) hc
    · exact .inl ⟨hS.dom b blk hb, hb⟩
  own := fun z hz => by
    rw [List.mem_singleton] at hz; subst hz; exact ⟨cs, hy⟩
  live := fun j t hj => by simp at hj
  liveIn := fun j hj => by rw [show (S.s1 cs0).live = .nil from rfl, Tr.get_nil] at hj; cases hj
  tlt := fun t ht => by cases ht

theorem frame1_out {s1 s : St} {y : Nat} {cs0 cs1 cs' : List AV} (h1 : s1.heap.get S.nx = some (.cells cs1 false)) (hc : RVs (outB S y) noT cs1 cs') :
    FrameOut S [y] [] (S.s1 cs0) s s1 { s with heap := s.heap.set y (.cells cs' false) } where
  next := Nat.le_refl _
  nt := Nat.le_refl _
  same := fun b _ hb => by
    rw [List.mem_singleton] at hb
    exact Tr.get_set_ne _ _ _ _ hb
  own := fun j z hj => by
    cases j with
    | succ j => simp at hj
    | zero =>
      simp at hj; subst hj
      exact ⟨cs1, cs', h1, Tr.get_set_same _ _ _, RVs.weaken (fun a b h => .inl ⟨0, h.1, by rw [h.2]; rfl⟩) (fun _ _ h => h.elim) hc⟩
  new := fun i blk hi => by simp only [Nat.sub_self] at hi; omega
  frz := fun i cs hi => by simp only [Nat.sub_self] at hi; omega
  none := fun b _ hb => by
    rw [List.mem_singleton] at hb
    exact Tr.get_set_ne _ _ _ _ hb
  live := fun t ht => .inl ⟨by simp, ht⟩

/-- A call that is handed one block and values. -/
theorem CallsTo.frame1 (hS : S.Ok) {f : Nat} {args args0 : List AV} {s : St} {y : Nat} {cs cs0 : List AV} {Q : Res → List AV → Prop} (hy : s.heap.get y = some (.cells cs false)) (ha : RVs (inB S y) noT args args0) (hc : RVs (inB S y) noT cs cs0)
    (h : CallsTo S f args0 (S.s1 cs0) fun r0 s1 => ∃ cs1 r cs', s1.heap.get S.nx = some (.cells cs1 false) ∧ RR (outB S y) noT r0 r ∧ RVs (outB S y) noT cs1 cs' ∧ Q r cs') :
    CallsTo S f args s fun r s' => ∃ cs', s' = { s with heap := s.heap.set y (.cells cs' false) } ∧ Q r cs' := by
  obtain ⟨r0, s1, h1, cs1, r, cs', h2, h3, h4, h5⟩ := h
  refine ⟨r, _, h1.frame (frame1_in hS hy hc) (frame1_out h2 h4) (RVs.weaken (fun _ _ h => h) (fun _ _ h => h.elim) ha) ?_, cs', rfl, h5⟩
  cases r0 with
  | ret a =>
    obtain ⟨b, hb, rfl⟩ := h3
    exact ⟨b, RV.weaken (fun a b h => .inl ⟨0, h.1, by rw [h.2]; rfl⟩) (fun _ _ h => h.elim) hb, rfl⟩
  | pan a =>
    obtain ⟨b, hb, rfl⟩ := h3
    exact ⟨b, RV.weaken (fun a b h => .inl ⟨0, h.1, by rw [h.2]; rfl⟩) (fun _ _ h => h.elim) hb, rfl⟩

/-- A law's run, told in the model's own words. -/
theorem law_calls (hS : S.Ok) {w : World} (hs : Start S.NG S.h S.nx S.ρ w) {args : List AV} {vs : List Value} {f : Nat} {fn : AFun} (hf : S.F.get f = some fn)
    (hvs : VRs (Gh.start S.ρ fun c o => w.cell? ⟨c, o, none⟩) args vs) (hrun : CallsTo S f args S.s0 fun r _ => r = .ret (.bool true)) :
    Calls S.P f vs.toArray w fun e w' => e = .returned (.bool true) ∧ Below w.heap.size w w' := by
  obtain ⟨r, s', hd, rfl⟩ := hrun
  have hk : StartK S (fun c => c < w.heap.size) w := ⟨hs, fun b c n h => (hs.lt b c n h).2⟩
  have hd := hd _ w hk _ w vs (hs.wr _ fun _ _ _ e => e) (fun g hg => hs.g g hg) hvs
  obtain ⟨gfn, f1, f2, f3, f4, f5⟩ := hS.F f fn hf
  have hrun' : (callFunc f vs.toArray).run S.P w = .ok (.enter f vs.toArray) w := by
    have f2' : ¬ gfn.name = "runtime.NumGoroutine" := by simpa using f2
    simp [callFunc, f1, f2', f3]
  unfold CallDoes at hd
  rw [hrun'] at hd
  refine Calls.mono hd ?_
  rintro e w2 ⟨Ge, hle, hwe, v, rfl, hv⟩
  cases hv
  exact ⟨rfl, hwe.below.below fun _ h => h⟩
end
end Go.Am
namespace Go.Am
open Go.RowKit
set_option linter.unusedVariables false
set_option linter.unusedSimpArgs false
variable {S : Sys}

theorem frame1_outR {s1 s : St} {y : Nat} {cs0 cs1 cs : List AV} (hy : s.heap.get y = some (.cells cs false)) (h1 : s1.heap.get S.nx = some (.cells cs1 false)) (hc : RVs (outB S y) noT cs1 cs) :
    FrameOut S [y] [] (S.s1 cs0) s s1 s where
  next := Nat.le_refl _
  nt := Nat.le_refl _
  same := fun b _ hb => rfl
  own := fun j z hj => by
    cases j with
    | succ j => simp at hj
    | zero =>
      simp at hj; subst hj
      exact ⟨cs1, cs, h1, hy, RVs.weaken (fun a b h => .inl ⟨0, h.1, by rw [h.2]; rfl⟩) (fun _ _ h => h.elim) hc⟩
  new := fun i blk hi => by simp only [Nat.sub_self] at hi; omega
  frz := fun i cs hi => by simp only [Nat.sub_self] at hi; omega
  none := fun b _ hb => rfl
  live := fun t ht => .inl ⟨by simp, ht⟩

/-- A call that is handed one block, which it leaves asq it was. -/
theorem CallsTo.frame1R (hS : S.Ok) {f : Nat} {args args0 : List AV} {s : St} {y : Nat} {cs cs0 : List AV} {Q : Res → Prop} (hy : s.heap.get y = some (.cells cs false)) (ha : RVs (inB S y) noT args args0) (hc : RVs (inB S y) noT cs cs0)
    (h : CallsTo S f args0 (S.s1 cs0) fun r0 s1 => ∃ cs1 r, s1.heap.get S.nx = some (.cells cs1 false) ∧ RR (outB S y) noT r0 r ∧ RVs (outB S y) noT cs1 cs ∧ Q r) :
    CallsTo S f args s fun r s' => s' = s ∧ Q r := by
  obtain ⟨r0, s1, h1, cs1, r, h2, h3, h4, h5⟩ := h
  refine ⟨r, _, h1.frame (frame1_in hS hy hc) (frame1_outR hy h2 h4) (RVs.weaken (fun _ _ h => h) (fun _ _ h => h.elim) ha) ?_, rfl, h5⟩
  cases r0 with
  | ret a =>
    obtain ⟨b, hb, rfl⟩ := h3
    exact ⟨b, RV.weaken (fun a b h => .inl ⟨0, h.1, by rw [h.2]; rfl⟩) (fun _ _ h => h.elim) hb, rfl⟩
  | pan a =>
    obtain ⟨b, hb, rfl⟩ := h3
    exact ⟨b, RV.weaken (fun a b h => .inl ⟨0, h.1, by rw [h.2]; rfl⟩) (fun _ _ h => h.elim) hb, rfl⟩

/-- A state with two blocks of one's own. -/
def Sys.s2 (S : Sys) (cs ds : List AV) : St := ⟨(S.h.set S.nx (.cells cs false)).set (S.nx + 1) (.cells ds false), S.nx + 1 + 1, .nil, 0⟩
/-- The blocks y, z go by the names nx, nx + 1. -/
def inB2 (S : Sys) (y z : Nat) : Nat → Nat → Prop := fun a b => (a = y ∧ b = S.nx) ∨ (a = z ∧ b = S.nx + 1)
def outB2 (S : Sys) (y z : Nat) : Nat → Nat → Prop := fun a b => (a = S.nx ∧ b = y) ∨ (a = S.nx + 1 ∧ b = z)
theorem inB2_1 (y z : Nat) : inB2 S y z y S.nx := .inl ⟨rfl, rfl⟩
theorem inB2_2 (y z : Nat) : inB2 S y z z (S.nx + 1) := .inr ⟨rfl, rfl⟩
theorem outB2_1 (y z : Nat) : outB2 S y z S.nx y := .inl ⟨rfl, rfl⟩
theorem outB2_2 (y z : Nat) : outB2 S y z (S.nx + 1) z := .inr ⟨rfl, rfl⟩
theorem inB2_in {y z : Nat} : ∀ a b, inB2 S y z a b → swap (bIn S.nx [y, z]) a b := by
  rintro a b (⟨rfl, rfl⟩ | ⟨rfl, rfl⟩)
  · exact ⟨0, rfl, rfl⟩
  · exact ⟨1, rfl, rfl⟩
theorem outB2_out {y z n0 m0 k : Nat} : ∀ a b, outB2 S y z a b → bOut S.nx [y, z] n0 m0 k a b := by
  rintro a b (⟨rfl, rfl⟩ | ⟨rfl, rfl⟩)
  · exact .inl ⟨0, rfl, rfl⟩
  · exact .inl ⟨1, rfl, rfl⟩

theorem frame2_in (hS : S.Ok) {s : St} {y z : Nat} {cs cs0 ds ds0 : List AV} (hne : y ≠ z) (hy : s.heap.get y = some (.cells cs false)) (hz : s.heap.get z = some (.cells ds false)) (hc : RVs (inB2 S y z) noT cs cs0) (hd : RVs (inB2 S y z) noT ds ds0) :
    FrameIn S [y, z] [] (S.s2 cs0 ds0) s where
  next := rfl
  nt := rfl
  bnd := by simp [hne]
  tnd := List.nodup_nil
  heap := fun b blk hb => by
    simp only [Sys.s2, Tr.get_set] at hb
    split at hb
    · rename_i e
      cases hb
      exact .inr ⟨1, z, ds0, ds, e, rfl, rfl, hz, RVs.weaken inB2_in (fun _ _ h => h.elim) hd⟩
    · split at hb
      · rename_i e
        cases hb
        exact .inr ⟨0, y, cs0, cs, e, rfl, rfl, hy, RVs.weaken inB2_in (fun _ _ h => h.elim) hc⟩
      · exact .inl ⟨hS.dom b blk hb, hb⟩
  own := fun x hx => by
    simp only [List.mem_cons, List.not_mem_nil, or_false] at hx
    rcases hx with rfl | rfl
    · exact ⟨cs, hy⟩
    · exact ⟨ds, hz⟩
  live := fun j t hj => by simp at hj
  liveIn := fun j hj => by rw [show (S.s2 cs0 ds0).live = .nil from rfl, Tr.get_nil] at hj; cases hj
  tlt := fun t ht => by cases ht

theorem frame2_out {s1 s s' : St} {y z : Nat} {cs0 cs1 cs' ds0 ds1 ds' : List AV} (hn : s'.next = s.next) (ht : s'.nt = s.nt) (hl : s'.live = s.live) (hs : ∀ b, b ≠ y → b ≠ z → s'.heap.get b = s.heap.get b)
    (hy : s'.heap.get y = some (.cells cs' false)) (hz : s'.heap.get z = some (.cells ds' false))
    (h1 : s1.heap.get S.nx = some (.cells cs1 false)) (h2 : s1.heap.get (S.nx + 1) = some (.cells ds1 false)) (hc : RVs (outB2 S y z) noT cs1 cs') (hd : RVs (outB2 S y z) noT ds1 ds') :
    FrameOut S [y, z] [] (S.s2 cs0 ds0) s s1 s' where
  next := by omega
  nt := by omega
  same := fun b _ hb => by
    simp only [List.mem_cons, List.not_mem_nil, or_false, not_or] at hb
    exact hs b hb.1 hb.2
  own := fun j x hj => by
    match j, hj with
    | 0, hj =>
      simp at hj; subst hj
      exact ⟨cs1, cs', h1, hy, RVs.weaken outB2_out (fun _ _ h => h.elim) hc⟩
    | 1, hj =>
      simp at hj; subst hj
      exact ⟨ds1, ds', h2, hz, RVs.weaken outB2_out (fun _ _ h => h.elim) hd⟩
    | j + 2, hj => simp at hj
  new := fun i blk hi => by omega
  frz := fun i cs hi => by omega
  none := fun b _ hb => by
    simp only [List.mem_cons, List.not_mem_nil, or_false, not_or] at hb
    exact hs b hb.1 hb.2
  live := fun t h => .inl ⟨by simp, by rw [← hl]; exact h⟩

theorem RR.out2 {y z n0 m0 k : Nat} {θ : Nat → Nat → Prop} {r0 r : Res} (h : RR (outB2 S y z) noT r0 r) : RR (bOut S.nx [y, z] n0 m0 k) θ r0 r := by
  cases r0 with
  | ret a =>
    obtain ⟨b, hb, rfl⟩ := h
    exact ⟨b, RV.weaken outB2_out (fun _ _ h => h.elim) hb, rfl⟩
  | pan a =>
    obtain ⟨b, hb, rfl⟩ := h
    exact ⟨b, RV.weaken outB2_out (fun _ _ h => h.elim) hb, rfl⟩

/-- A call that is handed two blocks; the first is written, the other one left asq it was. -/
theorem CallsTo.frame2W (hS : S.Ok) {f : Nat} {args args0 : List AV} {s : St} {y z : Nat} {cs cs0 ds ds0 : List AV} {Q : Res → List AV → Prop} (hne : y ≠ z) (hy : s.heap.get y = some (.cells cs false)) (hz : s.heap.get z = some (.cells ds false))
    (ha : RVs (inB2 S y z) noT args args0) (hc : RVs (inB2 S y z) noT cs cs0) (hd : RVs (inB2 S y z) noT ds ds0)
    (h : CallsTo S f args0 (S.s2 cs0 ds0) fun r0 s1 => ∃ cs1 ds1 r cs', s1.heap.get S.nx = some (.cells cs1 false) ∧ s1.heap.get (S.nx + 1) = some (.cells ds1 false) ∧ RR (outB2 S y z) noT r0 r ∧ RVs (outB2 S y z) noT cs1 cs' ∧ RVs (outB2 S y z) noT ds1 ds ∧ Q r cs') :
    CallsTo S f args s fun r s' => ∃ cs', s' = { s with heap := s.heap.set y (.cells cs' false) } ∧ Q r cs' := by
  obtain ⟨r0, s1, h1, cs1, ds1, r, cs', h2, h3, h4, h5, h6, h7⟩ := h
  refine ⟨r, _, h1.frame (frame2_in hS hne hy hz hc hd) (frame2_out (s' := { s with heap := s.heap.set y (.cells cs' false) }) rfl rfl rfl (fun b hb _ => Tr.get_set_ne _ _ _ _ hb) (Tr.get_set_same _ _ _) ((Tr.get_set_ne _ _ _ _ (Ne.symm hne)).trans hz) h2 h3 h5 h6)
    (RVs.weaken inB2_in (fun _ _ h => h.elim) ha) (RR.out2 h4), cs', rfl, h7⟩

/-- A call that is handed two blocks. -/
theorem CallsTo.frame2 (hS : S.Ok) {f : Nat} {args args0 : List AV} {s : St} {y z : Nat} {cs cs0 ds ds0 : List AV} {Q : Res → List AV → List AV → Prop} (hne : y ≠ z) (hy : s.heap.get y = some (.cells cs false)) (hz : s.heap.get z = some (.cells ds false))
    (ha : RVs (inB2 S y z) noT args args0) (hc : RVs (inB2 S y z) noT cs cs0) (hd : RVs (inB2 S y z) noT ds ds0)
    (h : CallsTo S f args0 (S.s2 cs0 ds0) fun r0 s1 => ∃ cs1 ds1 r cs' ds', s1.heap.get S.nx = some (.cells cs1 false) ∧ s1.heap.get (S.nx + 1) = some (.cells ds1 false) ∧ RR (outB2 S y z) noT r0 r ∧ RVs (outB2 S y z) noT cs1 cs' ∧ RVs (outB2 S y z) noT ds1 ds' ∧ Q r cs' ds') :
    CallsTo S f args s fun r s' => ∃ cs' ds', s' = { s with heap := (s.heap.set y (.cells cs' false)).set z (.cells ds' false) } ∧ Q r cs' ds' := by
  obtain ⟨r0, s1, h1, cs1, ds1, r, cs', ds', h2, h3, h4, h5, h6, h7⟩ := h
  refine ⟨r, _, h1.frame (frame2_in hS hne hy hz hc hd) (frame2_out (s' := { s with heap := (s.heap.set y (.cells cs' false)).set z (.cells ds' false) }) rfl rfl rfl (fun b hb hb' => (Tr.get_set_ne _ _ _ _ hb').trans (Tr.get_set_ne _ _ _ _ hb)) ((Tr.get_set_ne _ _ _ _ hne).trans (Tr.get_set_same _ _ _)) (Tr.get_set_same _ _ _) h2 h3 h5 h6)
    (RVs.weaken inB2_in (fun _ _ h => h.elim) ha) (RR.out2 h4), cs', ds', rfl, h7⟩
end Go.Am
