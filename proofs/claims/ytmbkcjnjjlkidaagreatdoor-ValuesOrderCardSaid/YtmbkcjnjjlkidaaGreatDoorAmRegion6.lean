/- The abstract machine: a region that draws its order does what its run in the order of the text does: the induction. -/
import Derived.Test.YtmbkcjnjjlkidaaGreatDoorAmRegion5
namespace Go.Am
open Go.RowKit

section
variable {P : Program} {B : Nat → Prop} {NG N : Nat} {w0 : World} {C : Ctx} {m : List Nat} {good : (Nat → List AV → St → Option (Res × St)) → Prop} {ops : Array Oper}

theorem listedD_set {listed : Array Bool} {i j : Nat} (hi : i < listed.size) : listedD (listed.setIfInBounds i true) j = (listedD listed j || decide (j = i)) := by
  unfold listedD
  by_cases h : j = i
  · subst h; simp [hi]
  · rw [getD_set_ne false (fun e => h e.symm)]; simp [h]

/-- What is known where an operation may come up. -/
structure ReadyAt (m : List Nat) (ops : Array Oper) (R : List Rec) (listed : Array Bool) (i : Nat) (o : Oper) : Prop where
  op : ops[i]? = some o
  off : listedD listed i = false
  lt : i < listed.size
  before : ∀ j, ((masksL [] ops.toList).getD i 0).testBit j = true → listedD listed j = true
  after : ∀ j, j < ops.size → listedD listed j = true → ((masksL [] ops.toList).getD j 0).testBit i = false
  early : ∀ j x, j < i → ops[j]? = some x → listedD listed j = false → x.apart ops o = true ∧ (isStill m x = true ∨ isStill m o = true)
  late : ∀ j y, i < j → ops[j]? = some y → listedD listed j = true → o.apart ops y = true ∧ (isStill m o = true ∨ isStill m y = true)

theorem readyAt (hok : regionOk m ops = true) {listed : Array Bool} (hs : listed.size = ops.size) (hcl : ∀ j o, ops.toList[j]? = some o → listedD listed j = true → ∀ e ∈ o.after.toList, Region.binds .any e = true → listedD listed e.on = true)
    {R : List Rec} {i : Nat} (hi : i ∈ Region.ready .any ops listed) : ∃ o, ReadyAt m ops R listed i o := by
  rw [mem_ready] at hi
  obtain ⟨h0, o, ho, hall⟩ := hi
  have hlt : i < ops.size := (Array.getElem?_eq_some_iff.1 ho).1
  have ho' : ops.toList[i]? = some o := by simpa using ho
  have hoff : listedD listed i = false := by
    unfold listedD
    have hl : i < listed.size := by omega
    simp [hl] at h0 ⊢; exact h0
  simp only [regionOk, Bool.and_eq_true] at hok
  have hbefore : ∀ j, ((masksL [] ops.toList).getD i 0).testBit j = true → listedD listed j = true := fun j hj =>
    mask_closed (D := listedD listed) hcl i o j ho' (fun e he hb => hall e (by simpa using he) hb) hj
  have hafter : ∀ j, j < ops.size → listedD listed j = true → ((masksL [] ops.toList).getD j 0).testBit i = false := fun j hj hD => by
    cases hb : ((masksL [] ops.toList).getD j 0).testBit i with
    | false => rfl
    | true =>
      have hoj : ops.toList[j]? = some ops[j] := by simp [hj]
      have := mask_closed (D := listedD listed) hcl j _ i hoj (hcl j _ hoj hD) hb
      rw [hoff] at this; cases this
  refine ⟨o, ho, hoff, by omega, hbefore, hafter, fun j x hji hx hD => ?_, fun j y hij hy hD => ?_⟩
  · refine pairsOk_spec hok.2 hji hx ho ?_
    cases hb : ((masksL [] ops.toList).getD i 0).testBit j with
    | false => rfl
    | true => have := hbefore j hb; rw [hD] at this; cases this
  · exact pairsOk_spec hok.2 hij ho hy (hafter j (Array.getElem?_eq_some_iff.1 hy).1 hD)

variable {R : List Rec} {e0 : Env} {s0 : St} {e1 : Env} {s1 : St}

theorem env_agree (hc : Chain C m good ops.toList R e0 s0 e1 s1) (hRo : ∀ (j : Nat) (r : Rec), R[j]? = some r → ops.toList[j]? = some r.o) {listed : Array Bool} {i : Nat} {o : Oper} (hra : ReadyAt m ops R listed i o) {r : Rec} (hr : R[i]? = some r)
    {t : Nat} (ht : t ∈ o.looksAt ops) : (envD (listedD listed) 0 R e0).get t = r.e.get t := by
  rw [← chain_env (t := t) hc 0 i r hr]
  refine envD_congr R 0 e0 e0 (fun j rj hj hd => ?_) rfl
  simp only [Nat.zero_add]
  have hoj : ops[j]? = some rj.o := by simpa using hRo j rj hj
  by_cases hji : j < i
  · rw [decide_eq_true hji]
    cases hD : listedD listed j with
    | true => rfl
    | false =>
      have := (Oper.apart_spec (hra.early j rj.o hji hoj hD).1).1 t hd
      exact absurd ht this
  · rw [decide_eq_false hji]
    cases hD : listedD listed j with
    | false => rfl
    | true =>
      have hne : j ≠ i := fun e => by subst e; rw [hra.off] at hD; cases hD
      have := (Oper.apart_spec (hra.late j rj.o (by omega) hoj hD).1).2.2 t hd
      exact absurd ht this

/-- The same at the operation that panics: all records lie ahead of it. -/
theorem env_agree_end (hc : Chain C m good ops.toList R e0 s0 e1 s1) (hRo : ∀ (j : Nat) (r : Rec), R[j]? = some r → ops.toList[j]? = some r.o) {listed : Array Bool} {i : Nat} {o : Oper} (hra : ReadyAt m ops R listed i o) (hi : i = R.length)
    {t : Nat} (ht : t ∈ o.looksAt ops) : (envD (listedD listed) 0 R e0).get t = e1.get t := by
  rw [← (chain_end (t := t) hc 0 (fun _ => true) (fun _ _ => rfl)).1]
  refine envD_congr R 0 e0 e0 (fun j rj hj hd => ?_) rfl
  simp only [Nat.zero_add]
  have hoj : ops[j]? = some rj.o := by simpa using hRo j rj hj
  have hji : j < i := by rw [hi]; exact (List.getElem?_eq_some_iff.1 hj).1
  cases hD : listedD listed j with
  | true => rfl
  | false =>
    have := (Oper.apart_spec (hra.early j rj.o hji hoj hD).1).1 t hd
    exact absurd ht this

theorem st_agree_end (hc : Chain C m good ops.toList R e0 s0 e1 s1) (hRo : ∀ (j : Nat) (r : Rec), R[j]? = some r → ops.toList[j]? = some r.o) {listed : Array Bool} {i : Nat} {o : Oper} (hra : ReadyAt m ops R listed i o) (hi : i = R.length) (hns : isStill m o = false) :
    stD m (listedD listed) 0 R s0 = s1 := by
  rw [← (chain_end (t := 0) hc 0 (fun _ => true) (fun _ _ => rfl)).2]
  refine stD_congr R 0 s0 (fun j rj hj hl => ?_)
  simp only [Nat.zero_add]
  have hoj : ops[j]? = some rj.o := by simpa using hRo j rj hj
  have hji : j < i := by rw [hi]; exact (List.getElem?_eq_some_iff.1 hj).1
  cases hD : listedD listed j with
  | true => rfl
  | false =>
    have hsj : isStill m rj.o = false := by simp [Rec.loud] at hl; exact hl.2
    rcases (hra.early j rj.o hji hoj hD).2 with h | h
    · rw [hsj] at h; cases h
    · rw [hns] at h; cases h

theorem st_agree (hc : Chain C m good ops.toList R e0 s0 e1 s1) (hRo : ∀ (j : Nat) (r : Rec), R[j]? = some r → ops.toList[j]? = some r.o) {listed : Array Bool} {i : Nat} {o : Oper} (hra : ReadyAt m ops R listed i o) {r : Rec} (hr : R[i]? = some r) (hns : isStill m o = false) :
    stD m (listedD listed) 0 R s0 = r.s ∧ ∀ i', (i' = i) → stD m (fun j => listedD listed j || decide (j = i')) 0 R s0 = (if r.loud m = true then r.s' else r.s) := by
  have hlow : ∀ j rj, R[j]? = some rj → rj.loud m = true → listedD listed j = decide (j < i) := fun j rj hj hl => by
    have hoj : ops[j]? = some rj.o := by simpa using hRo j rj hj
    have hsj : isStill m rj.o = false := by simp [Rec.loud] at hl; exact hl.2
    by_cases hji : j < i
    · rw [decide_eq_true hji]
      cases hD : listedD listed j with
      | true => rfl
      | false =>
        rcases (hra.early j rj.o hji hoj hD).2 with h | h
        · rw [hsj] at h; cases h
        · rw [hns] at h; cases h
    · rw [decide_eq_false hji]
      cases hD : listedD listed j with
      | false => rfl
      | true =>
        have hne : j ≠ i := fun e => by subst e; rw [hra.off] at hD; cases hD
        rcases (hra.late j rj.o (by omega) hoj hD).2 with h | h
        · rw [hns] at h; cases h
        · rw [hsj] at h; cases h
  refine ⟨?_, fun i' hi' => ?_⟩
  · rw [← (chain_st hc 0 i r hr).1]
    exact stD_congr R 0 s0 (fun j rj hj hl => by simp only [Nat.zero_add]; exact hlow j rj hj hl)
  · subst hi'
    split
    · rename_i hl
      rw [← (chain_st hc 0 i' r hr).2]
      refine stD_congr R 0 s0 (fun j rj hj hl => ?_)
      simp only [Nat.zero_add]
      rw [hlow j rj hj hl]
      by_cases h1 : j < i'
      · simp [h1, Nat.lt_succ_of_lt h1]
      · by_cases h2 : j = i'
        · subst h2; simp
        · simp [h1, h2, show ¬ j < i' + 1 by omega]
    · rename_i hl
      rw [← (chain_st hc 0 i' r hr).1]
      refine stD_congr R 0 s0 (fun j rj hj hl2 => ?_)
      simp only [Nat.zero_add]
      rw [hlow j rj hj hl2]
      have : j ≠ i' := fun e => by subst e; rw [hr] at hj; cases hj; exact hl hl2
      simp [this]

theorem inv_step {G : Gh} {a0 : Act} (hc : Chain C m good ops.toList R e0 s0 e1 s1) (hRo : ∀ (j : Nat) (r : Rec), R[j]? = some r → ops.toList[j]? = some r.o) {listed : Array Bool} {i : Nat} {o : Oper} (hra : ReadyAt m ops R listed i o) {a : Act} {w w' : World}
    (hinv : Inv P B NG w0 C m ops R e0 s0 G a0 listed a w) {r : Rec} (hr : R[i]? = some r) (hN : N ≤ a0.tmps.size) (hops : ∀ o ∈ ops.toList, opOk NG N o = true)
    (hcl : ∀ e ∈ o.after.toList, Region.binds .any e = true → listedD listed e.on = true) {G1 G2 : Gh} {v : Value} (hle : G.Le G1) (hle2 : G1.Le G2) (hg : GOk NG G1) (he : EnvR G1 (envD (listedD listed) 0 R e0) a)
    (hw : WR B w0 G2 (if r.loud m = true then r.s' else stD m (listedD listed) 0 R s0) w') (hst : r.loud m = true → isStill m o = false) (hv : VR G2 r.v v) :
    Inv P B NG w0 C m ops R e0 s0 G a0 (listed.setIfInBounds i true) (a.put o.dst v) w' := by
  have hoo : r.o = o := by
    have h1 := hRo i r hr
    have h2 : ops.toList[i]? = some o := by simpa using hra.op
    rw [h1] at h2; cases h2; rfl
  have hom : o ∈ ops.toList := by
    have h2 : ops.toList[i]? = some o := by simpa using hra.op
    exact List.mem_of_getElem? h2
  have hset : listedD (listed.setIfInBounds i true) = fun j => listedD listed j || decide (j = i) := funext fun j => listedD_set hra.lt
  have hdst : ∀ d, o.dst = some d → d < a.tmps.size := fun d hd => by
    have := hops o hom
    simp only [opOk, hd, Bool.and_eq_true, decide_eq_true_eq] at this
    rw [hinv.tmps]; exact Nat.lt_of_lt_of_le this.2 hN
  refine { size := by simp [hinv.size], closed := ?_, inside := ?_, rel := ⟨G2, hle.trans hle2, ?_, hg.mono hle2, ?_⟩, tmps := ?_, defers := ?_ }
  · intro j q hq hD e he' hb
    rw [hset] at hD ⊢
    simp only [Bool.or_eq_true, decide_eq_true_eq] at hD ⊢
    rcases hD with hD | rfl
    · exact .inl (hinv.closed j q hq hD e he' hb)
    · have h2 : ops.toList[j]? = some o := by simpa using hra.op
      rw [h2] at hq; cases hq
      exact .inl (hcl e he' hb)
  · intro j hD
    rw [hset] at hD
    simp only [Bool.or_eq_true, decide_eq_true_eq] at hD
    rcases hD with hD | rfl
    · exact hinv.inside j hD
    · exact (List.getElem?_eq_some_iff.1 hr).1
  · rw [hset]
    by_cases hl : r.loud m = true
    · have := (st_agree hc hRo hra hr (hst hl)).2 i rfl
      rw [this, if_pos hl]; rw [if_pos hl] at hw; exact hw
    · rw [if_neg hl] at hw
      have : stD m (fun j => listedD listed j || decide (j = i)) 0 R s0 = stD m (listedD listed) 0 R s0 := by
        refine stD_congr R 0 s0 (fun j rj hj hl2 => ?_)
        have : j ≠ i := fun e => by subst e; rw [hr] at hj; cases hj; exact hl hl2
        simp [this]
      rw [this]; exact hw
  · rw [hset]
    intro t x hx
    by_cases hd : o.dst = some t
    · have hins := envD_insert (D := fun j => listedD listed j || decide (j = i)) (t := t) R 0 e0 hr (by rw [hoo]; exact hd) (by simp) (fun j rj hj hdj hij => by
        simp only [Nat.zero_add]
        have hoj : ops[j]? = some rj.o := by simpa using hRo j rj hj
        cases hD : listedD listed j with
        | false => simp; omega
        | true =>
          have := (Oper.apart_spec (hra.late j rj.o hij hoj hD).1).2.1 t hd
          exact absurd hdj this)
      rw [hins] at hx
      cases hx
      have hlt := hdst t hd
      have : (a.put o.dst v).tmps.getD t undef = v := by simp [Act.put, hd, hlt]
      rw [this]; exact hv
    · have hcg := envD_congr (D1 := fun j => listedD listed j || decide (j = i)) (D2 := listedD listed) (t := t) R 0 e0 e0 (fun j rj hj hdj => by
        have : j ≠ i := fun e => by subst e; rw [hr] at hj; cases hj; exact hd (by rw [← hoo]; exact hdj)
        simp [this]) rfl
      rw [hcg] at hx
      have : (a.put o.dst v).tmps.getD t undef = a.tmps.getD t undef := by
        unfold Act.put
        cases hdd : o.dst with
        | none => rfl
        | some d =>
          have : d ≠ t := fun e => hd (by rw [hdd, e])
          simp [Array.getElem?_setIfInBounds_ne this]
      rw [this]
      exact (he t x hx).mono hle2
  · rw [← hinv.tmps]; unfold Act.put; split <;> simp
  · rw [← hinv.defers]; unfold Act.put; split <;> rfl

theorem region_any (hT : TOk P C.T) (hok : regionOk m ops = true) (hops : ∀ o ∈ ops.toList, opOk NG N o = true) {ex : Ex} {e' : Env} {s' : St} (hc : Chain C m good ops.toList R e0 s0 e1 s1) (hp : PairsOk C m (masksL [] ops.toList) R)
    (hRo : ∀ (j : Nat) (r : Rec), R[j]? = some r → ops.toList[j]? = some r.o) (hend : EndOf C m good ops.toList (masksL [] ops.toList) R e1 s1 ex e' s') (hgood : ∀ call, good call → CallsOk P NG B w0 call) {G : Gh} {a0 : Act} (hN : N ≤ a0.tmps.size)
    {Q : Exit → Act → World → Prop}
    (hQn : ex = .normal → ∀ G' a' w', G.Le G' → WR B w0 G' s' w' → EnvR G' e' a' → a'.tmps.size = a0.tmps.size → a'.defers = a0.defers → Q .normal a' w')
    (hQp : ∀ v, ex = .pan v → ∀ G' a' w' u, G.Le G' → WR B w0 G' s' w' → VR G' v u → a'.defers = a0.defers → Q (.panic [{ v := u, recovered := false }]) a' w') :
    ∀ (fuel : Nat) (listed : Array Bool) (a : Act) (w : World), Inv P B NG w0 C m ops R e0 s0 G a0 listed a w → left listed ops.size = fuel → wpAny P .any ops Q fuel listed a w := by
  have hok' := hok
  simp only [regionOk, Bool.and_eq_true] at hok'
  -- all operations have come up
  have done : ∀ (listed : Array Bool) (a : Act) (w : World), Inv P B NG w0 C m ops R e0 s0 G a0 listed a w → (∀ j, j < ops.size → listed.getD j true = true) → Q .normal a w := by
    intro listed a w hinv hall
    have hD : ∀ j, j < ops.size → listedD listed j = true := fun j hj => by
      have hl : j < listed.size := by rw [hinv.size]; exact hj
      have := hall j hj
      unfold listedD
      simp [hl] at this ⊢; exact this
    cases hend with
    | normal hlen =>
      have hlen' : R.length = ops.size := by simpa using hlen
      obtain ⟨G', q1, q2, q3, q4⟩ := hinv.rel
      have hDR : ∀ j, j < R.length → listedD listed (0 + j) = true := fun j hj => by rw [Nat.zero_add]; exact hD j (by omega)
      refine hQn rfl G' a w q1 ?_ ?_ hinv.tmps hinv.defers
      · rw [(chain_end (t := 0) hc 0 _ hDR).2] at q2; exact q2
      · intro t
        have := q4 t
        rw [(chain_end (t := t) hc 0 _ hDR).1] at this; exact this
    | pan o v s' ho hw hs hl hb =>
      have hlt : R.length < ops.size := by simpa using (List.getElem?_eq_some_iff.1 ho).1
      have := hinv.inside R.length (hD _ hlt)
      omega
  intro fuel
  induction fuel with
  | zero =>
    intro listed a w hinv hl
    have hall := left_zero hl
    refine ⟨?_, done listed a w hinv hall⟩
    rw [List.eq_nil_iff_forall_not_mem]
    intro j hj
    rw [mem_ready] at hj
    obtain ⟨h0, o, ho, _⟩ := hj
    have := hall j (Array.getElem?_eq_some_iff.1 ho).1
    rw [h0] at this; cases this
  | succ fuel ih =>
    intro listed a w hinv hl
    refine ⟨fun hnil => done listed a w hinv (fun j hj => ?_), fun i hi => ?_⟩
    · -- where none may come up, all have
      induction j using Nat.strongRecOn with
      | _ j ihj =>
        cases hb : listed.getD j true with
        | true => rfl
        | false =>
          have ho : ops[j]? = some ops[j] := by simp [hj]
          have hmem : j ∈ Region.ready .any ops listed := by
            rw [mem_ready]
            refine ⟨hb, _, ho, fun e he hbd => ?_⟩
            have hlt := edgesOk_spec hok'.1 (j := j) (o := ops[j]) (by simp) e (by simpa using he) hbd
            have := ihj e.on hlt (by omega)
            have hl2 : e.on < listed.size := by rw [hinv.size]; omega
            simp [hl2] at this ⊢; exact this
          rw [hnil] at hmem; cases hmem
    · obtain ⟨o, hra⟩ := readyAt (R := R) hok hinv.size hinv.closed hi
      have hedges : ∀ e ∈ o.after.toList, Region.binds .any e = true → listedD listed e.on = true := fun e he hb => by
        rw [mem_ready] at hi
        obtain ⟨_, o2, ho2, hall⟩ := hi
        rw [hra.op] at ho2; cases ho2
        exact hall e (by simpa using he) hb
      have hiop : ops.toList[i]? = some o := by simpa using hra.op
      have hom : o ∈ ops.toList := List.mem_of_getElem? hiop
      have hoo := hops o hom
      simp only [opOk, Bool.and_eq_true, List.all_eq_true] at hoo
      have hi0 : listed.getD i true = false := by
        rw [mem_ready] at hi; exact hi.1
      have hleft : left (listed.setIfInBounds i true) ops.size = fuel := by
        have := left_set hinv.size hi0
        omega
      obtain ⟨G1, q1, q2, q3, q4⟩ := hinv.rel
      have hdall : ∀ q ∈ ops.toList, ∀ d, q.dst = some d → d < a.tmps.size := fun q hq d hd => by
        have := hops q hq
        simp only [opOk, hd, Bool.and_eq_true, decide_eq_true_eq] at this
        rw [hinv.tmps]; exact Nat.lt_of_lt_of_le this.2 hN
      have hwant := fun {b : Bool} => wanted_sim (b := b) q4 ops o hdall
      have hlen : i ≤ R.length := by
        cases hend with
        | normal hlen => have : i < ops.size := by rw [← hinv.size]; exact hra.lt
                         have : R.length = ops.size := by simpa using hlen
                         omega
        | pan o2 v s' ho hw hs hl hb =>
          rcases Nat.lt_or_ge R.length i with hlt | hge
          · have hb' := hb i hlt (by have := hra.lt; rw [hinv.size] at this; simpa using this)
            have := hinv.inside _ (hra.before _ hb')
            omega
          · exact hge
      unfold wpOp
      rw [hra.op]
      simp only []
      rcases Nat.lt_or_ge i R.length with hlt | hge
      · -- an operation of the record
        have hr : R[i]? = some R[i] := List.getElem?_eq_getElem hlt
        have hro : R[i].o = o := by
          have h1 := hRo i _ hr
          rw [hiop] at h1; cases h1; rfl
        have hrec := chain_rec hc i _ hr
        have hagree : ∀ t ∈ o.looksAt ops, (envD (listedD listed) 0 R e0).get t = R[i].e.get t := fun t ht => env_agree hc hRo hra hr ht
        have hwc : wantedA ops.toList (envD (listedD listed) 0 R e0) o = some R[i].wanted := by
          rw [wantedA_congr hagree, ← hro]; exact hrec.wanted
        rw [hwant hwc]
        cases hwt : R[i].wanted with
        | false =>
          simp only [Bool.false_eq_true, if_false]
          obtain ⟨hv, hs2⟩ := hrec.off hwt
          have hnl : ¬ R[i].loud m = true := by simp [Rec.loud, hwt]
          exact ih _ _ _ (inv_step hc hRo hra hinv hr hN hops hedges q1 (.refl G1) q3 q4 (by rw [if_neg hnl]; exact q2) (fun hh => absurd hh hnl) (by rw [hv]; exact .tup [] [] .nil)) hleft
        | true =>
          simp only [if_true]
          left
          cases hst : isStill m o with
          | true =>
            have hnl : ¬ R[i].loud m = true := by simp [Rec.loud, hro, hst]
            have hval := still_any hc hp (D := listedD listed) (fun j1 j2 r1 r2 h12 hj1 hj2 hl1 hl2 hD2 => by
              cases hD1 : listedD listed j1 with
              | true => rfl
              | false =>
                have ho1 : ops[j1]? = some r1.o := by simpa using hRo j1 r1 hj1
                have ho2 : ops[j2]? = some r2.o := by simpa using hRo j2 r2 hj2
                have hs1 : isStill m r1.o = false := by simp [Rec.loud] at hl1; exact hl1.2
                have hs2 : isStill m r2.o = false := by simp [Rec.loud] at hl2; exact hl2.2
                cases hb : ((masksL [] ops.toList).getD j2 0).testBit j1 with
                | true =>
                  have := mask_closed (D := listedD listed) hinv.closed j2 r2.o j1 (hRo j2 r2 hj2) (hinv.closed j2 r2.o (hRo j2 r2 hj2) hD2) hb
                  rw [hD1] at this; cases this
                | false =>
                  rcases (pairsOk_spec hok'.2 h12 ho1 ho2 hb).2 with h | h
                  · rw [hs1] at h; cases h
                  · rw [hs2] at h; cases h) hr hwt (by rw [hro]; exact hst) hra.off (fun j rj hj hji hb => hra.before j hb)
              (fun j rj hj hij hD => hra.after j (by have := (List.getElem?_eq_some_iff.1 (hRo j rj hj)).1; simpa using this) hD)
            have hval2 : stillOp C.T (stD m (listedD listed) 0 R s0).heap (envD (listedD listed) 0 R e0) o.op = some R[i].v := by
              rw [stillOp_congr (e' := R[i].e) (fun t ht => hagree t (looks_operand ht)), ← hro]; exact hval
            refine still_wp hT q2 q3 q4 o hoo.1 hval2 (fun G2 v w2 p1 p2 p3 => ?_)
            exact ih _ _ _ (inv_step hc hRo hra hinv hr hN hops hedges q1 p1 q3 q4 (by rw [if_neg hnl]; exact p2) (fun hh => absurd hh hnl) p3) hleft
          | false =>
            have hl2 : R[i].loud m = true := by simp [Rec.loud, hwt, hro, hst]
            obtain ⟨call, hgc, hlo⟩ := hrec.loud hwt (by rw [hro]; exact hst)
            have hs1 := (st_agree hc hRo hra hr hst).1
            have hlo2 : loudOp C m call (envD (listedD listed) 0 R e0) (stD m (listedD listed) 0 R s0) o = some (.ret R[i].v, R[i].s') := by
              rw [hs1, loudOp_congr (e' := R[i].e) (fun t ht => hagree t (looks_operand ht))]
              rw [hro] at hlo; exact hlo
            refine loud_wp hT q2 q3 q4 (hgood call hgc) o hoo.1 hlo2 (fun G2 v w2 x hx p1 p2 p3 => ?_) (fun G2 v w2 x hx => by cases hx)
            cases hx
            exact ih _ _ _ (inv_step hc hRo hra hinv hr hN hops hedges q1 p1 q3 q4 (by rw [if_pos hl2]; exact p2) (fun _ => hst) p3) hleft
      · -- the call that panics
        have hie : i = R.length := by omega
        cases hend with
        | normal hlen =>
          have h1 := hra.lt
          rw [hinv.size] at h1
          have : R.length = ops.size := by simpa using hlen
          omega
        | pan o2 v s' ho hw hs hl hb =>
          have : o2 = o := by rw [← hie, hiop] at ho; cases ho; rfl
          subst this
          have hagree : ∀ t ∈ o2.looksAt ops, (envD (listedD listed) 0 R e0).get t = e1.get t := fun t ht => env_agree_end hc hRo hra hie ht
          rw [hwant ((wantedA_congr hagree).trans hw)]
          simp only [if_true]
          left
          obtain ⟨call, hgc, hlo⟩ := hl
          have hs1 := st_agree_end hc hRo hra hie hs
          have hlo2 : loudOp C m call (envD (listedD listed) 0 R e0) (stD m (listedD listed) 0 R s0) o2 = some (.pan v, s') := by
            rw [hs1, loudOp_congr (e' := e1) (fun t ht => hagree t (looks_operand ht))]; exact hlo
          refine loud_wp hT q2 q3 q4 (hgood call hgc) o2 hoo.1 hlo2 (fun G2 u w2 x hx => by cases hx) (fun G2 u w2 x hx p1 p2 p3 => ?_)
          cases hx
          exact hQp v rfl G2 a w2 u (q1.trans p1) p2 p3 hinv.defers

end
end Go.Am
