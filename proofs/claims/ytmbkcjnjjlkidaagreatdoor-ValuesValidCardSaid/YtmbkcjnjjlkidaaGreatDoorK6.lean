/- The typed machine: ways that part and join within a region. -/
import Derived.Test.YtmbkcjnjjlkidaaGreatDoorK5
import Derived.Lib.Bytealg
import Derived.Lib.MinMaxS
import Derived.Shelf.Strings.OnBuilder
set_option linter.all false
namespace Go.Am

/-- A run of operations that change nothing, in the abstract machine. -/
def pureA (S : Sys) (m : List Nat) (all : List Oper) (s : St) : List Oper → Env → Option Env
  | [], e => some e
  | o :: r, e => match wantedA all e o with
    | none => none
    | some false => pureA S m all s r (putA e o.dst undefA)
    | some true => match isStill m o, stillOp S.T s.heap e o.op with
      | true, some v => pureA S m all s r (putA e o.dst v)
      | _, _ => none

theorem pureA_evO {S : Sys} {m : List Nat} {all : List Oper} {s : St} {Q : Ex → Env → St → Prop} {met : List Met} {rest : List Oper} {env' : Env} : ∀ (g : List Oper) (masks : List Nat) (i : Nat) (env : Env), pureA S m all s g env = some env' →
    EvO S m all false Q (masks.drop g.length) rest (i + g.length) met env' s → EvO S m all false Q masks (g ++ rest) i met env s
  | [], masks, i, env, h, hr => by cases h; exact hr
  | o :: g, masks, i, env, h, hr => by
    have e1 : (masks.tail).drop g.length = masks.drop (o :: g).length := by
      cases masks with
      | nil => simp
      | cons => rfl
    have e2 : i + (o :: g).length = i + 1 + g.length := by simp only [List.length_cons]; omega
    rw [← e1, e2] at hr
    simp only [pureA] at h
    split at h
    · cases h
    · rename_i hw
      exact .skip hw (pureA_evO g _ _ _ h hr)
    · rename_i hw
      split at h
      · rename_i v hst hv
        exact .still hw hst hv rfl (pureA_evO g _ _ _ h hr)
      · cases h

theorem pureA_append {S : Sys} {m : List Nat} {all : List Oper} {s : St} : ∀ (g r : List Oper) (env : Env), pureA S m all s (g ++ r) env = (pureA S m all s g env).bind (pureA S m all s r)
  | [], r, env => rfl
  | o :: g, r, env => by
    simp only [List.cons_append, pureA]
    split
    · rfl
    · exact pureA_append g r _
    · split
      · exact pureA_append g r _
      · rfl

theorem pureA_frame {S : Sys} {m : List Nat} {all : List Oper} {s : St} {t : Nat} {env' : Env} : ∀ (g : List Oper) (env : Env), pureA S m all s g env = some env' → (∀ o ∈ g, o.dst ≠ some t) → env'.get t = env.get t
  | [], env, h, _ => by cases h; rfl
  | o :: g, env, h, hd => by
    have put : ∀ v, (putA env o.dst v).get t = env.get t := fun v => by
      cases ho : o.dst with
      | none => rfl
      | some d =>
        simp only [putA, Tr.get_set]
        rw [if_neg (fun hh => by subst hh; exact hd o (List.mem_cons_self ..) ho)]
    have hd' : ∀ o ∈ g, o.dst ≠ some t := fun q hq => hd q (List.mem_cons_of_mem _ hq)
    simp only [pureA] at h
    split at h
    · cases h
    · rw [pureA_frame g _ h hd', put]
    · split at h
      · rw [pureA_frame g _ h hd', put]
      · cases h

theorem dropN_eq : ∀ (n : Nat) (l : List Oper), dropN n l = l.drop n
  | 0, l => by simp [dropN]
  | _ + 1, [] => rfl
  | n + 1, _ :: l => by simp only [dropN, List.drop_succ_cons, dropN_eq n l]

theorem upToPick_pre {d : Nat} : ∀ {l g : List Oper} {k : Nat}, upToPick d l = some (g, k) → l = g ++ l.drop g.length ∧ 0 < g.length
  | [], g, k, h => by cases h
  | o :: r, g, k, h => by
    simp only [upToPick] at h
    split at h
    · cases h; exact ⟨rfl, Nat.zero_lt_one⟩
    · split at h
      · rename_i g' k' hg
        cases h
        obtain ⟨h1, _⟩ := upToPick_pre hg
        exact ⟨by simp only [List.cons_append, List.length_cons, List.drop_succ_cons]; rw [← h1], by simp⟩
      · cases h

theorem slotOf_eq (all : List Oper) (j : Nat) : slotOf all j = (all[j]?).bind (·.dst) := by
  unfold slotOf
  cases all[j]? <;> rfl

theorem EnvX.put {W : Univ} {θ : Nat → Option Nat} {e : XEnv W.U} {env : Env} (he : EnvX W θ e env) {d : Option Nat} {v : XV W.U} {a : AV} (h : XR W θ v a) : EnvX W θ (xput e d v) (putA env d a) := by
  cases d with
  | none => exact he
  | some d =>
    intro t w hw
    simp only [xput, xget] at hw
    simp only [putA, Tr.get_set]
    cases hb : Nat.beq t d with
    | true => rw [hb] at hw; cases hw; rw [if_pos (natbeq hb)]; exact ⟨a, rfl, h⟩
    | false =>
      rw [hb] at hw
      rw [if_neg (fun hh => by subst hh; rw [Nat.beq_refl] at hb; cases hb)]
      exact he t w hw

theorem EnvX.over {W : Univ} {θ : Nat → Option Nat} {e : XEnv W.U} {env : Env} (he : EnvX W θ e env) {d : Nat} {v w : XV W.U} (hd : xget e d = some v) (h : ∀ a, XR W θ v a → XR W θ w a) : EnvX W θ ((d, w) :: e) env := by
  intro t u hu
  simp only [xget] at hu
  cases hb : Nat.beq t d with
  | true =>
    rw [hb] at hu
    cases hu
    obtain ⟨a, h1, h2⟩ := he d v hd
    rw [natbeq hb]
    exact ⟨a, h1, h a h2⟩
  | false => rw [hb] at hu; exact he t u hu

theorem XR.undef {W : Univ} {θ : Nat → Option Nat} : XR W θ (xundef : XV W.U) undefA := by simp only [xundef, XR, undefA]; exact ⟨trivial, rfl⟩

/-- The truth value of a slot that is one. -/
theorem bool_of {W : Univ} {θ : Nat → Option Nat} {c : SC.D W.U .bool} : ∃ c' : Bool, c' = c ∧ ∀ a, XR W θ (.v .bool c) a → a = .bool c' :=
  ⟨c, rfl, fun a ha => dd_bool (by simpa only [XR, encD] using ha)⟩

section
variable {S : Sys} {P : XP} (hT : S.T = P.T) (hW : P.W.Ok) {h0 : Tr Blk} {X : XSt P.W.U} {θ : Nat → Option Nat} {s : St} (hX : XSR P h0 X θ s) {m : List Nat} {all : List Oper}
include hT hW hX

omit hT hW hX in
/-- Behind two ways. -/
theorem merge_ok {c : Bool} {e e1 e0 : XEnv P.W.U} {r1 r0 : Option (XEnv P.W.U)} {g : List Oper} {k : Nat} {v : XV P.W.U} {env : Env} (he : EnvX P.W θ e env) (hf : freshIn e g = true) (hm : xmerge c (getO r1 k) (getO r0 k) = some v)
    (h1 : c = true → ∀ e', r1 = some e' → ∃ env', pureA S m all s g env = some env' ∧ EnvX P.W θ e' env') (h2 : c = false → ∀ e', r0 = some e' → ∃ env', pureA S m all s g env = some env' ∧ EnvX P.W θ e' env') :
    ∃ env', pureA S m all s g env = some env' ∧ EnvX P.W θ ((k, v) :: e) env' := by
  have fin : ∀ {env' : Env}, pureA S m all s g env = some env' → (∃ a, env'.get k = some a ∧ XR P.W θ v a) → EnvX P.W θ ((k, v) :: e) env' := by
    intro env' hp hk t u hu
    simp only [xget] at hu
    cases hb : Nat.beq t k with
    | true => rw [hb] at hu; cases hu; rw [natbeq hb]; exact hk
    | false =>
      rw [hb] at hu
      have hu : xget e t = some u := hu
      obtain ⟨a, h3, h4⟩ := he t u hu
      refine ⟨a, ?_, h4⟩
      rw [pureA_frame g env hp (fun o ho hd => ?_)]
      · exact h3
      · simp only [freshIn, List.all_eq_true] at hf
        have := hf o ho
        rw [hd] at this
        simp only [] at this
        rw [hu] at this
        cases this
  unfold xmerge at hm
  split at hm
  · rename_i a b ha hb
    split at hm
    · rename_i p q hp hq
      cases hm
      cases c with
      | true =>
        cases hr : r1 with
        | none => rw [hr] at ha; cases ha
        | some e' =>
          rw [hr] at ha
          obtain ⟨env', h3, h4⟩ := h1 rfl e' hr
          refine ⟨env', h3, fin h3 ?_⟩
          obtain ⟨w, h5, h6⟩ := h4 k a ha
          have := xasB_ok hp h6
          subst this
          exact ⟨_, h5, XR.mkB⟩
      | false =>
        cases hr : r0 with
        | none => rw [hr] at hb; cases hb
        | some e' =>
          rw [hr] at hb
          obtain ⟨env', h3, h4⟩ := h2 rfl e' hr
          refine ⟨env', h3, fin h3 ?_⟩
          obtain ⟨w, h5, h6⟩ := h4 k b hb
          have := xasB_ok hq h6
          subst this
          exact ⟨_, h5, XR.mkB⟩
    · cases hm
  · cases hm

theorem xPure_ok : ∀ (f : Nat) (ops : List Oper) (e e' : XEnv P.W.U), xPure P m X all f ops e = some e' → ∀ env, EnvX P.W θ e env → ∃ env', pureA S m all s ops env = some env' ∧ EnvX P.W θ e' env'
  | 0, ops, e, e', h, _, _ => by cases h
  | f + 1, [], e, e', h, env, he => by cases h; exact ⟨env, rfl, he⟩
  | f + 1, o :: rest, e, e', h, env, he => by
    have hrun : ∀ e1, EnvX P.W θ e1 env → wantedA all env o = some true → (match isTotal P.T o && isStill m o, xstill P X e1 o.op some with
        | true, some v => xPure P m X all f rest (xput e1 o.dst v)
        | _, _ => none) = some e' → ∃ env', pureA S m all s (o :: rest) env = some env' ∧ EnvX P.W θ e' env' := fun e1 he1 hw h => by
      split at h
      · rename_i v hst hv
        rw [Bool.and_eq_true] at hst
        obtain ⟨v', a, h1, h2, h3⟩ := xstill_ok hW hX he1 o.op hv
        cases h3
        obtain ⟨env', h4, h5⟩ := xPure_ok f rest _ _ h _ (he1.put (d := o.dst) h2)
        refine ⟨env', ?_, h5⟩
        simp only [pureA, hw, hst.2, hT, h1 s.heap (fun _ _ => rfl)]
        exact h4
      · cases h
    have hskip : ∀ e1, EnvX P.W θ e1 env → wantedA all env o = some false → xPure P m X all f rest (xput e1 o.dst xundef) = some e' → ∃ env', pureA S m all s (o :: rest) env = some env' ∧ EnvX P.W θ e' env' := fun e1 he1 hw h => by
      obtain ⟨env', h4, h5⟩ := xPure_ok f rest _ _ h _ (he1.put (d := o.dst) XR.undef)
      exact ⟨env', by simp only [pureA, hw]; exact h4, h5⟩
    simp only [xPure] at h
    split at h
    · rename_i hg
      exact hrun e he (by simp only [wantedA, hg]) h
    · rename_i j want hg
      rw [slotOf_eq] at h
      split at h
      · rename_i hd
        exact hskip e he (by simp only [wantedA, hg, yieldedA, hd]) h
      · rename_i d hd
        split at h
        · rename_i b hb
          obtain ⟨a, h1, h2⟩ := he d _ hb
          simp only [XR] at h2
          subst h2
          have hw : wantedA all env o = some (b == want) := by simp only [wantedA, hg, yieldedA, hd, h1]
          split at h
          · rename_i hbw; exact hrun e he (by rw [hw, hbw]) h
          · rename_i hbw; exact hskip e he (by rw [hw, hbw]) h
        · rename_i hb
          obtain ⟨a, h1, h2⟩ := he d _ hb
          simp only [XR] at h2
          obtain ⟨rfl, _⟩ := h2
          exact hskip e he (by simp only [wantedA, hg, yieldedA, hd, h1]) h
        · rename_i c hb
          obtain ⟨c', hc', hall⟩ := bool_of (W := P.W) (θ := θ) (c := c)
          split at h
          · rename_i g k hpick
            split at h
            · rename_i v hf hm
              have hm : xmerge c' (getO (xPure P m X all f g ((d, .kb true) :: e)) k) (getO (xPure P m X all f g ((d, .kb false) :: e)) k) = some v := by rw [hc']; exact hm
              have hov : ∀ b, c' = b → EnvX P.W θ ((d, .kb b) :: e) env := fun b hb' => he.over hb fun a ha => by
                simp only [XR]; rw [← hb']; exact hall a ha
              obtain ⟨env1, h3, h4⟩ := merge_ok (S := S) (s := s) (m := m) (all := all) (e1 := e) (e0 := e) he hf hm
                (fun hc e1' hr => xPure_ok f g _ _ hr env (hov true hc)) (fun hc e1' hr => xPure_ok f g _ _ hr env (hov false hc))
              rw [dropN_eq] at h
              obtain ⟨env', h5, h6⟩ := xPure_ok f _ _ _ h env1 h4
              refine ⟨env', ?_, h6⟩
              rw [(upToPick_pre hpick).1, pureA_append, h3]
              exact h5
            · cases h
          · cases h
        · cases h

theorem xJoin_ok {d : Nat} {c : SC.D P.W.U .bool} {ops : List Oper} {e e' : XEnv P.W.U} {n : Nat} (h : xJoin P m X all d c ops e = some (e', n)) {env : Env} (he : EnvX P.W θ e env) (hd : xget e d = some (.v .bool c)) :
    ∃ g env', ops = g ++ ops.drop n ∧ g.length = n ∧ 0 < n ∧ pureA S m all s g env = some env' ∧ EnvX P.W θ e' env' := by
  obtain ⟨c', hc', hall⟩ := bool_of (W := P.W) (θ := θ) (c := c)
  unfold xJoin at h
  split at h
  · rename_i g k hpick
    split at h
    · rename_i hok
      rw [Bool.and_eq_true] at hok
      split at h
      · rename_i v hm
        have hm : xmerge c' (getO (xPure P m X all 60 g ((d, .kb true) :: e)) k) (getO (xPure P m X all 60 g ((d, .kb false) :: e)) k) = some v := by rw [hc']; exact hm
        cases h
        have hov : ∀ b, c' = b → EnvX P.W θ ((d, .kb b) :: e) env := fun b hb' => he.over hd fun a ha => by
          simp only [XR]; rw [← hb']; exact hall a ha
        obtain ⟨env1, h3, h4⟩ := merge_ok (S := S) (s := s) (m := m) (all := all) (e1 := e) (e0 := e) he hok.2 hm
          (fun hc e1' hr => xPure_ok hT hW hX 60 g _ _ hr env (hov true hc)) (fun hc e1' hr => xPure_ok hT hW hX 60 g _ _ hr env (hov false hc))
        obtain ⟨h5, h6⟩ := upToPick_pre hpick
        exact ⟨g, env1, h5, rfl, h6, h3, h4⟩
      · cases h
    · cases h
  · cases h
end
end Go.Am
namespace Go.Am

section
variable {S : Sys} {M : XM} (hM : MOk S M) {ρ : Type} {y : ρ}
include hM

theorem xcall_ok {orc : Orc M} (horc : ∀ i, SigOk S M.P (M.sp i) (orc i)) {X : XSt M.P.W.U} {θ : Nat → Option Nat} {s : St} (hX : XSR M.P S.h X θ s) (hnt : X.nt ≠ 0) {xargs : List (XV M.P.W.U)} {args : List AV} (hargs : XRs M.P.W θ xargs args) {fid : Nat}
    {K : XV M.P.W.U → XSt M.P.W.U → List Nat → List Nat → Option ρ} : ∀ {is : List Nat}, xcall orc fid X xargs K is = some y →
    ∃ v X' ws dm a s2 θ', CallDet S fid args s (.ret a) s2 ∧ XR M.P.W θ' v a ∧ XStep M.P S.h θ s X' ws dm θ' s2 ∧ X'.nt ≠ 0 ∧ K v X' ws dm = some y
  | [], h => by cases (show none = some y from h)
  | i :: is, h => by
    simp only [xcall] at h
    split at h
    · rename_i en hok hen
      obtain ⟨r, hr, h⟩ := bindO_some h
      rw [Bool.and_eq_true] at hok
      have hf := natbeq hok.1
      obtain ⟨a, s2, θ', h1, h2, h3, h4⟩ := enter_ok hM (horc i) hok.2 hX hnt hargs hen hr
      exact ⟨_, _, _, _, a, s2, θ', by rw [← hf]; exact h1, h2, h3, h4, h⟩
    · exact xcall_ok horc hX hnt hargs h

/-- A step of an operation that changes the state. -/
inductive LStep (S : Sys) (m : List Nat) (env : Env) (s : St) (o : Oper) (a : AV) (s2 : St) : Prop
  | plain (h : loudOp S.C m (fun _ _ _ => none) env s o = some (.ret a, s2))
  | call (c : Call) (f : Operand) (fid : Nat) (first cap args : List AV) (hop : o.op = .call c) (hcal : c.callee = .value f) (hargs : evs env c.args.toList = some args) (hf : ev env f = some (.fn (.func fid) first cap))
      (h : CallDet S fid (first ++ args ++ cap) s (.ret a) s2)

theorem xloud_ok {orc : Orc M} (horc : ∀ i, SigOk S M.P (M.sp i) (orc i)) {X : XSt M.P.W.U} {θ : Nat → Option Nat} {s : St} (hX : XSR M.P S.h X θ s) (hnt : X.nt ≠ 0) {e : XEnv M.P.W.U} {env : Env} (he : EnvX M.P.W θ e env) {m : List Nat} {o : Oper}
    {K : XV M.P.W.U → XSt M.P.W.U → List Nat → List Nat → Option ρ} (h : xloud m orc X e o K = some y) :
    ∃ v X' ws dm a s2 θ', LStep S m env s o a s2 ∧ XR M.P.W θ' v a ∧ XStep M.P S.h θ s X' ws dm θ' s2 ∧ X'.nt ≠ 0 ∧ K v X' ws dm = some y := by
  have hT := hM.T
  have hW := hM.W
  have hnext := hX.next
  have t0 : θ 0 = none := by
    cases h1 : θ 0 with
    | none => rfl
    | some u => exact absurd rfl (hX.tag _ _ h1).2.2.1
  unfold xloud at h
  split at h
  · rename_i t hop
    split at h
    · rename_i ti ht
      split at h
      · rename_i cs hcs
        refine ⟨_, _, _, _, .ptr s.next 0, _, θ, .plain ?_, ?_, hX.alloc (cs := .cells cs) (xofs_ok hcs), hnt, h⟩
        · simp only [loudOp, hop, Sys.C, hT, ht]
        · simp only [XR, hnext]
      · cases h
    · cases h
  · rename_i t x hop
    split at h
    · rename_i v hv
      obtain ⟨a, h1, h2⟩ := xev_ok he hv
      have hc := XR.cells hW h2
      split at h
      · rename_i hfl
        refine ⟨_, _, _, _, .ptr s.next 0, _, θ, .plain ?_, ?_, hX.alloc (cs := .cells (xcells v)) hc, hnt, h⟩
        · simp only [loudOp, hop, h1, XRs.flat hW hc hfl]
        · simp only [XR, hnext]
      · cases h
    · cases h
  · rename_i t len ps hop
    split at h
    · rename_i l hl
      obtain ⟨asq, h1, h2⟩ := xevParts_ok he hl
      split at h
      · rename_i c xs hv
        obtain ⟨ys, te, c', zs, h3, h4, h5, h6, h7, h8⟩ := xelems_ok hW t0 hv h2
        have : ys = [] := List.eq_nil_of_length_eq_zero h7
        subst this
        refine ⟨_, X, [], [], .sl [] .full, s, θ, .plain ?_, h4, ⟨hX, fun t u h => by rwa [dropT_nil] at h, fun _ _ => rfl⟩, hnt, h⟩
        simp only [loudOp, hop, h1, Sys.C, hT, h3]
      · rename_i c xs n hv
        obtain ⟨ys, te, c', zs, h3, h4, h5, h6, h7, h8⟩ := xelems_ok hW t0 hv h2
        cases h5
        refine ⟨_, _, _, _, .ms s.next 0 ys.length te.size, _, θ, .plain ?_, ?_, hX.alloc (BlkR.row h8), hnt, h⟩
        · cases ys with
          | nil => simp at h7
          | cons y0 ys =>
            have hfl := elems_flat hW h8
            simp only [loudOp, hop, h1, Sys.C, hT, h3, hfl, newMs]
        · simp only [XR, hnext, h6, Nat.zero_mul, lenN]
          rw [← dds_length ys, h8, List.length_map]
      · cases h
    · cases h
  · rename_i t a x hop
    split at h
    · rename_i ti b off v ht ha hv
      obtain ⟨p, h1, h2⟩ := xev_ok he ha
      simp only [XR] at h2
      subst h2
      obtain ⟨w, h3, h4⟩ := xev_ok he hv
      have hc := XR.cells hW h4
      split at h
      · rename_i cs hcs
        obtain ⟨asq, h5, h6, h7, h8⟩ := xblk_ok hX hcs
        split at h
        · rename_i hok
          simp only [Bool.and_eq_true, decide_eq_true_eq] at hok
          obtain ⟨⟨o1, o2⟩, o3⟩ := hok
          refine ⟨_, _, _, _, undefA, _, θ, .plain ?_, ?_, hX.store (cs' := .cells _) h7 h8 (h6.splice_ hc off), hnt, h⟩
          · have e1 : ((cellsOf w).length == ti.size && decide (off + ti.size ≤ asq.length) && (cellsOf w).all isFlat) = true := by
              rw [XRs.length hc, XRs.length h6, natbeq o1, XRs.flat hW hc o3]
              simp [o2]
            simp only [loudOp, hop, h1, h3, storeA, Sys.C, hT, ht, h5, e1]
          · simp only [xundef, XR, undefA]; exact ⟨trivial, rfl⟩
        · cases h
      · cases h
    · rename_i ti b c i off v ht ha hv
      obtain ⟨p, h1, h2⟩ := xev_ok he ha
      simp only [XR] at h2
      subst h2
      obtain ⟨w, h3, h4⟩ := xev_ok he hv
      split at h
      · rename_i xs hxs
        obtain ⟨ys, h5, h6, h7, h8⟩ := xarr_ok hX hxs
        obtain ⟨x0, hx0, h⟩ := bindO_some h
        obtain ⟨z, hz, hdz⟩ := map_get_dd h6 hx0
        split at h
        · rename_i x1 hx1
          obtain ⟨w', g1, g2, g3, g4, g5⟩ := xelset_ok hW hx1 h4 hdz
          have hcl := dds_cells hW h6
          have hi := (List.getElem?_eq_some_iff.1 hz).1
          have hd' : dds (ys.set i w') = (setL xs i x1).map (encD M.P.W c) := by rw [dds_set, h6, g2, setL, List.map_set]
          refine ⟨_, _, _, _, undefA, _, θ, .plain ?_, ?_, hX.store h7 h8 (BlkR.row hd'), hnt, h⟩
          · have hmul : i * scSize M.P.W c + scSize M.P.W c ≤ ys.length * scSize M.P.W c := by rw [← Nat.succ_mul]; exact Nat.mul_le_mul_right _ hi
            have e1 : ((cellsOf w).length == ti.size && decide (i * scSize M.P.W c + off + ti.size ≤ (ys.flatMap cellsOf).length) && (cellsOf w).all isFlat) = true := by
              rw [g3, g5, fl_length' hcl]
              simp
              omega
            simp only [loudOp, hop, h1, h3, storeA, Sys.C, hT, ht, h5, e1]
            rw [row_splice hcl hz (by rw [g3]; exact g4) g1]
          · simp only [xundef, XR, undefA]; exact ⟨trivial, rfl⟩
        · cases h
      · cases h
    · cases h
  · rename_i t l c hop
    split at h
    · rename_i lv cv hl hc
      obtain ⟨la, h1, h2⟩ := xev_ok he hl
      obtain ⟨ca, h3, h4⟩ := xev_ok he hc
      split at h
      · rename_i k1 n k2 k hn hk
        have e1 := xasI_ok hn h2
        have e2 := xasI_ok hk h4
        subst e1; subst e2
        obtain ⟨te, v, X', ws, dm, a, s2, θ', g1, g2, g3, g4, g5, g6⟩ := xmake_ok (j := k1) (k := k2) hW hX hnt h
        refine ⟨v, X', ws, dm, a, s2, θ', .plain ?_, g3, g4, g5, g6⟩
        simp only [loudOp, hop, h1, h3, Sys.C, hT, g1]
        exact g2
      · cases h
    · cases h
  · rename_i c hop
    split at h
    · cases h
    · rename_i xargs hxa
      obtain ⟨args, h1, h2⟩ := xevs_ok he hxa
      split at h
      · rename_i hcal
        split at h
        · rename_i t u ts x z r htys
          simp only [XRs] at h2
          obtain ⟨a, as1, rfl, h3, b, as2, rfl, h4, h5⟩ := h2
          obtain ⟨v, X', ws, dm, a', s2, θ', h6, h7, h8, h9, h10⟩ := xappend_ok hW hX hnt h h3 h4 ts as2
          refine ⟨v, X', ws, dm, a', s2, θ', .plain ?_, h7, h8, h9, h10⟩
          simp only [loudOp, hop, h1, hcal, Sys.C, hT, htys]
          exact h6
        · cases h
      · rename_i f hcal
        split at h
        · rename_i fid first cap hf
          obtain ⟨fa, h3, h4⟩ := xev_ok he hf
          simp only [XR] at h4
          obtain ⟨asq, bs, rfl, h5, h6⟩ := h4
          obtain ⟨v, X', ws, dm, a, s2, θ', h7, h8, h9, h10, h11⟩ := xcall_ok hM horc hX hnt ((h5.append h2).append h6) h
          exact ⟨v, X', ws, dm, a, s2, θ', .call c f fid asq bs args hop hcal h1 h3 h7, h8, h9, h10, h11⟩
        · cases h
      · cases h
  · cases h

/-- What has been met in a region, and its trace. -/
inductive MetR (S : Sys) (cur : Tr Blk) : List Met → List XMet → Prop
  | nil : MetR S cur [] []
  | rd (i : Nat) (o : Op) (e : Env) (v : AV) (b : Option Nat) (l : List Met) (l' : List XMet) (hp : ∀ h' : Tr Blk, (∀ c, b = some c → h'.get c = cur.get c) → stillOp S.T h' e o = some v) (h : MetR S cur l l') : MetR S cur (.rd i o e v :: l) (.rd i b :: l')
  | bad (i : Nat) (o : Op) (e : Env) (v : AV) (l : List Met) (l' : List XMet) (h : MetR S cur l l') : MetR S cur (.rd i o e v :: l) (.bad i :: l')
  | ld (i : Nat) (s : St) (ws : List Nat) (l : List Met) (l' : List XMet) (hp : ∀ c, hasN ws c = false → s.heap.get c = cur.get c) (h : MetR S cur l l') : MetR S cur (.ld i s :: l) (.ld i ws :: l')

omit hM in
theorem okRd_ok {cur : Tr Blk} {mask : Nat} {b : Option Nat} {e : Env} {o : Op} {v : AV} (hv : ∀ h' : Tr Blk, (∀ c, b = some c → h'.get c = cur.get c) → stillOp S.T h' e o = some v) : ∀ {l : List Met} {l' : List XMet}, MetR S cur l l' → okRd mask b l' = true → okRead S.C mask e o v l = true
  | _, _, .nil, _ => rfl
  | _, _, .rd _ _ _ _ _ l l' _ h, hk => by
    simp only [okRd] at hk
    simp only [okRead]
    exact okRd_ok hv h hk
  | _, _, .bad _ _ _ _ l l' h, hk => by
    simp only [okRd] at hk
    simp only [okRead]
    exact okRd_ok hv h hk
  | _, _, .ld i s ws l l' hp h, hk => by
    simp only [okRd, Bool.and_eq_true, Bool.or_eq_true] at hk
    simp only [okRead, Bool.and_eq_true, Bool.or_eq_true]
    refine ⟨?_, okRd_ok hv h hk.2⟩
    rcases hk.1 with hb | hb
    · exact .inl hb
    · right
      have : stillOp S.C.T s.heap e o = some v := hv s.heap fun c hc => by
        subst hc
        exact hp c (by simpa using hb)
      rw [this]
      exact AV.beq_refl v

omit hM in
theorem okLd_ok {cur : Tr Blk} {mask : Nat} {ws : List Nat} {s2 : St} (hs : ∀ c, hasN ws c = false → s2.heap.get c = cur.get c) : ∀ {l : List Met} {l' : List XMet}, MetR S cur l l' → okLd mask ws l' = true → okLoud S.C mask s2 l = true
  | _, _, .nil, _ => rfl
  | _, _, .ld _ _ _ l l' _ h, hk => by
    simp only [okLd] at hk
    simp only [okLoud]
    exact okLd_ok hs h hk
  | _, _, .bad i o e v l l' h, hk => by
    simp only [okLd, Bool.and_eq_true] at hk
    simp only [okLoud, Bool.and_eq_true, Bool.or_eq_true]
    exact ⟨.inl hk.1, okLd_ok hs h hk.2⟩
  | _, _, .rd i o e v b l l' hp h, hk => by
    simp only [okLd, Bool.and_eq_true, Bool.or_eq_true] at hk
    simp only [okLoud, Bool.and_eq_true, Bool.or_eq_true]
    refine ⟨?_, okLd_ok hs h hk.2⟩
    rcases hk.1 with hb | hb
    · exact .inl hb
    · right
      have : stillOp S.C.T s2.heap e o = some v := hp s2.heap fun c hc => by
        subst hc
        exact hs c (by simpa using hb)
      rw [this]
      exact AV.beq_refl v

omit hM in
theorem MetR.step {cur cur' : Tr Blk} {ws : List Nat} (hs : ∀ c, hasN ws c = false → cur'.get c = cur.get c) : ∀ {l : List Met} {l' : List XMet}, MetR S cur l l' → MetR S cur' l (metW ws l')
  | _, _, .nil => .nil
  | _, _, .ld i s us l l' hp h => by
    simp only [metW]
    refine .ld i s _ l _ (fun c hc => ?_) (MetR.step hs h)
    simp only [hasN, List.any_append, Bool.or_eq_false_iff] at hc
    rw [hp c hc.2, hs c hc.1]
  | _, _, .bad i o e v l l' h => by
    simp only [metW]
    exact .bad i o e v l _ (MetR.step hs h)
  | _, _, .rd i o e v b l l' hp h => by
    simp only [metW]
    cases b with
    | none => exact .rd i o e v none l _ (fun h' _ => hp h' fun c hc => by cases hc) (MetR.step hs h)
    | some b =>
      simp only []
      cases hb : hasN ws b with
      | true => exact .bad i o e v l _ (MetR.step hs h)
      | false =>
        refine .rd i o e v (some b) l _ (fun h' hh => hp h' fun c hc => ?_) (MetR.step hs h)
        cases hc
        rw [hh b rfl, hs b hb]

omit hM in
theorem MetR.same {cur cur' : Tr Blk} (hs : ∀ c, cur'.get c = cur.get c) : ∀ {l : List Met} {l' : List XMet}, MetR S cur l l' → MetR S cur' l l'
  | _, _, .nil => .nil
  | _, _, .ld i s us l l' hp h => .ld i s us l l' (fun c hc => by rw [hp c hc, hs c]) (MetR.same hs h)
  | _, _, .bad i o e v l l' h => .bad i o e v l l' (MetR.same hs h)
  | _, _, .rd i o e v b l l' hp h => .rd i o e v b l l' (fun h' hh => hp h' fun c hc => by rw [hh c hc, hs c]) (MetR.same hs h)

theorem xOps_ok {orc : Orc M} (horc : ∀ i, SigOk S M.P (M.sp i) (orc i)) {m : List Nat} {all : List Oper} {draw : Bool} {K : XEnv M.P.W.U → XSt M.P.W.U → Option ρ} {Q : Ex → Env → St → Prop}
    (hQ : ∀ e X θ env s, EnvX M.P.W θ e env → XSR M.P S.h X θ s → X.nt ≠ 0 → K e X = some y → Q .normal env s) :
    ∀ (rest : List Oper) (sk : Nat) (masks : List Nat) (i : Nat) (met : List Met) (xmet : List XMet) (e : XEnv M.P.W.U) (X : XSt M.P.W.U) (θ : Nat → Option Nat) (env : Env) (s : St),
      xOps m orc all draw sk masks rest i xmet e X K = some y → EnvX M.P.W θ e env → XSR M.P S.h X θ s → X.nt ≠ 0 → (draw = true → MetR S s.heap met xmet) → EvO S m all draw Q (masks.drop sk) (rest.drop sk) (i + sk) met env s
  | [], sk, masks, i, met, xmet, e, X, θ, env, s, h, he, hX, hnt, _ => by
    have h' : K e X = some y := by cases sk <;> exact h
    rw [List.drop_nil]
    exact hQ e X θ env s he hX hnt h'
  | o :: rest, sk + 1, masks, i, met, xmet, e, X, θ, env, s, h, he, hX, hnt, hmet => by
    have h1 := xOps_ok horc hQ rest sk masks.tail (i + 1) met xmet e X θ env s h he hX hnt hmet
    have e1 : masks.tail.drop sk = masks.drop (sk + 1) := by
      cases masks with
      | nil => simp
      | cons => rfl
    rw [e1, show i + 1 + sk = i + (sk + 1) by omega] at h1
    exact h1
  | o :: rest, 0, masks, i, met, xmet, e, X, θ, env, s, h, he, hX, hnt, hmet => by
    show EvO S m all draw Q masks (o :: rest) i met env s
    have hT := hM.T
    have hskip : ∀ e', EnvX M.P.W θ e' env → wantedA all env o = some false → xOps m orc all draw 0 masks.tail rest (i + 1) xmet (xput e' o.dst xundef) X K = some y → EvO S m all draw Q masks (o :: rest) i met env s := fun e' he' hw h =>
      .skip hw (xOps_ok horc hQ rest 0 _ _ met xmet _ X θ _ s h (he'.put (by simp only [xundef, XR, undefA]; exact ⟨trivial, rfl⟩)) hX hnt hmet)
    have hrun : ∀ e', EnvX M.P.W θ e' env → wantedA all env o = some true → xStep m orc draw (masks.headD 0) i xmet e' X o (fun met e X => xOps m orc all draw 0 masks.tail rest (i + 1) met e X K) = some y → EvO S m all draw Q masks (o :: rest) i met env s := fun e' he' hw h => by
      unfold xStep at h
      split at h
      · rename_i hst
        obtain ⟨v, a, h1, h2, h3⟩ := xstill_ok hM.W hX he' o.op h
        have h1' : ∀ h' : Tr Blk, (∀ b, xreads e' o.op = some b → h'.get b = s.heap.get b) → stillOp S.T h' env o.op = some a := fun h' hh => by rw [hT]; exact h1 h' hh
        split at h3
        · rename_i hd
          exact .still hw hst (h1' s.heap fun _ _ => rfl) hd (xOps_ok horc hQ rest 0 _ _ met xmet _ X θ _ s h3 (he'.put h2) hX hnt hmet)
        · rename_i hd
          have hdr : draw = true := by
            rw [Bool.and_eq_true] at hd; exact hd.1
          split at h3
          · rename_i hok
            exact .read hw hst (h1' s.heap fun _ _ => rfl) hd (okRd_ok h1' (hmet hdr) hok) (xOps_ok horc hQ rest 0 _ _ _ _ _ X θ _ s h3 (he'.put h2) hX hnt (fun _ => .rd _ _ _ _ _ _ _ h1' (hmet hdr)))
          · cases h3
      · rename_i hst
        obtain ⟨v, X', ws, dm, a, s2, θ', h1, h2, h3, h4, h5⟩ := xloud_ok hM horc hX hnt he' h
        split at h5
        · rename_i hok
          have hok' : (!draw || okLoud S.C (masks.headD 0) s2 met) = true := by
            cases draw with
            | false => rfl
            | true => exact okLd_ok h3.same (hmet rfl) hok
          have next : EvO S m all draw Q masks.tail rest (i + 1) (metL draw i s met) (putA env o.dst a) s2 := by
            cases draw with
            | false => exact xOps_ok horc hQ rest 0 _ _ _ _ _ X' θ' _ s2 h5 ((he'.dem h3.keep).put h2) h3.sr h4 (fun hh => by cases hh)
            | true => exact xOps_ok horc hQ rest 0 _ _ _ _ _ X' θ' _ s2 h5 ((he'.dem h3.keep).put h2) h3.sr h4 (fun _ => .ld i s ws _ _ (fun c hc => (h3.same c hc).symm) ((hmet rfl).step h3.same))
          cases h1 with
          | plain h1 => exact .loud hw hst h1 hok' next
          | call c f fid first cap args hop hcal hargs hf hdet =>
            exact .call hop hcal hw hargs hf ⟨.ret a, s2, hdet, hok', next⟩
        · cases h5
    simp only [xOps] at h
    split at h
    · rename_i hg
      exact hrun e he (by simp only [wantedA, hg]) h
    · rename_i j want hg
      rw [slotOf_eq] at h
      split at h
      · rename_i hd
        exact hskip e he (by simp only [wantedA, hg, yieldedA, hd]) h
      · rename_i d hd
        split at h
        · rename_i b hb
          obtain ⟨a, h1, h2⟩ := he d _ hb
          simp only [XR] at h2
          subst h2
          have hw : wantedA all env o = some (b == want) := by simp only [wantedA, hg, yieldedA, hd, h1]
          split at h
          · rename_i hbw
            exact hrun e he (by rw [hw, hbw]) h
          · rename_i hbw
            exact hskip e he (by rw [hw, hbw]) h
        · rename_i hb
          obtain ⟨a, h1, h2⟩ := he d _ hb
          simp only [XR] at h2
          obtain ⟨rfl, _⟩ := h2
          exact hskip e he (by simp only [wantedA, hg, yieldedA, hd, h1]) h
        · rename_i c hb
          obtain ⟨a, h1, h2⟩ := he d _ hb
          have hc : ∃ c' : Bool, c' = c := ⟨c, rfl⟩
          obtain ⟨c', hc'⟩ := hc
          have hdd : ∀ a, XR M.P.W θ (.v .bool c) a → a = .bool c' := fun a ha => by
            have : dd a = .bool c' := by rw [hc']; simpa only [XR, encD] using ha
            exact dd_bool this
          have h3 := hdd a h2
          subst h3
          have hw : wantedA all env o = some (c' == want) := by simp only [wantedA, hg, yieldedA, hd, h1]
          have hov : EnvX M.P.W θ ((d, .kb c') :: e) env := he.over hb fun a ha => by
            simp only [XR]; exact hdd a ha
          have hbr : ∀ {t u : Option ρ}, brB c t u = some y → (c' = true ∧ t = some y) ∨ (c' = false ∧ u = some y) := fun h => by rw [hc']; exact brB_some h
          split at h
          · rename_i e' n hj
            cases draw with
            | true => cases hj
            | false =>
              obtain ⟨g, env', q1, q2, _, q3, q4⟩ := xJoin_ok (S := S) hT hM.W hX hj he hb
              have h5 := xOps_ok horc hQ rest n masks.tail (i + 1) met xmet e' X θ env' s h q4 hX hnt hmet
              have e1 : masks.tail.drop n = masks.drop (n + 1) := by
                cases masks with
                | nil => simp
                | cons => rfl
              rw [e1, show i + 1 + n = i + (n + 1) by omega] at h5
              rw [q1]
              refine pureA_evO g _ _ _ q3 ?_
              rw [q2]
              exact h5
          cases want with
          | true =>
            rcases hbr h with ⟨rfl, h⟩ | ⟨rfl, h⟩
            · exact hrun _ hov (by rw [hw]; rfl) h
            · exact hskip _ hov (by rw [hw]; rfl) h
          | false =>
            rcases hbr h with ⟨rfl, h⟩ | ⟨rfl, h⟩
            · exact hskip _ hov (by rw [hw]; rfl) h
            · exact hrun _ hov (by rw [hw]; rfl) h
        · cases h
end
end Go.Am
namespace Go.Am
open Go.RowKit

/-- A slice that may be appended to, while these tags live. -/
def LiveT (L : Tr Bool) (nt : Nat) (y : AV) (xs : List AV) : Prop := LiveS ⟨.nil, 0, L, nt⟩ y xs
theorem LiveT.nil {L : Tr Bool} {nt : Nat} : LiveT L nt .nils [] := .inl ⟨rfl, rfl⟩
theorem LiveT.full {L : Tr Bool} {nt : Nat} {xs : List AV} : LiveT L nt (.sl xs .full) xs := .inr (.inl rfl)
theorem LiveT.sla {L : Tr Bool} {nt : Nat} {y : AV} {xs : List AV} (h : LiveT L nt y xs) : SlA y xs := LiveS.sla h
def KeepsT (L : Tr Bool) (nt : Nat) (L' : Tr Bool) (nt' : Nat) (y : AV) : Prop := Keeps ⟨.nil, 0, L, nt⟩ ⟨.nil, 0, L', nt'⟩ y
theorem LiveT.keep {L L' : Tr Bool} {nt nt' : Nat} {y z : AV} {xs : List AV} (h : LiveT L nt z xs) (hk : KeepsT L nt L' nt' y) (hd : ∀ t, TagIn z t → ¬ TagIn y t) : LiveT L' nt' z xs := LiveS.keep h hk hd

def mutOf (m : List Nat) (o : Oper) : Bool := match o.dst with
  | some d => m.contains d
  | none => false
theorem loud_builtin2 {C : Ctx} {m : List Nat} {call : Nat → List AV → St → Option (Res × St)} {e : Env} {s : St} {o : Oper} {c : Call} {b : Builtin} {args : List AV} {x : Res × St} (hop : o.op = .call c) (hc : c.callee = .builtin b) (ha : evs e c.args.toList = some args)
    (hb : builtinLoud C.T b (mutOf m o) c.argTypes.toList args s = some x) : loudOp C m call e s o = some x := by
  simp only [loudOp, hop, hc, ha]
  exact hb

section
variable {S : Sys} {m : List Nat} {e : Env} {Q : Ex → Env → St → Prop} {all : List Oper} {draw : Bool} {masks : List Nat} {rest : List Oper} {o : Oper} {i : Nat} {met : List Met}

theorem RO.append {hp : Tr Blk} {nx nt : Nat} {lv : Tr Bool} {c : Call} {t u el : Nat} {ts : List Nat} {ti te : TI} {y z : AV} {xs ys : List AV} (hop : o.op = .call c) (hc : c.callee = .builtin .append) (hs : isStill m o = false) (hw : wantedA all e o = some true) (hm : mutOf m o = false)
    (hargs : evs e c.args.toList = some [y, z]) (hts : c.argTypes.toList = t :: u :: ts) (ht : S.T.get t = some ti) (hk : ti.kd = .slice el) (he : S.T.get el = some te) (hu : notInt S.T u = true) (h0 : 0 < te.size) (hb : te.bytes ≤ 2 ^ 10)
    (hz : srcElems ⟨hp, nx, lv, nt⟩ te z = some ys) (hne : ys ≠ []) (hf : (ys.flatMap cellsOf).all isFlat = true) (hy : LiveT lv nt y xs) (hxs : ∀ x ∈ xs, (cellsOf x).length = te.size) (hl : xs.length + ys.length ≤ 2 ^ 32)
    (hok : ∀ L, (!draw || okLoud S.C (masks.headD 0) ⟨hp, nx, L, nt + 1⟩ met) = true)
    (h : ∀ L, LiveT L (nt + 1) (.sl (xs ++ ys) (.tag nt)) (xs ++ ys) → KeepsT lv nt L (nt + 1) y → RO S m all draw Q masks.tail rest (i + 1) (metL draw i ⟨hp, nx, lv, nt⟩ met) (putA e o.dst (.sl (xs ++ ys) (.tag nt))) ⟨hp, nx, L, nt + 1⟩) :
    RO S m all draw Q masks (o :: rest) i met e ⟨hp, nx, lv, nt⟩ := by
  have hy' : LiveS ⟨hp, nx, lv, nt⟩ y xs := LiveS.heap (s := ⟨.nil, 0, lv, nt⟩) (s' := ⟨hp, nx, lv, nt⟩) hy rfl rfl
  obtain ⟨L, h1, h2, h3⟩ := push (s := ⟨hp, nx, lv, nt⟩) (te := te) hy' hxs hne hf hb hl
  refine RO.loud hw hs (loud_builtin2 hop hc hargs (by rw [hm, hts]; exact append_loud (T := S.T) (xs := []) ht hk he hu h0 hz h1)) (hok L) ?_
  exact h L (live_new (s := ⟨.nil, 0, lv, nt⟩) h2) (keeps_new (s := ⟨.nil, 0, lv, nt⟩) h3)
end
end Go.Am
namespace Go.Am
set_option linter.unusedVariables false
set_option linter.unusedSimpArgs false
open Go.RowKit

theorem fl_length {z : Nat} : ∀ {xs : List AV}, (∀ x ∈ xs, (cellsOf x).length = z) → (xs.flatMap cellsOf).length = xs.length * z
  | [], _ => by simp
  | x :: xs, h => by
    have := fl_length (xs := xs) (fun y hy => h y (by simp [hy]))
    rw [List.flatMap_cons, List.length_append, this, h x (by simp), List.length_cons, Nat.succ_mul]; omega

theorem fl_drop {z : Nat} : ∀ {xs : List AV} (i : Nat), (∀ x ∈ xs, (cellsOf x).length = z) → (xs.flatMap cellsOf).drop (i * z) = (xs.drop i).flatMap cellsOf
  | xs, 0, _ => by simp
  | [], i + 1, _ => by simp
  | x :: xs, i + 1, h => by
    rw [List.flatMap_cons, Nat.succ_mul, Nat.add_comm, ← List.drop_drop, List.drop_left' (h x (by simp)), List.drop_succ_cons]
    exact fl_drop i fun y hy => h y (by simp [hy])

theorem fl_take {z : Nat} : ∀ {xs : List AV} (i : Nat), (∀ x ∈ xs, (cellsOf x).length = z) → (xs.flatMap cellsOf).take (i * z) = (xs.take i).flatMap cellsOf
  | xs, 0, _ => by simp
  | [], i + 1, _ => by simp
  | x :: xs, i + 1, h => by
    have hx := h x (by simp)
    rw [List.flatMap_cons, Nat.succ_mul, List.take_append, hx, List.take_of_length_le (by omega), Nat.add_sub_cancel, List.take_succ_cons, List.flatMap_cons]
    rw [fl_take i fun y hy => h y (by simp [hy])]

theorem fl_at {z : Nat} {xs : List AV} {i : Nat} {x : AV} (h : ∀ x ∈ xs, (cellsOf x).length = z) (hx : xs[i]? = some x) : ((xs.flatMap cellsOf).drop (i * z)).take z = cellsOf x := by
  rw [fl_drop i h]
  obtain ⟨hi, rfl⟩ := List.getElem?_eq_some_iff.1 hx
  rw [List.drop_eq_getElem_cons hi, List.flatMap_cons, List.take_append, h _ (List.getElem_mem hi), Nat.sub_self, List.take_zero, List.append_nil, List.take_of_length_le (by rw [h _ (List.getElem_mem hi)]; exact Nat.le_refl _)]

theorem fl_splice {z : Nat} {xs : List AV} {i : Nat} {v : AV} (h : ∀ x ∈ xs, (cellsOf x).length = z) (hi : i < xs.length) (hv : (cellsOf v).length = z) : splice (xs.flatMap cellsOf) (i * z) (cellsOf v) = (xs.set i v).flatMap cellsOf := by
  unfold splice
  rw [hv, fl_take i h, show i * z + z = (i + 1) * z by rw [Nat.succ_mul], fl_drop (i + 1) h, List.set_eq_take_append_cons_drop, if_pos hi, List.flatMap_append, List.flatMap_cons, List.append_assoc]

section
variable {S : Sys} {m : List Nat} {e : Env} {s : St} {Q : Ex → Env → St → Prop} {all : List Oper} {draw : Bool} {masks : List Nat} {rest : List Oper} {o : Oper} {i : Nat} {met : List Met}

theorem RO.idxM {t k b off len z : Nat} {a c : Operand} {ti te : TI} {n : Int} {kk : IntKind} (hop : o.op = .indexAddr t a c) (hw : wantedA all e o = some true) (ha : ev e a = some (.ms b off len z)) (hb : ev e c = some (.int kk n)) (h0 : 0 ≤ n) (h1 : n < len) (ht : S.T.get t = some ti) (hk : ti.kd = .slice k) (he : S.T.get k = some te) (hz : z = te.size)
    (h : RO S m all draw Q masks.tail rest (i + 1) met (putA e o.dst (.ptr b (off + n.toNat * te.size))) s) : RO S m all draw Q masks (o :: rest) i met e s :=
  RO.still hw (by simp only [isStill, hop]) (by rw [hop]; simp only [stillOp, ha, hb, indexAddrA, ht, asIdx, hk, he, h0, h1, hz, decide_true, beq_self_eq_true, Bool.and_self]) (by simp [readsHeap, hop]) h

/-- An element of a mutable slice is read. -/
theorem RO.ldM {t b n : Nat} {a : Operand} {ti : TI} {xs cs : List AV} {fz : Bool} (hop : o.op = .load t a) (hw : wantedA all e o = some true) (ha : ev e a = some (.ptr b (0 + n * ti.size))) (hh : s.heap.get b = some (.cells (xs.flatMap cellsOf) fz)) (hs : ∀ x ∈ xs, (cellsOf x).length = ti.size) (hx : xs[n]? = some (.agg cs)) (ht : S.T.get t = some ti) (hg : ti.agg = true)
    (hok : (!(draw && readsHeap o.op) || okRead S.C (masks.headD 0) e o.op (.agg cs) met) = true) (h : RO S m all draw Q masks.tail rest (i + 1) (metS draw o i e (.agg cs) met) (putA e o.dst (.agg cs)) s) : RO S m all draw Q masks (o :: rest) i met e s := by
  refine RO.st hw (by simp only [isStill, hop]) ?_ hok h
  have hi := (List.getElem?_eq_some_iff.1 hx).1
  have hle : n * ti.size + ti.size ≤ (xs.flatMap cellsOf).length := by
    rw [fl_length hs, ← Nat.succ_mul]; exact Nat.mul_le_mul_right _ hi
  have hat := fl_at hs hx
  rw [hop]
  simp only [stillOp, ha, loadA, ht, hh, loadCellsA, hg, Nat.zero_add, hle, decide_true, hat]
  rfl

/-- An element of a mutable slice is written. -/
theorem store_ms {T : Tr TI} {t b n : Nat} {ti : TI} {xs cs : List AV} (hh : s.heap.get b = some (.cells (xs.flatMap cellsOf) false)) (ht : T.get t = some ti) (hs : ∀ x ∈ xs, (cellsOf x).length = ti.size) (hn : n < xs.length) (hc : cs.length = ti.size) (hf : cs.all isFlat = true) :
    storeA T s t (.ptr b (0 + n * ti.size)) (.agg cs) = some { s with heap := s.heap.set b (.cells ((xs.set n (.agg cs)).flatMap cellsOf) false) } := by
  have hle : n * ti.size + ti.size ≤ (xs.flatMap cellsOf).length := by
    rw [fl_length hs, ← Nat.succ_mul]; exact Nat.mul_le_mul_right _ hn
  have hsp := fl_splice (v := .agg cs) hs hn hc
  simp only [storeA, ht, hh, Nat.zero_add, hc, hle, hf, hsp, cellsOf, decide_true, beq_self_eq_true, Bool.and_self]
  rw [← hsp]; rfl

theorem srcElems_of {te : TI} {y : AV} {xs : List AV} (hy : SlA y xs) (h : ∀ x ∈ xs, (cellsOf x).length = te.size) : srcElems s te y = some xs := by
  rcases hy with ⟨rfl, rfl⟩ | ⟨k, rfl⟩
  · rfl
  · exact srcElems_sl h

/-- Elements are appended to nothing, into a slice that is written later. -/
theorem RO.appendM {hp : Tr Blk} {nx nt nx' : Nat} {lv : Tr Bool} {c : Call} {t u el : Nat} {ts : List Nat} {ti te : TI} {z : AV} {ys : List AV} (hn : nx + 1 = nx') (hop : o.op = .call c) (hc : c.callee = .builtin .append) (hs : isStill m o = false) (hw : wantedA all e o = some true) (hm : mutOf m o = true)
    (hargs : evs e c.args.toList = some [.nils, z]) (hts : c.argTypes.toList = t :: u :: ts) (ht : S.T.get t = some ti) (hk : ti.kd = .slice el) (he : S.T.get el = some te) (hu : notInt S.T u = true) (h0 : 0 < te.size) (hb : te.bytes ≤ 2 ^ 10)
    (hz : srcElems ⟨hp, nx, lv, nt⟩ te z = some ys) (hne : ys ≠ []) (hl : ys.length ≤ 2 ^ 32)
    (hok : (!draw || okLoud S.C (masks.headD 0) ⟨hp.set nx (.cells (ys.flatMap cellsOf) false), nx', lv, nt⟩ met) = true)
    (h : RO S m all draw Q masks.tail rest (i + 1) (metL draw i ⟨hp, nx, lv, nt⟩ met) (putA e o.dst (.ms nx 0 ys.length te.size)) ⟨hp.set nx (.cells (ys.flatMap cellsOf) false), nx', lv, nt⟩) :
    RO S m all draw Q masks (o :: rest) i met e ⟨hp, nx, lv, nt⟩ := by
  subst hn
  have ha : appendA te true ⟨hp, nx, lv, nt⟩ .nils ys = some (newMs ⟨hp, nx, lv, nt⟩ te.size ys) := by
    cases ys with
    | nil => exact absurd rfl hne
    | cons z ys =>
      have hr : roomA te (z :: ys).length = true := room_of hb hl
      simp only [appendA, hr]
  have hb' : builtinLoud S.C.T .append (mutOf m o) c.argTypes.toList [.nils, z] ⟨hp, nx, lv, nt⟩ = some (.ret (.ms nx 0 ys.length te.size), ⟨hp.set nx (.cells (ys.flatMap cellsOf) false), nx + 1, lv, nt⟩) := by
    rw [hm, hts]
    simp only [builtinLoud, elemTI, Sys.C, ht, hk, he, hu, h0, hz, ha, decide_true, Bool.and_self]
    rfl
  exact RO.loud hw hs (loud_builtin2 hop hc hargs hb') hok h

/-- Nothing is appended. -/
theorem RO.append0 {c : Call} {t u el : Nat} {ts : List Nat} {ti te : TI} {z : AV} {xs : List AV} {k : SK} (hop : o.op = .call c) (hc : c.callee = .builtin .append) (hs : isStill m o = false) (hw : wantedA all e o = some true)
    (hargs : evs e c.args.toList = some [.sl xs k, z]) (hts : c.argTypes.toList = t :: u :: ts) (ht : S.T.get t = some ti) (hk : ti.kd = .slice el) (he : S.T.get el = some te) (hu : notInt S.T u = true) (h0 : 0 < te.size)
    (hz : srcElems s te z = some []) (hok : (!draw || okLoud S.C (masks.headD 0) s met) = true)
    (h : RO S m all draw Q masks.tail rest (i + 1) (metL draw i s met) (putA e o.dst (.sl xs k)) s) : RO S m all draw Q masks (o :: rest) i met e s := by
  have ha : ∀ b, appendA te b s (.sl xs k) [] = some (.sl xs k, s) := fun b => rfl
  have hb' : builtinLoud S.C.T .append (mutOf m o) c.argTypes.toList [.sl xs k, z] s = some (.ret (.sl xs k), s) := by
    rw [hts]
    simp only [builtinLoud, elemTI, Sys.C, ht, hk, he, hu, h0, hz, ha, decide_true, Bool.and_self]
  exact RO.loud hw hs (loud_builtin2 hop hc hargs hb') hok h
end

/-! ### A mutable slice in an answer -/
def Pts (Z : AV → AV → Prop) : List AV → List AV → Prop
  | [], b => b = []
  | x :: xs, b => ∃ y ys, (y = x ∨ Z x y) ∧ Pts Z xs ys ∧ b = y :: ys
/-- The same, but some slices stand asq their elements. -/
def Frz (Z : AV → AV → Prop) : AV → AV → Prop
  | .agg cs, b => b = .agg cs ∨ ∃ ds, Pts Z cs ds ∧ b = .agg ds
  | a, b => b = a ∨ Z a b

theorem Frz.vr {G H : Gh} {Z : AV → AV → Prop} (hle : G.Le H) (hZ : ∀ a b v, Z a b → VR G a v → VR H b v) : ∀ {a b : AV} {v : Value}, VR G a v → Frz Z a b → VR H b v := by
  intro a b v hv h
  cases a with
  | agg cs =>
    rcases h with rfl | ⟨ds, hd, rfl⟩
    · exact hv.mono hle
    · cases hv with
      | agg _ vs hvs =>
        refine .agg ds vs ?_
        have main : ∀ (cs ds : List AV) (vs : List Value), VRs G cs vs → Pts Z cs ds → VRs H ds vs := by
          intro cs
          induction cs with
          | nil => intro ds vs hvs hd; simp only [Pts] at hd; subst hd; cases hvs; exact .nil
          | cons c cs ih =>
            intro ds vs hvs hd
            obtain ⟨y, ys, hxy, hd', rfl⟩ := hd
            cases hvs with
            | cons _ v0 _ vs0 h1 h2 =>
              refine .cons _ _ _ _ ?_ (ih ys vs0 h2 hd')
              rcases hxy with rfl | hz
              · exact h1.mono hle
              · exact hZ _ _ _ hz h1
        exact main cs ds vs hvs hd
  | _ =>
    rcases h with rfl | hz
    · exact hv.mono hle
    · exact hZ _ _ _ hz hv

def FrzR (Z : AV → AV → Prop) : Res → Res → Prop
  | .ret a, r => ∃ b, Frz Z a b ∧ r = .ret b
  | .pan a, r => r = .pan a

theorem CallDet.freeze {S : Sys} {f : Nat} {args : List AV} {s s1 : St} {r r' : Res} {b z : Nat} {xs : List AV} (h : CallDet S f args s r s1) (hb : s1.heap.get b = some (.cells (xs.flatMap cellsOf) false)) (hs : ∀ x ∈ xs, (cellsOf x).length = z)
    (hr : FrzR (fun x y => x = .ms b 0 xs.length z ∧ y = .sl xs .dead) r r') : CallDet S f args s r' { s1 with heap := s1.heap.set b (.cells (xs.flatMap cellsOf) true), live := (s1.live.set s1.nt true).set s1.nt false, nt := s1.nt + 1 } := by
  intro K w0 hK G w vs hw hg hvs
  refine (h K w0 hK G w vs hw hg hvs).mono ?_
  rintro e w2 ⟨Ge, hle, hwe, hres⟩
  obtain ⟨⟨c, n⟩, hρ⟩ := hwe.hmap b _ hb
  obtain ⟨arr, T, fr, p1, p2, p3, p4, p5⟩ := hwe.cells b _ false c n hb hρ
  have h1 := hwe.freeze hb hρ (xs.flatMap cellsOf).length n (Nat.le_refl _) (Nat.le_refl _) p1
  have hle2 := Gh.le_frozen hwe hb hρ (xs.flatMap cellsOf).length (fun o => arr[o]?) n
  rw [List.take_length] at h1
  have h2 := h1.dropTag s1.nt
  refine ⟨_, hle.trans hle2, h2, ?_⟩
  have hZ : ∀ (a b' : AV) (v : Value), (a = .ms b 0 xs.length z ∧ b' = .sl xs .dead) → VR Ge a v → VR (Ge.frozen c (xs.flatMap cellsOf).length (fun o => arr[o]?) s1.nt n) b' v := by
    rintro a b' v ⟨rfl, rfl⟩ hv
    cases hv with
    | ms _ _ _ _ c' n' cap hr' hl hc =>
      rw [hρ] at hr'; cases hr'
      refine .sl xs .dead c 0 z xs.length cap (arr.toList.take (xs.flatMap cellsOf).length) hs (p4.mono hle2) (fun j hj => ?_) rfl hl trivial
      simp only [Gh.frozen]
      rw [List.length_take] at hj
      rw [if_pos (by first | rfl | trivial), if_pos (by omega), List.getElem?_take, if_pos (by omega)]
      simp
  cases r with
  | ret a =>
    obtain ⟨b', hb', rfl⟩ := hr
    obtain ⟨v, rfl, hv⟩ := hres
    exact ⟨v, rfl, Frz.vr hle2 hZ hv hb'⟩
  | pan a =>
    simp only [FrzR] at hr
    subst hr
    obtain ⟨v, rfl, hv⟩ := hres
    exact ⟨v, rfl, hv.mono hle2⟩
end Go.Am
namespace Go.Am
open Go.RowKit
/-- An answer in which slices stand that nobody writes any more. -/
theorem CallsTo.frz {S : Sys} {f : Nat} {args : List AV} {s : St} {R : Res → St → Prop} (h : CallsTo S f args s fun r s1 => R r s1 ∨ ∃ b z xs r', s1.heap.get b = some (.cells (xs.flatMap cellsOf) false) ∧ (∀ x ∈ xs, (cellsOf x).length = z) ∧ FrzR (fun x y => x = .ms b 0 xs.length z ∧ y = .sl xs .dead) r r' ∧
    R r' { s1 with heap := s1.heap.set b (.cells (xs.flatMap cellsOf) true), live := (s1.live.set s1.nt true).set s1.nt false, nt := s1.nt + 1 }) : CallsTo S f args s R := by
  obtain ⟨r, s1, h1, h2 | ⟨b, z, xs, r', h2, h3, h4, h5⟩⟩ := h
  · exact ⟨r, s1, h1, h2⟩
  · exact ⟨r', _, h1.freeze h2 h3 h4, h5⟩

section
variable {T : Tr TI} {h : Tr Blk} {e : Env} {a b : Operand} {x y : Int} {t u : Nat}
theorem add_op (ha : ev e a = some (.int .i64 x)) (hb : ev e b = some (.int .i64 y)) (h0 : -9223372036854775808 ≤ x + y) (h1 : x + y ≤ 9223372036854775807) : stillOp T h e (.binOp .add t a b u) = some (.int .i64 (x + y)) := by
  simp only [stillOp, ha, hb, binA, arithA, wrap_ok h0 h1, decide_true]
theorem sub_op (ha : ev e a = some (.int .i64 x)) (hb : ev e b = some (.int .i64 y)) (h0 : -9223372036854775808 ≤ x - y) (h1 : x - y ≤ 9223372036854775807) : stillOp T h e (.binOp .sub t a b u) = some (.int .i64 (x - y)) := by
  simp only [stillOp, ha, hb, binA, arithA, wrap_ok h0 h1, decide_true]
end

theorem srcElems_nil {s : St} {te : TI} {y : AV} {xs : List AV} (hy : SlA y xs) (h : xs = []) : srcElems s te y = some [] := by
  subst h
  rcases hy with ⟨rfl, _⟩ | ⟨k, rfl⟩ <;> rfl
end Go.Am
namespace Go.Am

section
variable {W : Univ}

theorem ofList_mem {α : Type} : ∀ {l : List (Nat × α)} {t : Nat} {v : α}, (Tr.ofList l).get t = some v → (t, v) ∈ l
  | [], t, v, h => by cases h
  | (k, x) :: l, t, v, h => by
    rw [Tr.ofList, Tr.get_cons] at h
    split at h
    · rename_i e; subst e; cases h; exact List.mem_cons_self ..
    · exact List.mem_cons_of_mem _ (ofList_mem h)

/-- What a pattern of a frame says. -/
theorem decEnv_ok (hW : W.Ok) {θ θ1 : Nat → Option Nat} (t0 : θ 0 = none) {e : XEnv W.U} {env : Env} (he : EnvX W θ e env) {a0 b0 n : Nat} : ∀ (l : List (Nat × Pat)) {z : Pat.Ts W.U (l.map (·.2))}, decEnv e l = some z →
    (∀ q ∈ tagsEnv e l, ∀ u, θ q.2 = some u → θ1 q.1 = some u) → Pat.lows a0 b0 n (l.map (·.2)) = true →
    ∃ avs : List (Nat × AV), (∀ t a, (t, a) ∈ avs → env.get t = some a ∧ Low b0 a) ∧ EnvX W θ1 (encEnv l z) (Tr.ofList avs)
  | [], z, h, _, _ => ⟨[], (fun t a hm => by cases hm), (fun t v hv => by cases (show none = some v from hv))⟩
  | (t, p) :: l, z, h, ht, hl => by
    simp only [decEnv] at h
    split at h
    · rename_i v hv
      obtain ⟨h1, h2⟩ := pair_some h
      simp only [List.map_cons, Pat.lows, Bool.and_eq_true] at hl
      have htl : tagsEnv e ((t, p) :: l) = Pat.tags (W := W) p v ++ tagsEnv e l := by simp only [tagsEnv, hv]
      rw [htl] at ht
      obtain ⟨avs, h3, h4⟩ := decEnv_ok hW t0 he l h2 (fun q hq => ht q (List.mem_append_right _ hq)) hl.2
      obtain ⟨a, h5, h6⟩ := he t v hv
      have h7 := Pat.dec_ok hW t0 (θ1 := θ1) p h1 h6 (fun q hq => ht q (List.mem_append_left _ hq))
      refine ⟨(t, a) :: avs, ?_, ?_⟩
      · intro t' a' hm
        rcases List.mem_cons.1 hm with hm | hm
        · cases hm
          exact ⟨h5, XR.low hW h7 fun b hb => (Pat.enc_ptrs p z.1 hl.1 b hb).2⟩
        · exact h3 t' a' hm
      · intro t' v' hv'
        simp only [encEnv, xget] at hv'
        rw [Tr.ofList, Tr.get_cons]
        cases hb : Nat.beq t' t with
        | true => rw [hb] at hv'; cases hv'; rw [if_pos (natbeq hb)]; exact ⟨a, rfl, h7⟩
        | false =>
          rw [hb] at hv'
          rw [if_neg (fun hh => by subst hh; rw [Nat.beq_refl] at hb; cases hb)]
          exact h4 t' v' hv'
    · cases h

theorem tagsEnv_low {a0 b0 n : Nat} {e : XEnv W.U} : ∀ (l : List (Nat × Pat)), Pat.lows a0 b0 n (l.map (·.2)) = true → ∀ q ∈ tagsEnv e l, 1 ≤ q.1 ∧ q.1 ≤ n
  | [], _, q, hq => by cases hq
  | (t, p) :: l, h, q, hq => by
    simp only [List.map_cons, Pat.lows, Bool.and_eq_true] at h
    simp only [tagsEnv] at hq
    split at hq
    · rcases List.mem_append.1 hq with hq | hq
      · exact Pat.tags_low p _ h.1 q hq
      · exact tagsEnv_low l h.2 q hq
    · cases hq
end

/-- Blocks up to a number. -/
def cutT (t : Tr Blk) : Nat → Tr Blk
  | 0 => .nil
  | n + 1 => match t.get n with
    | some b => (cutT t n).set n b
    | none => cutT t n
theorem cutT_get (t : Tr Blk) : ∀ (n b : Nat), (cutT t n).get b = if b < n then t.get b else none
  | 0, b => by simp [cutT, Tr.get_nil]
  | n + 1, b => by
    simp only [cutT]
    split
    · rename_i x hx
      rw [Tr.get_set]
      by_cases h : b = n
      · rw [if_pos h, if_pos (by omega), h, hx]
      · rw [if_neg h, cutT_get t n b]
        by_cases h2 : b < n
        · rw [if_pos h2, if_pos (by omega)]
        · rw [if_neg h2, if_neg (by omega)]
    · rename_i hx
      rw [cutT_get t n b]
      by_cases h : b = n
      · rw [if_neg (by omega), if_pos (by omega), h, hx]
      · by_cases h2 : b < n
        · rw [if_pos h2, if_pos (by omega)]
        · rw [if_neg h2, if_neg (by omega)]

section
variable {S : Sys} {M : XM} (hM : MOk S M) {ρ : Type} {y : ρ}
include hM

omit hM in
theorem t0_of {P : XP} {h0 : Tr Blk} {X : XSt P.W.U} {θ : Nat → Option Nat} {s : St} (hX : XSR P h0 X θ s) : θ 0 = none := by
  cases h1 : θ 0 with
  | none => rfl
  | some u => exact absurd rfl (hX.tag _ _ h1).2.2.1

/-- The cells of blocks that fit patterns. -/
theorem decH_own {h0 : Tr Blk} {X : XSt M.P.W.U} {θ θ1 : Nat → Option Nat} {s : St} (hX : XSR M.P h0 X θ s) {ps : List BPat} {z : BPat.Ts M.P.W.U ps} (h : Pat.decH (W := M.P.W) ps (X.heap.take ps.length) = some z)
    (ht : ∀ q ∈ Pat.tagsH (W := M.P.W) ps (X.heap.take ps.length), ∀ u, θ q.2 = some u → θ1 q.1 = some u) (j : Nat) (cs : XB M.P.W.U) (hj : (Pat.encH (W := M.P.W) ps z)[j]? = some cs) :
    ∃ asq, s.heap.get (M.P.nx + j) = some (.cells asq false) ∧ BlkR M.P.W θ1 cs asq := by
  obtain ⟨x, h1, h2⟩ := decH_get hM.W (t0_of hX) (θ1 := θ1) ps h ht j cs hj
  have hc' : X.heap[j]? = some x := by
    rw [List.getElem?_take] at h1
    split at h1
    · exact h1
    · cases h1
  obtain ⟨l, h3, h4⟩ := hX.own j x hc'
  exact ⟨l, h3, h2 l h4⟩

/-- What code comes to. -/
def CodeQ (S : Sys) (M : XM) {ρ : Type} (y : ρ) (K : Kont M.P ρ) : Ex → Env → St → Prop := fun ex env s => ∃ e X θ, EnvX M.P.W θ e env ∧ XSR M.P S.h X θ s ∧ X.nt ≠ 0 ∧ K ex e X = some y

/-- A frame and a state asq a loop's text says. -/
def LoopI (S : Sys) (M : XM) (L : LSpec) (x : L.St M.P.W.U) (env : Env) (s : St) : Prop := ∃ θ, EnvX M.P.W θ (encEnv (W := M.P.W) L.env x.2) env ∧ XSR M.P S.h ⟨Pat.encH (W := M.P.W) L.heap x.1, L.nt + 1⟩ θ s

theorem canon_ok {L : LSpec} {whole : Bool} {e : XEnv M.P.W.U} {X : XSt M.P.W.U} {θ : Nat → Option Nat} {env : Env} {s : St} {x : L.St M.P.W.U} (h : xcanon M.P whole L e X = some x) (he : EnvX M.P.W θ e env) (hX : XSR M.P S.h X θ s) :
    ∃ avs : List (Nat × AV), (∀ t a, (t, a) ∈ avs → env.get t = some a ∧ Low (M.P.nx + L.heap.length) a) ∧ L.heap.length ≤ X.heap.length ∧ (whole = true → L.heap.length = X.heap.length) ∧
      (∀ s2 : St, s2.next = M.P.nx + L.heap.length → s2.live = s.live → s2.nt = s.nt → (∀ b, b < M.P.nx + L.heap.length → s2.heap.get b = s.heap.get b) → (∀ b, M.P.nx + L.heap.length ≤ b → s2.heap.get b = none) → LoopI S M L x (Tr.ofList avs) s2) ∧
      (∀ j cs, (Pat.encH (W := M.P.W) L.heap x.1)[j]? = some cs → ∃ asq, s.heap.get (M.P.nx + j) = some (.cells asq false) ∧ Lows (M.P.nx + L.heap.length) asq) := by
  have hW := hM.W
  have t0 := t0_of hX
  unfold xcanon at h
  split at h
  · rename_i hok
    simp only [Bool.and_eq_true] at hok
    obtain ⟨⟨hL, hlen⟩, htok⟩ := hok
    simp only [LSpec.ok, Bool.and_eq_true] at hL
    obtain ⟨h1, h2⟩ := pair_some h
    generalize hPL : Pat.tagsH (W := M.P.W) L.heap (X.heap.take L.heap.length) ++ tagsEnv (W := M.P.W) e L.env = PL at htok
    let θ1 := θof PL θ
    have htags : ∀ q ∈ PL, ∀ u, θ q.2 = some u → θ1 q.1 = some u := fun q hq u hu => θof_of htok hq hu
    obtain ⟨avs, h3, h4⟩ := decEnv_ok hW t0 (θ1 := θ1) he L.env h2 (fun q hq => htags q (by rw [← hPL]; exact List.mem_append_right _ hq)) hL.1
    have hown := decH_own hM (θ1 := θ1) hX h1 (fun q hq => htags q (by rw [← hPL]; exact List.mem_append_left _ hq))
    have hle : L.heap.length ≤ X.heap.length := by
      cases whole with
      | true => exact Nat.le_of_eq (natbeq hlen)
      | false => exact Nat.le_of_ble_eq_true hlen
    have hptr : ∀ (j : Nat) cs, (Pat.encH (W := M.P.W) L.heap x.1)[j]? = some cs → ∀ b ∈ ptrsB cs, b < M.P.nx + L.heap.length := fun j c hc b hb => (encH_ptrs hW L.heap x.1 hL.2 j c hc b hb).2
    refine ⟨avs, h3, hle, fun hw => by subst hw; exact natbeq hlen, fun s2 e1 e2 e3 e4 e5 => ⟨θ1, h4, ?_⟩, fun j cs hj => ?_⟩
    · exact {
        next := by rw [e1, encH_length]
        low := fun b hb => by rw [e4 b (by omega)]; exact hX.low b hb
        own := fun j cs hj => by
          obtain ⟨asq, h5, h6⟩ := hown j cs hj
          have hjl := (List.getElem?_eq_some_iff.1 hj).1
          rw [encH_length] at hjl
          exact ⟨asq, by rw [e4 _ (by omega)]; exact h5, h6⟩
        high := fun b hb => e5 b (by rw [← e1]; exact hb)
        tag := fun t u ht => by
          obtain ⟨t', h5, h6⟩ := θof_mem ht
          have h7 := hX.tag _ _ h6
          have h8 : 1 ≤ t ∧ t ≤ L.nt := by
            rw [← hPL] at h5
            rcases List.mem_append.1 h5 with h5 | h5
            · exact tagsH_low _ _ hL.2 _ h5
            · exact tagsEnv_low _ hL.1 _ h5
          exact ⟨by rw [e2]; exact h7.1, by rw [e3]; exact h7.2.1, by omega, by show t < L.nt + 1; omega⟩
        inj := fun t t' u h5 h6 => θof_inj htok t0 hX.inj h5 h6 }
    · obtain ⟨asq, h5, h6⟩ := hown j cs hj
      exact ⟨asq, h5, BlkR.low hW h6 (hptr j cs hj)⟩
  · cases h

omit hM in
theorem sub_of_avs {avs : List (Nat × AV)} {env : Env} (h : ∀ t a, (t, a) ∈ avs → env.get t = some a) : Sub (Tr.ofList avs) env := fun t v hv => h t v (ofList_mem hv)

theorem xC_ok {orc : Orc M} (horc : ∀ i, SigOk S M.P (M.sp i) (orc i)) {lps : Nat → Option LSpec} {m : List Nat} {n : Nat} :
    ∀ (c : Code) (p : Nat) (e : XEnv M.P.W.U) (X : XSt M.P.W.U) (K : Kont M.P ρ), xC lps m orc n c p e X K = some y → ∀ (θ : Nat → Option Nat) (env : Env) (s : St), EnvX M.P.W θ e env → XSR M.P S.h X θ s → X.nt ≠ 0 → EvC S m c env s (CodeQ S M y K) := by
  intro c
  induction c with
  | skip => intro p e X K h θ env s he hX hnt; exact .skip ⟨e, X, θ, he, hX, hnt, h⟩
  | label l => intro p e X K h θ env s he hX hnt; exact .label ⟨e, X, θ, he, hX, hnt, h⟩
  | exit id => intro p e X K h θ env s he hX hnt; exact .exit ⟨e, X, θ, he, hX, hnt, h⟩
  | ret => intro p e X K h θ env s he hX hnt; exact .ret ⟨e, X, θ, he, hX, hnt, h⟩
  | seq a b iha ihb =>
    intro p e X K h θ env s he hX hnt
    simp only [xC] at h
    refine .seq ((iha _ _ _ _ h θ env s he hX hnt).mono ?_)
    rintro ex env' s' ⟨e', X', θ', h1, h2, h3, h4⟩
    cases ex with
    | normal => exact ihb _ _ _ _ h4 θ' env' s' h1 h2 h3
    | _ => exact ⟨e', X', θ', h1, h2, h3, h4⟩
  | cond x a b iha ihb =>
    intro p e X K h θ env s he hX hnt
    simp only [xC] at h
    split at h
    · rename_i hx
      obtain ⟨v, h1, h2⟩ := xev_ok he hx
      simp only [XR] at h2
      subst h2
      exact .cond true h1 (fun _ => iha _ _ _ _ h θ env s he hX hnt) (fun hh => by cases hh)
    · rename_i hx
      obtain ⟨v, h1, h2⟩ := xev_ok he hx
      simp only [XR] at h2
      subst h2
      exact .cond false h1 (fun hh => by cases hh) (fun _ => ihb _ _ _ _ h θ env s he hX hnt)
    · rename_i c hx
      obtain ⟨v, h1, h2⟩ := xev_ok he hx
      obtain ⟨c', hc'⟩ : ∃ c' : Bool, c' = c := ⟨c, rfl⟩
      have h3 : v = .bool c' := by
        have : dd v = .bool c' := by rw [hc']; simpa only [XR, encD] using h2
        exact dd_bool this
      subst h3
      have hbr : ∀ {t u : Option ρ}, brB c t u = some y → (c' = true ∧ t = some y) ∨ (c' = false ∧ u = some y) := fun h => by rw [hc']; exact brB_some h
      rcases hbr h with ⟨e1, h⟩ | ⟨e1, h⟩
      · exact .cond c' h1 (fun _ => iha _ _ _ _ h θ env s he hX hnt) (fun hh => by rw [e1] at hh; cases hh)
      · exact .cond c' h1 (fun hh => by rw [e1] at hh; cases hh) (fun _ => ihb _ _ _ _ h θ env s he hX hnt)
    · cases h
  | block id a iha =>
    intro p e X K h θ env s he hX hnt
    simp only [xC] at h
    refine .block ((iha _ _ _ _ h θ env s he hX hnt).mono ?_)
    rintro ex env' s' ⟨e', X', θ', h1, h2, h3, h4⟩
    cases ex with
    | exit j =>
      simp only [blkK] at h4
      simp only [blockQ]
      split at h4
      · rename_i hj
        rw [show (j == id) = true by rw [beq_iff_eq]; exact natbeq hj]
        exact ⟨e', X', θ', h1, h2, h3, h4⟩
      · rename_i hj
        have : (j == id) = false := by
          cases hh : j == id with
          | false => rfl
          | true => rw [beq_iff_eq] at hh; subst hh; rw [Nat.beq_refl] at hj; cases hj
        rw [this]
        exact ⟨e', X', θ', h1, h2, h3, h4⟩
    | _ => exact ⟨e', X', θ', h1, h2, h3, h4⟩
  | loop a iha =>
    intro p e X K h θ env s he hX hnt
    simp only [xC] at h
    split at h
    · rename_i L hL
      split at h
      · rename_i x hx
        obtain ⟨avs, h1, h2, h3, h4, _⟩ := canon_ok hM hx he hX
        have hlen := h3 rfl
        refine EvC.loop_inv (fun k env s => ∃ x, LoopI S M L x env s ∧ xloop L (fun e X K => xC lps m orc n a (2 * p) e X K) K k x = some y) ?_ n (Tr.ofList avs) ⟨x, h4 s (by rw [hX.next, hlen]) rfl rfl (fun _ _ => rfl) (fun b hb => hX.high b (by rw [hX.next, ← hlen]; exact hb)), h⟩ (sub_of_avs fun t a hm => (h1 t a hm).1)
        rintro k env1 s1 ⟨x1, ⟨θ1, i1, i2⟩, i3⟩
        cases k with
        | zero => cases i3
        | succ k =>
          simp only [xloop, xround] at i3
          refine (iha _ _ _ _ i3 θ1 env1 s1 i1 i2 (Nat.succ_ne_zero _)).mono ?_
          rintro ex env2 s2 ⟨e2, X2, θ2, j1, j2, j3, j4⟩
          cases ex with
          | normal =>
            simp only [lpK] at j4
            split at j4
            · rename_i x2 hx2
              obtain ⟨avs2, g1, g2, _, g4, g5⟩ := canon_ok hM hx2 j1 j2
              have hn1 : s1.next = M.P.nx + L.heap.length := by rw [i2.next, encH_length]
              refine ⟨k, Nat.lt_succ_self k, Tr.ofList avs2, ⟨cutT s2.heap s1.next, s1.next, s2.live, s2.nt⟩, ?_, x2, ?_, j4⟩
              · refine Wk.gc _ (sub_of_avs fun t a hm => (g1 t a hm).1) (by rw [hn1, j2.next]; omega) (fun b hb => by rw [cutT_get, if_pos hb]) (fun b hb _ => by rw [cutT_get, if_neg (by omega)]) (fun t v hv => by rw [hn1]; exact (g1 t v (ofList_mem hv)).2) ?_
                intro b cs f hb
                rw [cutT_get] at hb
                split at hb
                · rename_i hlt
                  by_cases hbn : b < M.P.nx
                  · left
                    rw [i2.low b hbn, ← j2.low b hbn]
                    exact hb
                  · right
                    have hj : b - M.P.nx < (Pat.encH (W := M.P.W) L.heap x2.1).length := by rw [encH_length]; omega
                    obtain ⟨asq, q1, q2⟩ := g5 _ _ (List.getElem?_eq_getElem hj)
                    rw [show M.P.nx + (b - M.P.nx) = b by omega, hb] at q1
                    cases q1
                    rw [hn1]
                    exact q2
                · cases hb
              · refine g4 _ hn1 rfl rfl (fun b hb => ?_) (fun b hb => ?_)
                · show (cutT _ _).get b = _
                  rw [cutT_get, if_pos (by omega)]
                · show (cutT _ _).get b = _
                  rw [cutT_get, if_neg (by omega)]
            · cases j4
          | _ => exact ⟨e2, X2, θ2, j1, j2, j3, j4⟩
      · cases h
    · cases h
  | region id ops draw =>
    intro p e X K h θ env s he hX hnt
    simp only [xC] at h
    refine .region hM.ok ?_
    exact xOps_ok hM horc (fun e X θ env s h1 h2 h3 h4 => ⟨e, X, θ, h1, h2, h3, h4⟩) _ 0 _ _ _ _ _ _ θ env s h he hX hnt (fun _ => .nil)
  | _ => intro p e X K h; simp only [xC] at h; cases h

omit hM in
theorem xresults_ok {P : XP} {h0 : Tr Blk} (hW : P.W.Ok) {X : XSt P.W.U} {θ : Nat → Option Nat} {s : St} (hX : XSR P h0 X θ s) {e : XEnv P.W.U} {env : Env} (he : EnvX P.W θ e env) : ∀ {rs : List ResultVar} {vs : List (XV P.W.U)}, xresults P X e rs = some vs → ∃ asq, resultsA P.T s env rs = some asq ∧ XRs P.W θ vs asq
  | [], vs, h => by cases h; exact ⟨[], rfl, rfl⟩
  | .tmp t :: rs, vs, h => by
    simp only [xresults] at h
    split at h
    · rename_i v vs' h1 h2
      cases h
      obtain ⟨a, h3, h4⟩ := he t v h1
      obtain ⟨asq, h5, h6⟩ := xresults_ok hW hX he h2
      exact ⟨a :: asq, by simp only [resultsA, h3, h5], a, asq, rfl, h4, h6⟩
    · cases h
  | .cell t ty :: rs, vs, h => by
    simp only [xresults] at h
    split at h
    · rename_i p hp
      split at h
      · rename_i v vs' h1 h2
        cases h
        obtain ⟨a, h3, h4⟩ := he t p hp
        obtain ⟨v', c, h5, h6, h7⟩ := xload_ok hW hX h1 h4
        cases h7
        obtain ⟨asq, h8, h9⟩ := xresults_ok hW hX he h2
        exact ⟨c :: asq, by simp only [resultsA, h3, h5 s.heap (fun _ _ _ => rfl) (fun _ _ _ _ _ => rfl), h8], c, asq, rfl, h6, h9⟩
      · cases h
    · cases h

omit hM in
theorem xpack_ok {W : Univ} {θ : Nat → Option Nat} {vs : List (XV W.U)} {asq : List AV} (h : XRs W θ vs asq) : XR W θ (xpack vs) (packA asq) := by
  cases vs with
  | nil => simp only [XRs] at h; subst h; simp [xpack, packA, XR, XRs]
  | cons v vs =>
    cases vs with
    | nil =>
      simp only [XRs] at h
      obtain ⟨a, asq', rfl, h1, rfl⟩ := h
      exact h1
    | cons w vs =>
      have h' := h
      simp only [XRs] at h
      obtain ⟨a, asq', rfl, h1, b, bs, rfl, h2⟩ := h
      simp only [xpack, packA, XR]
      exact ⟨_, rfl, h'⟩

omit hM in
theorem argEnv_ok {W : Univ} {θ : Nat → Option Nat} : ∀ {vs : List (XV W.U)} {asq : List AV} (i : Nat), XRs W θ vs asq → ∀ t v, xget (argEnv vs i) t = some v → ∃ a, i ≤ t ∧ t < i + asq.length ∧ asq[t - i]? = some a ∧ XR W θ v a
  | [], asq, i, h, t, v, hv => by cases (show none = some v from hv)
  | w :: vs, asq, i, h, t, v, hv => by
    simp only [XRs] at h
    obtain ⟨a, asq', rfl, h1, h2⟩ := h
    simp only [argEnv, xget] at hv
    cases hb : Nat.beq t i with
    | true =>
      rw [hb] at hv
      cases hv
      have := natbeq hb
      subst this
      exact ⟨a, Nat.le_refl _, by simp, by simp, h1⟩
    | false =>
      rw [hb] at hv
      obtain ⟨c, h3, h4, h5, h6⟩ := argEnv_ok (i + 1) h2 t v hv
      refine ⟨c, by omega, by simp only [List.length_cons]; omega, ?_, h6⟩
      rw [show t - i = (t - (i + 1)) + 1 by omega, List.getElem?_cons_succ]
      exact h5

omit hM in
theorem xfrzV_ok {P : XP} {h0 : Tr Blk} (hW : P.W.Ok) {X : XSt P.W.U} {θ : Nat → Option Nat} {s : St} (hX : XSR P h0 X θ s) {n b : Nat} {c : SC} {ys : List (c.D P.W.U)} {x : XV P.W.U} {a : AV} (h : xfrzV X n x = some (b, ⟨c, ys⟩, true)) (hx : XR P.W θ x a) :
    ∃ zs, P.nx + n ≤ b ∧ s.heap.get b = some (.cells (zs.flatMap cellsOf) false) ∧ (∀ z ∈ zs, (cellsOf z).length = scSize P.W c) ∧ a = .ms b 0 zs.length (scSize P.W c) ∧ XR P.W θ (.v (.sl c) ys) (.sl zs .dead) := by
  cases x with
  | ms b' c' lo k =>
    simp only [xfrzV] at h
    split at h
    · rename_i xs hb hxs
      have hb := Nat.le_of_ble_eq_true hb
      simp only [Option.some.injEq, Prod.mk.injEq, Sigma.mk.injEq, andB, Bool.and_eq_true] at h
      obtain ⟨rfl, ⟨rfl, h2⟩, h3, h4⟩ := h
      have h2 : xs = ys := eq_of_heq h2
      subst h2
      obtain ⟨zs, g1, g2, _, _⟩ := xarr_ok hX hxs
      have hl : zs.length = List.length xs := by rw [← dds_length zs, g2, List.length_map]
      have e1 : lo = 0 := natbeq h3
      have e2 : k = List.length xs := natbeq h4
      subst e1
      simp only [XR] at hx
      refine ⟨zs, hb, g1, dds_cells hW g2, by rw [hx, Nat.zero_mul, hl, e2], ?_⟩
      simp only [XR, encD, dd, g2]
    · cases h
  | _ => simp [xfrzV] at h

omit hM in
theorem xfrz1_ok {P : XP} {h0 : Tr Blk} (hW : P.W.Ok) {X : XSt P.W.U} {θ : Nat → Option Nat} {s : St} (hX : XSR P h0 X θ s) {n : Nat} : ∀ {xs ds : List (XV P.W.U)} {asq : List AV}, xfrz1 X n xs = some (ds, true) → XRs P.W θ xs asq →
    ∃ b z zs bs, P.nx + n ≤ b ∧ s.heap.get b = some (.cells (zs.flatMap cellsOf) false) ∧ (∀ x ∈ zs, (cellsOf x).length = z) ∧ Pts (fun x y => x = .ms b 0 zs.length z ∧ y = .sl zs .dead) asq bs ∧ XRs P.W θ ds bs
  | [], ds, asq, h, _ => by cases h
  | x :: xs, ds, asq, h, hx => by
    simp only [XRs] at hx
    obtain ⟨a, asq', rfl, h1, h2⟩ := hx
    have same : ∀ {Z : AV → AV → Prop} (l : List AV), Pts Z l l := fun {Z} l => by
      induction l with
      | nil => rfl
      | cons a l ih => exact ⟨a, l, .inl rfl, ih, rfl⟩
    simp only [xfrz1] at h
    split at h
    · rename_i b c ys ok hv
      simp only [Option.some.injEq, Prod.mk.injEq] at h
      obtain ⟨rfl, rfl⟩ := h
      obtain ⟨zs, g1, g2, g3, g4, g5⟩ := xfrzV_ok hW hX hv h1
      exact ⟨b, _, zs, .sl zs .dead :: asq', g1, g2, g3, ⟨_, _, .inr ⟨g4, rfl⟩, same asq', rfl⟩, _, _, rfl, g5, h2⟩
    · split at h
      · rename_i zs' ok hr
        simp only [Option.some.injEq, Prod.mk.injEq] at h
        obtain ⟨rfl, rfl⟩ := h
        obtain ⟨b, z, zs, bs, g1, g2, g3, g4, g5⟩ := xfrz1_ok hW hX hr h2
        exact ⟨b, z, zs, a :: bs, g1, g2, g3, ⟨_, _, .inl rfl, g4, rfl⟩, _, _, rfl, h1, g5⟩
      · cases h

omit hM in
theorem xfrz_ok {P : XP} {h0 : Tr Blk} (hW : P.W.Ok) {X : XSt P.W.U} {θ : Nat → Option Nat} {s : St} (hX : XSR P h0 X θ s) {n : Nat} {x v : XV P.W.U} {a : AV} (h : xfrz X n x = some (v, true)) (hx : XR P.W θ x a) :
    ∃ b z zs a', P.nx + n ≤ b ∧ s.heap.get b = some (.cells (zs.flatMap cellsOf) false) ∧ (∀ x ∈ zs, (cellsOf x).length = z) ∧ FrzR (fun x y => x = .ms b 0 zs.length z ∧ y = .sl zs .dead) (.ret a) (.ret a') ∧ XR P.W θ v a' := by
  have flat : (match xfrzV X n x with
      | some (_, ⟨c, ys⟩, ok) => some ((.v (.sl c) ys : XV P.W.U), ok)
      | none => none) = some (v, true) → ∃ b z zs a', P.nx + n ≤ b ∧ s.heap.get b = some (.cells (zs.flatMap cellsOf) false) ∧ (∀ x ∈ zs, (cellsOf x).length = z) ∧ FrzR (fun x y => x = .ms b 0 zs.length z ∧ y = .sl zs .dead) (.ret a) (.ret a') ∧ XR P.W θ v a' := fun h => by
    split at h
    · rename_i b c ys ok hv
      simp only [Option.some.injEq, Prod.mk.injEq] at h
      obtain ⟨rfl, rfl⟩ := h
      obtain ⟨zs, g1, g2, g3, g4, g5⟩ := xfrzV_ok hW hX hv hx
      refine ⟨b, _, zs, .sl zs .dead, g1, g2, g3, ⟨_, ?_, rfl⟩, g5⟩
      subst g4
      exact .inr ⟨rfl, rfl⟩
    · cases h
  cases x with
  | agg cs =>
    simp only [xfrz] at h
    split at h
    · rename_i ds ok hd
      simp only [Option.some.injEq, Prod.mk.injEq] at h
      obtain ⟨rfl, rfl⟩ := h
      simp only [XR] at hx
      obtain ⟨asq, rfl, h1⟩ := hx
      obtain ⟨b, z, zs, bs, g1, g2, g3, g4, g5⟩ := xfrz1_ok hW hX hd h1
      exact ⟨b, z, zs, .agg bs, g1, g2, g3, ⟨_, .inr ⟨bs, g4, rfl⟩, rfl⟩, XR.mkAgg g5⟩
    · cases h
  | _ => exact flat h

theorem xdone_ok {E : ESpec M.P.W} {X : XSt M.P.W.U} {θ : Nat → Option Nat} {s s2 : St} {v : XV M.P.W.U} {a : AV} {r : E.ρ} (h : xdone M.P E v X = some r) (hv : XR M.P.W θ v a) (hX : XSR M.P S.h X θ s)
    (hh : ∀ b, b < M.P.nx + E.cout.length → s2.heap.get b = s.heap.get b) (hl : ∀ u, u < s.nt → s2.live.get u = s.live.get u) (hn : s.nt ≤ s2.nt) : ∃ θ', XPost M.P E (E.upk r) θ' a s2 := by
  have hW := hM.W
  unfold xdone at h
  split at h
  · rename_i r' cs hok hr' hcs
    cases h
    rw [Bool.and_eq_true] at hok
    obtain ⟨hok, htok⟩ := hok
    simp only [ESpec.ok, Bool.and_eq_true] at hok
    obtain ⟨⟨⟨⟨hl1, hl2⟩, hl3⟩, hl4⟩, hl5⟩ := hok
    generalize hPL : Pat.tagsH E.cout (X.heap.take E.cout.length) ++ Pat.tags E.rout v = PL at htok
    have t0 := t0_of hX
    have htags : ∀ q ∈ PL, ∀ u, θ q.2 = some u → θof PL θ q.1 = some u := fun q hq u hu => θof_of htok hq hu
    refine ⟨θof PL θ, ?_⟩
    rw [E.pu]
    exact {
      ret := Pat.dec_ok hW t0 E.rout hr' hv (fun q hq => htags q (by rw [← hPL]; exact List.mem_append_right _ hq))
      own := fun j c hj => by
        obtain ⟨asq, g1, g2⟩ := decH_own hM hX hcs (fun q hq => htags q (by rw [← hPL]; exact List.mem_append_left _ hq)) j c hj
        have hjl := (List.getElem?_eq_some_iff.1 hj).1
        rw [encH_length] at hjl
        exact ⟨asq, by rw [hh _ (by omega)]; exact g1, g2⟩
      tag := fun t u ht => by
        obtain ⟨t', q1, q2⟩ := θof_mem ht
        have q3 := hX.tag _ _ q2
        have q4 : 1 ≤ t ∧ t ≤ E.ntout := by
          rw [← hPL] at q1
          rcases List.mem_append.1 q1 with q1 | q1
          · exact tagsH_low _ _ hl5 _ q1
          · exact Pat.tags_low _ _ hl4 _ q1
        exact ⟨by rw [hl u q3.2.1]; exact q3.1, by omega, by omega, q4.2⟩
      inj := fun t t' u q1 q2 => θof_inj htok t0 hX.inj q1 q2 }
  · cases (show none = some r from h)

theorem fun_ok {orc : Orc M} (horc : ∀ i, SigOk S M.P (M.sp i) (orc i)) (n : Nat) (E : ESpec M.P.W) : SigOk S M.P E (fun x => xrun orc n E x) := by
  intro x r hr θ s args hX hargs
  have hW := hM.W
  have hT := hM.T
  unfold xrun at hr
  split at hr
  · rename_i fn hfn
    refine CallsTo.frz ?_
    refine CallsTo.fn_ hM.ok (hM.F _ _ hfn) ?_
    have he : EnvX M.P.W θ (argEnv (Pat.encs (W := M.P.W) E.ain x.2) 0) (initEnv args 0 .nil) := fun t v hv => by
      obtain ⟨a, h1, h2, h3, h4⟩ := argEnv_ok 0 hargs t v hv
      refine ⟨a, ?_, h4⟩
      rw [init_get, if_pos ⟨h1, h2⟩]
      exact h3
    refine (xC_ok hM horc _ _ _ _ _ hr θ _ s he hX (Nat.succ_ne_zero _)).mono ?_
    rintro ex env' s' ⟨e', X', θ', h1, h2, h3, h4⟩
    have key : xend M.P E fn e' X' = some r → ∃ q, finishA S.C fn env' s' = some q ∧ ((∃ a θ', q.1 = .ret a ∧ XPost M.P E (E.upk r) θ' a q.2) ∨ ∃ b z xs r', q.2.heap.get b = some (.cells (xs.flatMap cellsOf) false) ∧ (∀ x ∈ xs, (cellsOf x).length = z) ∧
        FrzR (fun x y => x = .ms b 0 xs.length z ∧ y = .sl xs .dead) q.1 r' ∧ ∃ a θ', r' = .ret a ∧ XPost M.P E (E.upk r) θ' a { q.2 with heap := q.2.heap.set b (.cells (xs.flatMap cellsOf) true), live := (q.2.live.set q.2.nt true).set q.2.nt false, nt := q.2.nt + 1 }) := by
      intro h
      unfold xend at h
      split at h
      · rename_i vs hfz hvs
        obtain ⟨asq, g1, g2⟩ := xresults_ok hW h2 h1 hvs
        have g3 := xpack_ok g2
        refine ⟨(.ret (packA asq), s'), by simp only [finishA, Sys.C, hT, g1, hfz], ?_⟩
        cases hfr : xfrz X' E.cout.length (xpack vs) with
        | some p =>
          obtain ⟨v, ok⟩ := p
          rw [hfr] at h
          obtain ⟨hok, h⟩ := chk_some h
          subst hok
          obtain ⟨b, z, zs, a', q1, q2, q3, q4, q5⟩ := xfrz_ok hW h2 hfr g3
          refine .inr ⟨b, z, zs, .ret a', q2, q3, q4, a', ?_⟩
          obtain ⟨θ'', q6⟩ := xdone_ok hM (s2 := { s' with heap := s'.heap.set b (.cells (zs.flatMap cellsOf) true), live := (s'.live.set s'.nt true).set s'.nt false, nt := s'.nt + 1 }) h q5 h2
            (fun b' hb' => by simp only []; rw [Tr.get_set_ne _ _ _ _ (by omega)])
            (fun u hu => by simp only []; rw [Tr.get_set_ne _ _ _ _ (by omega), Tr.get_set_ne _ _ _ _ (by omega)]) (Nat.le_succ _)
          exact ⟨θ'', rfl, q6⟩
        | none =>
          rw [hfr] at h
          obtain ⟨θ'', q6⟩ := xdone_ok hM (s2 := s') h g3 h2 (fun _ _ => rfl) (fun _ _ => rfl) (Nat.le_refl _)
          exact .inl ⟨packA asq, θ'', rfl, q6⟩
      · cases h
    cases ex with
    | normal => exact key h4
    | ret => exact key h4
    | exit id => cases h4
    | goto l => cases h4
    | pan v => cases h4
  · cases hr

/-- Every function of the table, with whatever fuel, is true. -/
theorem run_ok (hext : ∀ i m, M.ext i = some m → SigOk S M.P (M.sp i) m) : ∀ (n i : Nat), SigOk S M.P (M.sp i) (run M n i)
  | 0, i => fun x r hr => by cases hr
  | n + 1, i => by
    have e : run M (n + 1) i = (match M.ext i with
        | some m => m
        | none => fun x => xrun (run M n) n (M.sp i) x) := by
      funext x
      simp only [run]
      cases M.ext i <;> rfl
    rw [e]
    cases hx : M.ext i with
    | some m => exact hext i m hx
    | none => exact fun_ok hM (run_ok hext n) n (M.sp i)

end
end Go.Am
namespace Go.Am

inductive V where
  | mk (k n : Int) (s : ByteArray) (kids : List V)

def cmpI (a b : Int) : Int := if a < b then -1 else if a > b then 1 else 0
def cmpB (a b : ByteArray) : Int := Extern.BytealgCompare.cmp a b

mutual
def cmpV : V → V → Int
  | .mk k n s l, .mk k' n' s' l' =>
    if cmpI k k' ≠ 0 then cmpI k k' else if cmpI n n' ≠ 0 then cmpI n n' else if cmpB s s' ≠ 0 then cmpB s s' else cmpVs l l'
def cmpVs : List V → List V → Int
  | [], [] => 0
  | [], _ :: _ => -1
  | _ :: _, [] => 1
  | x :: xs, y :: ys => if cmpV x y ≠ 0 then cmpV x y else cmpVs xs ys
end

theorem cmpL_anti : ∀ a b : List UInt8, Lib.compareBytes b a = - Lib.compareBytes a b
  | [], [] => rfl
  | [], _ :: _ => rfl
  | _ :: _, [] => rfl
  | x :: a, y :: b => by
    unfold Lib.compareBytes
    have ih := cmpL_anti a b
    have h1 : x < y → ¬ y < x := fun h h' => absurd (UInt8.lt_trans h h') (UInt8.lt_irrefl x)
    by_cases h : x < y
    · simp [h, h1 h]
    · by_cases h' : y < x <;> simp [h, h', ih]
theorem cmpL_trans : ∀ a b c : List UInt8, Lib.compareBytes a b ≤ 0 → Lib.compareBytes b c ≤ 0 → Lib.compareBytes a c ≤ 0 ∧ (Lib.compareBytes a c = 0 → Lib.compareBytes a b = 0 ∧ Lib.compareBytes b c = 0)
  | [], [], [], _, _ => by simp [Lib.compareBytes]
  | [], [], _ :: _, _, _ => by simp [Lib.compareBytes]
  | [], _ :: _, [], _, h => by simp [Lib.compareBytes] at h
  | [], _ :: _, _ :: _, _, _ => by simp [Lib.compareBytes]
  | _ :: _, [], _, h, _ => by simp [Lib.compareBytes] at h
  | _ :: _, _ :: _, [], _, h => by simp [Lib.compareBytes] at h
  | x :: a, y :: b, z :: c, h, h' => by
    have ih := cmpL_trans a b c
    unfold Lib.compareBytes at h h' ⊢
    simp only [UInt8.lt_iff_toNat_lt] at h h' ⊢
    by_cases e1 : x.toNat < y.toNat
    · by_cases e2 : y.toNat < z.toNat
      · have : x.toNat < z.toNat := by omega
        simp [this]
      · by_cases e3 : z.toNat < y.toNat
        · simp [e2, e3] at h'
        · have : x.toNat < z.toNat := by omega
          simp [this]
    · by_cases e1' : y.toNat < x.toNat
      · simp [e1, e1'] at h
      · simp only [e1, e1', if_false] at h ⊢
        by_cases e2 : y.toNat < z.toNat
        · have : x.toNat < z.toNat := by omega
          simp [this]
        · by_cases e3 : z.toNat < y.toNat
          · simp [e2, e3] at h'
          · simp only [e2, e3, if_false] at h' ⊢
            have e4 : ¬ x.toNat < z.toNat := by omega
            have e5 : ¬ z.toNat < x.toNat := by omega
            simp only [e4, e5, if_false]
            exact ih h h'

theorem cmpB_anti (a b : ByteArray) : cmpB b a = - cmpB a b := by
  unfold cmpB; rw [Lib.cmp_eq, Lib.cmp_eq]; exact cmpL_anti _ _
theorem cmpB_trans (a b c : ByteArray) (h : cmpB a b ≤ 0) (h' : cmpB b c ≤ 0) : cmpB a c ≤ 0 ∧ (cmpB a c = 0 → cmpB a b = 0 ∧ cmpB b c = 0) := by
  unfold cmpB at h h' ⊢; rw [Lib.cmp_eq] at h h' ⊢; rw [Lib.cmp_eq, Lib.cmp_eq]; exact cmpL_trans _ _ _ h h'
theorem cmpI_anti (a b : Int) : cmpI b a = - cmpI a b := by
  unfold cmpI; split <;> split <;> (try split) <;> (try split) <;> omega
theorem cmpI_trans (a b c : Int) (h : cmpI a b ≤ 0) (h' : cmpI b c ≤ 0) : cmpI a c ≤ 0 ∧ (cmpI a c = 0 → cmpI a b = 0 ∧ cmpI b c = 0) := by
  unfold cmpI at *
  by_cases e1 : a < b <;> by_cases e2 : b < c <;> by_cases e3 : a < c <;> by_cases e4 : a > b <;> by_cases e5 : b > c <;> by_cases e6 : a > c <;> simp_all <;> omega

mutual
theorem cmpV_anti : ∀ v w : V, cmpV w v = - cmpV v w
  | .mk k n s l, .mk k' n' s' l' => by
    unfold cmpV
    have h1 := cmpI_anti k k'
    have h2 := cmpI_anti n n'
    have h3 := cmpB_anti s s'
    have h4 := cmpVs_anti l l'
    rw [h1, h2, h3, h4]
    simp only [ne_eq, Int.neg_eq_zero]
    split
    · rfl
    · split
      · rfl
      · split <;> rfl
theorem cmpVs_anti : ∀ v w : List V, cmpVs w v = - cmpVs v w
  | [], [] => rfl
  | [], _ :: _ => rfl
  | _ :: _, [] => rfl
  | x :: xs, y :: ys => by
    unfold cmpVs
    rw [cmpV_anti x y, cmpVs_anti xs ys]
    simp only [ne_eq, Int.neg_eq_zero]
    split <;> rfl
end

/-- One step of a lexicographic order. -/
theorem lex_trans {p q r p' q' r' : Int} (h1 : p ≤ 0 → q ≤ 0 → r ≤ 0 ∧ (r = 0 → p = 0 ∧ q = 0)) (h2 : p' ≤ 0 → q' ≤ 0 → r' ≤ 0 ∧ (r' = 0 → p' = 0 ∧ q' = 0))
    (_hz : p = 0 → q = 0 → r = 0) (hp : (if p ≠ 0 then p else p') ≤ 0) (hq : (if q ≠ 0 then q else q') ≤ 0) :
    (if r ≠ 0 then r else r') ≤ 0 ∧ ((if r ≠ 0 then r else r') = 0 → (if p ≠ 0 then p else p') = 0 ∧ (if q ≠ 0 then q else q') = 0) := by
  have hp0 : p ≤ 0 := by by_cases e : p = 0 <;> simp_all
  have hq0 : q ≤ 0 := by by_cases e : q = 0 <;> simp_all
  obtain ⟨a1, a2⟩ := h1 hp0 hq0
  by_cases e : r = 0
  · obtain ⟨b1, b2⟩ := a2 e
    simp only [e, b1, b2, ne_eq, not_true_eq_false, if_false] at hp hq ⊢
    exact h2 hp hq
  · rw [if_pos e]
    exact ⟨a1, fun h => absurd h e⟩

theorem zero_trans {f : Int} : f = 0 → f = 0 := id

theorem cmpI_zero {a b : Int} : cmpI a b = 0 ↔ a = b := by unfold cmpI; split <;> (try split) <;> omega
theorem cmpL_zero : ∀ {a b : List UInt8}, Lib.compareBytes a b = 0 → a = b
  | [], [], _ => rfl
  | [], _ :: _, h => by simp [Lib.compareBytes] at h
  | _ :: _, [], h => by simp [Lib.compareBytes] at h
  | x :: a, y :: b, h => by
    unfold Lib.compareBytes at h
    by_cases e1 : x < y
    · simp [e1] at h
    · by_cases e2 : y < x
      · simp [e1, e2] at h
      · simp only [e1, e2, if_false] at h
        rw [cmpL_zero h, UInt8.le_antisymm (UInt8.not_lt.1 e2) (UInt8.not_lt.1 e1)]
theorem cmpL_refl : ∀ a : List UInt8, Lib.compareBytes a a = 0
  | [] => rfl
  | x :: a => by unfold Lib.compareBytes; simp [UInt8.lt_irrefl, cmpL_refl a]
theorem cmpB_zero {a b : ByteArray} : cmpB a b = 0 ↔ a = b := by
  unfold cmpB
  rw [Lib.cmp_eq]
  constructor
  · intro h
    have := cmpL_zero h
    obtain ⟨⟨a⟩⟩ := a; obtain ⟨⟨b⟩⟩ := b
    simp at this; rw [this]
  · rintro rfl; exact cmpL_refl _

mutual
theorem cmpV_zero : ∀ {v w : V}, cmpV v w = 0 → v = w
  | .mk k n s l, .mk k' n' s' l', h => by
    unfold cmpV at h
    by_cases e1 : cmpI k k' = 0
    · by_cases e2 : cmpI n n' = 0
      · by_cases e3 : cmpB s s' = 0
        · simp only [e1, e2, e3, ne_eq, not_true_eq_false, if_false] at h
          rw [cmpI_zero.1 e1, cmpI_zero.1 e2, cmpB_zero.1 e3, cmpVs_zero h]
        · simp [e1, e2, e3] at h
      · simp [e1, e2] at h
    · simp [e1] at h
theorem cmpVs_zero : ∀ {v w : List V}, cmpVs v w = 0 → v = w
  | [], [], _ => rfl
  | [], _ :: _, h => by simp [cmpVs] at h
  | _ :: _, [], h => by simp [cmpVs] at h
  | x :: xs, y :: ys, h => by
    unfold cmpVs at h
    by_cases e : cmpV x y = 0
    · simp only [e, ne_eq, not_true_eq_false, if_false] at h
      rw [cmpV_zero e, cmpVs_zero h]
    · simp [e] at h
end

mutual
theorem cmpV_trans : ∀ u v w : V, cmpV u v ≤ 0 → cmpV v w ≤ 0 → cmpV u w ≤ 0 ∧ (cmpV u w = 0 → cmpV u v = 0 ∧ cmpV v w = 0)
  | .mk k n s l, .mk k' n' s' l', .mk k'' n'' s'' l'', h, h' => by
    unfold cmpV at h h' ⊢
    refine lex_trans (cmpI_trans k k' k'') (lex_trans (cmpI_trans n n' n'') (lex_trans (cmpB_trans s s' s'') (cmpVs_trans l l' l'') ?_) ?_) ?_ h h'
    · intro a b; rw [cmpB_zero] at *; rw [a, b]
    · intro a b; rw [cmpI_zero] at *; rw [a, b]
    · intro a b; rw [cmpI_zero] at *; rw [a, b]
theorem cmpVs_trans : ∀ u v w : List V, cmpVs u v ≤ 0 → cmpVs v w ≤ 0 → cmpVs u w ≤ 0 ∧ (cmpVs u w = 0 → cmpVs u v = 0 ∧ cmpVs v w = 0)
  | [], [], [], _, _ => by simp [cmpVs]
  | [], [], _ :: _, _, _ => by simp [cmpVs]
  | [], _ :: _, [], _, h => by simp [cmpVs] at h
  | [], _ :: _, _ :: _, _, _ => by simp [cmpVs]
  | _ :: _, [], _, h, _ => by simp [cmpVs] at h
  | _ :: _, _ :: _, [], _, h => by simp [cmpVs] at h
  | x :: xs, y :: ys, z :: zs, h, h' => by
    unfold cmpVs at h h' ⊢
    refine lex_trans (cmpV_trans x y z) (cmpVs_trans xs ys zs) ?_ h h'
    intro a b
    have e1 := cmpV_zero a
    have e2 := cmpV_zero b
    subst e1; subst e2
    exact a
end

/- A value out of an abstract value. -/
mutual
def decV : AV → Option V
  | .agg [.int .i64 k, .int .i64 n, .str s, .nils] => some (.mk k n s [])
  | .agg [.int .i64 k, .int .i64 n, .str s, .sl xs _] => match decVs xs, decide (xs.length < 2 ^ 62) with
    | some l, true => some (.mk k n s l)
    | _, _ => none
  | _ => none
def decVs : List AV → Option (List V)
  | [] => some []
  | x :: xs => match decV x, decVs xs with
    | some v, some l => some (v :: l)
    | _, _ => none
end

mutual
theorem dec_facts : ∀ (v : V) (a : AV), decV a = some v → decV (deaden a) = some v ∧ pureV a = true
  | .mk k n s l, a, h => by
    unfold decV at h
    split at h
    · cases h
      exact ⟨rfl, rfl⟩
    · rename_i k' n' s' xs kk
      split at h
      · rename_i l' hl hb
        cases h
        obtain ⟨h1, h2⟩ := decs_facts l xs hl
        exact ⟨by simp only [deaden, deadens, decV, h1, deadens_length, hb], by simp [pureV, pureVs, h2]⟩
      · cases h
    · cases h
theorem decs_facts : ∀ (l : List V) (xs : List AV), decVs xs = some l → decVs (deadens xs) = some l ∧ pureVs xs = true
  | [], xs, h => by
    cases xs with
    | nil => exact ⟨rfl, rfl⟩
    | cons x xs => simp only [decVs] at h; split at h <;> cases h
  | v :: l, xs, h => by
    cases xs with
    | nil => simp [decVs] at h
    | cons x xs =>
      simp only [decVs] at h
      split at h
      · rename_i v' l' hv hl
        cases h
        obtain ⟨h1, h2⟩ := dec_facts v x hv
        obtain ⟨h3, h4⟩ := decs_facts l xs hl
        exact ⟨by simp [deadens, decVs, h1, h3], by simp [pureVs, h2, h4]⟩
      · cases h
end

/-- The slice of a value's kids. -/
abbrev KidsA (y : AV) (xs : List AV) : Prop := SlA y xs

theorem dec_shape {a : AV} {v : V} (h : decV a = some v) : ∃ k n s l y xs, a = .agg [.int .i64 k, .int .i64 n, .str s, y] ∧ v = .mk k n s l ∧ KidsA y xs ∧ decVs xs = some l ∧ xs.length < 2 ^ 62 := by
  unfold decV at h
  split at h
  · cases h; exact ⟨_, _, _, _, _, [], rfl, rfl, .inl ⟨rfl, rfl⟩, rfl, by simp⟩
  · rename_i k' n' s' xs kk
    split at h
    · rename_i l' hl hb
      cases h
      exact ⟨_, _, _, _, _, xs, rfl, rfl, .inr ⟨kk, rfl⟩, hl, by simpa using hb⟩
    · cases h
  · cases h

theorem decs_length : ∀ {xs : List AV} {l : List V}, decVs xs = some l → xs.length = l.length
  | [], l, h => by simp only [decVs, Option.some.injEq] at h; subst h; rfl
  | x :: xs, l, h => by
    simp only [decVs] at h
    split at h
    · rename_i v' l' hv hl
      cases h
      simp [decs_length hl]
    · cases h
theorem decs_get : ∀ {xs : List AV} {l : List V} {i : Nat} (hi : i < l.length), decVs xs = some l → ∃ x, xs[i]? = some x ∧ decV x = some l[i]
  | [], l, i, hi, h => by simp only [decVs, Option.some.injEq] at h; subst h; simp at hi
  | x :: xs, l, i, hi, h => by
    simp only [decVs] at h
    split at h
    · rename_i v' l' hv hl
      cases h
      cases i with
      | zero => exact ⟨x, rfl, hv⟩
      | succ i =>
        obtain ⟨x', h1, h2⟩ := decs_get (xs := xs) (l := l') (i := i) (by simpa using hi) hl
        exact ⟨x', by simpa using h1, by simpa using h2⟩
    · cases h

mutual
def szV : V → Nat
  | .mk _ _ _ l => 1 + szVs l
def szVs : List V → Nat
  | [] => 0
  | v :: l => szV v + szVs l
end
theorem szVs_get : ∀ {l : List V} {i : Nat} (hi : i < l.length), szV l[i] ≤ szVs l
  | v :: l, 0, hi => by simp [szVs]
  | v :: l, i + 1, hi => by
    have := szVs_get (l := l) (i := i) (by simpa using hi)
    simp only [szVs, List.getElem_cons_succ]; omega

def cmpG : List AV → Option AV
  | [a, b] => match decV a, decV b with
    | some v, some w => some (.int .i64 (cmpV v w))
    | _, _ => none
  | _ => none
def cmpSize : List AV → Nat
  | a :: _ => match decV a with
    | some v => szV v
    | none => 0
  | _ => 0

theorem less_eq : ∀ a b : List UInt8, a ≠ b → (if Op.bytesLess a b then (-1 : Int) else 1) = Lib.compareBytes a b
  | [], [], h => absurd rfl h
  | [], _ :: _, _ => by simp [Op.bytesLess, Lib.compareBytes]
  | _ :: _, [], _ => by simp [Op.bytesLess, Lib.compareBytes]
  | x :: a, y :: b, h => by
    unfold Op.bytesLess Lib.compareBytes
    by_cases e1 : x < y
    · simp [e1]
    · by_cases e2 : y < x
      · have : x ≠ y := fun e => by subst e; exact e1 e2
        simp [e1, e2, this]
      · have e : x = y := UInt8.le_antisymm (UInt8.not_lt.1 e2) (UInt8.not_lt.1 e1)
        subst e
        have := less_eq a b (fun e => h (by rw [e]))
        simp only [e1, decide_false, Bool.false_or, beq_self_eq_true, Bool.true_and, if_false]
        exact this

section
variable {k n k' n' : Int} {s s' : ByteArray} {l l' : List V}
theorem cmpV_k (h : (k != k') = true) : (if decide (k < k') then (-1 : Int) else 1) = cmpV (.mk k n s l) (.mk k' n' s' l') := by
  have h : k ≠ k' := by simpa using h
  have e : cmpI k k' ≠ 0 := fun e => h (cmpI_zero.1 e)
  refine Eq.symm ?_
  unfold cmpV
  rw [if_pos e]
  unfold cmpI
  simp only [decide_eq_true_eq]
  split
  · rfl
  · rw [if_pos (by omega)]
theorem cmpV_n (hk : (k != k') = false) (h : (n != n') = true) : (if decide (n < n') then (-1 : Int) else 1) = cmpV (.mk k n s l) (.mk k' n' s' l') := by
  have hk : k = k' := by simpa using hk
  have h : n ≠ n' := by simpa using h
  have e : cmpI n n' ≠ 0 := fun e => h (cmpI_zero.1 e)
  refine Eq.symm ?_
  unfold cmpV
  rw [if_neg (by simp [cmpI_zero, hk]), if_pos e]
  unfold cmpI
  simp only [decide_eq_true_eq]
  split
  · rfl
  · rw [if_pos (by omega)]
theorem cmpV_s (hk : (k != k') = false) (hn : (n != n') = false) (h : (!(s.toList == s'.toList)) = true) : (if Op.bytesLess s.toList s'.toList then (-1 : Int) else 1) = cmpV (.mk k n s l) (.mk k' n' s' l') := by
  have hk : k = k' := by simpa using hk
  have hn : n = n' := by simpa using hn
  have h : s.toList ≠ s'.toList := by simpa using h
  have e : cmpB s s' ≠ 0 := fun e => h (by rw [cmpB_zero.1 e])
  refine Eq.symm ?_
  unfold cmpV
  rw [if_neg (by simp [cmpI_zero, hk]), if_neg (by simp [cmpI_zero, hn]), if_pos e, less_eq _ _ h]
  unfold cmpB
  rw [Lib.cmp_eq, Lib.toList_data, Lib.toList_data]
theorem cmpV_l (hk : (k != k') = false) (hn : (n != n') = false) (hs : (!(s.toList == s'.toList)) = false) : cmpVs l l' = cmpV (.mk k n s l) (.mk k' n' s' l') := by
  have hk : k = k' := by simpa using hk
  have hn : n = n' := by simpa using hn
  have hs : s = s' := by
    have : s.toList = s'.toList := by simpa using hs
    rw [Lib.toList_data, Lib.toList_data] at this
    obtain ⟨⟨a⟩⟩ := s; obtain ⟨⟨b⟩⟩ := s'
    simp at this; rw [this]
  unfold cmpV
  rw [if_neg (by simp [cmpI_zero, hk]), if_neg (by simp [cmpI_zero, hn]), if_neg (by simp [cmpB_zero, hs])]
theorem cmpVs_drop {i : Nat} (hi : i < l.length) (hi' : i < l'.length) : cmpVs (l.drop i) (l'.drop i) = if cmpV l[i] l'[i] ≠ 0 then cmpV l[i] l'[i] else cmpVs (l.drop (i + 1)) (l'.drop (i + 1)) := by
  rw [List.drop_eq_getElem_cons hi, List.drop_eq_getElem_cons hi']
  rfl
theorem cmpVs_end {i : Nat} (hi : i ≤ l.length) (hi' : i ≤ l'.length) (h : ¬ (i < l.length ∧ i < l'.length)) : cmpVs (l.drop i) (l'.drop i) = if l.length = l'.length then 0 else if l.length < l'.length then -1 else 1 := by
  by_cases e : i < l.length
  · have : l'.drop i = [] := List.drop_eq_nil_of_le (by omega)
    rw [this, List.drop_eq_getElem_cons e, if_neg (by omega), if_neg (by omega)]
    rfl
  · have e0 : l.drop i = [] := List.drop_eq_nil_of_le (by omega)
    by_cases e' : i < l'.length
    · rw [e0, List.drop_eq_getElem_cons e', if_neg (by omega), if_pos (by omega)]
      rfl
    · have : l'.drop i = [] := List.drop_eq_nil_of_le (by omega)
      rw [e0, this, if_pos (by omega)]
      rfl
end
theorem wrap_pos {n : Int} (h0 : 0 ≤ n) (h : n < 2 ^ 63) : IntKind.i64.wrap n = n := by
  simp [IntKind.wrap, IntKind.bits, IntKind.signed]
  omega

theorem dec_flat {x : AV} {v : V} (h : decV x = some v) : ∃ cs, x = .agg cs ∧ cs.length = 4 ∧ cs.all isFlat = true := by
  obtain ⟨k, n, s, l, y, xs, rfl, _, hy, _⟩ := dec_shape h
  rcases hy with ⟨rfl, _⟩ | ⟨kk, rfl⟩ <;> exact ⟨_, rfl, rfl, rfl⟩
theorem dec_cells {x : AV} {v : V} (h : decV x = some v) : (cellsOf x).length = 4 := by
  obtain ⟨cs, rfl, h4, _⟩ := dec_flat h; exact h4
theorem decs_cells : ∀ {xs : List AV} {l : List V}, decVs xs = some l → ∀ x ∈ xs, (cellsOf x).length = 4
  | [], _, _ => by simp
  | y :: ys, l, h => by
    simp only [decVs] at h
    split at h
    · rename_i v' l' hv hl
      intro x hx
      rcases List.mem_cons.1 hx with rfl | hx
      · exact dec_cells hv
      · exact decs_cells hl x hx
    · cases h
theorem decs_append : ∀ {xs ys : List AV} {l m : List V}, decVs xs = some l → decVs ys = some m → decVs (xs ++ ys) = some (l ++ m)
  | [], ys, l, m, h, hx => by simp only [decVs, Option.some.injEq] at h; subst h; exact hx
  | a :: xs, ys, l, m, h, hx => by
    simp only [decVs] at h
    split at h
    · rename_i v' l' hv hl
      cases h
      have := decs_append hl hx
      simp only [List.cons_append, decVs, hv, this]
    · cases h
theorem decs_snoc {xs : List AV} {l : List V} {x : AV} {v : V} (h : decVs xs = some l) (hx : decV x = some v) : decVs (xs ++ [x]) = some (l ++ [v]) :=
  decs_append h (by simp [decVs, hx])
theorem dec_mk {k n : Int} {s : ByteArray} {y : AV} {xs : List AV} {l : List V} (hy : SlA y xs) (hl : decVs xs = some l) (hb : xs.length < 2 ^ 62) : decV (.agg [.int .i64 k, .int .i64 n, .str s, y]) = some (.mk k n s l) := by
  rcases hy with ⟨rfl, rfl⟩ | ⟨kk, rfl⟩
  · simp only [decVs, Option.some.injEq] at hl; subst hl; rfl
  · simp only [decV, hl, decide_eq_true hb]
theorem dec_dead {a : AV} {v : V} (h : decV a = some v) : decV (deaden a) = some v := (dec_facts v a h).1
theorem dec_pure {a : AV} {v : V} (h : decV a = some v) : pureV a = true := (dec_facts v a h).2
theorem decs_dead {a : List AV} {v : List V} (h : decVs a = some v) : decVs (deadens a) = some v := (decs_facts v a h).1
theorem decs_pure {a : List AV} {v : List V} (h : decVs a = some v) : pureVs a = true := (decs_facts v a h).2
theorem dec_flat2 {cs : List AV} {v : V} (h : decV (.agg cs) = some v) : cs.all isFlat = true := by
  obtain ⟨cs2, e, _, h2⟩ := dec_flat h; cases e; exact h2
theorem decs_flat : ∀ {xs : List AV} {l : List V}, decVs xs = some l → (xs.flatMap cellsOf).all isFlat = true
  | [], _, _ => rfl
  | y :: ys, l, h => by
    simp only [decVs] at h
    split at h
    · rename_i v' l' hv hl
      obtain ⟨cs, rfl, _, h2⟩ := dec_flat hv
      rw [List.flatMap_cons, List.all_append, decs_flat hl]
      simpa [cellsOf] using h2
    · cases h
theorem len_le_sz : ∀ l : List V, l.length ≤ szVs l
  | [] => Nat.le_refl _
  | .mk k n s l' :: l => by
    have := len_le_sz l
    simp only [List.length_cons, szVs, szV]; omega
theorem szVs_set : ∀ {l : List V} {i : Nat} {w : V} (hi : i < l.length), szVs (l.set i w) + szV l[i] = szVs l + szV w
  | v :: l, 0, w, hi => by simp only [List.set_cons_zero, szVs, List.getElem_cons_zero]; omega
  | v :: l, i + 1, w, hi => by
    have := szVs_set (l := l) (i := i) (w := w) (by simpa using hi)
    simp only [List.set_cons_succ, szVs, List.getElem_cons_succ]; omega
theorem decs_set : ∀ {xs : List AV} {l : List V} {i : Nat} {x : AV} {w : V}, decVs xs = some l → decV x = some w → decVs (xs.set i x) = some (l.set i w)
  | [], l, i, x, w, h, _ => by simp only [decVs, Option.some.injEq] at h; subst h; rfl
  | y :: ys, l, 0, x, w, h, hx => by
    simp only [decVs] at h
    split at h
    · rename_i v' l' hv hl
      cases h
      simp only [List.set_cons_zero, decVs, hx, hl]
    · cases h
  | y :: ys, l, i + 1, x, w, h, hx => by
    simp only [decVs] at h
    split at h
    · rename_i v' l' hv hl
      cases h
      have := decs_set (i := i) hl hx
      simp only [List.set_cons_succ, decVs, hv, this]
    · cases h
end Go.Am
namespace Go.Am

def V.kind : V → Int
  | .mk k _ _ _ => k
def V.n : V → Int
  | .mk _ n _ _ => n
def V.s : V → ByteArray
  | .mk _ _ s _ => s
def V.kids : V → List V
  | .mk _ _ _ l => l
def V.re (v : V) : V := .mk v.kind v.n v.s v.kids
theorem V.re_eq (v : V) : v.re = v := by cases v; rfl
theorem V.eta (v : V) : V.mk v.kind v.n v.s v.kids = v := by cases v; rfl

mutual
def encV : V → AV
  | .mk k n s l => .agg [.int .i64 k, .int .i64 n, .str s, .sl (encVs l) .dead]
def encVs : List V → List AV
  | [] => []
  | v :: l => encV v :: encVs l
end

/-- The types of the values' programs. -/
def UV : Nat → Type
  | 0 => V
  | _ => Unit

def cellsUV : (n : Nat) → UV n → List (XV UV)
  | 0, v => [.v (.int .i64) (V.kind v), .v (.int .i64) (V.n v), .v .str (V.s v), .v (.sl (.st 0)) (V.kids v)]
  | _ + 1, _ => []

def ofV4 (a b c d : XV UV) : Option V := match asFlatU (.int .i64) a, asFlatU (.int .i64) b, asFlatU .str c, asFlatU (.sl (.st 0)) d with
  | some k, some n, some s, some l => some (V.mk k n s l)
  | _, _, _, _ => none

def ofV' : (n : Nat) → List (XV UV) → Option (UV n)
  | 0, cs => match cs with
    | [a, b, c, d] => ofV4 a b c d
    | _ => none
  | _ + 1, _ => none

def WV : Univ where
  U := UV
  size := fun n => match n with
    | 0 => 4
    | _ => 0
  cells := cellsUV
  of := ofV'
  enc := fun n => match n with
    | 0 => encV
    | _ => fun _ => .agg []

theorem encVs_map : ∀ l : List V, encVs l = l.map encV
  | [] => rfl
  | v :: l => by simp only [encVs, List.map_cons, encVs_map l]
mutual
theorem encV_pure : ∀ v : V, pureV (encV v) = true
  | .mk k n s l => by simp only [encV, pureV, pureVs, encVs_pure l, Bool.and_self]
theorem encVs_pure : ∀ l : List V, pureVs (encVs l) = true
  | [] => rfl
  | v :: l => by simp only [encVs, pureVs, encV_pure v, encVs_pure l, Bool.and_self]
end
theorem encD_vs (l : List V) : encD WV (.sl (.st 0)) l = .sl (encVs l) .dead := by
  rw [encVs_map]; rfl

theorem wv_ok : WV.Ok where
  cells := fun n x => match n, x with
    | 0, .mk k m s l => ⟨_, rfl, .int .i64, k, _, rfl, rfl, rfl, .int .i64, m, _, rfl, rfl, rfl, .str, s, _, rfl, rfl, rfl, .sl (.st 0), l, [], rfl, rfl, by rw [encD_vs], rfl⟩
    | _ + 1, _ => ⟨[], rfl, rfl⟩
  size := fun n x => match n, x with
    | 0, .mk _ _ _ _ => rfl
    | _ + 1, _ => rfl
  of := fun n cs x h θ asq' hx => by
    cases n with
    | succ n => cases h
    | zero =>
      have h : ofV' 0 cs = some x := h
      cases cs with
      | nil => cases h
      | cons a cs =>
        cases cs with
        | nil => cases h
        | cons b cs =>
          cases cs with
          | nil => cases h
          | cons c cs =>
            cases cs with
            | nil => cases h
            | cons d cs =>
              cases cs with
              | cons => cases h
              | nil =>
                have h : ofV4 a b c d = some x := h
                simp only [XRs] at hx
                obtain ⟨a1, _, rfl, ha, b1, _, rfl, hb, c1, _, rfl, hc, d1, _, rfl, hd, rfl⟩ := hx
                unfold ofV4 at h
                split at h
                · rename_i k n s l h1 h2 h3 h4
                  cases h
                  have e1 := asFlat_ok (W := WV) h1 ha
                  have e2 := asFlat_ok (W := WV) h2 hb
                  have e3 := asFlat_ok (W := WV) h3 hc
                  have e4 := asFlat_ok (W := WV) h4 hd
                  have e4' : dd d1 = .sl (encVs l) .dead := e4.trans (encD_vs l)
                  have e1' : dd a1 = .int .i64 k := e1
                  have e2' : dd b1 = .int .i64 n := e2
                  have e3' : dd c1 = .str s := e3
                  simp only [dds, e1', e2', e3', e4']
                  rfl
                · cases h
  pure := fun n x => match n, x with
    | 0, x => encV_pure x
    | _ + 1, _ => rfl
end Go.Am
namespace Go.Am
def nmB (l : List Nat) : ByteArray := ⟨(l.map UInt8.ofNat).toArray⟩
def noL : Nat → Option LSpec := fun _ => none
def findL : List LSpec → Nat → Option LSpec
  | [], _ => none
  | L :: r, p => match Nat.beq L.id p with
    | true => some L
    | false => findL r p
def loopsOf (l : List LSpec) : Nat → Option LSpec := findL l
def cI : Pat := .d (.int .i64)
def cB : Pat := .d .bool
def cS : Pat := .d .str
def cV : Pat := .d (.st 0)
def cVs : Pat := .d (.sl (.st 0))
def cIs : Pat := .d (.sl (.int .i64))
/-- A function of pure values with one answer. -/
def fn1 (fid : Nat) (ain : List Pat) (c : SC) (loops : Nat → Option LSpec) : ESpec WV where
  fid := fid
  cin := []
  ain := ain
  rout := .d c
  cout := []
  ntin := 0
  ntout := 0
  ρ := c.D UV
  pk := fun x => x.1
  upk := fun x => (x, ())
  pu := fun _ => rfl
  loops := loops
/-- A function that only reads one block without unknowns. -/
def fnR (fid : Nat) (cin : List BPat) (ain : List Pat) (c : SC) (loops : Nat → Option LSpec) : ESpec WV where
  fid := fid
  cin := cin
  ain := ain
  rout := .d c
  cout := cin
  ntin := 0
  ntout := 0
  ρ := c.D UV × BPat.Ts UV cin
  pk := fun x => x
  upk := fun x => x
  pu := fun _ => rfl
  loops := loops
def gPat : BPat := .one (.agg [cIs, cI])
/-- A method of a generator. -/
def fnG (fid : Nat) (ain : List Pat) (c : SC) (loops : Nat → Option LSpec) : ESpec WV where
  fid := fid
  cin := [gPat]
  ain := ain
  rout := .d c
  cout := [gPat]
  ntin := 0
  ntout := 0
  ρ := c.D UV × List Int × Int
  pk := fun x => (x.1, x.2.1.1, x.2.1.2.1)
  upk := fun x => (x.1, ((x.2.1, x.2.2, ()), ()))
  pu := fun _ => rfl
  loops := loops
/-- A function with a counter. -/
def fnC (fid : Nat) (cin : List BPat) (ain : List Pat) (c : SC) (loops : Nat → Option LSpec) : ESpec WV where
  fid := fid
  cin := [.one (.agg [cI])]
  ain := ain
  rout := .d c
  cout := [.one (.agg [cI])]
  ntin := 0
  ntout := 0
  ρ := c.D UV × Int
  pk := fun x => (x.1, x.2.1.1)
  upk := fun x => (x.1, ((x.2, ()), ()))
  pu := fun _ => rfl
  loops := loops
/-- A function with a counter behind a closure. -/
def fnC2 (fid : Nat) (cin : List BPat) (ain : List Pat) (c : SC) (loops : Nat → Option LSpec) : ESpec WV where
  fid := fid
  cin := [.one (.agg [.fn (.func 53) [] [.ptr 7 0]]), .one (.agg [cI])]
  ain := ain
  rout := .d c
  cout := [.one (.agg [.fn (.func 53) [] [.ptr 7 0]]), .one (.agg [cI])]
  ntin := 0
  ntout := 0
  ρ := c.D UV × Int
  pk := fun x => (x.1, x.2.2.1.1)
  upk := fun x => (x.1, ((((), ((), ())), ()), ((x.2, ()), ())))
  pu := fun _ => rfl
  loops := loops
end Go.Am
namespace Go.Am
open Go.RowKit Go.Shelf Go.Proofs

section
variable {P : Program} {NG : Nat} {B : Nat → Prop} {w0 w : World} {G : Gh} {s s' : St} {args : List AV} {vs : List Value} {r : Res} {ρ : Ren}

/-- What is done behind the last block alone leaves all asq it was. -/
theorem WR.behind (hw : WR B w0 G s w) {w2 : World} (hb : Below w.heap.size w w2) : WR B w0 G s w2 :=
  have hheap : ∀ c, c < w.heap.size → w2.heap[c]? = w.heap[c]? := fun c hc => hb.block c hc
  have hcell : ∀ c o, c < w.heap.size → w2.cell? ⟨c, o, none⟩ = w.cell? ⟨c, o, none⟩ := fun c o hc => World.cell?_of_block (hheap c hc)
  { below := hw.below.trans (Kept.of_below hb hw.hB)
    hB := fun c hc => Nat.lt_of_lt_of_le (hw.hB c hc) hb.size
    cells := fun b cs fz c n hb hr => by
      obtain ⟨arr, T, fr, h1, h2⟩ := hw.cells b cs fz c n hb hr
      exact ⟨arr, T, fr, (hheap c (hw.lt b c n hr).2).trans h1, h2⟩
    siter := fun b str pos c n hb hr => by
      obtain ⟨h1, h2⟩ := hw.siter b str pos c n hb hr
      exact ⟨(hheap c (hw.lt b c n hr).2).trans h1, h2⟩
    inj := hw.inj
    lt := fun b c n hr => ⟨(hw.lt b c n hr).1, Nat.lt_of_lt_of_le (hw.lt b c n hr).2 hb.size⟩
    imm := fun c o u e => by rw [hcell c o (hw.imm_lt e)]; exact hw.imm c o u e
    tags := fun t c e ce ht hτ => by
      obtain ⟨q1, q2, ⟨arr, T, lo, hi, q3, q4⟩, q5⟩ := hw.tags t c e ce ht hτ
      exact ⟨q1, q2, ⟨arr, T, lo, hi, (hheap c (Array.getElem?_eq_some_iff.1 q3).1).trans q3, q4⟩, q5⟩
    tdist := hw.tdist
    tlt := hw.tlt
    hlt := hw.hlt
    old := hw.old
    hmap := hw.hmap
    oldρ := hw.oldρ
    tdef := hw.tdef
    tlow := hw.tlow }

theorem CallDoes.of_calls {f : Nat} {fn : Func} {xs : Array Value} (hf : P.funcs[f]? = some fn) (hname : (fn.name == "runtime.NumGoroutine") = false) (hb : fn.body.isSome = true) {R : Ending → World → Prop} (h : Calls P f xs w R) : CallDoes P f xs w R := by
  have hname' : ¬ fn.name = "runtime.NumGoroutine" := by simpa using hname
  obtain ⟨b, hb⟩ := Option.isSome_iff_exists.1 hb
  have e : (callFunc f xs).run P w = .ok (.enter f xs) w := by
    unfold callFunc
    simp [hf, hname', hb]
  unfold CallDoes
  rw [e]
  exact h

theorem joinL_eq (sep : List UInt8) : ∀ l : List (List UInt8), joinL sep l = Lib.join l sep
  | [] => rfl
  | [x] => (Lib.join_one x sep).symm
  | x :: y :: r => by
    have := joinL_eq sep (y :: r)
    simp only [joinL, this, Lib.join]
    simp [List.intercalate, List.intersperse]

theorem strs_VRs : ∀ {xs : List AV} {us : List Value} {l : List ByteArray}, strsOf xs = some l → VRs G (xs.flatMap cellsOf) us → us = l.map Value.string ∧ xs.length = l.length
  | [], us, l, h, hv => by
    simp only [strsOf, Option.some.injEq] at h
    subst h
    simp only [List.flatMap_nil] at hv
    cases hv
    exact ⟨rfl, rfl⟩
  | x :: xs, us, l, h, hv => by
    cases x <;> simp only [strsOf, reduceCtorEq] at h
    split at h <;> simp only [reduceCtorEq, Option.some.injEq] at h
    rename_i l' hl'
    subst h
    simp only [List.flatMap_cons, cellsOf, List.cons_append, List.nil_append] at hv
    cases hv with
    | cons _ v _ us' h1 h2 =>
      cases h1
      obtain ⟨rfl, hl⟩ := strs_VRs hl' h2
      exact ⟨rfl, by simp [hl]⟩

theorem x_join (L : Lays.n156 P ρ) (X : Builder.Extra P ρ) (hname : ((Body.n156 ρ).name == "runtime.NumGoroutine") = false) (hbody : (Body.n156 ρ).body.isSome = true)
    (hx : extA .join args s = some (r, s')) (hw : WR B w0 G s w) (hvs : VRs G args vs) : CallDoes P (ρ.f 156) vs.toArray w (CallPost B w0 G s' r) := by
  match args, hx with
  | [.nils, .str sep], hx =>
    simp only [extA, Option.some.injEq, Prod.mk.injEq] at hx
    obtain ⟨rfl, rfl⟩ := hx
    cases hvs with
    | cons _ u _ us h hs => cases hs with
      | cons _ u' _ us' h' hs' =>
        cases hs'; cases h; cases h'
        refine CallDoes.of_calls L.f156 hname hbody ((Any.strings_Join_none L X none 0 sep w).mono ?_)
        rintro e w2 ⟨rfl, rfl⟩
        exact ⟨G, .refl G, hw, _, rfl, .str _⟩
  | [.sl xs k, .str sep], hx =>
    simp only [extA] at hx
    split at hx
    · rename_i l hl
      split at hx
      · rename_i hdec
        simp only [Bool.and_eq_true, decide_eq_true_eq] at hdec
        cases hx
        cases hvs with
        | cons _ u _ us h hs => cases hs with
          | cons _ u' _ us' h' hs' =>
            cases hs'; cases h; cases h'
            rename_i c base sz len cap vs hI hcap hsz hv hlen hkk
            obtain ⟨rfl, hlx⟩ := strs_VRs hl hv
            subst hlen
            rw [hlx]
            cases l with
            | nil =>
              refine CallDoes.of_calls L.f156 hname hbody ((Any.strings_Join_none L X (some ⟨c, base, none⟩) cap sep w).mono ?_)
              rintro e w2 ⟨rfl, rfl⟩
              exact ⟨G, .refl G, hw, _, rfl, .str _⟩
            | cons x0 lr =>
              have hcells : ∀ (j : Nat) x, (x0 :: lr)[j]? = some x → w.cell? ⟨c, base + j, none⟩ = some (.string x) := fun j x hj => by
                have hjl : j < ((x0 :: lr).map Value.string).length := by
                  have := (List.getElem?_eq_some_iff.1 hj).1
                  simpa using this
                have e := hI j hjl
                rw [List.getElem?_map, hj] at e
                exact hw.imm _ _ _ e
              have hc : c < w.heap.size := by
                have e := hI 0 (by simp)
                simp only [List.map_cons, List.getElem?_cons_zero] at e
                exact hw.imm_lt e
              have hj := joinL_eq sep.data.toList ((x0 :: lr).map (·.data.toList))
              refine CallDoes.of_calls L.f156 hname hbody ((Any.strings_Join L X c base cap (x0 :: lr) sep w hcells hc (by simpa using hdec.2) (by rw [← hlx]; exact hcap) (by rw [← hj]; exact hdec.1)).mono ?_)
              rintro e w2 ⟨rfl, hb⟩
              refine ⟨G, .refl G, hw.behind hb, _, rfl, ?_⟩
              rw [hj]
              exact .str _
      · cases hx
    · cases hx

end

/-- What stands for a function does what it does. -/
def XE (P : Program) (NG : Nat) (B : Nat → Prop) (w0 : World) (f : Nat) (x : Ext) : Prop := ∀ G s w args vs r s', extA x args s = some (r, s') → WR B w0 G s w → GOk NG G → VRs G args vs → CallDoes P f vs.toArray w (CallPost B w0 G s' r)

theorem x_none {P : Program} {NG : Nat} {B : Nat → Prop} {w0 : World} {f : Nat} {x : Ext} (h : ∀ args s, extA x args s = none) : XE P NG B w0 f x := fun _ s _ args _ _ _ hx => by rw [h args s] at hx; cases hx


theorem CallsTo.ext {S : Sys} {f : Nat} {x : Ext} (h : ∀ K w0, XE S.P S.NG K w0 f x) {args : List AV} {s : St} {r : Res} {s' : St} (he : extA x args s = some (r, s')) {R : Res → St → Prop} (hR : R r s') : CallsTo S f args s R :=
  ⟨r, s', fun K w0 _ G w vs hw hg hv => h K w0 G s w args vs r s' he hw hg hv, hR⟩

/-- A closed run. -/
theorem CallsTo.eval {S : Sys} (hS : S.Ok) {X : Tr Ext} (hX : ∀ K w0, TrAll (XE S.P S.NG K w0) (fun k => k) X) {n f : Nat} {args : List AV} {s : St} {r : Res} {s' : St} (h : callA ⟨S.T, S.F, X⟩ n f args s = some (r, s')) {R : Res → St → Prop} (hR : R r s') : CallsTo S f args s R :=
  ⟨r, s', (eval_det hS (C := ⟨S.T, S.F, X⟩) rfl (fun _ _ h => h) (fun f x hx args s r s' he K w0 _ G w vs hw hg hv => TrAll.get f (fun k => k) X x (hX K w0) hx G s w args vs r s' he hw hg hv) n).1 f args s r s' h, hR⟩

end Go.Am
namespace Go.Am
set_option linter.unusedVariables false
set_option linter.unusedSimpArgs false
open Go.RowKit

/-- A slice of numbers that comes in. -/
def IntsA (k : IntKind) (y : AV) (l : List Int) : Prop := ((y = .nils ∧ l = []) ∨ y = .sl (l.map (.int k)) .dead) ∧ ∀ n ∈ l, (Lit.int k n).wf = true

theorem ints_cells (k : IntKind) (l : List Int) : (l.map (AV.int k)).flatMap cellsOf = l.map (.int k) := by
  induction l with
  | nil => rfl
  | cons x l ih => simp [cellsOf, ih]

theorem spot_none {P : Program} {W : World} {b t e : Nat} {x : Addr} {len cap : Nat} (ht : P.underlying t = some (.slice e)) (h : Value.okWide P W .any b t (.slice (some x) len cap)) : x.spot = none := by
  unfold Value.okWide at h
  simp only [ht] at h
  unfold Cell.okWide at h
  simp only [ht] at h
  unfold Cell.ok at h
  simp only [ht] at h
  exact h.2.2.2.1

theorem ints_VRs {G : Gh} (k : IntKind) : ∀ l : List Int, VRs G (l.map (.int k)) (l.map (Value.int k))
  | [] => .nil
  | x :: l => .cons _ _ _ _ (.int _ _) (ints_VRs k l)

theorem ints_VR {k : IntKind} {W : World} {ρ : Nat → Option (Nat × Nat)} {x : Addr} {len cap : Nat} {zs : List Int} (hx : x.spot = none) (hl : len ≤ cap) (hz : zs.length = cap)
    (hcell : ∀ i, i < zs.length → W.cell? (x.add i) = some (.int k (zs.getD i 0))) (hwz : ∀ n ∈ zs, (Lit.int k n).wf = true) :
    ∃ y l, IntsA k y l ∧ VR (Gh.start ρ fun c o => W.cell? ⟨c, o, none⟩) y (.slice (some x) len cap) := by
  obtain ⟨b, off, spot⟩ := x
  simp only at hx
  subst hx
  refine ⟨.sl ((zs.take len).map (.int k)) .dead, zs.take len, ⟨.inr rfl, fun n hn => hwz n (List.mem_of_mem_take hn)⟩, ?_⟩
  refine .sl _ _ b off 1 len cap ((zs.take len).map (Value.int k)) (fun y hy => ?_) ?_ (fun j hj => ?_) (by simp; omega) hl trivial
  · obtain ⟨m, _, rfl⟩ := List.mem_map.1 hy; rfl
  · rw [ints_cells]; exact ints_VRs k _
  · simp only [List.length_map, List.length_take] at hj
    have := hcell j (by omega)
    rw [Addr.add_lit] at this
    simp only [Gh.start]
    rw [this, List.getElem?_map, List.getElem?_take, if_pos (by omega)]
    have hjz : j < zs.length := by omega
    simp [List.getElem?_eq_getElem hjz]

end Go.Am
