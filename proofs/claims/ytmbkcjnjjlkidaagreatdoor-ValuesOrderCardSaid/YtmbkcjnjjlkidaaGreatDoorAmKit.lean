/- The abstract machine: calls that are handed values, or one block; loops that leave garbage behind. -/
import Derived.Test.YtmbkcjnjjlkidaaGreatDoorAmFrame
namespace Go.Am
open Go.RowKit

def noT : Nat → Nat → Prop := fun _ _ => False

theorem RK_deaden (θ : Nat → Nat → Prop) (k : SK) : RK θ k k.deaden := by
  cases k <;> simp [RK, SK.deaden]

mutual
theorem pure_RV {β θ : Nat → Nat → Prop} : ∀ {a : AV}, pureV a = true → RV β θ a (deaden a)
  | .bool a, _ => rfl
  | .int k n, _ => rfl
  | .str s, _ => rfl
  | .nilp, _ => rfl
  | .ptr b o, h => by simp [pureV] at h
  | .elem xs i o, h => ⟨_, pure_RVs (by simpa [pureV] using h), rfl⟩
  | .nils, _ => rfl
  | .sl xs k, h => ⟨_, _, pure_RVs (by simpa [pureV] using h), RK_deaden θ k, rfl⟩
  | .ms b o l z, h => by simp [pureV] at h
  | .nilm, _ => rfl
  | .map b, h => by simp [pureV] at h
  | .nilf, _ => rfl
  | .fn f a b, h => by
    simp only [pureV, Bool.and_eq_true] at h
    exact ⟨_, _, pure_RVs h.1, pure_RVs h.2, rfl⟩
  | .nili, _ => rfl
  | .ifc t v, h => ⟨_, pure_RV (by simpa [pureV] using h), rfl⟩
  | .agg cs, h => ⟨_, pure_RVs (by simpa [pureV] using h), rfl⟩
  | .tup cs, h => ⟨_, pure_RVs (by simpa [pureV] using h), rfl⟩
theorem pure_RVs {β θ : Nat → Nat → Prop} : ∀ {a : List AV}, pureVs a = true → RVs β θ a (deadens a)
  | [], _ => rfl
  | x :: xs, h => by
    simp only [pureVs, Bool.and_eq_true] at h
    exact ⟨_, _, pure_RV h.1, pure_RVs h.2, rfl⟩
end

section
variable {S : Sys}

/-- The start of a run without blocks of one's own. -/
def Sys.s0 (S : Sys) : St := ⟨S.h, S.nx, .nil, 0⟩

theorem frame0_in (hS : S.Ok) (s : St) : FrameIn S [] [] S.s0 s where
  next := rfl
  nt := rfl
  bnd := List.nodup_nil
  tnd := List.nodup_nil
  heap := fun b blk hb => .inl ⟨hS.dom b blk hb, hb⟩
  own := fun y hy => by cases hy
  live := fun j t hj => by simp at hj
  liveIn := fun j hj => by rw [show S.s0.live = .nil from rfl, Tr.get_nil] at hj; cases hj
  tlt := fun t ht => by cases ht

theorem frame0_out (s1 s : St) : FrameOut S [] [] S.s0 s s1 s where
  next := Nat.le_refl _
  nt := Nat.le_refl _
  same := fun _ _ _ => rfl
  own := fun j y hj => by simp at hj
  new := fun i blk hi => by omega
  frz := fun i cs hi => by omega
  none := fun _ _ _ => rfl
  live := fun t ht => .inl ⟨by simp, ht⟩

/-- A call that is handed values alone and answers by a value is the same at every state. -/
theorem CallsTo.pure (hS : S.Ok) {f : Nat} {args : List AV} {s : St} {Q : AV → Prop} (hp : pureVs args = true) (h : CallsTo S f (deadens args) S.s0 fun r _ => ∃ v, r = .ret v ∧ pureV v = true ∧ Q (deaden v)) :
    CallsTo S f args s fun r s' => s' = s ∧ ∃ v, r = .ret v ∧ Q v := by
  obtain ⟨r, s1, h1, v, rfl, h2, h3⟩ := h
  exact ⟨.ret (deaden v), s, h1.frame (frame0_in hS s) (frame0_out s1 s) (pure_RVs hp) ⟨_, pure_RV h2, rfl⟩, rfl, _, rfl, h3⟩

/-- A function that is handed values alone and answers by a value. -/
theorem CallsTo.fnP (hS : S.Ok) {f : Nat} {fn : AFun} {args args0 : List AV} {s : St} {Q : AV → Prop} (hp : pureVs args = true) (hd : deadens args = args0) (hf : S.F.get f = some fn)
    (h : EvC S fn.mutDst fn.body (initEnv args0 0 .nil) S.s0 (bodyQ S fn fun r _ => ∃ v, r = .ret v ∧ pureV v = true ∧ Q (deaden v))) : CallsTo S f args s fun r s' => s' = s ∧ ∃ v, r = .ret v ∧ Q v :=
  CallsTo.pure hS hp (hd ▸ CallsTo.fn_ hS hf h)

/-- A state with one block of one's own. -/
def Sys.s1 (S : Sys) (cs : List AV) : St := ⟨S.h.set S.nx (.cells cs false), S.nx + 1, .nil, 0⟩

/-- The block y goes by the name nx. -/
def inB (S : Sys) (y : Nat) : Nat → Nat → Prop := swap (bIn S.nx [y])
theorem inB_own (y : Nat) : inB S y y S.nx := ⟨0, rfl, rfl⟩
def outB (S : Sys) (y : Nat) : Nat → Nat → Prop := fun a b => a = S.nx ∧ b = y
theorem outB_own (y : Nat) : outB S y S.nx y := ⟨rfl, rfl⟩

theorem frame1_in (hS : S.Ok) {s : St} {y : Nat} {cs cs0 : List AV} (hy : s.heap.get y = some (.cells cs false)) (hc : RVs (inB S y) noT cs cs0) : FrameIn S [y] [] (S.s1 cs0) s where
  next := rfl
  nt := rfl
  bnd := by simp
  tnd := List.nodup_nil
  heap := fun b blk hb => by
    simp only [Sys.s1, Tr.get_set] at hb
    split at hb
    · rename_i e
      cases hb
      refine .inr ⟨0, y, cs0, cs, e, rfl, rfl, hy, ?_⟩
      refine RVs.weaken (fun _ _ h => h) (fun _ _ h => h.elim) hc
    · exact .inl ⟨hS.dom b blk hb, hb⟩
  own := fun z hz => by
    rw [List.mem_singleton] at hz; subst hz; exact ⟨cs, hy⟩
  live := fun j t hj => by simp at hj
  liveIn := fun j hj => by rw [show (S.s1 cs0).live = .nil from rfl, Tr.get_nil] at hj; cases hj
  tlt := fun t ht => by cases ht

theorem frame1_out {s1 s : St} {y : Nat} {cs0 cs1 cs' : List AV} (h1 : s1.heap.get S.nx = some (.cells cs1 false)) (hc : RVs (outB S y) noT cs1 cs') :
    FrameOut S [y] [] (S.s1 cs0) s s1 { s with heap := s.heap.set y (.cells cs' false) } where
  next := Nat.le_refl _
  nt := Nat.le_refl _
  same := fun b _ hb => by
    rw [List.mem_singleton] at hb
    exact Tr.get_set_ne _ _ _ _ hb
  own := fun j z hj => by
    cases j with
    | succ j => simp at hj
    | zero =>
      simp at hj; subst hj
      exact ⟨cs1, cs', h1, Tr.get_set_same _ _ _, RVs.weaken (fun a b h => .inl ⟨0, h.1, by rw [h.2]; rfl⟩) (fun _ _ h => h.elim) hc⟩
  new := fun i blk hi => by simp only [Nat.sub_self] at hi; omega
  frz := fun i cs hi => by simp only [Nat.sub_self] at hi; omega
  none := fun b _ hb => by
    rw [List.mem_singleton] at hb
    exact Tr.get_set_ne _ _ _ _ hb
  live := fun t ht => .inl ⟨by simp, ht⟩

/-- A call that is handed one block and values. -/
theorem CallsTo.frame1 (hS : S.Ok) {f : Nat} {args args0 : List AV} {s : St} {y : Nat} {cs cs0 : List AV} {Q : Res → List AV → Prop} (hy : s.heap.get y = some (.cells cs false)) (ha : RVs (inB S y) noT args args0) (hc : RVs (inB S y) noT cs cs0)
    (h : CallsTo S f args0 (S.s1 cs0) fun r0 s1 => ∃ cs1 r cs', s1.heap.get S.nx = some (.cells cs1 false) ∧ RR (outB S y) noT r0 r ∧ RVs (outB S y) noT cs1 cs' ∧ Q r cs') :
    CallsTo S f args s fun r s' => ∃ cs', s' = { s with heap := s.heap.set y (.cells cs' false) } ∧ Q r cs' := by
  obtain ⟨r0, s1, h1, cs1, r, cs', h2, h3, h4, h5⟩ := h
  refine ⟨r, _, h1.frame (frame1_in hS hy hc) (frame1_out h2 h4) (RVs.weaken (fun _ _ h => h) (fun _ _ h => h.elim) ha) ?_, cs', rfl, h5⟩
  cases r0 with
  | ret a =>
    obtain ⟨b, hb, rfl⟩ := h3
    exact ⟨b, RV.weaken (fun a b h => .inl ⟨0, h.1, by rw [h.2]; rfl⟩) (fun _ _ h => h.elim) hb, rfl⟩
  | pan a =>
    obtain ⟨b, hb, rfl⟩ := h3
    exact ⟨b, RV.weaken (fun a b h => .inl ⟨0, h.1, by rw [h.2]; rfl⟩) (fun _ _ h => h.elim) hb, rfl⟩

/-- A law's run, told in the model's own words. -/
theorem law_calls (hS : S.Ok) {w : World} (hs : Start S.NG S.h S.nx S.ρ w) {args : List AV} {vs : List Value} {f : Nat} {fn : AFun} (hf : S.F.get f = some fn)
    (hvs : VRs (Gh.start S.ρ fun c o => w.cell? ⟨c, o, none⟩) args vs) (hrun : CallsTo S f args S.s0 fun r _ => r = .ret (.bool true)) :
    Calls S.P f vs.toArray w fun e w' => e = .returned (.bool true) ∧ Below w.heap.size w w' := by
  obtain ⟨r, s', hd, rfl⟩ := hrun
  have hk : StartK S (fun c => c < w.heap.size) w := ⟨hs, fun b c n h => (hs.lt b c n h).2⟩
  have hd := hd _ w hk _ w vs (hs.wr _ fun _ _ _ e => e) (fun g hg => hs.g g hg) hvs
  obtain ⟨gfn, f1, f2, f3, f4, f5⟩ := hS.F f fn hf
  have hrun' : (callFunc f vs.toArray).run S.P w = .ok (.enter f vs.toArray) w := by
    have f2' : ¬ gfn.name = "runtime.NumGoroutine" := by simpa using f2
    simp [callFunc, f1, f2', f3]
  unfold CallDoes at hd
  rw [hrun'] at hd
  refine Calls.mono hd ?_
  rintro e w2 ⟨Ge, hle, hwe, v, rfl, hv⟩
  cases hv
  exact ⟨rfl, hwe.below.below fun _ h => h⟩
end
end Go.Am
