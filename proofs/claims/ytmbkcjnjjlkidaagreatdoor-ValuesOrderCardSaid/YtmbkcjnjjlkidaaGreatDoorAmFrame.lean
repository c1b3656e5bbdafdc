/- The abstract machine: what a call does to a few blocks, it does to them wherever they lie among others. -/
import Derived.Test.YtmbkcjnjjlkidaaGreatDoorAmDet2
namespace Go.Am
set_option linter.unusedVariables false
set_option linter.unusedSimpArgs false
open Go.RowKit

def RK (θ : Nat → Nat → Prop) : SK → SK → Prop
  | .full, k => k = .full ∨ k = .dead
  | .tag t, k => (∃ u, θ t u ∧ k = .tag u) ∨ k = .dead
  | .dead, k => k = .dead

mutual
/-- The same value, its blocks and tags under other names, or some tags forgotten. -/
def RV (β θ : Nat → Nat → Prop) : AV → AV → Prop
  | .bool a, b => b = .bool a
  | .int k n, b => b = .int k n
  | .str s, b => b = .str s
  | .nilp, b => b = .nilp
  | .ptr x o, b => ∃ y, β x y ∧ b = .ptr y o
  | .elem xs i o, b => ∃ ys, RVs β θ xs ys ∧ b = .elem ys i o
  | .nils, b => b = .nils
  | .sl xs k, b => ∃ ys k', RVs β θ xs ys ∧ RK θ k k' ∧ b = .sl ys k'
  | .ms x o l z, b => ∃ y, β x y ∧ b = .ms y o l z
  | .nilm, b => b = .nilm
  | .map x, b => ∃ y, β x y ∧ b = .map y
  | .nilf, b => b = .nilf
  | .fn f xs ys, b => ∃ us vs, RVs β θ xs us ∧ RVs β θ ys vs ∧ b = .fn f us vs
  | .nili, b => b = .nili
  | .ifc t v, b => ∃ w, RV β θ v w ∧ b = .ifc t w
  | .agg cs, b => ∃ ds, RVs β θ cs ds ∧ b = .agg ds
  | .tup cs, b => ∃ ds, RVs β θ cs ds ∧ b = .tup ds
def RVs (β θ : Nat → Nat → Prop) : List AV → List AV → Prop
  | [], b => b = []
  | x :: xs, b => ∃ y ys, RV β θ x y ∧ RVs β θ xs ys ∧ b = y :: ys
end

section
variable {β θ : Nat → Nat → Prop}

theorem RVs.length : ∀ {a b : List AV}, RVs β θ a b → b.length = a.length
  | [], b, h => by simp only [RVs] at h; subst h; rfl
  | x :: xs, b, h => by
    simp only [RVs] at h
    obtain ⟨y, ys, _, h2, rfl⟩ := h
    simp [h2.length]

theorem RVs.append : ∀ {a b c d : List AV}, RVs β θ a b → RVs β θ c d → RVs β θ (a ++ c) (b ++ d)
  | [], b, c, d, h, h' => by simp only [RVs] at h; subst h; exact h'
  | x :: xs, b, c, d, h, h' => by
    simp only [RVs] at h
    obtain ⟨y, ys, h1, h2, rfl⟩ := h
    simp only [List.cons_append, RVs]
    exact ⟨y, ys ++ d, h1, h2.append h', rfl⟩

theorem RV.cells {a b : AV} (h : RV β θ a b) : RVs β θ (cellsOf a) (cellsOf b) := by
  cases a with
  | agg cs =>
    simp only [RV] at h
    obtain ⟨ds, h1, rfl⟩ := h
    exact h1
  | _ =>
    have h0 := h
    simp only [RV] at h
    have hb : cellsOf b = [b] := by
      first
      | (subst h; rfl)
      | (obtain ⟨_, _, rfl⟩ := h; rfl)
      | (obtain ⟨_, _, _, _, rfl⟩ := h; rfl)
      | (obtain ⟨_, _, _, _, rfl⟩ := h; rfl)
    rw [hb]
    exact ⟨b, [], h0, rfl, rfl⟩

theorem RVs.flat : ∀ {a b : List AV}, RVs β θ a b → RVs β θ (a.flatMap cellsOf) (b.flatMap cellsOf)
  | [], b, h => by simp only [RVs] at h; subst h; rfl
  | x :: xs, b, h => by
    simp only [RVs] at h
    obtain ⟨y, ys, h1, h2, rfl⟩ := h
    simp only [List.flatMap_cons]
    exact (RV.cells h1).append h2.flat

theorem RVs.cell_len {sz : Nat} : ∀ {a b : List AV}, RVs β θ a b → (∀ x ∈ a, (cellsOf x).length = sz) → ∀ y ∈ b, (cellsOf y).length = sz
  | [], b, h, _ => by simp only [RVs] at h; subst h; simp
  | x :: xs, b, h, hx => by
    simp only [RVs] at h
    obtain ⟨y, ys, h1, h2, rfl⟩ := h
    intro z hz
    rcases List.mem_cons.1 hz with rfl | hz
    · rw [(RV.cells h1).length]; exact hx x (by simp)
    · exact h2.cell_len (fun x' hx' => hx x' (by simp [hx'])) z hz

theorem RK.weaken {β' θ' : Nat → Nat → Prop} (hθ : ∀ x y, θ x y → θ' x y) {k k' : SK} (h : RK θ k k') : RK θ' k k' := by
  cases k with
  | tag t =>
    simp only [RK] at h ⊢
    rcases h with ⟨u, hu, rfl⟩ | rfl
    · exact .inl ⟨u, hθ _ _ hu, rfl⟩
    · exact .inr rfl
  | _ => exact h

mutual
theorem RV.weaken {β' θ' : Nat → Nat → Prop} (hβ : ∀ x y, β x y → β' x y) (hθ : ∀ x y, θ x y → θ' x y) : ∀ {a b : AV}, RV β θ a b → RV β' θ' a b
  | .bool _, _, h => h
  | .int _ _, _, h => h
  | .str _, _, h => h
  | .nilp, _, h => h
  | .ptr x o, b, h => by simp only [RV] at h ⊢; obtain ⟨y, hy, rfl⟩ := h; exact ⟨y, hβ _ _ hy, rfl⟩
  | .elem xs i o, b, h => by simp only [RV] at h ⊢; obtain ⟨y, hy, rfl⟩ := h; exact ⟨y, RVs.weaken hβ hθ hy, rfl⟩
  | .nils, _, h => h
  | .sl xs k, b, h => by simp only [RV] at h ⊢; obtain ⟨y, k', hy, hk, rfl⟩ := h; exact ⟨y, k', RVs.weaken hβ hθ hy, RK.weaken (β' := β') hθ hk, rfl⟩
  | .ms x o l z, b, h => by simp only [RV] at h ⊢; obtain ⟨y, hy, rfl⟩ := h; exact ⟨y, hβ _ _ hy, rfl⟩
  | .nilm, _, h => h
  | .map x, b, h => by simp only [RV] at h ⊢; obtain ⟨y, hy, rfl⟩ := h; exact ⟨y, hβ _ _ hy, rfl⟩
  | .nilf, _, h => h
  | .fn f xs ys, b, h => by simp only [RV] at h ⊢; obtain ⟨u, v, hu, hv, rfl⟩ := h; exact ⟨u, v, RVs.weaken hβ hθ hu, RVs.weaken hβ hθ hv, rfl⟩
  | .nili, _, h => h
  | .ifc t v, b, h => by simp only [RV] at h ⊢; obtain ⟨y, hy, rfl⟩ := h; exact ⟨y, RV.weaken hβ hθ hy, rfl⟩
  | .agg cs, b, h => by simp only [RV] at h ⊢; obtain ⟨y, hy, rfl⟩ := h; exact ⟨y, RVs.weaken hβ hθ hy, rfl⟩
  | .tup cs, b, h => by simp only [RV] at h ⊢; obtain ⟨y, hy, rfl⟩ := h; exact ⟨y, RVs.weaken hβ hθ hy, rfl⟩
theorem RVs.weaken {β' θ' : Nat → Nat → Prop} (hβ : ∀ x y, β x y → β' x y) (hθ : ∀ x y, θ x y → θ' x y) : ∀ {a b : List AV}, RVs β θ a b → RVs β' θ' a b
  | [], _, h => h
  | x :: xs, b, h => by simp only [RVs] at h ⊢; obtain ⟨y, ys, h1, h2, rfl⟩ := h; exact ⟨y, ys, RV.weaken hβ hθ h1, RVs.weaken hβ hθ h2, rfl⟩
end

mutual
theorem RV.vr {G H : Gh} (hρ : ∀ x y, β x y → ∀ c n, G.ρ x = some (c, n) → H.ρ y = some (c, n)) (hτ : ∀ x y, θ x y → ∀ e, G.τ x = some e → H.τ y = some e) (hI : ∀ c o v, G.I c o = some v → H.I c o = some v) :
    ∀ {a b : AV} {v : Value}, VR G a v → RV β θ a b → VR H b v
  | _, _, _, .bool b, h => by simp only [RV] at h; subst h; exact .bool _
  | _, _, _, .int k n, h => by simp only [RV] at h; subst h; exact .int _ _
  | _, _, _, .str s, h => by simp only [RV] at h; subst h; exact .str _
  | _, _, _, .nilp, h => by simp only [RV] at h; subst h; exact .nilp
  | _, _, _, .ptr b off c n e, h => by
    simp only [RV] at h
    obtain ⟨y, hy, rfl⟩ := h
    exact .ptr y off c n (hρ _ _ hy _ _ e)
  | _, _, _, .elem xs i off c base sz vs hsz hv hc, h => by
    simp only [RV] at h
    obtain ⟨ys, hy, rfl⟩ := h
    refine .elem ys i off c base sz vs (hy.cell_len hsz) (RVs.vr hρ hτ hI hv hy.flat) (fun j hj => ?_)
    have e := hc j hj
    rw [List.getElem?_eq_getElem hj] at e ⊢
    exact hI _ _ _ e
  | _, _, _, .nils, h => by simp only [RV] at h; subst h; exact .nils
  | _, _, _, .sl xs k c base sz len cap vs hsz hv hc hl hcap hk, h => by
    simp only [RV] at h
    obtain ⟨ys, k', hy, hk', rfl⟩ := h
    refine .sl ys k' c base sz len cap vs (hy.cell_len hsz) (RVs.vr hρ hτ hI hv hy.flat) (fun j hj => ?_) (by rw [hy.length]; exact hl) hcap ?_
    · have e := hc j hj
      rw [List.getElem?_eq_getElem hj] at e ⊢
      exact hI _ _ _ e
    · rw [hy.length]
      cases k with
      | full => simp only [RK] at hk'; rcases hk' with rfl | rfl <;> first | exact hk | trivial
      | tag t =>
        simp only [RK] at hk'
        rcases hk' with ⟨u, hu, rfl⟩ | rfl
        · exact ⟨hk.1, hτ _ _ hu _ hk.2⟩
        · trivial
      | dead => simp only [RK] at hk'; subst hk'; trivial
  | _, _, _, .ms b off len sz c n cap e hl hc, h => by
    simp only [RV] at h
    obtain ⟨y, hy, rfl⟩ := h
    exact .ms y off len sz c n cap (hρ _ _ hy _ _ e) hl hc
  | _, _, _, .nilm, h => by simp only [RV] at h; subst h; exact .nilm
  | _, _, _, .map b c n e, h => by
    simp only [RV] at h
    obtain ⟨y, hy, rfl⟩ := h
    exact .map y c n (hρ _ _ hy _ _ e)
  | _, _, _, .nilf, h => by simp only [RV] at h; subst h; exact .nilf
  | _, _, _, .fn f a b as bs ha hb, h => by
    simp only [RV] at h
    obtain ⟨us, vs, h1, h2, rfl⟩ := h
    exact .fn f us vs as bs (RVs.vr hρ hτ hI ha h1) (RVs.vr hρ hτ hI hb h2)
  | _, _, _, .nili, h => by simp only [RV] at h; subst h; exact .nili
  | _, _, _, .ifc t a v e, h => by
    simp only [RV] at h
    obtain ⟨w, hw, rfl⟩ := h
    exact .ifc t w v (RV.vr hρ hτ hI e hw)
  | _, _, _, .agg cs vs e, h => by
    simp only [RV] at h
    obtain ⟨ds, hd, rfl⟩ := h
    exact .agg ds vs (RVs.vr hρ hτ hI e hd)
  | _, _, _, .tup cs vs e, h => by
    simp only [RV] at h
    obtain ⟨ds, hd, rfl⟩ := h
    exact .tup ds vs (RVs.vr hρ hτ hI e hd)
theorem RVs.vr {G H : Gh} (hρ : ∀ x y, β x y → ∀ c n, G.ρ x = some (c, n) → H.ρ y = some (c, n)) (hτ : ∀ x y, θ x y → ∀ e, G.τ x = some e → H.τ y = some e) (hI : ∀ c o v, G.I c o = some v → H.I c o = some v) :
    ∀ {a b : List AV} {v : List Value}, VRs G a v → RVs β θ a b → VRs H b v
  | _, _, _, .nil, h => by simp only [RVs] at h; subst h; exact .nil
  | _, _, _, .cons a v as vs e es, h => by
    simp only [RVs] at h
    obtain ⟨y, ys, h1, h2, rfl⟩ := h
    exact .cons _ _ _ _ (RV.vr hρ hτ hI e h1) (RVs.vr hρ hτ hI es h2)
end

/-- The same block, under other names. -/
def RB (β θ : Nat → Nat → Prop) : Blk → Blk → Prop
  | .cells cs f, b => ∃ ds, RVs β θ cs ds ∧ b = .cells ds f
  | .siter s p, b => b = .siter s p
end

/-- The names of the blocks that a call is handed (from nx on), and of those that are new (from n0 on; outside from m0 on). -/
def bIn (nx : Nat) (bs : List Nat) : Nat → Nat → Prop := fun x y => ∃ j, x = nx + j ∧ bs[j]? = some y
def tIn (ts : List Nat) : Nat → Nat → Prop := fun x y => ts[x]? = some y
def bOut (nx : Nat) (bs : List Nat) (n0 m0 k : Nat) : Nat → Nat → Prop := fun x y => (∃ j, x = nx + j ∧ bs[j]? = some y) ∨ ∃ i, i < k ∧ x = n0 + i ∧ y = m0 + i
def tOut (ts : List Nat) (n0 m0 k : Nat) : Nat → Nat → Prop := fun x y => ts[x]? = some y ∨ ∃ i, i < k ∧ x = n0 + i ∧ y = m0 + i

def swap (β : Nat → Nat → Prop) : Nat → Nat → Prop := fun x y => β y x

/-- What a call is handed, seen from inside (s0) and from outside (s). -/
structure FrameIn (S : Sys) (bs ts : List Nat) (s0 s : St) : Prop where
  next : s0.next = S.nx + bs.length
  nt : s0.nt = ts.length
  bnd : bs.Nodup
  tnd : ts.Nodup
  heap : ∀ b blk, s0.heap.get b = some blk → (b < S.nx ∧ S.h.get b = some blk) ∨ ∃ j y cs0 cs, b = S.nx + j ∧ bs[j]? = some y ∧ blk = .cells cs0 false ∧ s.heap.get y = some (.cells cs false) ∧ RVs (swap (bIn S.nx bs)) (swap (tIn ts)) cs cs0
  own : ∀ y, y ∈ bs → ∃ cs, s.heap.get y = some (.cells cs false)
  live : ∀ j t, ts[j]? = some t → s0.live.get j = some true → s.live.get t = some true
  liveIn : ∀ j, s0.live.get j = some true → ∃ t, ts[j]? = some t
  tlt : ∀ t, t ∈ ts → t < s.nt

/-- What a call leaves, seen from inside (s1) and from outside (s'). -/
structure FrameOut (S : Sys) (bs ts : List Nat) (s0 s s1 s' : St) : Prop where
  next : s.next ≤ s'.next
  nt : s.nt ≤ s'.nt
  same : ∀ b, b < s.next → b ∉ bs → s'.heap.get b = s.heap.get b
  own : ∀ j y, bs[j]? = some y → ∃ cs1 cs', s1.heap.get (S.nx + j) = some (.cells cs1 false) ∧ s'.heap.get y = some (.cells cs' false) ∧ RVs (bOut S.nx bs s0.next s.next (s'.next - s.next)) (tOut ts s0.nt s.nt (s'.nt - s.nt)) cs1 cs'
  new : ∀ i blk, i < s'.next - s.next → s'.heap.get (s.next + i) = some blk → ∃ blk1, s1.heap.get (s0.next + i) = some blk1 ∧ RB (bOut S.nx bs s0.next s.next (s'.next - s.next)) (tOut ts s0.nt s.nt (s'.nt - s.nt)) blk1 blk
  frz : ∀ i cs1, i < s'.next - s.next → s1.heap.get (s0.next + i) = some (.cells cs1 true) → ∃ cs', s'.heap.get (s.next + i) = some (.cells cs' true) ∧ cs'.length = cs1.length
  none : ∀ b, s'.next ≤ b → b ∉ bs → s'.heap.get b = s.heap.get b
  live : ∀ t, s'.live.get t = some true → (t ∉ ts ∧ s.live.get t = some true) ∨ (∃ j, ts[j]? = some t ∧ s0.live.get j = some true ∧ s1.live.get j = some true) ∨ (∃ i, i < s'.nt - s.nt ∧ t = s.nt + i ∧ s1.live.get (s0.nt + i) = some true)

def RR (β θ : Nat → Nat → Prop) : Res → Res → Prop
  | .ret a, r => ∃ b, RV β θ a b ∧ r = .ret b
  | .pan a, r => ∃ b, RV β θ a b ∧ r = .pan b

theorem nodup_idx {l : List Nat} (h : l.Nodup) {i j x : Nat} (hi : l[i]? = some x) (hj : l[j]? = some x) : i = j := by
  obtain ⟨h1, e1⟩ := List.getElem?_eq_some_iff.1 hi
  obtain ⟨h2, e2⟩ := List.getElem?_eq_some_iff.1 hj
  exact (List.getElem_inj h).1 (e1.trans e2.symm)

open Classical in
set_option maxHeartbeats 2000000 in
theorem CallDet.frame {S : Sys} {f : Nat} {args0 args : List AV} {s0 s1 s s' : St} {r0 r : Res} {bs ts : List Nat} (h : CallDet S f args0 s0 r0 s1) (hin : FrameIn S bs ts s0 s) (hout : FrameOut S bs ts s0 s s1 s')
    (hargs : RVs (swap (bIn S.nx bs)) (swap (tIn ts)) args args0) (hr : RR (bOut S.nx bs s0.next s.next (s'.next - s.next)) (tOut ts s0.nt s.nt (s'.nt - s.nt)) r0 r) : CallDet S f args s r s' := by
  intro K w0 hK G w vs hw hg hvs
  let Own : Nat → Prop := fun c => (∃ y n, y ∈ bs ∧ G.ρ y = some (c, n)) ∨ ∃ j t e ce, ts[j]? = some t ∧ s0.live.get j = some true ∧ G.τ t = some (c, e, ce)
  let K' : Nat → Prop := fun c => c < w.heap.size ∧ ¬ Own c
  have hown : ∀ c, Own c → ¬ K c := by
    rintro c (⟨y, n, hy, hρ⟩ | ⟨j, t, e, ce, hj, hl, hτ⟩)
    · obtain ⟨cs, hcs⟩ := hin.own y hy
      obtain ⟨_, _, _, _, _, _, _, q⟩ := hw.cells y cs false c n hcs hρ
      exact (q rfl).2.1
    · exact (hw.tags t c e ce (hin.live j t hj hl) hτ).1
  have hKK : ∀ c, K c → K' c := fun c hc => ⟨hw.hB c hc, fun ho => hown c ho hc⟩
  have hnK : ∀ c, ¬ K' c → ¬ K c := fun c hc hk => hc (hKK c hk)
  have hstart : Start S.NG S.h S.nx S.ρ w := hK.start.kept hK.kept hw.below
  have hK' : StartK S K' w := ⟨hstart, fun b c n hb => hKK c (hK.kept b c n hb)⟩
  let G' : Gh := ⟨fun b => if b < S.nx then S.ρ b else (bs[b - S.nx]?).bind G.ρ, G.I, fun t => (ts[t]?).bind G.τ, (G.I, fun b => if b < S.nx then S.ρ b else (bs[b - S.nx]?).bind G.ρ)⟩
  have hρlow : ∀ b, b < S.nx → G'.ρ b = S.ρ b := fun b hb => if_pos hb
  have hρin : ∀ j y, bs[j]? = some y → G'.ρ (S.nx + j) = G.ρ y := fun j y hj => by
    show (if S.nx + j < S.nx then S.ρ (S.nx + j) else (bs[S.nx + j - S.nx]?).bind G.ρ) = _
    rw [if_neg (by omega), Nat.add_sub_cancel_left, hj]; rfl
  have hτin : ∀ j t, ts[j]? = some t → G'.τ j = G.τ t := fun j t hj => by
    show (ts[j]?).bind G.τ = _
    rw [hj]; rfl
  have hρcase : ∀ b c n, G'.ρ b = some (c, n) → (b < S.nx ∧ S.ρ b = some (c, n)) ∨ ∃ j y, b = S.nx + j ∧ bs[j]? = some y ∧ G.ρ y = some (c, n) := fun b c n hb => by
    by_cases hbx : b < S.nx
    · rw [hρlow b hbx] at hb; exact .inl ⟨hbx, hb⟩
    · have hb' : (bs[b - S.nx]?).bind G.ρ = some (c, n) := by
        have e : G'.ρ b = (bs[b - S.nx]?).bind G.ρ := if_neg hbx
        rw [← e]; exact hb
      cases hy : bs[b - S.nx]? with
      | none => rw [hy] at hb'; cases hb'
      | some y => rw [hy] at hb'; exact .inr ⟨b - S.nx, y, by omega, hy, hb'⟩
  have hτcase : ∀ j x, G'.τ j = some x → ∃ t, ts[j]? = some t ∧ G.τ t = some x := fun j x hj => by
    have hj' : (ts[j]?).bind G.τ = some x := hj
    cases ht : ts[j]? with
    | none => rw [ht] at hj'; cases hj'
    | some t => rw [ht] at hj'; exact ⟨t, rfl, hj'⟩
  have hρswap : ∀ x y, swap (bIn S.nx bs) x y → ∀ c n, G.ρ x = some (c, n) → G'.ρ y = some (c, n) := by
    rintro x y ⟨j, rfl, hj⟩ c n e
    rw [hρin j x hj]; exact e
  have hτswap : ∀ x y, swap (tIn ts) x y → ∀ e, G.τ x = some e → G'.τ y = some e := by
    rintro x y hj e he
    rw [hτin y x hj]; exact he
  have hlowK : ∀ b c n, b < S.nx → S.ρ b = some (c, n) → K c := fun b c n _ hb => hK.kept b c n hb
  have hw' : WR K' w G' s0 w :=
    { below := .refl _ _
      hB := fun c hc => hc.1
      cells := fun b cs f c n hb hρ => by
        rcases hin.heap b _ hb with ⟨hbx, hS⟩ | ⟨j, y, cs0, cs', rfl, hj, e, hy, hrv⟩
        · rw [hρlow b hbx] at hρ
          obtain ⟨_, cs', e⟩ := hstart.dom b _ hS
          cases e
          obtain ⟨arr, T, fr, h1, h2, h3, h4⟩ := hstart.cells b cs c n hS hρ
          have hle : Gh.Le ⟨S.ρ, fun _ _ => none, fun _ => none, G'.J⟩ G' := ⟨fun b x e => by rw [hρlow b (hstart.lt b x.1 x.2 e).1]; exact e, fun _ _ _ e => (by cases e), fun _ _ e => (by cases e), rfl⟩
          exact ⟨arr, T, fr, h1, h2, h3, VRs.mono hle (h4 _ rfl), fun e => by cases e⟩
        · cases e
          rw [hρin j y hj] at hρ
          obtain ⟨arr, T, fr, h1, h2, h3, h4, h5⟩ := hw.cells y cs' false c n hy hρ
          refine ⟨arr, T, fr, h1, h2, by rw [hrv.length]; exact h3, by rw [hrv.length]; exact RVs.vr hρswap hτswap (fun _ _ _ e => e) h4 hrv, fun _ => ⟨(h5 rfl).1, fun hc => hc.2 (.inl ⟨y, n, List.mem_of_getElem? hj, hρ⟩), (h5 rfl).2.2⟩⟩
      siter := fun b str pos c n hb hρ => by
        rcases hin.heap b _ hb with ⟨hbx, hS⟩ | ⟨j, y, cs0, cs', rfl, hj, e, hy, hrv⟩
        · obtain ⟨_, cs', e⟩ := hstart.dom b _ hS; cases e
        · cases e
      inj := fun b b' c n n' hc hb hb' => by
        rcases hρcase b c n hb with ⟨hbx, h1⟩ | ⟨j, y, rfl, hj, h1⟩
        · exact absurd (hKK c (hlowK b c n hbx h1)) hc
        · rcases hρcase b' c n' hb' with ⟨hbx, h2⟩ | ⟨j', y', rfl, hj', h2⟩
          · exact absurd (hKK c (hlowK b' c n' hbx h2)) hc
          · have e := hw.inj y y' c n n' (hnK c hc) h1 h2
            subst e
            rw [nodup_idx hin.bnd hj hj']
      lt := fun b c n hb => by
        rw [hin.next]
        rcases hρcase b c n hb with ⟨hbx, h1⟩ | ⟨j, y, rfl, hj, h1⟩
        · exact ⟨by omega, (hstart.lt b c n h1).2⟩
        · have := (List.getElem?_eq_some_iff.1 hj).1
          exact ⟨by omega, (hw.lt y c n h1).2⟩
      imm := hw.imm
      tags := fun t c e ce hl hτ => by
        obtain ⟨u, hu, hτ'⟩ := hτcase t _ hτ
        obtain ⟨q1, q2, q3, q4⟩ := hw.tags u c e ce (hin.live t u hu hl) hτ'
        refine ⟨fun hc => hc.2 (.inr ⟨t, u, e, ce, hu, hl, hτ'⟩), q2, q3, fun b n hb => ?_⟩
        rcases hρcase b c n hb with ⟨hbx, h1⟩ | ⟨j, y, rfl, hj, h1⟩
        · exact absurd (hlowK b c n hbx h1) q1
        · obtain ⟨cs, hcs, _⟩ := q4 y n h1
          obtain ⟨cs2, hcs2⟩ := hin.own y (List.mem_of_getElem? hj)
          rw [hcs] at hcs2; cases hcs2
      tdist := fun t t' c e ce e' ce' hl hl' hτ hτ' => by
        obtain ⟨u, hu, h1⟩ := hτcase t _ hτ
        obtain ⟨u', hu', h2⟩ := hτcase t' _ hτ'
        have e1 := hw.tdist u u' c e ce e' ce' (hin.live t u hu hl) (hin.live t' u' hu' hl') h1 h2
        subst e1
        exact nodup_idx hin.tnd hu hu'
      tlt := fun t x hτ => by
        obtain ⟨u, hu, _⟩ := hτcase t _ hτ
        rw [hin.nt]; exact (List.getElem?_eq_some_iff.1 hu).1
      hlt := fun b blk hb => by
        rw [hin.next]
        rcases hin.heap b _ hb with ⟨hbx, _⟩ | ⟨j, y, _, _, rfl, hj, _⟩
        · omega
        · have := (List.getElem?_eq_some_iff.1 hj).1; omega
      old := fun c o v _ e => e
      hmap := fun b blk hb => by
        rcases hin.heap b _ hb with ⟨hbx, hS⟩ | ⟨j, y, _, cs, rfl, hj, _, hy, _⟩
        · obtain ⟨x, hx⟩ := hstart.map b blk hS
          exact ⟨x, (hρlow b hbx).trans hx⟩
        · obtain ⟨x, hx⟩ := hw.hmap y _ hy
          exact ⟨x, (hρin j y hj).trans hx⟩
      oldρ := fun b c n _ e => e
      tdef := fun t hl => by
        obtain ⟨u, hu⟩ := hin.liveIn t hl
        obtain ⟨x, hx⟩ := hw.tdef u (hin.live t u hu hl)
        exact ⟨x, (hτin t u hu).trans hx⟩
      tlow := fun t c e ce hl hτ => by
        obtain ⟨u, hu, hτ'⟩ := hτcase t _ hτ
        exact hw.tlow u c e ce (hin.live t u hu hl) hτ' }
  have hg' : GOk S.NG G' := fun g hgl => by
    obtain ⟨n, hn⟩ := hstart.g g hgl
    exact ⟨n, by rw [hρlow g (hstart.lt g _ _ hn).1]; exact hn⟩
  have hvs' : VRs G' args0 vs := RVs.vr hρswap hτswap (fun _ _ _ e => e) hvs hargs
  refine (h K' w hK' G' w vs hw' hg' hvs').mono ?_
  rintro e w2 ⟨Ge, hle, hwe, hres⟩
  -- what is new is behind the last block, or one's own
  have hnew : ∀ x c n, Ge.ρ x = some (c, n) → c < w.heap.size → G'.ρ x = some (c, n) := fun x c n hx hc => by
    have := hwe.oldρ x c n hc hx
    rwa [hle.J] at this
  let kb := s'.next - s.next
  let kt := s'.nt - s.nt
  let ρ2 : Nat → Option (Nat × Nat) := fun b => if b < s.next then (if hx : ∃ j, bs[j]? = some b then Ge.ρ (S.nx + Classical.choose hx) else G.ρ b) else if b < s'.next then Ge.ρ (s0.next + (b - s.next)) else none
  let τ2 : Nat → Option (Nat × Nat × Nat) := fun t => if t < s.nt then (if hx : ∃ j, ts[j]? = some t then Ge.τ (Classical.choose hx) else G.τ t) else if t < s'.nt then Ge.τ (s0.nt + (t - s.nt)) else none
  let G2 : Gh := ⟨ρ2, fun c o => if K' c then G.I c o else Ge.I c o, τ2, G.J⟩
  have hbs : ∀ y, y ∈ bs → y < s.next := fun y hy => by
    obtain ⟨cs, hcs⟩ := hin.own y hy
    exact hw.hlt y _ hcs
  have ρ2own : ∀ j y, bs[j]? = some y → ρ2 y = Ge.ρ (S.nx + j) := fun j y hj => by
    have hx : ∃ j, bs[j]? = some y := ⟨j, hj⟩
    show (if y < s.next then (if hx : ∃ j, bs[j]? = some y then Ge.ρ (S.nx + Classical.choose hx) else G.ρ y) else _) = _
    rw [if_pos (hbs y (List.mem_of_getElem? hj)), dif_pos hx, nodup_idx hin.bnd (Classical.choose_spec hx) hj]
  have ρ2out : ∀ b, b < s.next → b ∉ bs → ρ2 b = G.ρ b := fun b hb hn => by
    show (if b < s.next then (if hx : ∃ j, bs[j]? = some b then Ge.ρ (S.nx + Classical.choose hx) else G.ρ b) else _) = _
    rw [if_pos hb, dif_neg (fun ⟨j, hj⟩ => hn (List.mem_of_getElem? hj))]
  have ρ2new : ∀ i, i < kb → ρ2 (s.next + i) = Ge.ρ (s0.next + i) := fun i hi => by
    have hi' : i < s'.next - s.next := hi
    show (if s.next + i < s.next then _ else if s.next + i < s'.next then Ge.ρ (s0.next + (s.next + i - s.next)) else none) = _
    rw [if_neg (by omega), if_pos (by omega), Nat.add_sub_cancel_left]
  have ρ2case : ∀ b c n, ρ2 b = some (c, n) → (b < s.next ∧ b ∉ bs ∧ G.ρ b = some (c, n)) ∨ (∃ j, bs[j]? = some b ∧ Ge.ρ (S.nx + j) = some (c, n)) ∨ (∃ i, i < kb ∧ b = s.next + i ∧ Ge.ρ (s0.next + i) = some (c, n)) := fun b c n hb => by
    by_cases h1 : b < s.next
    · by_cases h2 : b ∈ bs
      · obtain ⟨j, hj⟩ := List.mem_iff_getElem?.1 h2
        exact .inr (.inl ⟨j, hj, by rw [← ρ2own j b hj]; exact hb⟩)
      · exact .inl ⟨h1, h2, by rw [← ρ2out b h1 h2]; exact hb⟩
    · by_cases h2 : b < s'.next
      · refine .inr (.inr ⟨b - s.next, show b - s.next < s'.next - s.next by omega, by omega, ?_⟩)
        rw [← ρ2new (b - s.next) (show b - s.next < s'.next - s.next by omega), show s.next + (b - s.next) = b by omega]; exact hb
      · have : ρ2 b = none := by
          show (if b < s.next then _ else if b < s'.next then _ else none) = _
          rw [if_neg h1, if_neg h2]
        rw [this] at hb; cases hb
  have τ2own : ∀ j t, ts[j]? = some t → τ2 t = Ge.τ j := fun j t hj => by
    have hx : ∃ j, ts[j]? = some t := ⟨j, hj⟩
    show (if t < s.nt then (if hx : ∃ j, ts[j]? = some t then Ge.τ (Classical.choose hx) else G.τ t) else _) = _
    rw [if_pos (hin.tlt t (List.mem_of_getElem? hj)), dif_pos hx, nodup_idx hin.tnd (Classical.choose_spec hx) hj]
  have τ2out : ∀ t, t < s.nt → t ∉ ts → τ2 t = G.τ t := fun t ht hn => by
    show (if t < s.nt then (if hx : ∃ j, ts[j]? = some t then Ge.τ (Classical.choose hx) else G.τ t) else _) = _
    rw [if_pos ht, dif_neg (fun ⟨j, hj⟩ => hn (List.mem_of_getElem? hj))]
  have τ2new : ∀ i, i < kt → τ2 (s.nt + i) = Ge.τ (s0.nt + i) := fun i hi => by
    have hi' : i < s'.nt - s.nt := hi
    show (if s.nt + i < s.nt then _ else if s.nt + i < s'.nt then Ge.τ (s0.nt + (s.nt + i - s.nt)) else none) = _
    rw [if_neg (by omega), if_pos (by omega), Nat.add_sub_cancel_left]
  have hGle : G.Le G2 := by
    refine ⟨fun b x hb => ?_, fun c o v hI => ?_, fun t x ht => ?_, rfl⟩
    · have hlt := (hw.lt b x.1 x.2 hb).1
      by_cases h2 : b ∈ bs
      · obtain ⟨j, hj⟩ := List.mem_iff_getElem?.1 h2
        show ρ2 b = some x
        rw [ρ2own j b hj]
        exact hle.ρ _ _ ((hρin j b hj).trans hb)
      · show ρ2 b = some x
        rw [ρ2out b hlt h2]; exact hb
    · show (if K' c then G.I c o else Ge.I c o) = some v
      split
      · exact hI
      · exact hle.I _ _ _ hI
    · have hlt := hw.tlt t x ht
      by_cases h2 : t ∈ ts
      · obtain ⟨j, hj⟩ := List.mem_iff_getElem?.1 h2
        show τ2 t = some x
        rw [τ2own j t hj]
        exact hle.τ _ _ ((hτin j t hj).trans ht)
      · show τ2 t = some x
        rw [τ2out t hlt h2]; exact ht
  have hI2 : ∀ c o v, Ge.I c o = some v → G2.I c o = some v := fun c o v e => by
    show (if K' c then G.I c o else Ge.I c o) = some v
    split
    · rename_i hk
      have := hwe.old c o v hk e
      rw [hle.J] at this
      exact this
    · exact e
  have hI2n : ∀ c o, ¬ K' c → G2.I c o = Ge.I c o := fun c o hk => if_neg hk
  have hI2k : ∀ c o, K' c → G2.I c o = G.I c o := fun c o hk => if_pos hk
  have hρo : ∀ x y, bOut S.nx bs s0.next s.next kb x y → ∀ c n, Ge.ρ x = some (c, n) → G2.ρ y = some (c, n) := by
    rintro x y (⟨j, rfl, hj⟩ | ⟨i, hi, rfl, rfl⟩) c n e
    · show ρ2 y = _
      rw [ρ2own j y hj]; exact e
    · show ρ2 (s.next + i) = _
      rw [ρ2new i hi]; exact e
  have hτo : ∀ x y, tOut ts s0.nt s.nt kt x y → ∀ e, Ge.τ x = some e → G2.τ y = some e := by
    rintro x y (hj | ⟨i, hi, rfl, rfl⟩) e he
    · show τ2 y = _
      rw [τ2own x y hj]; exact he
    · show τ2 (s.nt + i) = _
      rw [τ2new i hi]; exact he
  have hlt : ∀ t, s.live.get t = some true → t < s.nt := fun t ht => by
    obtain ⟨x, hx⟩ := hw.tdef t ht
    exact hw.tlt t x hx
  have hkeep : ∀ c, K' c → w2.heap[c]? = w.heap[c]? := fun c hc => hwe.below.block c hc
  -- a block of the outside that is not handed in
  have hout1 : ∀ b c n, b < s.next → b ∉ bs → G.ρ b = some (c, n) → ¬ K c → (∀ y n', y ∈ bs → G.ρ y = some (c, n') → False) := fun b c n _ hb hρ hk y n' hy hy' => by
    have := hw.inj b y c n n' hk hρ hy'
    exact hb (this ▸ hy)
  have hinner : ∀ x c n, S.nx ≤ x → Ge.ρ x = some (c, n) → c < w.heap.size → ∃ j y, x = S.nx + j ∧ bs[j]? = some y ∧ G.ρ y = some (c, n) := fun x c n hx hρ hc => by
    rcases hρcase x c n (hnew x c n hρ hc) with ⟨hbx, _⟩ | h
    · omega
    · exact h
  have hinnerK : ∀ x c n, S.nx ≤ x → Ge.ρ x = some (c, n) → ¬ K' c := fun x c n hx hρ hk => by
    obtain ⟨j, y, rfl, hj, hy⟩ := hinner x c n hx hρ hk.1
    exact hk.2 (.inl ⟨y, n, List.mem_of_getElem? hj, hy⟩)
  have hnx0 : S.nx ≤ s0.next := by rw [hin.next]; omega
  refine ⟨G2, hGle, ?_, ?_⟩
  · exact
      { below := hw.below.trans (hwe.below.mono hKK)
        hB := fun c hc => Nat.lt_of_lt_of_le (hw.hB c hc) hwe.below.size
        cells := fun b cs f c n hb hρ => by
          rcases ρ2case b c n hρ with ⟨h1, h2, h3⟩ | ⟨j, hj, h3⟩ | ⟨i, hi, rfl, h3⟩
          · rw [hout.same b h1 h2] at hb
            obtain ⟨arr, T, fr, p1, p2, p3, p4, p5⟩ := hw.cells b cs f c n hb h3
            have hc := (hw.lt b c n h3).2
            by_cases hk : K' c
            · exact ⟨arr, T, fr, (hkeep c hk).trans p1, p2, p3, p4.mono hGle, fun hf => ⟨(p5 hf).1, (p5 hf).2.1, fun o => (hI2k c o hk).trans ((p5 hf).2.2 o)⟩⟩
            · have ho : Own c := by
                rcases Classical.em (Own c) with h | h
                · exact h
                · exact absurd ⟨hc, h⟩ hk
              rcases ho with ⟨y, n', hy, hy'⟩ | ⟨j, t, e1, ce, hj, hl, hτ⟩
              · exact (hout1 b c n h1 h2 h3 (hown c (.inl ⟨y, n', hy, hy'⟩)) y n' hy hy').elim
              · obtain ⟨q1, q2, ⟨arr1, T1, lo, hi, q3, q4, q5⟩, q6⟩ := hw.tags t c e1 ce (hin.live j t hj hl) hτ
                obtain ⟨cs1, hcs1, hlen⟩ := q6 b n h3
                rw [hb] at hcs1
                cases hcs1
                obtain ⟨arr2, T2, fr2, r1, r2⟩ := hwe.below.shape c arr T fr p1
                refine ⟨arr2, T2, fr2, r1, r2.trans p2, p3, ?_, fun hf => by cases hf⟩
                have : arr2.toList.take cs.length = arr.toList.take cs.length := by
                  refine List.ext_getElem? fun o => ?_
                  rw [List.getElem?_take, List.getElem?_take]
                  split
                  · rename_i ho
                    obtain ⟨v, hv⟩ := hw.tlow t c e1 ce (hin.live j t hj hl) hτ o (by omega)
                    have e1 := hw.imm c o v hv
                    have e2 := hwe.imm c o v (hle.I _ _ _ hv)
                    simp only [World.cell?, p1] at e1
                    simp only [World.cell?, r1] at e2
                    simpa using (by simpa using e2 : arr2[o]? = some v).trans (by simpa using e1 : arr[o]? = some v).symm
                  · rfl
                rw [this]
                exact p4.mono hGle
          · obtain ⟨cs1, cs', g1, g2, g3⟩ := hout.own j b hj
            rw [hb] at g2
            cases g2
            obtain ⟨arr, T, fr, p1, p2, p3, p4, p5⟩ := hwe.cells _ cs1 false c n g1 h3
            have hk := hinnerK _ c n (Nat.le_add_right _ _) h3
            exact ⟨arr, T, fr, p1, p2, by rw [g3.length]; exact p3, by rw [g3.length]; exact RVs.vr hρo hτo hI2 p4 g3, fun hf => ⟨(p5 rfl).1, hnK c hk, fun o => (hI2n c o hk).trans ((p5 rfl).2.2 o)⟩⟩
          · obtain ⟨blk1, g1, g2⟩ := hout.new i _ hi hb
            cases blk1 with
            | siter st p => simp only [RB] at g2; cases g2
            | cells cs1 f1 =>
              simp only [RB] at g2
              obtain ⟨ds, g3, e⟩ := g2
              cases e
              obtain ⟨arr, T, fr, p1, p2, p3, p4, p5⟩ := hwe.cells _ cs1 f c n g1 h3
              have hk := hinnerK _ c n (by omega) h3
              exact ⟨arr, T, fr, p1, p2, by rw [g3.length]; exact p3, by rw [g3.length]; exact RVs.vr hρo hτo hI2 p4 g3, fun hf => ⟨(p5 hf).1, hnK c hk, fun o => (hI2n c o hk).trans ((p5 hf).2.2 o)⟩⟩
        siter := fun b str pos c n hb hρ => by
          rcases ρ2case b c n hρ with ⟨h1, h2, h3⟩ | ⟨j, hj, h3⟩ | ⟨i, hi, rfl, h3⟩
          · rw [hout.same b h1 h2] at hb
            obtain ⟨p1, p2⟩ := hw.siter b str pos c n hb h3
            have hk : K' c := ⟨(hw.lt b c n h3).2, fun ho => by
              rcases ho with ⟨y, n', hy, hy'⟩ | ⟨j, t, e1, ce, hj, hl, hτ⟩
              · exact hout1 b c n h1 h2 h3 p2 y n' hy hy'
              · obtain ⟨_, _, _, q6⟩ := hw.tags t c e1 ce (hin.live j t hj hl) hτ
                obtain ⟨cs1, hcs1, _⟩ := q6 b n h3
                rw [hb] at hcs1; cases hcs1⟩
            exact ⟨(hkeep c hk).trans p1, p2⟩
          · obtain ⟨cs1, cs', g1, g2, g3⟩ := hout.own j b hj
            rw [hb] at g2; cases g2
          · obtain ⟨blk1, g1, g2⟩ := hout.new i _ hi hb
            cases blk1 with
            | cells cs1 f1 => simp only [RB] at g2; obtain ⟨_, _, e⟩ := g2; cases e
            | siter st p =>
              simp only [RB] at g2
              cases g2
              obtain ⟨p1, p2⟩ := hwe.siter _ _ _ c n g1 h3
              exact ⟨p1, hnK c p2⟩
        inj := fun b b' c n n' hc hb hb' => by
          have inner : ∀ x x', S.nx ≤ x → S.nx ≤ x' → Ge.ρ x = some (c, n) → Ge.ρ x' = some (c, n') → x = x' := fun x x' hx hx' e e' => hwe.inj x x' c n n' (hinnerK x c n hx e) e e'
          have mixed : ∀ b x n n', b < s.next → b ∉ bs → G.ρ b = some (c, n) → S.nx ≤ x → Ge.ρ x = some (c, n') → False := fun b x n n' h1 h2 h3 hx e => by
            obtain ⟨j, y, rfl, hj, hy⟩ := hinner x c n' hx e (hw.lt b c n h3).2
            exact hout1 b c n h1 h2 h3 hc y n' (List.mem_of_getElem? hj) hy
          rcases ρ2case b c n hb with ⟨h1, h2, h3⟩ | ⟨j, hj, h3⟩ | ⟨i, hi, rfl, h3⟩ <;> rcases ρ2case b' c n' hb' with ⟨h1', h2', h3'⟩ | ⟨j', hj', h3'⟩ | ⟨i', hi', rfl, h3'⟩
          · exact hw.inj b b' c n n' hc h3 h3'
          · exact (mixed b _ n n' h1 h2 h3 (Nat.le_add_right _ _) h3').elim
          · exact (mixed b _ n n' h1 h2 h3 (by omega) h3').elim
          · exact (mixed b' _ n' n h1' h2' h3' (Nat.le_add_right _ _) h3).elim
          · have := inner _ _ (Nat.le_add_right _ _) (Nat.le_add_right _ _) h3 h3'
            have : j = j' := by omega
            subst this
            rw [hj] at hj'; cases hj'; rfl
          · have := inner _ _ (Nat.le_add_right _ _) (by omega) h3 h3'
            have := (List.getElem?_eq_some_iff.1 hj).1
            have := hin.next
            omega
          · exact (mixed b' _ n' n h1' h2' h3' (by omega) h3).elim
          · have := inner _ _ (by omega) (Nat.le_add_right _ _) h3 h3'
            have := (List.getElem?_eq_some_iff.1 hj').1
            have := hin.next
            omega
          · have := inner _ _ (by omega) (by omega) h3 h3'
            omega
        lt := fun b c n hb => by
          rcases ρ2case b c n hb with ⟨h1, h2, h3⟩ | ⟨j, hj, h3⟩ | ⟨i, hi, rfl, h3⟩
          · exact ⟨Nat.lt_of_lt_of_le h1 hout.next, Nat.lt_of_lt_of_le (hw.lt b c n h3).2 hwe.below.size⟩
          · exact ⟨Nat.lt_of_lt_of_le (hbs b (List.mem_of_getElem? hj)) hout.next, (hwe.lt _ c n h3).2⟩
          · have hi' : i < s'.next - s.next := hi
            exact ⟨by omega, (hwe.lt _ c n h3).2⟩
        imm := fun c o v hv => by
          by_cases hk : K' c
          · rw [hI2k c o hk] at hv
            have := hw.imm c o v hv
            rw [← this]
            exact World.cell?_of_block (hkeep c hk)
          · rw [hI2n c o hk] at hv
            exact hwe.imm c o v hv
        tags := fun t c e1 ce hl hτ => by
          have notown : ∀ b n, b < s.next → b ∉ bs → G.ρ b = some (c, n) → ¬ K' c → ∃ j2 t2 e2 ce2 cs, ts[j2]? = some t2 ∧ s0.live.get j2 = some true ∧ G.τ t2 = some (c, e2, ce2) ∧ s.heap.get b = some (.cells cs true) ∧ cs.length ≤ e2 := fun b n h1 h2 h3 hk => by
            have ho : Own c := by
              rcases Classical.em (Own c) with h | h
              · exact h
              · exact absurd ⟨(hw.lt b c n h3).2, h⟩ hk
            rcases ho with ⟨y, n', hy, hy'⟩ | ⟨j2, t2, e2, ce2, hj2, hl2, hτ2⟩
            · exact (hout1 b c n h1 h2 h3 (hown c (.inl ⟨y, n', hy, hy'⟩)) y n' hy hy').elim
            · obtain ⟨_, _, _, q6⟩ := hw.tags t2 c e2 ce2 (hin.live j2 t2 hj2 hl2) hτ2
              obtain ⟨cs, hcs, hlen⟩ := q6 b n h3
              exact ⟨j2, t2, e2, ce2, cs, hj2, hl2, hτ2, hcs, hlen⟩
          rcases hout.live t hl with ⟨htn, hls⟩ | ⟨j, hj, hl0, hl1⟩ | ⟨i, hi, rfl, hl1⟩
          · have hτ' : G.τ t = some (c, e1, ce) := (τ2out t (hlt t hls) htn).symm.trans hτ
            obtain ⟨q1, q2, ⟨arr1, T1, lo, hi, q3, q4⟩, q6⟩ := hw.tags t c e1 ce hls hτ'
            have hk : K' c := ⟨(Array.getElem?_eq_some_iff.1 q3).1, fun ho => by
              rcases ho with ⟨y, n', hy, hy'⟩ | ⟨j2, t2, e2, ce2, hj2, hl2, hτ2⟩
              · obtain ⟨cs, hcs⟩ := hin.own y hy
                obtain ⟨cs2, hcs2, _⟩ := q6 y n' hy'
                rw [hcs] at hcs2; cases hcs2
              · have := hw.tdist t t2 c e1 ce e2 ce2 hls (hin.live j2 t2 hj2 hl2) hτ' hτ2
                exact htn (this ▸ List.mem_of_getElem? hj2)⟩
            refine ⟨q1, fun o ho => (hI2k c o hk).trans (q2 o ho), ⟨arr1, T1, lo, hi, (hkeep c hk).trans q3, q4⟩, fun b n hb => ?_⟩
            rcases ρ2case b c n hb with ⟨h1, h2, h3⟩ | ⟨j, hj, h3⟩ | ⟨i, hi, rfl, h3⟩
            · obtain ⟨cs, hcs, hlen⟩ := q6 b n h3
              exact ⟨cs, (hout.same b h1 h2).trans hcs, hlen⟩
            · exact absurd hk (hinnerK _ c n (Nat.le_add_right _ _) h3)
            · exact absurd hk (hinnerK _ c n (by omega) h3)
          · have hτ' : Ge.τ j = some (c, e1, ce) := (τ2own j t hj).symm.trans hτ
            obtain ⟨q1, q2, q3, q6⟩ := hwe.tags j c e1 ce hl1 hτ'
            refine ⟨hnK c q1, fun o ho => (hI2n c o q1).trans (q2 o ho), q3, fun b n hb => ?_⟩
            rcases ρ2case b c n hb with ⟨h1, h2, h3⟩ | ⟨j', hj', h3⟩ | ⟨i, hi, rfl, h3⟩
            · obtain ⟨j2, t2, e2, ce2, cs, hj2, hl2, hτ2, hcs, hlen⟩ := notown b n h1 h2 h3 q1
              obtain ⟨x, hx⟩ := hw.tdef t (hin.live j t hj hl0)
              have hx' := hle.τ _ _ ((hτin j t hj).trans hx)
              rw [hτ'] at hx'; cases hx'
              have e := hw.tdist t t2 c e1 ce e2 ce2 (hin.live j t hj hl0) (hin.live j2 t2 hj2 hl2) hx hτ2
              subst e
              rw [hx] at hτ2; cases hτ2
              exact ⟨cs, (hout.same b h1 h2).trans hcs, hlen⟩
            · obtain ⟨cs1, cs', g1, g2, g3⟩ := hout.own j' b hj'
              obtain ⟨cs2, hcs2, _⟩ := q6 _ n h3
              rw [g1] at hcs2; cases hcs2
            · obtain ⟨cs2, hcs2, hlen⟩ := q6 _ n h3
              obtain ⟨cs', g1, g2⟩ := hout.frz i cs2 hi hcs2
              exact ⟨cs', g1, by omega⟩
          · have hτ' : Ge.τ (s0.nt + i) = some (c, e1, ce) := (τ2new i hi).symm.trans hτ
            obtain ⟨q1, q2, q3, q6⟩ := hwe.tags _ c e1 ce hl1 hτ'
            refine ⟨hnK c q1, fun o ho => (hI2n c o q1).trans (q2 o ho), q3, fun b n hb => ?_⟩
            rcases ρ2case b c n hb with ⟨h1, h2, h3⟩ | ⟨j', hj', h3⟩ | ⟨i', hi', rfl, h3⟩
            · obtain ⟨j2, t2, e2, ce2, cs, hj2, hl2, hτ2, hcs, hlen⟩ := notown b n h1 h2 h3 q1
              refine ⟨cs, (hout.same b h1 h2).trans hcs, ?_⟩
              rcases Nat.lt_or_ge e1 e2 with hlt | hge
              · obtain ⟨v, hv⟩ := hw.tlow t2 c e2 ce2 (hin.live j2 t2 hj2 hl2) hτ2 e1 hlt
                have := hle.I _ _ _ hv
                rw [q2 e1 (Nat.le_refl _)] at this; cases this
              · omega
            · obtain ⟨cs1, cs', g1, g2, g3⟩ := hout.own j' b hj'
              obtain ⟨cs2, hcs2, _⟩ := q6 _ n h3
              rw [g1] at hcs2; cases hcs2
            · obtain ⟨cs2, hcs2, hlen⟩ := q6 _ n h3
              obtain ⟨cs', g1, g2⟩ := hout.frz i' cs2 hi' hcs2
              exact ⟨cs', g1, by omega⟩
        tdist := fun t t' c e1 ce1 e2 ce2 hl hl' hτ hτ' => by
          have outK : ∀ t e ce, t < s.nt → t ∉ ts → s.live.get t = some true → G.τ t = some (c, e, ce) → K' c := fun t e ce ht htn hls hτ => by
            obtain ⟨q1, q2, ⟨arr1, T1, lo, hi, q3, q4⟩, q6⟩ := hw.tags t c e ce hls hτ
            refine ⟨(Array.getElem?_eq_some_iff.1 q3).1, fun ho => ?_⟩
            rcases ho with ⟨y, n', hy, hy'⟩ | ⟨j2, t2, e2, ce2, hj2, hl2, hτ2⟩
            · obtain ⟨cs, hcs⟩ := hin.own y hy
              obtain ⟨cs2, hcs2, _⟩ := q6 y n' hy'
              rw [hcs] at hcs2; cases hcs2
            · have := hw.tdist t t2 c e ce e2 ce2 hls (hin.live j2 t2 hj2 hl2) hτ hτ2
              exact htn (this ▸ List.mem_of_getElem? hj2)
          rcases hout.live t hl with ⟨htn, hls⟩ | ⟨j, hj, _, hl1⟩ | ⟨i, hi, rfl, hl1⟩ <;> rcases hout.live t' hl' with ⟨htn', hls'⟩ | ⟨j', hj', _, hl1'⟩ | ⟨i', hi', rfl, hl1'⟩
          · exact hw.tdist t t' c e1 ce1 e2 ce2 hls hls' ((τ2out t (hlt t hls) htn).symm.trans hτ) ((τ2out t' (hlt t' hls') htn').symm.trans hτ')
          · exact absurd (outK t _ _ (hlt t hls) htn hls ((τ2out t (hlt t hls) htn).symm.trans hτ)) (hwe.tags j' c _ _ hl1' ((τ2own j' t' hj').symm.trans hτ')).1
          · exact absurd (outK t _ _ (hlt t hls) htn hls ((τ2out t (hlt t hls) htn).symm.trans hτ)) (hwe.tags _ c _ _ hl1' ((τ2new i' hi').symm.trans hτ')).1
          · exact absurd (outK t' _ _ (hlt t' hls') htn' hls' ((τ2out t' (hlt t' hls') htn').symm.trans hτ')) (hwe.tags j c _ _ hl1 ((τ2own j t hj).symm.trans hτ)).1
          · have := hwe.tdist j j' c _ _ _ _ hl1 hl1' ((τ2own j t hj).symm.trans hτ) ((τ2own j' t' hj').symm.trans hτ')
            subst this
            rw [hj] at hj'; cases hj'; rfl
          · have := hwe.tdist j _ c _ _ _ _ hl1 hl1' ((τ2own j t hj).symm.trans hτ) ((τ2new i' hi').symm.trans hτ')
            have := (List.getElem?_eq_some_iff.1 hj).1
            have := hin.nt
            omega
          · exact absurd (outK t' _ _ (hlt t' hls') htn' hls' ((τ2out t' (hlt t' hls') htn').symm.trans hτ')) (hwe.tags _ c _ _ hl1 ((τ2new i hi).symm.trans hτ)).1
          · have := hwe.tdist _ j' c _ _ _ _ hl1 hl1' ((τ2new i hi).symm.trans hτ) ((τ2own j' t' hj').symm.trans hτ')
            have := (List.getElem?_eq_some_iff.1 hj').1
            have := hin.nt
            omega
          · have := hwe.tdist _ _ c _ _ _ _ hl1 hl1' ((τ2new i hi).symm.trans hτ) ((τ2new i' hi').symm.trans hτ')
            omega
        tlt := fun t x hτ => by
          by_cases h1 : t < s.nt
          · exact Nat.lt_of_lt_of_le h1 hout.nt
          · by_cases h2 : t < s'.nt
            · exact h2
            · have : τ2 t = none := by
                show (if t < s.nt then _ else if t < s'.nt then _ else none) = _
                rw [if_neg h1, if_neg h2]
              have hτ2 : τ2 t = some x := hτ
              rw [this] at hτ2; cases hτ2
        hlt := fun b blk hb => by
          rcases Nat.lt_or_ge b s'.next with h | h
          · exact h
          · have hn := hout.next
            by_cases hbb : b ∈ bs
            · have := hbs b hbb; omega
            · rw [hout.none b h hbb] at hb
              have := hw.hlt b blk hb
              omega
        old := fun c o v hc hI => hw.old c o v hc ((hI2k c o (hKK c hc)).symm.trans hI)
        hmap := fun b blk hb => by
          by_cases hbb : b ∈ bs
          · obtain ⟨j, hj⟩ := List.mem_iff_getElem?.1 hbb
            obtain ⟨cs1, cs', g1, _, _⟩ := hout.own j b hj
            obtain ⟨x, hx⟩ := hwe.hmap _ _ g1
            exact ⟨x, (ρ2own j b hj).trans hx⟩
          · rcases Nat.lt_or_ge b s.next with h1 | h1
            · rw [hout.same b h1 hbb] at hb
              obtain ⟨x, hx⟩ := hw.hmap b _ hb
              exact ⟨x, (ρ2out b h1 hbb).trans hx⟩
            · rcases Nat.lt_or_ge b s'.next with h2 | h2
              · have hi : b - s.next < s'.next - s.next := by omega
                rw [show b = s.next + (b - s.next) by omega] at hb
                obtain ⟨blk1, g1, _⟩ := hout.new _ _ hi hb
                obtain ⟨x, hx⟩ := hwe.hmap _ _ g1
                refine ⟨x, ?_⟩
                rw [show b = s.next + (b - s.next) by omega]
                exact (ρ2new _ hi).trans hx
              · rw [hout.none b h2 hbb] at hb
                have := hw.hlt b _ hb
                omega
        oldρ := fun b c n hc hb => by
          have hcw : c < w.heap.size := Nat.lt_of_lt_of_le hc hw.below.size
          rcases ρ2case b c n hb with ⟨h1, h2, h3⟩ | ⟨j, hj, h3⟩ | ⟨i, hi, rfl, h3⟩
          · exact hw.oldρ b c n hc h3
          · obtain ⟨j', y, e, hj', hy⟩ := hinner _ c n (Nat.le_add_right _ _) h3 hcw
            have : j' = j := by omega
            subst this
            rw [hj] at hj'; cases hj'
            exact hw.oldρ b c n hc hy
          · obtain ⟨j', y, e, hj', hy⟩ := hinner _ c n (by omega) h3 hcw
            have := (List.getElem?_eq_some_iff.1 hj').1
            have := hin.next
            omega
        tdef := fun t hl => by
          rcases hout.live t hl with ⟨htn, hls⟩ | ⟨j, hj, _, hl1⟩ | ⟨i, hi, rfl, hl1⟩
          · obtain ⟨x, hx⟩ := hw.tdef t hls; exact ⟨x, (τ2out t (hlt t hls) htn).trans hx⟩
          · obtain ⟨x, hx⟩ := hwe.tdef j hl1; exact ⟨x, (τ2own j t hj).trans hx⟩
          · obtain ⟨x, hx⟩ := hwe.tdef _ hl1; exact ⟨x, (τ2new i hi).trans hx⟩
        tlow := fun t c e1 ce hl hτ o ho => by
          rcases hout.live t hl with ⟨htn, hls⟩ | ⟨j, hj, _, hl1⟩ | ⟨i, hi, rfl, hl1⟩
          · obtain ⟨v, hv⟩ := hw.tlow t c e1 ce hls ((τ2out t (hlt t hls) htn).symm.trans hτ) o ho; exact ⟨v, hGle.I _ _ _ hv⟩
          · obtain ⟨v, hv⟩ := hwe.tlow j c e1 ce hl1 ((τ2own j t hj).symm.trans hτ) o ho; exact ⟨v, hI2 _ _ _ hv⟩
          · obtain ⟨v, hv⟩ := hwe.tlow _ c e1 ce hl1 ((τ2new i hi).symm.trans hτ) o ho; exact ⟨v, hI2 _ _ _ hv⟩ }
  · cases r0 with
    | ret a =>
      simp only [RR] at hr
      obtain ⟨b, hb, rfl⟩ := hr
      obtain ⟨v, rfl, hv⟩ := hres
      exact ⟨v, rfl, RV.vr hρo hτo hI2 hv hb⟩
    | pan a =>
      simp only [RR] at hr
      obtain ⟨b, hb, rfl⟩ := hr
      obtain ⟨v, rfl, hv⟩ := hres
      exact ⟨v, rfl, RV.vr hρo hτo hI2 hv hb⟩
end Go.Am
