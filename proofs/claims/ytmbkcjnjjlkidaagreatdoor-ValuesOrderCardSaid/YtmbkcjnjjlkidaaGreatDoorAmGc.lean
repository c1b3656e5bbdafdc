/- The abstract machine: what a round leaves behind may be forgotten; mutable slices that are read. -/
import Derived.Test.YtmbkcjnjjlkidaaGreatDoorAmRC
namespace Go.Am
set_option linter.unusedVariables false
set_option linter.unusedSimpArgs false
open Go.RowKit

/-- Nothing from k on is named. -/
def lowB (k : Nat) : Nat → Nat → Prop := fun x y => x = y ∧ x < k
def sameT : Nat → Nat → Prop := fun x y => x = y
def Low (k : Nat) (v : AV) : Prop := RV (lowB k) sameT v v
def Lows (k : Nat) (v : List AV) : Prop := RVs (lowB k) sameT v v

theorem RK_same (k : SK) : RK sameT k k := by
  cases k <;> simp [RK, sameT]

mutual
theorem pure_Low {k : Nat} : ∀ {a : AV}, pureV a = true → Low k a
  | .bool a, _ => rfl
  | .int k n, _ => rfl
  | .str s, _ => rfl
  | .nilp, _ => rfl
  | .ptr b o, h => by simp [pureV] at h
  | .elem xs i o, h => ⟨_, pure_Lows (by simpa [pureV] using h), rfl⟩
  | .nils, _ => rfl
  | .sl xs k, h => ⟨_, _, pure_Lows (by simpa [pureV] using h), RK_same k, rfl⟩
  | .ms b o l z, h => by simp [pureV] at h
  | .nilm, _ => rfl
  | .map b, h => by simp [pureV] at h
  | .nilf, _ => rfl
  | .fn f a b, h => by
    simp only [pureV, Bool.and_eq_true] at h
    exact ⟨_, _, pure_Lows h.1, pure_Lows h.2, rfl⟩
  | .nili, _ => rfl
  | .ifc t v, h => ⟨_, pure_Low (by simpa [pureV] using h), rfl⟩
  | .agg cs, h => ⟨_, pure_Lows (by simpa [pureV] using h), rfl⟩
  | .tup cs, h => ⟨_, pure_Lows (by simpa [pureV] using h), rfl⟩
theorem pure_Lows {k : Nat} : ∀ {a : List AV}, pureVs a = true → Lows k a
  | [], _ => rfl
  | x :: xs, h => by
    simp only [pureVs, Bool.and_eq_true] at h
    exact ⟨_, _, pure_Low h.1, pure_Lows h.2, rfl⟩
end
theorem ptr_Low {k b o : Nat} (h : b < k) : Low k (.ptr b o) := ⟨b, ⟨rfl, h⟩, rfl⟩
theorem ms_Low {k b o l z : Nat} (h : b < k) : Low k (.ms b o l z) := ⟨b, ⟨rfl, h⟩, rfl⟩

theorem Lows_split {k : Nat} : ∀ {a b : List AV}, Lows k (a ++ b) → Lows k a ∧ Lows k b
  | [], b, h => ⟨rfl, h⟩
  | x :: a, b, h => by
    obtain ⟨y, ys, h1, h2, e⟩ := h
    simp only [List.cons_append, List.cons.injEq] at e
    obtain ⟨rfl, rfl⟩ := e
    obtain ⟨h3, h4⟩ := Lows_split (a := a) (b := b) h2
    exact ⟨⟨x, a, h1, h3, rfl⟩, h4⟩
theorem Low_cells {k : Nat} {x : AV} (h : Lows k (cellsOf x)) : Low k x := by
  cases x with
  | agg cs => exact ⟨cs, h, rfl⟩
  | _ =>
    obtain ⟨y, ys, h1, h2, e⟩ := h
    cases e
    exact h1
theorem Lows_unflat {k : Nat} : ∀ {xs : List AV}, Lows k (xs.flatMap cellsOf) → Lows k xs
  | [], _ => rfl
  | x :: xs, h => by
    simp only [List.flatMap_cons] at h
    obtain ⟨h1, h2⟩ := Lows_split h
    exact ⟨x, xs, Low_cells h1, Lows_unflat h2, rfl⟩

mutual
theorem VR.low {G : Gh} {k : Nat} (hk : ∀ b c n, G.ρ b = some (c, n) → b < k) : ∀ {a : AV} {v : Value}, VR G a v → Low k a
  | _, _, .bool b => rfl
  | _, _, .int k n => rfl
  | _, _, .str s => rfl
  | _, _, .nilp => rfl
  | _, _, .ptr b off c n e => ⟨b, ⟨rfl, hk _ _ _ e⟩, rfl⟩
  | _, _, .elem xs i off c base sz vs hsz hv hc => ⟨xs, Lows_unflat (VRs.low hk hv), rfl⟩
  | _, _, .nils => rfl
  | _, _, .sl xs k c base sz len cap vs hsz hv hc hl hcap hkk => ⟨xs, k, Lows_unflat (VRs.low hk hv), RK_same k, rfl⟩
  | _, _, .ms b off len sz c n cap e hl hc => ⟨b, ⟨rfl, hk _ _ _ e⟩, rfl⟩
  | _, _, .nilm => rfl
  | _, _, .map b c n e => ⟨b, ⟨rfl, hk _ _ _ e⟩, rfl⟩
  | _, _, .nilf => rfl
  | _, _, .fn f a b as bs ha hb => ⟨a, b, VRs.low hk ha, VRs.low hk hb, rfl⟩
  | _, _, .nili => rfl
  | _, _, .ifc t a v e => ⟨a, VR.low hk e, rfl⟩
  | _, _, .agg cs vs e => ⟨cs, VRs.low hk e, rfl⟩
  | _, _, .tup cs vs e => ⟨cs, VRs.low hk e, rfl⟩
theorem VRs.low {G : Gh} {k : Nat} (hk : ∀ b c n, G.ρ b = some (c, n) → b < k) : ∀ {a : List AV} {v : List Value}, VRs G a v → Lows k a
  | _, _, .nil => rfl
  | _, _, .cons a v as vs e es => ⟨a, as, VR.low hk e, VRs.low hk es, rfl⟩
end

/-- The blocks of a round are forgotten. -/
theorem Wk.gc {S : Sys} {s s1 : St} {e1 e2 : Env} (h2 : Tr Blk) (hsub : Sub e2 e1) (hn : s.next ≤ s1.next) (hlow : ∀ b, b < s.next → h2.get b = s1.heap.get b) (hhigh : ∀ b, s.next ≤ b → s.heap.get b = none → h2.get b = none)
    (he : ∀ t v, e2.get t = some v → Low s.next v) (hh : ∀ b cs f, h2.get b = some (.cells cs f) → s.heap.get b = some (.cells cs f) ∨ Lows s.next cs) : Wk S s e1 s1 e2 ⟨h2, s.next, s1.live, s1.nt⟩ := by
  intro K w0 hK G w hw G1 a1 w1 hle hw1 he1
  let G2 : Gh := { G1 with ρ := fun b => if b < s.next then G1.ρ b else none }
  have hρ : ∀ b x, G2.ρ b = some x → b < s.next ∧ G1.ρ b = some x := fun b x hb => by
    have hb : (if b < s.next then G1.ρ b else none) = some x := hb
    split at hb
    · exact ⟨by assumption, hb⟩
    · cases hb
  have hβ : ∀ x y, lowB s.next x y → ∀ c n, G1.ρ x = some (c, n) → G2.ρ y = some (c, n) := by
    rintro x y ⟨rfl, hx⟩ c n e
    show (if x < s.next then G1.ρ x else none) = _
    rw [if_pos hx]; exact e
  have hθ : ∀ x y, sameT x y → ∀ e, G1.τ x = some e → G2.τ y = some e := by
    rintro x y rfl e h; exact h
  have hlive : ∀ b, h2.get b ≠ none → b < s.next := fun b hb => by
    rcases Nat.lt_or_ge b s.next with h | h
    · exact h
    · refine absurd (hhigh b h ?_) hb
      cases hg : s.heap.get b with
      | none => rfl
      | some blk => have := hw.hlt b blk hg; omega
  refine ⟨G2, ⟨fun b x hb => ?_, hle.I, hle.τ, hle.J⟩, ?_, fun t v ht => RV.vr hβ hθ (fun _ _ _ e => e) (he1 t v (hsub t v ht)) (he t v ht)⟩
  · show (if b < s.next then G1.ρ b else none) = some x
    rw [if_pos (hw.lt b x.1 x.2 hb).1]
    exact hle.ρ _ _ hb
  · exact
      { below := hw1.below
        hB := hw1.hB
        cells := fun b cs f c n hb hr => by
          obtain ⟨h1, h3⟩ := hρ b _ hr
          have hb' := hb
          rw [hlow b h1] at hb'
          obtain ⟨arr, T, fr, p1, p2, p3, p4, p5⟩ := hw1.cells b cs f c n hb' h3
          refine ⟨arr, T, fr, p1, p2, p3, RVs.vr hβ hθ (fun _ _ _ e => e) p4 ?_, p5⟩
          rcases hh b cs f hb with hs | hl
          · obtain ⟨⟨c0, n0⟩, hr0⟩ := hw.hmap b _ hs
            obtain ⟨_, _, _, _, _, _, q4, _⟩ := hw.cells b cs f c0 n0 hs hr0
            exact VRs.low (fun b c n hb => (hw.lt b c n hb).1) q4
          · exact hl
        siter := fun b str pos c n hb hr => by
          obtain ⟨h1, h3⟩ := hρ b _ hr
          rw [hlow b h1] at hb
          exact hw1.siter b str pos c n hb h3
        inj := fun b b' c n n' hc hb hb' => hw1.inj b b' c n n' hc (hρ b _ hb).2 (hρ b' _ hb').2
        lt := fun b c n hb => ⟨(hρ b _ hb).1, (hw1.lt b c n (hρ b _ hb).2).2⟩
        imm := hw1.imm
        tags := fun t c e ce ht hτ => by
          obtain ⟨q1, q2, q3, q4⟩ := hw1.tags t c e ce ht hτ
          refine ⟨q1, q2, q3, fun b n hb => ?_⟩
          obtain ⟨h1, h3⟩ := hρ b _ hb
          obtain ⟨cs, hcs, hl⟩ := q4 b n h3
          exact ⟨cs, (hlow b h1).trans hcs, hl⟩
        tdist := hw1.tdist
        tlt := hw1.tlt
        hlt := fun b blk hb => hlive b (by rw [hb]; simp)
        old := hw1.old
        hmap := fun b blk hb => by
          have h1 := hlive b (by rw [hb]; simp)
          rw [hlow b h1] at hb
          obtain ⟨x, hx⟩ := hw1.hmap b blk hb
          exact ⟨x, by show (if b < s.next then G1.ρ b else none) = some x; rw [if_pos h1]; exact hx⟩
        oldρ := fun b c n hc hb => hw1.oldρ b c n hc (hρ b _ hb).2
        tdef := hw1.tdef
        tlow := hw1.tlow }
end Go.Am
namespace Go.Am
def AllLow (k : Nat) : List (Nat × AV) → Prop
  | [] => True
  | (_, v) :: l => Low k v ∧ AllLow k l
theorem low_of {k : Nat} : ∀ {l : List (Nat × AV)}, AllLow k l → ∀ t v, (Tr.ofList l).get t = some v → Low k v
  | [], _, t, v, ht => by cases ht
  | (a, x) :: l, h, t, v, ht => by
    rw [Tr.ofList, Tr.get_cons] at ht
    split at ht
    · cases ht; exact h.1
    · exact low_of h.2 t v ht

theorem Wk.gc0 {S : Sys} {s s1 : St} {e1 : Env} {l : List (Nat × AV)} (h1 : AllIn l e1) (h2 : AllLow s.next l) (h3 : ∀ b, b < s.next → s.heap.get b = s1.heap.get b) (h4 : s.next ≤ s1.next) :
    Wk S s e1 s1 (Tr.ofList l) ⟨s.heap, s.next, s1.live, s1.nt⟩ := .gc s.heap (sub_of h1) h4 h3 (fun _ _ h => h) (low_of h2) (fun _ _ _ h => .inl h)

theorem SlA.pure {y : AV} {xs : List AV} (h : SlA y xs) (hp : pureVs xs = true) : pureV y = true := by
  rcases h with ⟨rfl, _⟩ | ⟨k, rfl⟩
  · rfl
  · exact hp
theorem SlA.deaden {y : AV} {xs : List AV} (h : SlA y xs) : SlA (deaden y) (deadens xs) := by
  rcases h with ⟨rfl, rfl⟩ | ⟨k, rfl⟩
  · exact .inl ⟨rfl, rfl⟩
  · exact .inr ⟨_, rfl⟩
end Go.Am
namespace Go.Am
/-- A loop, round by round. -/
structure RL (S : Sys) (m : List Nat) (a : Code) (e : Env) (s : St) (Q : Ex → Env → St → Prop) : Prop where
  h : ∃ n ex e' s', DetR S m a n e s ex e' s' ∧ Q ex e' s'

def roundL (S : Sys) (m : List Nat) (a : Code) (Q : Ex → Env → St → Prop) : Ex → Env → St → Prop
  | .normal, e, s => RL S m a e s Q
  | ex, e, s => Q ex e s

theorem RL.round {S : Sys} {m : List Nat} {a : Code} {e : Env} {s : St} {Q : Ex → Env → St → Prop} (h : RC S m a e s (roundL S m a Q)) : RL S m a e s Q := by
  obtain ⟨ex, e', s', h1, h2⟩ := h.h
  cases ex with
  | normal =>
    obtain ⟨n, ex2, e2, s2, h3, h4⟩ := RL.h h2
    exact ⟨n + 1, ex2, e2, s2, DetR.succ h1 .refl h3, h4⟩
  | _ => exact ⟨1, _, e', s', DetR.zero h1 (fun h => by cases h), h2⟩
theorem RC.unroll {S : Sys} {m : List Nat} {a : Code} {e : Env} {s : St} {Q : Ex → Env → St → Prop} (h : RL S m a e s Q) : RC S m (.loop a) e s Q := by
  obtain ⟨n, ex, e', s', h1, h2⟩ := h.h
  exact ⟨ex, e', s', DetR.loop h1, h2⟩
end Go.Am
namespace Go.Am
section
variable {C : Ctx} {mask : Nat} {e : Env} {o : Op} {v : AV} {s : St} {l : List Met}
theorem okR_bit {j : Nat} {s' : St} (hb : bit mask j = true) (h : okRead C mask e o v l = true) : okRead C mask e o v (.ld j s' :: l) = true := by
  simp only [okRead, hb, h, Bool.true_or, Bool.and_self]
theorem okR_ld {j : Nat} {s' : St} (hv : stillOp C.T s'.heap e o = some v) (h : okRead C mask e o v l = true) : okRead C mask e o v (.ld j s' :: l) = true := by
  simp only [okRead, hv, optBeq, AV.beq_refl, h, Bool.or_true, Bool.and_self]
theorem okR_rd {i : Nat} {o' : Op} {e' : Env} {v' : AV} (h : okRead C mask e o v l = true) : okRead C mask e o v (.rd i o' e' v' :: l) = true := h
theorem okR_nil : okRead C mask e o v [] = true := rfl
theorem okL_bit {i : Nat} {o' : Op} {e' : Env} {v' : AV} (hb : bit mask i = true) (h : okLoud C mask s l = true) : okLoud C mask s (.rd i o' e' v' :: l) = true := by
  simp only [okLoud, hb, h, Bool.true_or, Bool.and_self]
theorem okL_rd {i : Nat} {o' : Op} {e' : Env} {v' : AV} (hv : stillOp C.T s.heap e' o' = some v') (h : okLoud C mask s l = true) : okLoud C mask s (.rd i o' e' v' :: l) = true := by
  simp only [okLoud, hv, optBeq, AV.beq_refl, h, Bool.or_true, Bool.and_self]
theorem okL_ld {j : Nat} {s' : St} (h : okLoud C mask s l = true) : okLoud C mask s (.ld j s' :: l) = true := h
theorem okL_nil : okLoud C mask s [] = true := rfl
theorem or_r {a b : Bool} (h : b = true) : (a || b) = true := by rw [h, Bool.or_true]
end
end Go.Am
