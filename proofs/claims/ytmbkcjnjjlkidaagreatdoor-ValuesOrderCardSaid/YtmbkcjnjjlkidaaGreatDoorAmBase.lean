/- The abstract machine: what code may be run, what a run comes to, results, values without blocks, the start. -/
import Derived.Test.YtmbkcjnjjlkidaaGreatDoorAmRegion6
namespace Go.Am
open Go.RowKit

def codeOk (NG N : Nat) (m : List Nat) : Code → Bool
  | .region _ ops draw => ops.toList.all (opOk NG N) && (!draw || regionOk m ops)
  | .seq a b => codeOk NG N m a && codeOk NG N m b
  | .cond c a b => okO NG c && codeOk NG N m a && codeOk NG N m b
  | .block _ a => codeOk NG N m a
  | .loop a => codeOk NG N m a
  | _ => true

def CodePost (B : Nat → Prop) (w0 : World) (G : Gh) (a0 : Act) (ex : Ex) (e' : Env) (s' : St) : Exit → Act → World → Prop := fun x a' w' =>
  ∃ G', G.Le G' ∧ WR B w0 G' s' w' ∧ a'.defers = a0.defers ∧ match ex with
    | .normal => x = .normal ∧ EnvR G' e' a' ∧ a'.tmps.size = a0.tmps.size
    | .exit id => x = .exit id ∧ EnvR G' e' a' ∧ a'.tmps.size = a0.tmps.size
    | .goto l => x = .goto l ∧ EnvR G' e' a' ∧ a'.tmps.size = a0.tmps.size
    | .ret => x = .ret ∧ EnvR G' e' a' ∧ a'.tmps.size = a0.tmps.size
    | .pan v => ∃ u, x = .panic [{ v := u, recovered := false }] ∧ VR G' v u

section
variable {P : Program} {B : Nat → Prop} {NG N : Nat} {w0 : World} {C : Ctx} {fn : AFun}

theorem CodePost.trans {G G1 : Gh} {a0 a1 : Act} {ex : Ex} {e' : Env} {s' : St} {x : Exit} {a' : Act} {w' : World} (h : CodePost B w0 G1 a1 ex e' s' x a' w') (hle : G.Le G1) (hd : a1.defers = a0.defers) (ht : a1.tmps.size = a0.tmps.size) :
    CodePost B w0 G a0 ex e' s' x a' w' := by
  obtain ⟨G', q1, q2, q3, q4⟩ := h
  refine ⟨G', hle.trans q1, q2, q3.trans hd, ?_⟩
  cases ex <;> simp only [] at q4 ⊢
  · exact ⟨q4.1, q4.2.1, q4.2.2.trans ht⟩
  · exact ⟨q4.1, q4.2.1, q4.2.2.trans ht⟩
  · exact ⟨q4.1, q4.2.1, q4.2.2.trans ht⟩
  · exact ⟨q4.1, q4.2.1, q4.2.2.trans ht⟩
  · exact q4

end

section
variable {P : Program} {B : Nat → Prop} {NG N : Nat} {w0 : World} {C : Ctx} {fn : AFun}
def resRun (tmps : Array Value) : ResultVar → Sem Value
  | .tmp t => pure (tmps.getD t undef)
  | .cell b t => do loadVar t (← asAddr (tmps.getD b undef))

theorem results_eq (fn : Func) (tmps : Array Value) : results fn tmps = (do
    let vs ← fn.results.mapM (resRun tmps)
    pure (if h : vs.size = 1 then vs[0] else .tuple vs)) := by
  unfold results
  congr 2

theorem results_sim (hT : TOk P C.T) {G : Gh} {s : St} {w : World} {e : Env} {a : Act} (hw : WR B w0 G s w) (he : EnvR G e a) : ∀ (rs : List ResultVar) (xs : List AV), resultsA C.T s e rs = some xs →
    ∃ vs, (rs.mapM (resRun a.tmps)).run P w = .ok vs w ∧ VRs G xs vs
  | [], xs, h => by simp only [resultsA, Option.some.injEq] at h; subst h; exact ⟨[], by simp, .nil⟩
  | .tmp t :: rs, xs, h => by
    simp only [resultsA] at h
    split at h
    · rename_i y ys hy hys
      cases h
      obtain ⟨vs, h1, h2⟩ := results_sim hT hw he rs ys hys
      refine ⟨a.tmps.getD t undef :: vs, ?_, .cons _ _ _ _ (he t y hy) h2⟩
      rw [List.mapM_cons]
      simp only [resRun, Sem.run_bind, Sem.run_pure, Result.andThen_ok]
      rw [h1]; rfl
    · cases h
  | .cell b t :: rs, xs, h => by
    simp only [resultsA] at h
    split at h
    · rename_i p hp
      split at h
      · rename_i x ys hx hys
        cases h
        obtain ⟨vs, h1, h2⟩ := results_sim hT hw he rs ys hys
        have hb := he b p hp
        obtain ⟨u, hu, hv⟩ := loadA_sim hT hw hx hb
        refine ⟨u :: vs, ?_, .cons _ _ _ _ hv h2⟩
        rw [List.mapM_cons]
        have hav : (do loadVar t (← asAddr (a.tmps.getD b undef)) : Sem Value).run P w = .ok u w := by
          generalize a.tmps.getD b undef = pv at *
          unfold loadA at hx
          split at hx
          · cases hx
          · cases hb <;> first
              | (simp at hx; done)
              | (simpa [Instr.loadAt, Instr.sureAddr, asAddr] using hu)
        simp only [Sem.run_bind, resRun] at hav ⊢
        rw [hav]
        simp only [Result.andThen_ok]
        rw [h1]; rfl
      · cases h
    · cases h

theorem pack_sim {G : Gh} {xs : List AV} {vs : List Value} (h : VRs G xs vs) : VR G (packA xs) (if h : vs.toArray.size = 1 then vs.toArray[0] else .tuple vs.toArray) := by
  cases h with
  | nil => exact .tup [] [] .nil
  | cons x v xs vs hx hs =>
    cases hs with
    | nil => simpa [packA] using hx
    | cons y u ys us hy hs' =>
      have : ¬ (v :: u :: us).toArray.size = 1 := by simp
      rw [dif_neg this]
      exact .tup _ _ (.cons _ _ _ _ hx (.cons _ _ _ _ hy hs'))

theorem freeze_sim (hT : TOk P C.T) {G : Gh} {s : St} {w : World} (hw : WR B w0 G s w) {ty : Nat} {x x' : AV} {v : Value} {s' : St} (h : freezeA C.T s ty x = some (x', s')) (hv : VR G x v) :
    ∃ G', G.Le G' ∧ WR B w0 G' s' w ∧ VR G' x' v := by
  unfold freezeA at h
  split at h
  · rename_i b off n z
    split at h
    · rename_i te cs hte hb
      split at h
      · rename_i hc
        cases h
        simp only [Bool.and_eq_true, decide_eq_true_eq, beq_iff_eq] at hc
        obtain ⟨⟨⟨⟨c1, c2⟩, c3⟩, rfl⟩, c5⟩ := hc
        cases hv
        rename_i c m cap hr hlc hcc
        obtain ⟨arr, T', fr, g1, g2, g3, g4, g5⟩ := hw.cells b cs false c m hb hr
        have h1 := hw.freeze hb hr (off + n * te.size) (off + cap * te.size) c1 hcc g1
        have hle := Gh.le_frozen hw hb hr (off + n * te.size) (fun o => arr[o]?) (off + cap * te.size)
        refine ⟨_, hle, h1, ?_⟩
        have hl : ((cs.drop off).take (n * te.size)).length = n * te.size := by simp; omega
        obtain ⟨e1, e2, e3⟩ := chunk_flat (fun ha => size_one hT hte ha) n ((cs.drop off).take (n * te.size)) hl c5
        have hvs : VRs G ((cs.drop off).take (n * te.size)) (((arr.toList.take cs.length).drop off).take (n * te.size)) := (g4.drop off).take _
        have hvl : (((arr.toList.take cs.length).drop off).take (n * te.size)).length = n * te.size := by rw [← hvs.length, hl]
        refine .sl _ _ c off te.size n cap (((arr.toList.take cs.length).drop off).take (n * te.size)) e2 (by rw [e1]; exact hvs.mono hle) (fun j hj => ?_) e3.symm hlc ⟨by rw [e3]; exact c3, ?_⟩
        · simp only [Gh.frozen]
          rw [hvl] at hj
          rw [if_pos (by first | rfl | trivial), if_pos (by omega), List.getElem?_take, if_pos hj, List.getElem?_drop, List.getElem?_take, if_pos (by omega)]
          simp
        · simp only [Gh.frozen, e3, if_true]
      · cases h
    · cases h
  · cases h
    exact ⟨G, .refl G, hw, hv⟩

end

def SK.deaden : SK → SK
  | .full => .full
  | _ => .dead

mutual
def deaden : AV → AV
  | .elem xs i o => .elem (deadens xs) i o
  | .sl xs k => .sl (deadens xs) k.deaden
  | .fn f a b => .fn f (deadens a) (deadens b)
  | .ifc t v => .ifc t (deaden v)
  | .agg cs => .agg (deadens cs)
  | .tup vs => .tup (deadens vs)
  | v => v
def deadens : List AV → List AV
  | [] => []
  | x :: xs => deaden x :: deadens xs
end

mutual
/-- It names no abstract block. -/
def pureV : AV → Bool
  | .ptr _ _ => false
  | .ms _ _ _ _ => false
  | .map _ => false
  | .elem xs _ _ => pureVs xs
  | .sl xs _ => pureVs xs
  | .fn _ a b => pureVs a && pureVs b
  | .ifc _ v => pureV v
  | .agg cs => pureVs cs
  | .tup vs => pureVs vs
  | _ => true
def pureVs : List AV → Bool
  | [] => true
  | x :: xs => pureV x && pureVs xs
end

theorem deadens_append (a b : List AV) : deadens (a ++ b) = deadens a ++ deadens b := by
  induction a with
  | nil => simp [deadens]
  | cons x a ih => simp [deadens, ih]
theorem cellsOf_deaden (a : AV) : cellsOf (deaden a) = deadens (cellsOf a) := by
  cases a <;> simp [deaden, cellsOf, deadens]
theorem deadens_length (a : List AV) : (deadens a).length = a.length := by
  induction a with
  | nil => simp [deadens]
  | cons x a ih => simp [deadens, ih]
theorem deadens_flatMap (a : List AV) : (deadens a).flatMap cellsOf = deadens (a.flatMap cellsOf) := by
  induction a with
  | nil => simp [deadens]
  | cons x a ih => simp [deadens, ih, cellsOf_deaden, deadens_append]
theorem deadens_mem {a : List AV} {x : AV} (h : x ∈ deadens a) : ∃ y ∈ a, x = deaden y := by
  induction a with
  | nil => simp [deadens] at h
  | cons y a ih =>
    simp only [deadens, List.mem_cons] at h
    rcases h with rfl | h
    · exact ⟨y, by simp, rfl⟩
    · obtain ⟨z, hz, rfl⟩ := ih h; exact ⟨z, by simp [hz], rfl⟩
theorem pureVs_append (a b : List AV) : pureVs (a ++ b) = (pureVs a && pureVs b) := by
  induction a with
  | nil => simp [pureVs]
  | cons x a ih => simp [pureVs, ih, Bool.and_assoc]
theorem pure_cells {a : AV} (h : pureV a = true) : pureVs (cellsOf a) = true := by
  cases a <;> simp_all [pureV, cellsOf, pureVs]
theorem pure_flatMap {a : List AV} (h : pureVs a = true) : pureVs (a.flatMap cellsOf) = true := by
  induction a with
  | nil => simp [pureVs]
  | cons x a ih =>
    simp only [pureVs, Bool.and_eq_true] at h
    simp [pureVs_append, pure_cells h.1, ih h.2]

mutual
theorem VR.pure {G H : Gh} (hI : ∀ c o v, G.I c o = some v → H.I c o = some v) : ∀ {a : AV} {v : Value}, VR G a v → pureV a = true → VR H (deaden a) v
  | _, _, .bool b, _ => .bool b
  | _, _, .int k n, _ => .int k n
  | _, _, .str s, _ => .str s
  | _, _, .nilp, _ => .nilp
  | _, _, .ptr b off c n e, h => by simp [pureV] at h
  | _, _, .elem xs i off c base sz vs hsz hv hc, h => by
    simp only [deaden]
    refine .elem _ i off c base sz vs (fun x hx => ?_) (by rw [deadens_flatMap]; exact VRs.pure hI hv (pure_flatMap (by simpa [pureV] using h))) (fun j hj => ?_)
    · obtain ⟨y, hy, rfl⟩ := deadens_mem hx
      rw [cellsOf_deaden, deadens_length]; exact hsz y hy
    · have e := hc j hj
      rw [List.getElem?_eq_getElem hj] at e ⊢
      exact hI _ _ _ e
  | _, _, .nils, _ => .nils
  | _, _, .sl xs k c base sz len cap vs hsz hv hc hl hcap hk, h => by
    simp only [deaden]
    refine .sl _ _ c base sz len cap vs (fun x hx => ?_) (by rw [deadens_flatMap]; exact VRs.pure hI hv (pure_flatMap (by simpa [pureV] using h))) (fun j hj => ?_) (by rw [deadens_length]; exact hl) hcap ?_
    · obtain ⟨y, hy, rfl⟩ := deadens_mem hx
      rw [cellsOf_deaden, deadens_length]; exact hsz y hy
    · have e := hc j hj
      rw [List.getElem?_eq_getElem hj] at e ⊢
      exact hI _ _ _ e
    · cases k with
      | full => rw [deadens_length]; exact hk
      | tag t => trivial
      | dead => trivial
  | _, _, .ms b off len sz c n cap e hl hc, h => by simp [pureV] at h
  | _, _, .nilm, _ => .nilm
  | _, _, .map b c n e, h => by simp [pureV] at h
  | _, _, .nilf, _ => .nilf
  | _, _, .fn f a b as bs ha hb, h => by
    simp only [pureV, Bool.and_eq_true] at h
    exact .fn f _ _ as bs (VRs.pure hI ha h.1) (VRs.pure hI hb h.2)
  | _, _, .nili, _ => .nili
  | _, _, .ifc t a v e, h => .ifc t _ v (VR.pure hI e (by simpa [pureV] using h))
  | _, _, .agg cs vs e, h => .agg _ vs (VRs.pure hI e (by simpa [pureV] using h))
  | _, _, .tup cs vs e, h => .tup _ vs (VRs.pure hI e (by simpa [pureV] using h))
theorem VRs.pure {G H : Gh} (hI : ∀ c o v, G.I c o = some v → H.I c o = some v) : ∀ {a : List AV} {v : List Value}, VRs G a v → pureVs a = true → VRs H (deadens a) v
  | _, _, .nil, _ => .nil
  | _, _, .cons a v as vs e es, h => by
    simp only [pureVs, Bool.and_eq_true] at h
    exact .cons _ _ _ _ (VR.pure hI e h.1) (VRs.pure hI es h.2)
end

/-- The start: a heap of variables that are only read, in blocks below nx. -/
structure Start (NG : Nat) (h : Tr Blk) (nx : Nat) (ρ : Nat → Option (Nat × Nat)) (w : World) : Prop where
  g : ∀ g, g < NG → ∃ n, ρ g = some (g, n)
  dom : ∀ b blk, h.get b = some blk → b < nx ∧ ∃ cs, blk = .cells cs true
  cells : ∀ b cs c n, h.get b = some (.cells cs true) → ρ b = some (c, n) →
    ∃ arr T fr, w.heap[c]? = some (.cells arr T fr) ∧ arr.size = n ∧ cs.length ≤ n ∧ ∀ G : Gh, G.ρ = ρ → VRs G cs (arr.toList.take cs.length)
  lt : ∀ b c n, ρ b = some (c, n) → b < nx ∧ c < w.heap.size
  map : ∀ b blk, h.get b = some blk → ∃ x, ρ b = some x

def St.fresh (h : Tr Blk) (nx : Nat) : St := ⟨h, nx, .nil, 0⟩
def Gh.start (ρ : Nat → Option (Nat × Nat)) (I : Nat → Nat → Option Value) : Gh := ⟨ρ, I, fun _ => none, (I, ρ)⟩

section
variable {P : Program} {NG nx : Nat} {h : Tr Blk} {ρ : Nat → Option (Nat × Nat)} {w0 w : World}

theorem Start.kept {K : Nat → Prop} (hS : Start NG h nx ρ w0) (hk : ∀ b c n, ρ b = some (c, n) → K c) (hb : Kept K w0 w) : Start NG h nx ρ w where
  g := hS.g
  dom := hS.dom
  cells := fun b cs c n hb' hr => by
    obtain ⟨arr, T, fr, h1, h2⟩ := hS.cells b cs c n hb' hr
    exact ⟨arr, T, fr, (hb.block c (hk b c n hr)).trans h1, h2⟩
  lt := fun b c n hr => ⟨(hS.lt b c n hr).1, Nat.lt_of_lt_of_le (hS.lt b c n hr).2 hb.size⟩
  map := hS.map

theorem Start.wr (hS : Start NG h nx ρ w) (I : Nat → Nat → Option Value) (hI : ∀ c o v, I c o = some v → w.cell? ⟨c, o, none⟩ = some v) : WR (fun c => c < w.heap.size) w (Gh.start ρ I) (St.fresh h nx) w where
  below := Kept.refl _ _
  hB := fun _ hc => hc
  cells := fun b cs f c n hb hr => by
    obtain ⟨_, cs', e⟩ := hS.dom b _ hb
    cases e
    obtain ⟨arr, T, fr, h1, h2, h3, h4⟩ := hS.cells b cs c n hb hr
    exact ⟨arr, T, fr, h1, h2, h3, h4 _ rfl, fun e => by cases e⟩
  siter := fun b str pos c n hb => by
    obtain ⟨_, cs', e⟩ := hS.dom b _ hb
    cases e
  inj := fun b b' c n n' hc hr => absurd (hS.lt b c n hr).2 hc
  lt := hS.lt
  imm := hI
  tags := fun t c e ce ht => by rw [show (St.fresh h nx).live = .nil from rfl, Tr.get_nil] at ht; cases ht
  tdist := fun t t' c e ce e' ce' ht => by rw [show (St.fresh h nx).live = .nil from rfl, Tr.get_nil] at ht; cases ht
  tlt := fun t x e => by cases e
  hlt := fun b blk e => (hS.dom b blk e).1
  old := fun c o v _ e => e
  oldρ := fun b c n _ e => e
  hmap := hS.map
  tdef := fun t ht => by rw [show (St.fresh h nx).live = .nil from rfl, Tr.get_nil] at ht; cases ht
  tlow := fun t c e ce ht => by rw [show (St.fresh h nx).live = .nil from rfl, Tr.get_nil] at ht; cases ht

theorem CallDoes.mono {f : Nat} {args : Array Value} {R R' : Ending → World → Prop} (hd : CallDoes P f args w R) (hR : ∀ e w', R e w' → R' e w') : CallDoes P f args w R' := by
  unfold CallDoes at hd ⊢
  split
  · rename_i g as w' e; rw [e] at hd; exact Calls.mono hd hR
  · rename_i v w' e; rw [e] at hd; exact hR _ _ hd
  · rename_i v w' e; rw [e] at hd; exact hR _ _ hd
  · rename_i hn1 hn2 hn3
    split at hd
    · rename_i g as w' e; exact hn1 _ _ _ e
    · rename_i v w' e; exact hn2 _ _ e
    · rename_i v w' e; exact hn3 _ _ e
    · exact hd

end
end Go.Am
