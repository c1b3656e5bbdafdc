/- The abstract machine: states against worlds, and what the primitive steps do to that. -/
import Derived.Test.YtmbkcjnjjlkidaaGreatDoorAmRel
namespace Go.Am
open Go.RowKit

structure WR (B : Nat → Prop) (w0 : World) (G : Gh) (s : St) (w : World) : Prop where
  below : Kept B w0 w
  hB : ∀ c, B c → c < w.heap.size
  cells : ∀ b cs f c n, s.heap.get b = some (.cells cs f) → G.ρ b = some (c, n) →
    ∃ arr T fr, w.heap[c]? = some (.cells arr T fr) ∧ arr.size = n ∧ cs.length ≤ n ∧ VRs G cs (arr.toList.take cs.length) ∧
      (f = false → fr = (0, 0) ∧ ¬ B c ∧ ∀ o, G.I c o = none)
  siter : ∀ b str pos c n, s.heap.get b = some (.siter str pos) → G.ρ b = some (c, n) → w.heap[c]? = some (.stringIter str pos) ∧ ¬ B c
  inj : ∀ b b' c n n', ¬ B c → G.ρ b = some (c, n) → G.ρ b' = some (c, n') → b = b'
  lt : ∀ b c n, G.ρ b = some (c, n) → b < s.next ∧ c < w.heap.size
  imm : ∀ c o v, G.I c o = some v → w.cell? ⟨c, o, none⟩ = some v
  tags : ∀ t c e ce, s.live.get t = some true → G.τ t = some (c, e, ce) → ¬ B c ∧ (∀ o, e ≤ o → G.I c o = none) ∧
    (∃ arr T lo hi, w.heap[c]? = some (.cells arr T (lo, hi)) ∧ ce ≤ arr.size ∧ (hi ≤ e ∨ hi ≤ lo)) ∧
    (∀ b n, G.ρ b = some (c, n) → ∃ cs, s.heap.get b = some (.cells cs true) ∧ cs.length ≤ e)
  tdist : ∀ t t' c e ce e' ce', s.live.get t = some true → s.live.get t' = some true → G.τ t = some (c, e, ce) → G.τ t' = some (c, e', ce') → t = t'
  tlt : ∀ t x, G.τ t = some x → t < s.nt
  hlt : ∀ b blk, s.heap.get b = some blk → b < s.next
  old : ∀ c o v, B c → G.I c o = some v → G.J.1 c o = some v
  hmap : ∀ b blk, s.heap.get b = some blk → ∃ x, G.ρ b = some x
  oldρ : ∀ b c n, c < w0.heap.size → G.ρ b = some (c, n) → G.J.2 b = some (c, n)
  tdef : ∀ t, s.live.get t = some true → ∃ x, G.τ t = some x
  tlow : ∀ t c e ce, s.live.get t = some true → G.τ t = some (c, e, ce) → ∀ o, o < e → ∃ v, G.I c o = some v

section
variable {B : Nat → Prop} {w0 : World} {G : Gh} {s : St} {w : World}

theorem hmap_set {ρ : Nat → Option (Nat × Nat)} {hp : Tr Blk} {b : Nat} {x : Nat × Nat} {blk0 : Blk} (h : ∀ b blk, hp.get b = some blk → ∃ x, ρ b = some x) (hr : ρ b = some x) (b' : Nat) (blk : Blk) (hb' : (hp.set b blk0).get b' = some blk) : ∃ x, ρ b' = some x := by
  rw [Tr.get_set] at hb'
  split at hb'
  · rename_i e; subst e; exact ⟨_, hr⟩
  · exact h b' blk hb'

theorem WR.drew (h : WR B w0 G s w) : WR B w0 G s w.drew :=
  { below := h.below.drew, hB := h.hB, cells := h.cells, siter := h.siter, inj := h.inj, lt := h.lt, imm := fun c o v e => by simpa using h.imm c o v e, tags := h.tags, tdist := h.tdist, tlt := h.tlt, hlt := h.hlt, old := h.old, hmap := h.hmap, oldρ := h.oldρ, tdef := h.tdef, tlow := h.tlow }

theorem WR.drawn (h : WR B w0 G s w) : WR B w0 G s { w with drawn := w.drawn + 1 } := h.drew

/-- A new block of the model's, of which some first cells are taken as never to be written again. -/
def Gh.withI (G : Gh) (c : Nat) (k : Nat) (f : Nat → Option Value) : Gh := { G with I := fun c' o => if c' = c ∧ o < k then f o else G.I c' o }

theorem heap_alloc_lt {w : World} {o : Obj} {k : Nat} (h : k < w.heap.size) : (w.alloc o).heap[k]? = w.heap[k]? := Below.heap_alloc w o k h
theorem heap_alloc_new {w : World} {o : Obj} : (w.alloc o).heap[w.heap.size]? = some o := by
  show (w.heap.push o)[w.heap.size]? = _
  simp
theorem heap_alloc_size {w : World} {o : Obj} : (w.alloc o).heap.size = w.heap.size + 1 := by
  show (w.heap.push o).size = _
  simp

theorem WR.imm_lt (h : WR B w0 G s w) {c o : Nat} {v : Value} (e : G.I c o = some v) : c < w.heap.size := by
  have := h.imm c o v e
  unfold World.cell? at this
  cases hh : w.heap[c]? with
  | none => simp [hh] at this
  | some x => exact (Array.getElem?_eq_some_iff.1 hh).1

theorem Gh.le_withI (h : WR B w0 G s w) (k : Nat) (f : Nat → Option Value) : G.Le (G.withI w.heap.size k f) :=
  ⟨fun _ _ e => e, fun c o v e => by
    have hc := h.imm_lt e
    simp only [Gh.withI]
    rw [if_neg (by omega)]; exact e, fun _ _ e => e, rfl⟩

/-- A new row of the model's, of which the first k cells will not be written any more. -/
theorem WR.allocImm (h : WR B w0 G s w) (arr : Array Value) (T : TypeId) (k : Nat) (fr : Nat × Nat := (0, 0)) :
    WR B w0 (G.withI w.heap.size k (fun o => arr[o]?)) s (w.alloc (.cells arr T fr)) := by
  have hle := Gh.le_withI h k (fun o => arr[o]?)
  have hI : ∀ c o, c ≠ w.heap.size → (G.withI w.heap.size k (fun o => arr[o]?)).I c o = G.I c o := fun c o hc => by
    simp only [Gh.withI]; rw [if_neg (by omega)]
  refine { below := h.below.alloc h.hB _, hB := fun c hc => by rw [heap_alloc_size]; exact Nat.lt_succ_of_lt (h.hB c hc), cells := ?_, siter := ?_, inj := h.inj, lt := ?_, imm := ?_, tags := ?_, tdist := h.tdist, tlt := h.tlt, hlt := h.hlt, old := fun c o v hc e => h.old c o v hc (by have := h.hB c hc; rwa [hI c o (by omega)] at e), oldρ := h.oldρ, hmap := h.hmap, tdef := h.tdef, tlow := fun t c e ce hl ht o ho => by obtain ⟨v, hv⟩ := h.tlow t c e ce hl ht o ho; exact ⟨v, hle.I _ _ _ hv⟩ }
  · intro b cs f c n hb hr
    obtain ⟨arr', T', fr, h1, h2, h3, h4, h5⟩ := h.cells b cs f c n hb hr
    have hc := (h.lt b c n hr).2
    refine ⟨arr', T', fr, by rw [heap_alloc_lt hc]; exact h1, h2, h3, h4.mono hle, fun hf => ?_⟩
    obtain ⟨q1, q2, q3⟩ := h5 hf
    exact ⟨q1, q2, fun o => by rw [hI _ _ (by omega)]; exact q3 o⟩
  · intro b str pos c n hb hr
    have hc := (h.lt b c n hr).2
    rw [heap_alloc_lt hc]
    exact h.siter b str pos c n hb hr
  · intro b c n hr
    have := h.lt b c n hr
    rw [heap_alloc_size]; omega
  · intro c o v e
    simp only [Gh.withI] at e
    split at e
    · rename_i hc
      obtain ⟨rfl, _⟩ := hc
      unfold World.cell?
      rw [heap_alloc_new]
      simpa using e
    · rw [World.cell?_alloc_lt _ _ _ (h.imm_lt e)]; exact h.imm c o v e
  · intro t c e ce hl ht
    obtain ⟨q1, q2, ⟨arr', T', lo, hi, q3, q4, q5⟩, q6⟩ := h.tags t c e ce hl ht
    have hc : c < w.heap.size := (Array.getElem?_eq_some_iff.1 q3).1
    exact ⟨q1, fun o ho => by rw [hI _ _ (by omega)]; exact q2 o ho, ⟨arr', T', lo, hi, by rw [heap_alloc_lt hc]; exact q3, q4, q5⟩, q6⟩

/-- A new block that the abstract heap bears, too. -/
def Gh.withρ (G : Gh) (b c n : Nat) : Gh := { G with ρ := fun b' => if b' = b then some (c, n) else G.ρ b' }

theorem Gh.le_withρ (h : WR B w0 G s w) (c n : Nat) : G.Le (G.withρ s.next c n) :=
  ⟨fun b x e => by
    simp only [Gh.withρ]
    obtain ⟨x1, x2⟩ := x
    have := (h.lt b x1 x2 e).1
    rw [if_neg (by omega)]; exact e, fun _ _ _ e => e, fun _ _ e => e, rfl⟩

theorem WR.allocMut (h : WR B w0 G s w) (cs : List AV) (vs : List Value) (rest : List Value) (T : TypeId) (hv : VRs G cs vs) :
    WR B w0 (G.withρ s.next w.heap.size (vs ++ rest).length) (s.alloc (.cells cs false)) (w.alloc (.cells (vs ++ rest).toArray T)) := by
  have hle := Gh.le_withρ h w.heap.size (vs ++ rest).length
  have hlen := hv.length
  refine { below := h.below.alloc h.hB _, hB := fun c hc => by rw [heap_alloc_size]; exact Nat.lt_succ_of_lt (h.hB c hc), cells := ?_, siter := ?_, inj := ?_, lt := ?_, imm := ?_, tags := ?_, tdist := h.tdist, tlt := h.tlt, hlt := ?_, old := h.old, tdef := h.tdef, tlow := h.tlow, oldρ := ?oldρ, hmap := ?hmap }
  case hmap =>
    intro b blk hb
    simp only [St.alloc, Tr.get_set] at hb
    simp only [Gh.withρ]
    split at hb
    · rename_i e; rw [if_pos e]; exact ⟨_, rfl⟩
    · rename_i e; rw [if_neg e]; exact h.hmap b blk hb
  case oldρ =>
    intro b c n hc hr
    simp only [Gh.withρ] at hr
    have := h.below.size
    split at hr
    · cases hr; omega
    · exact h.oldρ b c n hc hr
  · intro b cs' f c n hb hr
    simp only [St.alloc, Tr.get_set] at hb
    simp only [Gh.withρ] at hr
    split at hb
    · rename_i hbn
      subst hbn
      simp only [if_true, Option.some.injEq, Prod.mk.injEq] at hr
      obtain ⟨rfl, rfl⟩ := hr
      cases hb
      refine ⟨(vs ++ rest).toArray, T, (0, 0), heap_alloc_new, by simp, by simp; omega, ?_, fun _ => ⟨rfl, fun hc => absurd (h.hB _ hc) (Nat.lt_irrefl _), fun o => ?_⟩⟩
      · rw [hlen]; simpa using hv.mono hle
      · cases hI : (G.withρ s.next w.heap.size (vs ++ rest).length).I w.heap.size o with
        | none => rfl
        | some v => exact absurd (h.imm_lt (c := w.heap.size) (o := o) (v := v) hI) (Nat.lt_irrefl _)
    · rename_i hbn
      rw [if_neg hbn] at hr
      obtain ⟨arr', T', fr, h1, h2, h3, h4, h5⟩ := h.cells b cs' f c n hb hr
      have hc := (h.lt b c n hr).2
      exact ⟨arr', T', fr, by rw [heap_alloc_lt hc]; exact h1, h2, h3, h4.mono hle, h5⟩
  · intro b str pos c n hb hr
    simp only [St.alloc, Tr.get_set] at hb
    simp only [Gh.withρ] at hr
    split at hb
    · cases hb
    · rename_i hbn
      rw [if_neg hbn] at hr
      have hc := (h.lt b c n hr).2
      rw [heap_alloc_lt hc]
      exact h.siter b str pos c n hb hr
  · intro b b' c n n' hBc hr hr'
    simp only [Gh.withρ] at hr hr'
    split at hr <;> split at hr'
    · omega
    · rename_i h1 h2
      cases hr
      have := (h.lt _ _ _ hr').2
      omega
    · rename_i h1 h2
      cases hr'
      have := (h.lt _ _ _ hr).2
      omega
    · exact h.inj b b' c n n' hBc hr hr'
  · intro b c n hr
    simp only [Gh.withρ] at hr
    rw [heap_alloc_size]
    simp only [St.alloc]
    split at hr
    · cases hr; omega
    · have := h.lt b c n hr; omega
  · intro c o v e
    have e' : G.I c o = some v := e
    rw [World.cell?_alloc_lt _ _ _ (h.imm_lt e')]; exact h.imm c o v e'
  · intro t c e ce hl ht
    obtain ⟨q1, q2, ⟨arr', T', lo, hi, q3, q4, q5⟩, q6⟩ := h.tags t c e ce hl ht
    have hc : c < w.heap.size := (Array.getElem?_eq_some_iff.1 q3).1
    refine ⟨q1, q2, ⟨arr', T', lo, hi, by rw [heap_alloc_lt hc]; exact q3, q4, q5⟩, fun b n hr => ?_⟩
    simp only [Gh.withρ] at hr
    split at hr
    · cases hr; omega
    · rename_i hbn
      obtain ⟨cs', hcs, hl'⟩ := q6 b n hr
      exact ⟨cs', by simp only [St.alloc]; rw [Tr.get_set_ne _ _ _ _ hbn]; exact hcs, hl'⟩
  · intro b blk hb
    simp only [St.alloc, Tr.get_set] at hb ⊢
    split at hb
    · omega
    · have := h.hlt b blk hb; omega

theorem WR.allocIter (h : WR B w0 G s w) (str : ByteArray) (pos : Nat) :
    WR B w0 (G.withρ s.next w.heap.size 0) (s.alloc (.siter str pos)) (w.alloc (.stringIter str pos)) := by
  have hle := Gh.le_withρ h w.heap.size 0
  refine { below := h.below.alloc h.hB _, hB := fun c hc => by rw [heap_alloc_size]; exact Nat.lt_succ_of_lt (h.hB c hc), cells := ?_, siter := ?_, inj := ?_, lt := ?_, imm := ?_, tags := ?_, tdist := h.tdist, tlt := h.tlt, hlt := ?_, old := h.old, tdef := h.tdef, tlow := h.tlow, oldρ := ?oldρ, hmap := ?hmap }
  case hmap =>
    intro b blk hb
    simp only [St.alloc, Tr.get_set] at hb
    simp only [Gh.withρ]
    split at hb
    · rename_i e; rw [if_pos e]; exact ⟨_, rfl⟩
    · rename_i e; rw [if_neg e]; exact h.hmap b blk hb
  case oldρ =>
    intro b c n hc hr
    simp only [Gh.withρ] at hr
    have := h.below.size
    split at hr
    · cases hr; omega
    · exact h.oldρ b c n hc hr
  · intro b cs' f c n hb hr
    simp only [St.alloc, Tr.get_set] at hb
    simp only [Gh.withρ] at hr
    split at hb
    · cases hb
    · rename_i hbn
      rw [if_neg hbn] at hr
      obtain ⟨arr', T', fr, h1, h2, h3, h4, h5⟩ := h.cells b cs' f c n hb hr
      have hc := (h.lt b c n hr).2
      exact ⟨arr', T', fr, by rw [heap_alloc_lt hc]; exact h1, h2, h3, h4.mono hle, h5⟩
  · intro b str' pos' c n hb hr
    simp only [St.alloc, Tr.get_set] at hb
    simp only [Gh.withρ] at hr
    split at hb
    · rename_i hbn
      subst hbn
      simp only [if_true, Option.some.injEq, Prod.mk.injEq] at hr
      obtain ⟨rfl, rfl⟩ := hr
      cases hb
      exact ⟨heap_alloc_new, fun hc => absurd (h.hB _ hc) (Nat.lt_irrefl _)⟩
    · rename_i hbn
      rw [if_neg hbn] at hr
      have hc := (h.lt b c n hr).2
      rw [heap_alloc_lt hc]
      exact h.siter b str' pos' c n hb hr
  · intro b b' c n n' hBc hr hr'
    simp only [Gh.withρ] at hr hr'
    split at hr <;> split at hr'
    · omega
    · cases hr
      have := (h.lt _ _ _ hr').2
      omega
    · cases hr'
      have := (h.lt _ _ _ hr).2
      omega
    · exact h.inj b b' c n n' hBc hr hr'
  · intro b c n hr
    simp only [Gh.withρ] at hr
    rw [heap_alloc_size]
    simp only [St.alloc]
    split at hr
    · cases hr; omega
    · have := h.lt b c n hr; omega
  · intro c o v e
    have e' : G.I c o = some v := e
    rw [World.cell?_alloc_lt _ _ _ (h.imm_lt e')]; exact h.imm c o v e'
  · intro t c e ce hl ht
    obtain ⟨q1, q2, ⟨arr', T', lo, hi, q3, q4, q5⟩, q6⟩ := h.tags t c e ce hl ht
    have hc : c < w.heap.size := (Array.getElem?_eq_some_iff.1 q3).1
    refine ⟨q1, q2, ⟨arr', T', lo, hi, by rw [heap_alloc_lt hc]; exact q3, q4, q5⟩, fun b n hr => ?_⟩
    simp only [Gh.withρ] at hr
    split at hr
    · cases hr; omega
    · rename_i hbn
      obtain ⟨cs', hcs, hl'⟩ := q6 b n hr
      exact ⟨cs', by simp only [St.alloc]; rw [Tr.get_set_ne _ _ _ _ hbn]; exact hcs, hl'⟩
  · intro b blk hb
    simp only [St.alloc, Tr.get_set] at hb ⊢
    split at hb
    · omega
    · have := h.hlt b blk hb; omega

theorem Kept.setRow {K : Nat → Prop} {w : World} {c : Nat} {arr row : Array Value} {T : TypeId} {fr : Nat × Nat} (hw : w.heap[c]? = some (.cells arr T fr)) (hsz : row.size = arr.size) (hc : ¬ K c) : Kept K w (w.setRow c row) :=
  ⟨rfl, rfl, rfl, by simp, fun k hk => setRow_other w c k _ (fun e => hc (e ▸ hk)), fun k arr2 T2 fr2 hk => by
    by_cases h : k = c
    · subst h
      rw [hw] at hk; cases hk
      exact ⟨row, T, fr, setRow_heap w k arr row T fr hw, hsz⟩
    · exact ⟨arr2, T2, fr2, (setRow_other w c k _ h).trans hk, rfl⟩⟩

/-- A row of one's own is written. -/
theorem WR.write (h : WR B w0 G s w) {b c n : Nat} {cs cs' : List AV} {arr : Array Value} {T : TypeId} {fr : Nat × Nat} {vs' : List Value} (hb : s.heap.get b = some (.cells cs false)) (hr : G.ρ b = some (c, n))
    (hw : w.heap[c]? = some (.cells arr T fr)) (hlen : cs'.length = cs.length) (hv : VRs G cs' (vs'.take cs'.length)) (hvl : vs'.length = n) :
    WR B w0 G { s with heap := s.heap.set b (.cells cs' false) } (w.setRow c vs'.toArray) := by
  obtain ⟨arr0, T0, fr0, h1, h2, h3, h4, h5⟩ := h.cells b cs false c n hb hr
  obtain ⟨q1, q2, q3⟩ := h5 rfl
  rw [hw] at h1
  cases h1
  have hcell : ∀ c' o, c' ≠ c → (w.setRow c vs'.toArray).cell? ⟨c', o, none⟩ = w.cell? ⟨c', o, none⟩ := fun c' o hne =>
    World.cell?_of_block (w := w) (setRow_other w c c' _ hne)
  refine { below := h.below.trans (Kept.setRow hw (by simp; omega) q2), hB := fun c hc => by simpa using h.hB c hc, cells := ?_, siter := ?_, inj := h.inj, lt := ?_, imm := ?_, tags := ?_, tdist := h.tdist, tlt := h.tlt, hlt := ?_, old := h.old, hmap := hmap_set h.hmap hr, oldρ := h.oldρ, tdef := h.tdef, tlow := h.tlow }
  · intro b' cs2 f c' n' hb' hr'
    simp only [Tr.get_set] at hb'
    split at hb'
    · rename_i e
      subst e
      cases hb'
      rw [hr] at hr'; cases hr'
      exact ⟨vs'.toArray, T, fr, setRow_heap w c arr _ T fr hw, by simpa using hvl, by omega, by simpa using hv, fun _ => ⟨q1, q2, q3⟩⟩
    · rename_i e
      have hne : c' ≠ c := fun hc => e (by subst hc; exact h.inj b' b c' n' n (by omega) hr' hr)
      obtain ⟨arr', T', fr', g1, g2, g3, g4, g5⟩ := h.cells b' cs2 f c' n' hb' hr'
      exact ⟨arr', T', fr', by rw [setRow_other w c c' _ hne]; exact g1, g2, g3, g4, g5⟩
  · intro b' str pos c' n' hb' hr'
    simp only [Tr.get_set] at hb'
    split at hb'
    · cases hb'
    · rename_i e
      have hne : c' ≠ c := fun hc => e (by subst hc; exact h.inj b' b c' n' n (by omega) hr' hr)
      rw [setRow_other w c c' _ hne]
      exact h.siter b' str pos c' n' hb' hr'
  · intro b' c' n' hr'
    simpa using h.lt b' c' n' hr'
  · intro c' o v e
    by_cases hc : c' = c
    · subst hc; rw [q3 o] at e; cases e
    · rw [hcell c' o hc]; exact h.imm c' o v e
  · intro t c' e ce hl ht
    obtain ⟨p1, p2, ⟨arr', T', lo, hi, p3, p4, p5⟩, p6⟩ := h.tags t c' e ce hl ht
    have hne : c' ≠ c := fun hc => by
      subst hc
      obtain ⟨cs2, hcs, _⟩ := p6 b n hr
      rw [hb] at hcs; cases hcs
    refine ⟨p1, p2, ⟨arr', T', lo, hi, by rw [setRow_other w c c' _ hne]; exact p3, p4, p5⟩, fun b' n' hr' => ?_⟩
    obtain ⟨cs2, hcs, hl'⟩ := p6 b' n' hr'
    have : b' ≠ b := fun hbb => hne (by subst hbb; rw [hr] at hr'; cases hr'; rfl)
    exact ⟨cs2, by rw [Tr.get_set_ne _ _ _ _ this]; exact hcs, hl'⟩
  · intro b' blk hb'
    simp only [Tr.get_set] at hb'
    split at hb'
    · rename_i e; subst e; exact h.hlt _ _ hb
    · exact h.hlt b' blk hb'

/-- The stores into a row, none of which meets a frozen cell. -/
theorem run_storeCells_fr (P : Program) (g o : Nat) (t : TypeId) (lo hi : Nat) : ∀ (vs : List Value) (i : Nat) (cur : Array Value) (w : World), w.heap[g]? = some (.cells cur t (lo, hi)) → o + i + vs.length ≤ cur.size →
    (∀ j, o + i ≤ j → j < o + i + vs.length → ¬ (lo ≤ j ∧ j < hi)) → (∀ v ∈ vs, v.oneCell' = true) →
    (storeCells ⟨g, o, none⟩ vs i).run P w = .ok () (w.setRow g (cur.toList.take (o + i) ++ vs ++ cur.toList.drop (o + i + vs.length)).toArray)
  | [], i, cur, w, hg, _, _, _ => by
    simp only [storeCells, List.append_nil, List.length_nil, Nat.add_zero, List.take_append_drop, Array.toArray_toList]
    rw [setRow_self w g cur t (lo, hi) hg]
    rfl
  | v :: rest, i, cur, w, hg, hl, hfz, h1 => by
    have hi' : o + i < cur.size := by simp at hl; omega
    have hadd : (⟨g, o, none⟩ : Addr).add i = ⟨g, o + i, none⟩ := by unfold Addr.add; split <;> simp_all
    have hcell : w.cell? ⟨g, o + i, none⟩ = some cur[o + i] := by simp [World.cell?, hg, hi']
    have hfro : w.frozen? ⟨g, o + i, none⟩ = false := by
      have := hfz (o + i) (by omega) (by simp)
      simp [World.frozen?, hg]; omega
    have hst : (store ((⟨g, o, none⟩ : Addr).add i) v).run P w = .ok () (w.setRow g (cur.setIfInBounds (o + i) v)) := by
      rw [hadd, run_store P w _ v _ (h1 v (by simp)), hcell]
      simp [hfro, setCell_eq_setRow w g (o + i) cur t (lo, hi) v hg]
    have ih := run_storeCells_fr P g o t lo hi rest (i + 1) (cur.setIfInBounds (o + i) v) (w.setRow g (cur.setIfInBounds (o + i) v)) (setRow_heap w g cur _ t _ hg) (by simp at hl ⊢; omega)
      (fun j hj1 hj2 => hfz j (by omega) (by simp; omega)) (fun x hx => h1 x (by simp [hx]))
    simp only [storeCells, Sem.run_bind, hst, Result.andThen_ok, ih, setRow_setRow]
    congr 3
    have e := list_seg_step cur.toList (o + i) v rest (by simp at hl ⊢; omega)
    simpa [Array.toList_setIfInBounds, Nat.add_assoc] using e

/-- A new tag over a new row. -/
theorem WR.newTag (h : WR B w0 G s w) (arr : Array Value) (T : TypeId) (k ce : Nat) (hce : ce ≤ arr.size) (hka : k ≤ arr.size) :
    WR B w0 { (G.withI w.heap.size k (fun o => arr[o]?)) with τ := fun t => if t = s.nt then some (w.heap.size, k, ce) else G.τ t }
      { s with live := s.live.set s.nt true, nt := s.nt + 1 } (w.alloc (.cells arr T)) := by
  have h1 := h.allocImm arr T k
  have hle := Gh.le_withI h k (fun o => arr[o]?)
  generalize hG1 : G.withI w.heap.size k (fun o => arr[o]?) = G1 at *
  have hτ : G1.τ = G.τ := by subst hG1; rfl
  have hρ : G1.ρ = G.ρ := by subst hG1; rfl
  have hle2 : G1.Le { G1 with τ := fun t => if t = s.nt then some (w.heap.size, k, ce) else G.τ t } :=
    ⟨fun _ _ e => e, fun _ _ _ e => e, fun t x e => by
      simp only []
      have := h1.tlt t x e
      rw [if_neg (by omega), ← hτ]; exact e, rfl⟩
  refine { below := h1.below, hB := h1.hB, cells := ?_, siter := h1.siter, inj := h1.inj, lt := h1.lt, imm := h1.imm, tags := ?_, tdist := ?_, tlt := ?_, hlt := h1.hlt, old := h1.old, hmap := h1.hmap, oldρ := h1.oldρ, tdef := ?tdef, tlow := ?tlow }
  case tdef =>
    intro t hl
    simp only [Tr.get_set] at hl
    simp only []
    split at hl
    · rename_i he; rw [if_pos he]; exact ⟨_, rfl⟩
    · rename_i he; rw [if_neg he]; exact h.tdef t hl
  case tlow =>
    intro t c e ce' hl ht o ho
    simp only [Tr.get_set] at hl
    simp only [] at ht
    split at hl
    · rename_i he
      rw [if_pos he] at ht
      cases ht
      subst hG1
      have ho' : o < arr.size := by omega
      exact ⟨arr[o], by simp [Gh.withI, ho, ho']⟩
    · rename_i he
      rw [if_neg he, ← hτ] at ht
      exact h1.tlow t c e ce' hl ht o ho
  · intro b cs f c n hb hr
    obtain ⟨arr', T', fr, g1, g2, g3, g4, g5⟩ := h1.cells b cs f c n hb hr
    exact ⟨arr', T', fr, g1, g2, g3, g4.mono hle2, g5⟩
  · intro t c e ce' hl ht
    simp only [Tr.get_set] at hl
    simp only [] at ht
    split at hl
    · rename_i he
      subst he
      rw [if_pos rfl] at ht
      cases ht
      refine ⟨fun hc => absurd (h.hB _ hc) (Nat.lt_irrefl _), fun o ho => ?_, ⟨arr, T, 0, 0, heap_alloc_new, hce, .inl (Nat.zero_le _)⟩, fun b n hr => ?_⟩
      · subst hG1
        simp only [Gh.withI]
        rw [if_neg (by omega)]
        cases hI : G.I w.heap.size o with
        | none => rfl
        | some v => exact absurd (h.imm_lt hI) (Nat.lt_irrefl _)
      · simp only [] at hr
        rw [hρ] at hr
        have := (h.lt b _ n hr).2
        omega
    · rename_i he
      rw [if_neg he, ← hτ] at ht
      exact h1.tags t c e ce' hl ht
  · intro t t' c e ce1 e' ce2 hl hl' ht ht'
    simp only [Tr.get_set] at hl hl'
    simp only [] at ht ht'
    have hnew : ∀ t c e ce, s.live.get t = some true → G1.τ t = some (c, e, ce) → c < w.heap.size := fun t c e ce hl ht => by
      obtain ⟨_, _, ⟨_, _, _, _, q3, _, _⟩, _⟩ := h.tags t c e ce hl (by rw [← hτ]; exact ht)
      exact (Array.getElem?_eq_some_iff.1 q3).1
    by_cases ha : t = s.nt <;> by_cases hb : t' = s.nt
    · omega
    · rw [if_neg hb] at hl' ht'; rw [if_pos ha] at ht
      cases ht
      have := hnew t' _ _ _ hl' (by rw [hτ]; exact ht')
      omega
    · rw [if_neg ha] at hl ht; rw [if_pos hb] at ht'
      cases ht'
      have := hnew t _ _ _ hl (by rw [hτ]; exact ht)
      omega
    · rw [if_neg ha] at hl ht; rw [if_neg hb] at hl' ht'
      exact h.tdist t t' c e ce1 e' ce2 hl hl' ht ht'
  · intro t x ht
    simp only [] at ht ⊢
    split at ht
    · omega
    · have := h.tlt t x ht; omega

/-- Behind a tag's last cell: new cells that will not be written any more, and a new tag. -/
def Gh.onward (G : Gh) (c e : Nat) (vs : List Value) (nt ce : Nat) : Gh :=
  { G with I := fun c' o => if c' = c ∧ e ≤ o ∧ o < e + vs.length then vs[o - e]? else G.I c' o, τ := fun t => if t = nt then some (c, e + vs.length, ce) else G.τ t }

theorem Gh.le_onward (h : WR B w0 G s w) {t c e ce : Nat} (hl : s.live.get t = some true) (ht : G.τ t = some (c, e, ce)) (vs : List Value) (ce' : Nat) : G.Le (G.onward c e vs s.nt ce') := by
  obtain ⟨_, q2, _, _⟩ := h.tags t c e ce hl ht
  refine ⟨fun _ _ e => e, fun c' o v hI => ?_, fun t x hx => ?_, rfl⟩
  · simp only [Gh.onward]
    split
    · rename_i hc
      obtain ⟨rfl, h1, _⟩ := hc
      rw [q2 o h1] at hI; cases hI
    · exact hI
  · simp only [Gh.onward]
    have := h.tlt t x hx
    rw [if_neg (by omega)]; exact hx

theorem WR.onward (h : WR B w0 G s w) {t c e ce : Nat} (hl : s.live.get t = some true) (ht : G.τ t = some (c, e, ce)) (vs : List Value) (hfit : e + vs.length ≤ ce)
    {arr : Array Value} {T : TypeId} {fr : Nat × Nat} (hw : w.heap[c]? = some (.cells arr T fr)) :
    WR B w0 (G.onward c e vs s.nt ce) { s with live := (s.live.set t false).set s.nt true, nt := s.nt + 1 } (w.setRow c (arr.toList.take e ++ vs ++ arr.toList.drop (e + vs.length)).toArray) := by
  have hle := Gh.le_onward h hl ht vs ce
  obtain ⟨q1, q2, ⟨arr0, T0, lo, hi, q3, q4, q5⟩, q6⟩ := h.tags t c e ce hl ht
  rw [hw] at q3; cases q3
  have hsz : (arr.toList.take e ++ vs ++ arr.toList.drop (e + vs.length)).length = arr.size := by simp; omega
  have hlow : ∀ o, o < e → (arr.toList.take e ++ vs ++ arr.toList.drop (e + vs.length))[o]? = arr.toList[o]? := fun o ho => by
    rw [List.append_assoc, List.getElem?_append_left (by simp; omega), List.getElem?_take]; simp [ho]
  have hmid : ∀ o, e ≤ o → o < e + vs.length → (arr.toList.take e ++ vs ++ arr.toList.drop (e + vs.length))[o]? = vs[o - e]? := fun o h1 h2 => by
    have hte : (arr.toList.take e).length = e := by simp; omega
    rw [List.append_assoc, List.getElem?_append_right (by omega), hte, List.getElem?_append_left (by omega)]
  generalize (arr.toList.take e ++ vs ++ arr.toList.drop (e + vs.length)) = row at *
  have hcell : ∀ c' o, c' ≠ c → (w.setRow c row.toArray).cell? ⟨c', o, none⟩ = w.cell? ⟨c', o, none⟩ := fun c' o hne =>
    World.cell?_of_block (w := w) (setRow_other w c c' _ hne)
  have hrow := setRow_heap w c arr row.toArray T (lo, hi) hw
  refine { below := h.below.trans (Kept.setRow hw (by simpa using hsz) q1), hB := fun c hc => by simpa using h.hB c hc, cells := ?_, siter := ?_, inj := h.inj, lt := ?_, imm := ?_, tags := ?_, tdist := ?_, tlt := ?_, hlt := h.hlt, old := ?old, hmap := h.hmap, oldρ := h.oldρ, tdef := ?tdef, tlow := ?tlow }
  case tdef =>
    intro t2 hl2
    simp only [Tr.get_set] at hl2
    simp only [Gh.onward]
    split at hl2
    · rename_i he; rw [if_pos he]; exact ⟨_, rfl⟩
    · rename_i he
      rw [if_neg he]
      split at hl2
      · cases hl2
      · exact h.tdef t2 hl2
  case tlow =>
    intro t2 c2 e2 ce2 hl2 ht2 o ho
    simp only [Tr.get_set] at hl2
    have ht2' := ht2
    simp only [Gh.onward] at ht2'
    split at hl2
    · rename_i he
      rw [if_pos he] at ht2'
      cases ht2'
      by_cases hoe : o < e
      · obtain ⟨v, hv⟩ := h.tlow t c e ce hl ht o hoe
        exact ⟨v, hle.I _ _ _ hv⟩
      · have hlt : o - e < vs.length := by omega
        exact ⟨vs[o - e], by simp only [Gh.onward]; rw [if_pos (by refine ⟨?_, ?_, ?_⟩ <;> first | trivial | omega)]; simp [hlt]⟩
    · rename_i he
      rw [if_neg he] at ht2'
      split at hl2
      · cases hl2
      · obtain ⟨v, hv⟩ := h.tlow t2 c2 e2 ce2 hl2 ht2' o ho
        exact ⟨v, hle.I _ _ _ hv⟩
  case old =>
    intro c' o v hc e
    simp only [Gh.onward] at e
    have hcc : c' ≠ c := fun hh => q1 (hh ▸ hc)
    rw [if_neg (fun hh => hcc hh.1)] at e
    exact h.old c' o v hc e
  · intro b cs f c' n hb hr
    have hr : G.ρ b = some (c', n) := hr
    obtain ⟨arr', T', fr', g1, g2, g3, g4, g5⟩ := h.cells b cs f c' n hb hr
    by_cases hc : c' = c
    · subst hc
      obtain ⟨cs2, hcs, hl2⟩ := q6 b n hr
      rw [hb] at hcs; cases hcs
      rw [hw] at g1; cases g1
      refine ⟨_, T, (lo, hi), hrow, by simp; omega, g3, ?_, fun hf => by cases hf⟩
      have : row.toArray.toList.take cs.length = arr.toList.take cs.length := by
        apply List.ext_getElem?
        intro j
        simp only [List.getElem?_take]
        split
        · exact hlow j (by omega)
        · rfl
      rw [this]; exact g4.mono hle
    · refine ⟨arr', T', fr', by rw [setRow_other w c c' _ hc]; exact g1, g2, g3, g4.mono hle, fun hf => ?_⟩
      obtain ⟨p1, p2, p3⟩ := g5 hf
      refine ⟨p1, p2, fun o => ?_⟩
      simp only [Gh.onward]
      rw [if_neg (by intro hh; exact hc hh.1)]; exact p3 o
  · intro b str pos c' n hb hr
    have hr : G.ρ b = some (c', n) := hr
    have g := h.siter b str pos c' n hb hr
    have hc : c' ≠ c := fun hc => by subst hc; rw [hw] at g; cases g.1
    rw [setRow_other w c c' _ hc]; exact g
  · intro b c' n hr
    simpa using h.lt b c' n hr
  · intro c' o v hI
    simp only [Gh.onward] at hI
    split at hI
    · rename_i hc
      obtain ⟨rfl, h1, h2⟩ := hc
      unfold World.cell?
      rw [hrow]
      simpa [hmid o h1 h2] using hI
    · rename_i hc
      by_cases hcc : c' = c
      · subst hcc
        have ho : o < e := by
          by_cases h1 : e ≤ o
          · rw [q2 o h1] at hI; cases hI
          · omega
        have := h.imm c' o v hI
        unfold World.cell? at this ⊢
        rw [hw] at this; rw [hrow]
        have e1 : arr.toList[o]? = some v := by simpa using this
        have e2 := hlow o ho
        rw [e1] at e2
        simpa using e2
      · rw [hcell c' o hcc]; exact h.imm c' o v hI
  · intro t' c' e' ce' hl' ht'
    simp only [Tr.get_set] at hl'
    simp only [Gh.onward] at ht'
    split at hl'
    · rename_i he
      subst he
      rw [if_pos rfl] at ht'
      cases ht'
      refine ⟨q1, fun o ho => ?_, ⟨_, T, lo, hi, hrow, by simp; omega, by omega⟩, fun b n hr => ?_⟩
      · simp only [Gh.onward]
        rw [if_neg (by omega)]; exact q2 o (by omega)
      · obtain ⟨cs2, hcs, hl2⟩ := q6 b n hr
        exact ⟨cs2, hcs, by omega⟩
    · rename_i he
      rw [if_neg he] at ht'
      split at hl'
      · cases hl'
      · rename_i he2
        have hc : c' ≠ c := fun hc => he2 (by subst hc; exact h.tdist t' t c' e' ce' e ce hl' hl ht' ht)
        obtain ⟨p1, p2, ⟨arr', T', lo', hi', p3, p4, p5⟩, p6⟩ := h.tags t' c' e' ce' hl' ht'
        refine ⟨p1, fun o ho => ?_, ⟨arr', T', lo', hi', by rw [setRow_other w c c' _ hc]; exact p3, p4, p5⟩, p6⟩
        simp only [Gh.onward]
        rw [if_neg (by intro hh; exact hc hh.1)]; exact p2 o ho
  · intro t1 t2 c' e1 ce1 e2 ce2 hl1 hl2 ht1 ht2
    simp only [Tr.get_set] at hl1 hl2
    simp only [Gh.onward] at ht1 ht2
    by_cases ha : t1 = s.nt <;> by_cases hb : t2 = s.nt
    · omega
    · rw [if_neg hb] at hl2 ht2; rw [if_pos ha] at ht1
      cases ht1
      split at hl2
      · cases hl2
      · rename_i he2; exact absurd (h.tdist t2 t c e2 ce2 e ce hl2 hl ht2 ht) he2
    · rw [if_neg ha] at hl1 ht1; rw [if_pos hb] at ht2
      cases ht2
      split at hl1
      · cases hl1
      · rename_i he2; exact absurd (h.tdist t1 t c e1 ce1 e ce hl1 hl ht1 ht) he2
    · rw [if_neg ha] at hl1 ht1; rw [if_neg hb] at hl2 ht2
      split at hl1
      · cases hl1
      · split at hl2
        · cases hl2
        · exact h.tdist t1 t2 c' e1 ce1 e2 ce2 hl1 hl2 ht1 ht2
  · intro t' x hx
    simp only [Gh.onward] at hx ⊢
    split at hx
    · omega
    · have := h.tlt t' x hx; omega

/-- A tag may be given up. -/
theorem WR.dropTag (h : WR B w0 G s w) (t : Nat) : WR B w0 G { s with live := s.live.set t false } w := by
  refine { below := h.below, hB := h.hB, cells := h.cells, siter := h.siter, inj := h.inj, lt := h.lt, imm := h.imm, tags := ?_, tdist := ?_, tlt := h.tlt, hlt := h.hlt, old := h.old, hmap := h.hmap, oldρ := h.oldρ, tdef := ?tdef, tlow := ?tlow }
  case tdef =>
    intro t' hl
    simp only [Tr.get_set] at hl
    split at hl
    · cases hl
    · exact h.tdef t' hl
  case tlow =>
    intro t' c e ce hl ht
    simp only [Tr.get_set] at hl
    split at hl
    · cases hl
    · exact h.tlow t' c e ce hl ht
  · intro t' c e ce hl ht
    simp only [Tr.get_set] at hl
    split at hl
    · cases hl
    · exact h.tags t' c e ce hl ht
  · intro t1 t2 c e1 ce1 e2 ce2 hl1 hl2 ht1 ht2
    simp only [Tr.get_set] at hl1 hl2
    split at hl1
    · cases hl1
    · split at hl2
      · cases hl2
      · exact h.tdist t1 t2 c e1 ce1 e2 ce2 hl1 hl2 ht1 ht2

/-- A row of one's own that will not be written any more. -/
def Gh.frozen (G : Gh) (c k : Nat) (f : Nat → Option Value) (nt ce : Nat) : Gh :=
  { G with I := fun c' o => if c' = c then (if o < k then f o else none) else G.I c' o, τ := fun t => if t = nt then some (c, k, ce) else G.τ t }

theorem Gh.le_frozen (h : WR B w0 G s w) {b c n : Nat} {cs : List AV} (hb : s.heap.get b = some (.cells cs false)) (hr : G.ρ b = some (c, n)) (k : Nat) (f : Nat → Option Value) (ce : Nat) : G.Le (G.frozen c k f s.nt ce) := by
  obtain ⟨_, _, _, _, _, _, _, h5⟩ := h.cells b cs false c n hb hr
  refine ⟨fun _ _ e => e, fun c' o v hI => ?_, fun t x hx => ?_, rfl⟩
  · simp only [Gh.frozen]
    split
    · rename_i hc
      subst hc
      rw [(h5 rfl).2.2 o] at hI; cases hI
    · exact hI
  · simp only [Gh.frozen]
    have := h.tlt t x hx
    rw [if_neg (by omega)]; exact hx

theorem WR.freeze (h : WR B w0 G s w) {b c n : Nat} {cs : List AV} (hb : s.heap.get b = some (.cells cs false)) (hr : G.ρ b = some (c, n)) (k ce : Nat) (hk : k ≤ cs.length) (hce : ce ≤ n)
    {arr : Array Value} {T : TypeId} {fr : Nat × Nat} (hw : w.heap[c]? = some (.cells arr T fr)) :
    WR B w0 (G.frozen c k (fun o => arr[o]?) s.nt ce) { s with heap := s.heap.set b (.cells (cs.take k) true), live := s.live.set s.nt true, nt := s.nt + 1 } w := by
  have hle := Gh.le_frozen h hb hr k (fun o => arr[o]?) ce
  obtain ⟨arr0, T0, fr0, h1, h2, h3, h4, h5⟩ := h.cells b cs false c n hb hr
  rw [hw] at h1; cases h1
  obtain ⟨q1, q2, q3⟩ := h5 rfl
  subst q1
  have hother : ∀ t' c' e' ce', s.live.get t' = some true → G.τ t' = some (c', e', ce') → c' ≠ c := fun t' c' e' ce' hl' ht' hc => by
    subst hc
    obtain ⟨_, _, _, p6⟩ := h.tags t' c' e' ce' hl' ht'
    obtain ⟨cs2, hcs, _⟩ := p6 b n hr
    rw [hb] at hcs; cases hcs
  refine { below := h.below, hB := h.hB, cells := ?_, siter := ?_, inj := h.inj, lt := h.lt, imm := ?_, tags := ?_, tdist := ?_, tlt := ?_, hlt := ?_, old := ?old, hmap := hmap_set h.hmap hr, oldρ := h.oldρ, tdef := ?tdef, tlow := ?tlow }
  case tdef =>
    intro t2 hl2
    simp only [Tr.get_set] at hl2
    simp only [Gh.frozen]
    split at hl2
    · rename_i he; rw [if_pos he]; exact ⟨_, rfl⟩
    · rename_i he; rw [if_neg he]; exact h.tdef t2 hl2
  case tlow =>
    intro t2 c2 e2 ce2 hl2 ht2 o ho
    simp only [Tr.get_set] at hl2
    have ht2' := ht2
    simp only [Gh.frozen] at ht2'
    split at hl2
    · rename_i he
      rw [if_pos he] at ht2'
      cases ht2'
      have hlt : o < arr.size := by omega
      exact ⟨arr[o], by simp only [Gh.frozen]; rw [if_pos (by first | rfl | trivial), if_pos ho]; simp [hlt]⟩
    · rename_i he
      rw [if_neg he] at ht2'
      obtain ⟨v, hv⟩ := h.tlow t2 c2 e2 ce2 hl2 ht2' o ho
      exact ⟨v, hle.I _ _ _ hv⟩
  case old =>
    intro c' o v hc e
    simp only [Gh.frozen] at e
    have hcc : c' ≠ c := fun hh => q2 (hh ▸ hc)
    rw [if_neg hcc] at e
    exact h.old c' o v hc e
  · intro b' cs2 f c' n' hb' hr'
    have hr' : G.ρ b' = some (c', n') := hr'
    simp only [Tr.get_set] at hb'
    split at hb'
    · rename_i e
      subst e
      cases hb'
      rw [hr] at hr'; cases hr'
      refine ⟨arr, T, (0, 0), hw, h2, by simp; omega, ?_, fun hf => by cases hf⟩
      have := (h4.take k).mono hle
      rw [List.take_take, Nat.min_eq_left hk] at this
      rw [List.length_take, Nat.min_eq_left hk]; exact this
    · rename_i e
      obtain ⟨arr', T', fr', g1, g2, g3, g4, g5⟩ := h.cells b' cs2 f c' n' hb' hr'
      have hne : c' ≠ c := fun hc => e (by subst hc; exact h.inj b' b c' n' n (by omega) hr' hr)
      refine ⟨arr', T', fr', g1, g2, g3, g4.mono hle, fun hf => ?_⟩
      obtain ⟨p1, p2, p3⟩ := g5 hf
      refine ⟨p1, p2, fun o => ?_⟩
      simp only [Gh.frozen]
      rw [if_neg hne]; exact p3 o
  · intro b' str pos c' n' hb' hr'
    simp only [Tr.get_set] at hb'
    split at hb'
    · cases hb'
    · exact h.siter b' str pos c' n' hb' hr'
  · intro c' o v hI
    simp only [Gh.frozen] at hI
    split at hI
    · rename_i hc
      subst hc
      split at hI
      · unfold World.cell?; rw [hw]; simpa using hI
      · cases hI
    · exact h.imm c' o v hI
  · intro t' c' e' ce' hl' ht'
    simp only [Tr.get_set] at hl'
    simp only [Gh.frozen] at ht'
    split at hl'
    · rename_i he
      subst he
      rw [if_pos rfl] at ht'
      cases ht'
      refine ⟨q2, fun o ho => ?_, ⟨arr, T, 0, 0, hw, by omega, .inl (Nat.zero_le _)⟩, fun b' n' hr' => ?_⟩
      · simp only [Gh.frozen]
        rw [if_neg (show ¬ o < k by omega)]; simp
      · have hr' : G.ρ b' = some (c, n') := hr'
        have : b' = b := h.inj b' b c n' n q2 hr' hr
        subst this
        exact ⟨cs.take k, by rw [Tr.get_set_same], by simp; omega⟩
    · rename_i he
      rw [if_neg he] at ht'
      have hc := hother t' c' e' ce' hl' ht'
      obtain ⟨p1, p2, p3, p6⟩ := h.tags t' c' e' ce' hl' ht'
      refine ⟨p1, fun o ho => ?_, p3, fun b' n' hr' => ?_⟩
      · simp only [Gh.frozen]
        rw [if_neg hc]; exact p2 o ho
      · have hr' : G.ρ b' = some (c', n') := hr'
        obtain ⟨cs2, hcs, hl2⟩ := p6 b' n' hr'
        have hne : b' ≠ b := fun e => hc (by subst e; rw [hr] at hr'; cases hr'; rfl)
        exact ⟨cs2, by rw [Tr.get_set_ne _ _ _ _ hne]; exact hcs, hl2⟩
  · intro t1 t2 c' e1 ce1 e2 ce2 hl1 hl2 ht1 ht2
    simp only [Tr.get_set] at hl1 hl2
    simp only [Gh.frozen] at ht1 ht2
    by_cases ha : t1 = s.nt <;> by_cases hb2 : t2 = s.nt
    · omega
    · rw [if_neg hb2] at hl2 ht2; rw [if_pos ha] at ht1
      cases ht1
      exact absurd rfl (hother t2 _ _ _ hl2 ht2)
    · rw [if_neg ha] at hl1 ht1; rw [if_pos hb2] at ht2
      cases ht2
      exact absurd rfl (hother t1 _ _ _ hl1 ht1)
    · rw [if_neg ha] at hl1 ht1; rw [if_neg hb2] at hl2 ht2
      exact h.tdist t1 t2 c' e1 ce1 e2 ce2 hl1 hl2 ht1 ht2
  · intro t' x hx
    simp only [Gh.frozen] at hx ⊢
    split at hx
    · omega
    · have := h.tlt t' x hx; omega
  · intro b' blk hb'
    simp only [Tr.get_set] at hb'
    split at hb'
    · rename_i e; subst e; exact h.hlt _ _ hb
    · exact h.hlt b' blk hb'

end
end Go.Am
