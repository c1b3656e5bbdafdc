/- The abstract machine: all loud operations; a call is handed on. -/
import Derived.Test.YtmbkcjnjjlkidaaGreatDoorAmLoud2
import Derived.IntWalk
namespace Go.Am
open Go.RowKit

section
variable {P : Program} {T : Tr TI} {B : Nat → Prop} {NG : Nat} {w0 : World} {G : Gh} {s : St} {w : World} {e : Env} {a : Act} {t : Nat} {te : TI}

theorem WR.setIter (h : WR B w0 G s w) {b c n : Nat} {str : ByteArray} {pos : Nat} (hb : s.heap.get b = some (.siter str pos)) (hr : G.ρ b = some (c, n)) (pos' : Nat) :
    WR B w0 G { s with heap := s.heap.set b (.siter str pos') } { w with heap := w.heap.setIfInBounds c (.stringIter str pos') } := by
  obtain ⟨g1, g2⟩ := h.siter b str pos c n hb hr
  have hc : c < w.heap.size := (h.lt b c n hr).2
  have hne : ∀ c', c' ≠ c → (w.heap.setIfInBounds c (.stringIter str pos'))[c']? = w.heap[c']? := fun c' hc' => by
    rw [Array.getElem?_setIfInBounds]; rw [if_neg (fun e => hc' e.symm)]
  have hnc : ∀ c' arr T fr, w.heap[c']? = some (.cells arr T fr) → c' ≠ c := fun c' arr T fr hh e => by subst e; rw [g1] at hh; cases hh
  refine { below := h.below.trans ⟨rfl, rfl, rfl, by simp, fun k hk => hne k (fun e => g2 (e ▸ hk)), fun k arr T fr hk => ⟨arr, T, fr, by rw [← hk]; exact hne k (hnc k _ _ _ hk), rfl⟩⟩, hB := fun c hc => by simpa using h.hB c hc, cells := ?_, siter := ?_, inj := h.inj, lt := ?_, imm := ?_, tags := ?_, tdist := h.tdist, tlt := h.tlt, hlt := ?_, old := h.old, hmap := hmap_set h.hmap hr, oldρ := h.oldρ, tdef := h.tdef, tlow := h.tlow }
  · intro b' cs f c' n' hb' hr'
    simp only [Tr.get_set] at hb'
    split at hb'
    · cases hb'
    · obtain ⟨arr, T', fr, p1, p2⟩ := h.cells b' cs f c' n' hb' hr'
      exact ⟨arr, T', fr, by rw [← p1]; exact hne c' (hnc c' _ _ _ p1), p2⟩
  · intro b' str2 pos2 c' n' hb' hr'
    simp only [Tr.get_set] at hb'
    split at hb'
    · rename_i e'
      subst e'
      cases hb'
      rw [hr] at hr'; cases hr'
      exact ⟨by show (w.heap.setIfInBounds c _)[c]? = _; rw [Array.getElem?_setIfInBounds]; simp [hc], g2⟩
    · rename_i e'
      have := h.siter b' str2 pos2 c' n' hb' hr'
      have hcc : c' ≠ c := fun hcc => e' (by subst hcc; exact h.inj b' b c' n' n (by omega) hr' hr)
      exact ⟨by rw [← this.1]; exact hne c' hcc, this.2⟩
  · intro b' c' n' hr'
    simpa using h.lt b' c' n' hr'
  · intro c' o v hI
    have h0 := h.imm c' o v hI
    have : c' ≠ c := fun e' => by
      subst e'
      unfold World.cell? at h0
      rw [g1] at h0; cases h0
    rw [← h0]
    unfold World.cell?
    simp only [hne c' this]
  · intro t' c' e' ce' hl ht
    obtain ⟨p1, p2, ⟨arr, T', lo, hi, p3, p4, p5⟩, p6⟩ := h.tags t' c' e' ce' hl ht
    refine ⟨p1, p2, ⟨arr, T', lo, hi, by rw [← p3]; exact hne c' (hnc c' _ _ _ p3), p4, p5⟩, fun b' n' hr' => ?_⟩
    obtain ⟨cs, hcs, hl'⟩ := p6 b' n' hr'
    have : b' ≠ b := fun e' => by subst e'; rw [hb] at hcs; cases hcs
    exact ⟨cs, by rw [Tr.get_set_ne _ _ _ _ this]; exact hcs, hl'⟩
  · intro b' blk hb'
    simp only [Tr.get_set] at hb'
    split at hb'
    · rename_i e'; subst e'; exact h.hlt _ _ hb
    · exact h.hlt b' blk hb'

theorem wrap_small {n : Int} (h0 : 0 ≤ n) (h1 : n < 2 ^ 46) : IntKind.i64.wrap n = n := IntWalk.i64_in n (by omega)

/-- What a call that a loud operation makes comes to. -/
def CallIs (P : Program) (G : Gh) (call : Nat → List AV → St → Option (Res × St)) (s s' : St) (r : Res) (w : World) (run : Result Next) : Prop :=
  ∃ f args vs, call f args s = some (r, s') ∧ VRs G args vs ∧ run = (callFunc f vs.toArray).run P w

theorem loud_sim {C : Ctx} (hT : TOk P C.T) (hw : WR B w0 G s w) (hg : GOk NG G) (he : EnvR G e a) (m : List Nat) (call : Nat → List AV → St → Option (Res × St)) (o : Oper) (hops : ∀ x ∈ o.op.operands.toList, okO NG x = true)
    {r : Res} {s' : St} (h : loudOp C m call e s o = some (r, s')) :
    LoudOk B w0 G s' r ((execOp a.eval o).run P w) ∨ CallIs P G call s s' r w ((execOp a.eval o).run P w) := by
  obtain ⟨dst, op, type, pos, after, guard⟩ := o
  cases op <;> simp only [loudOp, reduceCtorEq] at h <;> simp only [Op.operands] at hops <;> simp only [execOp]
  case alloc t =>
    left
    split at h
    · rename_i ti hti
      cases h
      obtain ⟨z, hz, hzv⟩ := r_zero hT hti w
      have hc := (hzv G).cells
      have h1 := hw.allocMut (cellsOf ti.zero) (cellsV z) [] t hc
      rw [List.append_nil] at h1
      refine .val (v := .pointer (some ⟨w.heap.size, 0, none⟩)) (Gh.le_withρ hw _ _) h1 (.ptr s.next 0 w.heap.size (cellsV z).length (by simp [Gh.withρ])) (lift_v ?_)
      simp [Instr.alloc, hz, newVar, newRow, cellsV]
      try rfl
    · cases h
  case box t x =>
    left
    split at h
    · rename_i v hv
      split at h
      · cases h
        have hvv := ev_sim hg he (hops x (by simp)) hv
        have h1 := hw.allocMut (cellsOf v) (cellsV (a.eval x)) [] t hvv.cells
        rw [List.append_nil] at h1
        refine .val (v := .pointer (some ⟨w.heap.size, 0, none⟩)) (Gh.le_withρ hw _ _) h1 (.ptr s.next 0 w.heap.size (cellsV (a.eval x)).length (by simp [Gh.withρ])) (lift_v ?_)
        simp [Instr.box, newVar, newRow, cellsV]
        try rfl
      · cases h
    · cases h
  case buildSlice t len ps =>
    left
    split at h
    · rename_i l hl
      have hp := evParts_sim hg he _ _ (fun z hz => hops z.2 (by simp; exact ⟨z.1, by simpa using hz⟩)) hl
      have hps : (ps.toList.map fun (i, x) => (i, a.eval x)).toArray = ps.map fun (i, x) => (i, a.eval x) := map_toList _ _
      split at h
      · rename_i xs te hel
        split at h
        · cases h
          obtain ⟨G', w', v, h1, h2, h3, h4⟩ := buildSlice_sim hT hw hel hp
          rw [hps] at h4
          exact .val h1 h2 h3 (lift_v h4)
        · rename_i x0 xr
          split at h
          · cases h
            obtain ⟨vs, ee, h1, h2, h3, h4, h5, _⟩ := elemsA_sim (w := w) hT hel hp
            rw [hps] at h1
            have h6 := hw.allocMut ((x0 :: xr).flatMap cellsOf) vs [] ee h2
            rw [List.append_nil] at h6
            subst h3
            refine .val (Gh.le_withρ hw _ _) h6 (.ms s.next 0 (x0 :: xr).length te.size w.heap.size vs.length _ (by simp [Gh.withρ]) (Nat.le_refl _) ?_) (lift_v h1)
            rw [Nat.zero_add, ← h2.length, flat_length h4]
            exact Nat.le_refl _
          · cases h
      · cases h
    · cases h
  case store t p x =>
    left
    split at h
    · rename_i pa va hp hv
      split at h
      · rename_i s2 hs
        cases h
        obtain ⟨w', h1, h2⟩ := storeA_sim hT hw hs (ev_sim hg he (hops p (by simp)) hp) (ev_sim hg he (hops x (by simp)) hv)
        exact .skip (.refl G) h2 (by simp [h1])
      · cases h
    · cases h
  case range t x =>
    left
    split at h
    · rename_i ti str hti hx
      split at h
      · rename_i hk
        cases h
        have hv := ev_sim hg he (hops x (by simp)) hx
        obtain ⟨inf, d, z, g1, g2, g3, _⟩ := hT t ti hti
        rw [hk] at g3; have hd := tk_str g3; subst hd
        cases hcv : a.eval x <;> rw [hcv] at hv <;> cases hv
        have h1 := hw.allocIter str 0
        refine .val (v := .pointer (some ⟨w.heap.size, 0, none⟩)) (Gh.le_withρ hw _ _) h1 (.ptr s.next 0 w.heap.size 0 (by simp [Gh.withρ])) (lift_v ?_)
        simp [Instr.range, run_underlying g2]
        try rfl
      · cases h
    · cases h
  case next x isStr =>
    left
    cases isStr with
    | false => simp at h
    | true =>
      simp only [] at h
      split at h
      · rename_i b hx
        have hv := ev_sim hg he (hops x (by simp)) hx
        cases hcv : a.eval x <;> rw [hcv] at hv <;> cases hv
        rename_i c n hr
        split at h
        · rename_i str pos hb
          obtain ⟨g1, g2⟩ := hw.siter b str pos c n hb hr
          split at h
          · rename_i hlt
            cases h
            have hlt' : pos < str.size := by simpa using hlt
            refine .val (.refl G) (hw.setIter hb hr (pos + (Utf8.decode str pos).2)) (v := .tuple #[.bool true, goInt pos, .int .i32 (Utf8.decode str pos).1]) (.tup _ [_, _, _] (.cons _ _ _ _ (.bool true) (.cons _ _ _ _ (.int _ _) (.cons _ _ _ _ (.int _ _) .nil)))) (lift_v ?_)
            simp [Instr.next, getObj, setObj, Sem.run, g1, hlt']
          · rename_i hlt
            cases h
            have hlt' : ¬ pos < str.size := by simpa using hlt
            refine .val (.refl G) hw (v := .tuple #[.bool false]) (.tup _ [_] (.cons _ _ _ _ (.bool false) .nil)) (lift_v ?_)
            simp [Instr.next, getObj, Sem.run, g1, hlt']
        · cases h
      · cases h
  case makeSlice t l c =>
    left
    split at h
    · rename_i te k n k2 m hte hl hc
      obtain ⟨ee, ht, hge⟩ := elemTI_sim hT hte
      obtain ⟨i, d, z, g1, g2, g3, g4, g5, g6, g7, g8, _⟩ := hT ee te hge
      obtain ⟨zv, hz, hzv⟩ := r_zero hT hge w
      have hlv := ev_sim hg he (hops l (by simp)) hl
      have hcv := ev_sim hg he (hops c (by simp)) hc
      cases hlx : a.eval l <;> rw [hlx] at hlv <;> cases hlv
      cases hcx : a.eval c <;> rw [hcx] at hcv <;> cases hcv
      split at h
      · rename_i hb
        simp only [Bool.and_eq_true, decide_eq_true_eq] at hb
        obtain ⟨⟨⟨⟨b1, b2⟩, b3⟩, b4⟩, b5⟩ := hb
        have w1 : IntKind.i64.wrap n = n := wrap_small b1 (by omega)
        have w2 : IntKind.i64.wrap m = m := wrap_small (by omega) b3
        have hnb : ¬ ((281474976710656 : Int) < (te.bytes : Int) * m) := by
          have e1 : (te.bytes : Int) * m = ((m.toNat * te.bytes : Nat) : Int) := by
            rw [Int.natCast_mul, Int.toNat_of_nonneg (by omega), Int.mul_comm]
          rw [e1]; omega
        have hzarr : (Array.range (m.toNat * te.size)).map (fun i => zv.cells[i % zv.cells.size]!) = (List.replicate m.toNat (cellsV zv)).flatten.toArray := by
          have hzl : zv.cells.size = te.size := by
            have := (hzv G).cells.length
            rw [g8] at this
            simpa [cellsV] using this.symm
          rw [← hzl, zeros_array]; rfl
        have hrun : (Instr.makeSlice t (.int k n) (.int k2 m)).run P w = .ok (.slice (some ⟨w.heap.size, 0, none⟩) n.toNat m.toNat) (w.alloc (.cells (List.replicate m.toNat (cellsV zv)).flatten.toArray ee)) := by
          have c1 : ¬ m < 0 := by omega
          have c2 : ¬ n < 0 := by omega
          have c3 : ¬ m < n := by omega
          by_cases hm0 : m = 0
          · subst hm0
            simp [Instr.makeSlice, run_underlying ht, asInt, asIntOf, typeInfo, g1, w1, w2, c2, c3, sizeOf, newRow, Array.range_zero']
            try rfl
          · have hne : ¬ (m.toNat * te.size = 0) := by
              intro h0
              rcases Nat.mul_eq_zero.1 h0 with h0 | h0 <;> omega
            simp [Instr.makeSlice, run_underlying ht, asInt, asIntOf, typeInfo, g1, g5, w1, w2, c1, c2, c3, hnb, sizeOf, g4, hz, hzarr, newRow]
            exact fun h0 => absurd h0 hne
        split at h
        · rename_i hm0
          cases h
          have hm0' : m = 0 := by simpa using hm0
          subst hm0'
          have hn0 : n = 0 := by omega
          subst hn0
          have h1 := hw.allocImm (List.replicate (0 : Int).toNat (cellsV zv)).flatten.toArray ee 0
          refine .val (Gh.le_withI hw _ _) h1 ?_ (lift_v hrun)
          exact .sl [] .full w.heap.size 0 0 0 0 [] (by simp) (by simpa using VRs.nil) (by simp) rfl (Nat.le_refl _) rfl
        · rename_i hm0
          cases h
          have hrep := rep_flat (hzv G) m.toNat
          have h1 := hw.allocMut _ _ [] ee hrep
          rw [List.append_nil] at h1
          refine .val (Gh.le_withρ hw _ _) h1 (.ms s.next 0 n.toNat te.size w.heap.size (List.replicate m.toNat (cellsV zv)).flatten.length m.toNat (by simp [Gh.withρ]) (by omega) ?_) (lift_v hrun)
          rw [← hrep.length, flat_length (sz := te.size) (fun x hx => by rw [List.eq_of_mem_replicate hx]; exact g8), List.length_replicate]
          omega
      · cases h
    · cases h
  case panic x =>
    left
    split at h
    · rename_i t v hx
      cases h
      have hv := ev_sim hg he (hops x (by simp)) hx
      cases hcv : a.eval x <;> rw [hcv] at hv
      all_goals first | (cases hv; done) | skip
      rename_i t' u
      refine ⟨G, w, .refl G, hw, _, hv, ?_⟩
      simp [Instr.panic]
    · cases h
  case call c =>
    obtain ⟨callee, cargs, cts⟩ := c
    simp only [] at h
    split at h
    · cases h
    · rename_i args hargs
      split at h
      · rename_i b
        left
        have hv := evs_sim hg he cargs.toList _ (fun z hz => hops z (by simp [Call.operands]; simpa using hz)) hargs
        have key : ∀ cs, LoudOk B w0 G s' r ((builtin b cts type cs (cargs.map a.eval)).run P w) := fun cs => by
          have := builtinLoud_sim hT hw h hv type cs
          rw [map_toList] at this
          simpa using this
        simp only [resolve, Sem.run_bind, Sem.run_pure, Result.andThen_ok, invoke]
        exact key _
      · rename_i f
        right
        split at h
        · rename_i fid first cap hf
          have hfv := ev_sim hg he (hops f (by simp [Call.operands])) hf
          have hv := evs_sim hg he cargs.toList _ (fun z hz => hops z (by simp [Call.operands]; exact .inr (by simpa using hz))) hargs
          cases hcv : a.eval f <;> rw [hcv] at hfv
          all_goals first | (cases hfv; done) | skip
          rename_i fn as bs
          generalize has : as = as' at hfv
          generalize hbs : bs = bs' at hfv
          cases hfv
          rename_i as2 bs2 ha2 hb2
          refine ⟨fid, _, _, h, (ha2.append hv).append hb2, ?_⟩
          simp only [resolve, hcv, has, hbs, Deferred.ofValue, Sem.run_bind, Sem.run_pure, Result.andThen_ok, invoke]
          congr 2
          apply Array.ext'; simp
        · cases h
      · cases h

end
end Go.Am
