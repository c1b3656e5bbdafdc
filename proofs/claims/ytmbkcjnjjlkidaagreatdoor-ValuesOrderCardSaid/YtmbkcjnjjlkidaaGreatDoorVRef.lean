/- The values seat: refuterref10.Compare. -/
import Derived.Test.YtmbkcjnjjlkidaaGreatDoorVLeaf
namespace Go.Am.Tryz
open Go.Proofs Go.Am
set_option maxRecDepth 100000
set_option linter.unusedVariables false
set_option linter.unusedSimpArgs false
set_option maxHeartbeats 4000000

variable {ρ : Nat → Option (Nat × Nat)}

theorem decs_get4 {xs : List AV} {l : List V} {i : Nat} (hi : i < l.length) (h : decVs xs = some l) : ∃ c0 c1 c2 c3, xs[(i : Int).toNat]? = some (.agg [c0, c1, c2, c3]) ∧ decV (.agg [c0, c1, c2, c3]) = some l[i] := by
  obtain ⟨x, hx, hd⟩ := decs_get hi h
  obtain ⟨k, n, s, l', y, ys, rfl, _⟩ := dec_shape hd
  exact ⟨_, _, _, _, hx, hd⟩

theorem refCmp_c : ∀ (N : Nat) (v w : V) (a b : AV) (s : St) (R : Res → St → Prop), szV v < N → decV a = some v → decV b = some w → R (.ret (.int .i64 (cmpV v w))) s → CallsTo (SV ρ) 13 [a, b] s R := by
  intro N
  induction N with
  | zero => intro v w a b s R h; omega
  | succ N ih =>
    intro v w a b s R hN ha hb hR
    refine fnP (Q := fun r => r = .int .i64 (cmpV v w)) (fun _ h => h ▸ hR) (by simp [pureVs, dec_pure ha, dec_pure hb]) (show _ = [deaden a, deaden b] from rfl) rfl ?_
    obtain ⟨k, n, t, l, y, xs, e1, rfl, hy, hl, hbx⟩ := dec_shape (dec_dead ha)
    obtain ⟨k', n', t', l', y', xs', e2, rfl, hy', hl', hbx'⟩ := dec_shape (dec_dead hb)
    rw [e1, e2]
    clear e1 e2 ha hb hR
    have hlen := decs_length hl
    have hlen' := decs_length hl'
    repeat' (first
      | refine RC.seq ?_
      | (refine RC.region sok ?_; repeat' (first
          | refine RO.nil ?_
          | (refine RO.gs rfl ?_; first
              | (refine RO.gd isCmpO rfl ?_; first | refine RO.cmp true rfl rfl rfl ?_ | refine RO.cmp false rfl rfl rfl ?_ | refine RO.cmpB rfl rfl rfl (fun hb => ?_) (fun hb => ?_))
              | refine RO.st rfl rfl rfl (by first | rfl | (refine or_r ?_; repeat first | exact okR_nil | refine okR_bit rfl ?_ | refine okR_ld rfl ?_ | refine okR_rd ?_)) ?_
              | refine RO.len rfl rfl rfl rfl (by first | assumption | exact SlA.sl _ | exact LiveS.sla (by assumption)) rfl rfl rfl ?_
              | refine RO.idx rfl rfl rfl rfl (by first | assumption | exact SlA.sl _ | exact LiveS.sla (by assumption)) (by first | assumption | (simp only [Int.toNat_natCast]; assumption)) (by omega) rfl rfl rfl rfl ?_
              | refine RO.ldA rfl rfl rfl (by first | assumption | (simp only [Int.toNat_natCast]; assumption)) rfl rfl rfl (by first | rfl | (refine or_r ?_; repeat first | exact okR_nil | refine okR_bit rfl ?_ | refine okR_ld rfl ?_ | refine okR_rd ?_)) ?_
              | refine RO.ldF rfl rfl rfl (by first | assumption | (simp only [Int.toNat_natCast]; assumption)) rfl rfl rfl (by first | rfl | (refine or_r ?_; repeat first | exact okR_nil | refine okR_bit rfl ?_ | refine okR_ld rfl ?_ | refine okR_rd ?_)) ?_)
          | (refine RO.gd isCallF rfl ?_; first
              | refine RO.call rfl rfl rfl rfl rfl (sign_c _ ⟨(by first | rfl | (refine or_r ?_; repeat first | exact okL_nil | refine okL_ld ?_ | refine okL_bit rfl ?_ | refine okL_rd rfl ?_)), ?_⟩))
          | (refine RO.loud rfl rfl rfl (by first | rfl | (refine or_r ?_; repeat first | exact okL_nil | refine okL_ld ?_ | refine okL_bit rfl ?_ | refine okL_rd rfl ?_)) ?_; (try dsimp only [St.alloc, Sys.s0, Sys.s1, S0, Nat.reduceAdd]))
          | (refine RO.loud rfl rfl (loud_box (hy.flat4 rfl rfl rfl) rfl rfl) (by first | rfl | (refine or_r ?_; repeat first | exact okL_nil | refine okL_ld ?_ | refine okL_bit rfl ?_ | refine okL_rd rfl ?_)) ?_; (try dsimp only [St.alloc, Sys.s0, Sys.s1, S0, Nat.reduceAdd]))
          | (refine RO.loud rfl rfl (loud_box (hy'.flat4 rfl rfl rfl) rfl rfl) (by first | rfl | (refine or_r ?_; repeat first | exact okL_nil | refine okL_ld ?_ | refine okL_bit rfl ?_ | refine okL_rd rfl ?_)) ?_; (try dsimp only [St.alloc, Sys.s0, Sys.s1, S0, Nat.reduceAdd]))
          | refine RO.skip rfl ?_))
      | refine RC.skip ?_
      | refine RC.block ?_
      | refine RC.exit ?_
      | refine RC.condT rfl ?_
      | refine RC.condF rfl ?_
      | refine RC.cond _ rfl (fun hb => ?_) (fun hb => ?_)
      | refine RC.ret ⟨_, rfl, ?_⟩)
    iterate 2 (focus (rename_i g; exact ⟨_, rfl, rfl, by rw [← cmpV_k g, hb]; rfl⟩))
    iterate 2 (focus (rename_i g1 g2; exact ⟨_, rfl, rfl, by rw [← cmpV_n g1 g2, hb]; rfl⟩))
    iterate 2 (focus (rename_i g1 g2 g3; exact ⟨_, rfl, rfl, by rw [← cmpV_s g1 g2 g3, hb]; rfl⟩))
    rename_i g1 g2
    have g3 := hb
    clear hb
    refine RC.loop (fun q e st => st = _ ∧ ∃ i : Nat, q = l.length - i ∧ i ≤ l.length ∧ i ≤ l'.length ∧ cmpVs l l' = cmpVs (l.drop i) (l'.drop i) ∧
      e = Tr.ofList [(2, .ptr 6 0), (3, .ptr 7 0), (5, .int .i64 i)]) ?_ l.length _ ⟨rfl, 0, rfl, Nat.zero_le _, Nat.zero_le _, rfl, rfl⟩ (sub_of ⟨rfl, rfl, rfl, trivial⟩)
    rintro q e st ⟨rfl, i, rfl, hi, hi', ho, rfl⟩
    have hlast : ¬ (i < l.length ∧ i < l'.length) → cmpV (.mk k n t l) (.mk k' n' t' l') = if l.length = l'.length then 0 else if l.length < l'.length then -1 else 1 := fun h => by
      rw [← cmpV_l g1 g2 g3, ho, cmpVs_end hi hi' h]
    by_cases hlt : i < l.length ∧ i < l'.length
    · obtain ⟨c0, c1, c2, c3, hx, hd⟩ := decs_get4 hlt.1 hl
      obtain ⟨d0, d1, d2, d3, hx', hd'⟩ := decs_get4 hlt.2 hl'
      have hsz : szV l[i] < N := by
        have := szVs_get hlt.1
        simp only [szV] at hN; omega
      repeat' (first
        | refine RC.seq ?_
        | (refine RC.region sok ?_; repeat' (first
            | refine RO.nil ?_
            | (refine RO.gs rfl ?_; first
                | (refine RO.gd isCmpO rfl ?_; first | refine RO.cmp true rfl rfl rfl ?_ | refine RO.cmp false rfl rfl rfl ?_ | refine RO.cmpB rfl rfl rfl (fun hb => ?_) (fun hb => ?_))
                | refine RO.st rfl rfl rfl (by first | rfl | (refine or_r ?_; repeat first | exact okR_nil | refine okR_bit rfl ?_ | refine okR_ld rfl ?_ | refine okR_rd ?_)) ?_
                | refine RO.len rfl rfl rfl rfl (by first | assumption | exact SlA.sl _ | exact LiveS.sla (by assumption)) rfl rfl rfl ?_
                | refine RO.idx rfl rfl rfl rfl (by first | assumption | exact SlA.sl _ | exact LiveS.sla (by assumption)) (by first | assumption | (simp only [Int.toNat_natCast]; assumption)) (by omega) rfl rfl rfl rfl ?_
                | refine RO.ldA rfl rfl rfl (by first | assumption | (simp only [Int.toNat_natCast]; assumption)) rfl rfl rfl (by first | rfl | (refine or_r ?_; repeat first | exact okR_nil | refine okR_bit rfl ?_ | refine okR_ld rfl ?_ | refine okR_rd ?_)) ?_
                | refine RO.ldF rfl rfl rfl (by first | assumption | (simp only [Int.toNat_natCast]; assumption)) rfl rfl rfl (by first | rfl | (refine or_r ?_; repeat first | exact okR_nil | refine okR_bit rfl ?_ | refine okR_ld rfl ?_ | refine okR_rd ?_)) ?_)
            | (refine RO.gd isCallF rfl ?_; first
                | refine RO.call rfl rfl rfl rfl rfl (ih _ _ _ _ _ _ hsz hd hd' ⟨(by first | rfl | (refine or_r ?_; repeat first | exact okL_nil | refine okL_ld ?_ | refine okL_bit rfl ?_ | refine okL_rd rfl ?_)), ?_⟩))
            | (refine RO.loud rfl rfl rfl (by first | rfl | (refine or_r ?_; repeat first | exact okL_nil | refine okL_ld ?_ | refine okL_bit rfl ?_ | refine okL_rd rfl ?_)) ?_; (try dsimp only [St.alloc, Sys.s0, Sys.s1, S0, Nat.reduceAdd]))
            | refine RO.skip rfl ?_))
        | refine RC.skip ?_
        | refine RC.block ?_
        | refine RC.exit ?_
        | refine RC.condT rfl ?_
        | refine RC.condF rfl ?_
        | refine RC.cond _ rfl (fun hb => ?_) (fun hb => ?_)
        | refine RC.ret ⟨_, rfl, ?_⟩)
      all_goals try (exfalso; simp only [decide_eq_true_eq, decide_eq_false_iff_not, beq_iff_eq, bne_iff_ne, ne_eq, beq_eq_false_iff_ne, bne_eq_false_iff_eq, Decidable.not_not, Int.not_lt, Int.not_le, gt_iff_lt, ge_iff_le] at *; omega)
      · rw [← cmpV_l g1 g2 g3, ho, cmpVs_drop hlt.1 hlt.2, if_pos (by simpa using ‹(cmpV l[i] l'[i] != 0) = true›)]
        exact ⟨_, rfl, rfl, rfl⟩
      · have hw : IntKind.i64.wrap ((i : Int) + 1) = ((i + 1 : Nat) : Int) := by rw [wrap_ok (by omega) (by omega)]; rfl
        refine ⟨l.length - (i + 1), by omega, Tr.ofList [(2, .ptr 6 0), (3, .ptr 7 0), (5, .int .i64 (i + 1 : Nat))], _, .forget (sub_of ⟨rfl, rfl, hw ▸ rfl, trivial⟩), rfl, i + 1, rfl, by omega, by omega, ?_, rfl⟩
        rw [ho, cmpVs_drop hlt.1 hlt.2, if_neg (by simpa using ‹(cmpV l[i] l'[i] != 0) = false›)]
    · repeat' (first
        | refine RC.seq ?_
        | (refine RC.region sok ?_; repeat' (first
            | refine RO.nil ?_
            | (refine RO.gs rfl ?_; first
                | (refine RO.gd isCmpO rfl ?_; first | refine RO.cmp true rfl rfl rfl ?_ | refine RO.cmp false rfl rfl rfl ?_ | refine RO.cmpB rfl rfl rfl (fun hb => ?_) (fun hb => ?_))
                | refine RO.st rfl rfl rfl (by first | rfl | (refine or_r ?_; repeat first | exact okR_nil | refine okR_bit rfl ?_ | refine okR_ld rfl ?_ | refine okR_rd ?_)) ?_
                | refine RO.len rfl rfl rfl rfl (by first | assumption | exact SlA.sl _ | exact LiveS.sla (by assumption)) rfl rfl rfl ?_
                | refine RO.idx rfl rfl rfl rfl (by first | assumption | exact SlA.sl _ | exact LiveS.sla (by assumption)) (by first | assumption | (simp only [Int.toNat_natCast]; assumption)) (by omega) rfl rfl rfl rfl ?_
                | refine RO.ldA rfl rfl rfl (by first | assumption | (simp only [Int.toNat_natCast]; assumption)) rfl rfl rfl (by first | rfl | (refine or_r ?_; repeat first | exact okR_nil | refine okR_bit rfl ?_ | refine okR_ld rfl ?_ | refine okR_rd ?_)) ?_
                | refine RO.ldF rfl rfl rfl (by first | assumption | (simp only [Int.toNat_natCast]; assumption)) rfl rfl rfl (by first | rfl | (refine or_r ?_; repeat first | exact okR_nil | refine okR_bit rfl ?_ | refine okR_ld rfl ?_ | refine okR_rd ?_)) ?_)
            | (refine RO.gd isCallF rfl ?_; first
                | refine RO.call rfl rfl rfl rfl rfl (sign_c _ ⟨(by first | rfl | (refine or_r ?_; repeat first | exact okL_nil | refine okL_ld ?_ | refine okL_bit rfl ?_ | refine okL_rd rfl ?_)), ?_⟩))
            | (refine RO.loud rfl rfl rfl (by first | rfl | (refine or_r ?_; repeat first | exact okL_nil | refine okL_ld ?_ | refine okL_bit rfl ?_ | refine okL_rd rfl ?_)) ?_; (try dsimp only [St.alloc, Sys.s0, Sys.s1, S0, Nat.reduceAdd]))
            | refine RO.skip rfl ?_))
        | refine RC.skip ?_
        | refine RC.block ?_
        | refine RC.exit ?_
        | refine RC.condT rfl ?_
        | refine RC.condF rfl ?_
        | refine RC.cond _ rfl (fun hb => ?_) (fun hb => ?_)
        | refine RC.ret ⟨_, rfl, ?_⟩)
      all_goals try (exfalso; simp only [decide_eq_true_eq, decide_eq_false_iff_not, beq_iff_eq, bne_iff_ne, ne_eq, beq_eq_false_iff_ne, bne_eq_false_iff_eq, Decidable.not_not, Int.not_lt, Int.not_le, gt_iff_lt, ge_iff_le] at *; omega)
      all_goals
        refine ⟨_, rfl, rfl, ?_⟩
        rw [hlast hlt]
        simp only [decide_eq_true_eq, decide_eq_false_iff_not, beq_iff_eq, bne_iff_ne, ne_eq, beq_eq_false_iff_ne, bne_eq_false_iff_eq, Decidable.not_not, Int.not_lt, Int.not_le, gt_iff_lt, ge_iff_le] at *
        (repeat' split) <;> first | rfl | (exfalso; omega)
end Go.Am.Tryz
