/- The values seat: values.Compare and slices.CompareFunc. -/
import Derived.Test.YtmbkcjnjjlkidaaGreatDoorVRef
import Derived.Test.YtmbkcjnjjlkidaaGreatDoorAmGc
namespace Go.Am.Tryz
open Go.Proofs Go.Am
set_option maxRecDepth 100000
set_option linter.unusedVariables false
set_option linter.unusedSimpArgs false
set_option maxHeartbeats 4000000

variable {ρ : Nat → Option (Nat × Nat)}

/-- values.Compare, of values that are smaller than a number. -/
def CmpIH (ρ : Nat → Option (Nat × Nat)) (N : Nat) : Prop := ∀ (v w : V) (a b : AV) (s : St) (R : Res → St → Prop), szV v < N → decV a = some v → decV b = some w → R (.ret (.int .i64 (cmpV v w))) s → CallsTo (SV ρ) 12 [a, b] s R

theorem cf_c {N : Nat} (ih : CmpIH ρ N) (l l' : List V) (y0 y0' : AV) (xs0 xs0' : List AV) (hy0 : SlA y0 xs0) (hy0' : SlA y0' xs0') (hl0 : decVs xs0 = some l) (hl0' : decVs xs0' = some l') (hb0 : xs0.length < 2 ^ 62) (hb0' : xs0'.length < 2 ^ 62) (hN : szVs l < N) (s : St) (R : Res → St → Prop)
    (hR : R (.ret (.int .i64 (cmpVs l l'))) s) : CallsTo (SV ρ) 45 [y0, y0', .fn (.func 12) [] []] s R := by
  refine fnP (Q := fun r => r = .int .i64 (cmpVs l l')) (fun _ h => h ▸ hR) (by simp [pureVs, pureV, hy0.pure (decs_pure hl0), hy0'.pure (decs_pure hl0')]) (show _ = [deaden y0, deaden y0', .fn (.func 12) [] []] from rfl) rfl ?_
  have hl := decs_dead hl0
  have hl' := decs_dead hl0'
  have hy := hy0.deaden
  have hy' := hy0'.deaden
  have hb := deadens_length xs0
  have hb' := deadens_length xs0'
  have hpy := hy.pure (decs_pure hl)
  have hpy' := hy'.pure (decs_pure hl')
  generalize deaden y0 = y, deaden y0' = y', deadens xs0 = xs, deadens xs0' = xs' at *
  clear hy0 hy0' hl0 hl0' hR
  have hlen := decs_length hl
  have hlen' := decs_length hl'
  repeat' (first
    | refine RC.seq ?_
    | (refine RC.region sok ?_; repeat' (first
        | refine RO.nil ?_
        | (refine RO.gs rfl ?_; first
            | (refine RO.gd isCmpO rfl ?_; first | refine RO.cmp true rfl rfl rfl ?_ | refine RO.cmp false rfl rfl rfl ?_ | refine RO.cmpB rfl rfl rfl (fun hb => ?_) (fun hb => ?_))
            | refine RO.st rfl rfl rfl (by first | rfl | (refine or_r ?_; repeat first | exact okR_nil | refine okR_bit rfl ?_ | refine okR_ld rfl ?_ | refine okR_rd ?_)) ?_
            | refine RO.len rfl rfl rfl rfl (by first | assumption | exact SlA.sl _ | exact LiveS.sla (by assumption)) rfl rfl rfl ?_
            | refine RO.idx rfl rfl rfl rfl (by first | assumption | exact SlA.sl _ | exact LiveS.sla (by assumption)) (by first | assumption | (simp only [Int.toNat_natCast]; assumption)) (by omega) rfl rfl rfl rfl ?_
            | refine RO.ldA rfl rfl rfl (by first | assumption | (simp only [Int.toNat_natCast]; assumption)) rfl rfl rfl (by first | rfl | (refine or_r ?_; repeat first | exact okR_nil | refine okR_bit rfl ?_ | refine okR_ld rfl ?_ | refine okR_rd ?_)) ?_
            | refine RO.ldF rfl rfl rfl (by first | assumption | (simp only [Int.toNat_natCast]; assumption)) rfl rfl rfl (by first | rfl | (refine or_r ?_; repeat first | exact okR_nil | refine okR_bit rfl ?_ | refine okR_ld rfl ?_ | refine okR_rd ?_)) ?_)
        | (refine RO.loud rfl rfl rfl (by first | rfl | (refine or_r ?_; repeat first | exact okL_nil | refine okL_ld ?_ | refine okL_bit rfl ?_ | refine okL_rd rfl ?_)) ?_; (try dsimp only [St.alloc, Sys.s0, Sys.s1, S0, Nat.reduceAdd]))
        | refine RO.skip rfl ?_))
    | refine RC.skip ?_
    | refine RC.block ?_
    | refine RC.exit ?_
    | refine RC.condT rfl ?_
    | refine RC.condF rfl ?_
    | refine RC.cond _ rfl (fun hb => ?_) (fun hb => ?_)
    | refine RC.ret ⟨_, rfl, ?_⟩)
  refine RC.loop (fun q e st => st = _ ∧ ∃ i : Nat, q = l.length - i ∧ i ≤ l.length ∧ i ≤ l'.length ∧ cmpVs l l' = cmpVs (l.drop i) (l'.drop i) ∧
      e = Tr.ofList [(0, y), (1, y'), (2, .fn (.func 12) [] []), (11, y), (12, .int .i64 xs.length), (13, .int .i64 i)]) ?_ l.length _ ⟨rfl, 0, rfl, Nat.zero_le _, Nat.zero_le _, rfl, rfl⟩ (sub_of ⟨rfl, rfl, rfl, rfl, rfl, rfl, trivial⟩)
  rintro q e st ⟨rfl, i, rfl, hi, hi', ho, rfl⟩
  by_cases hlt : i < l.length ∧ i < l'.length
  · obtain ⟨c0, c1, c2, c3, hx, hd⟩ := decs_get4 hlt.1 hl
    obtain ⟨d0, d1, d2, d3, hx', hd'⟩ := decs_get4 hlt.2 hl'
    have hsz : szV l[i] < N := by
      have := szVs_get hlt.1
      omega
    have hf := (dec_flat hd)
    have hf' := (dec_flat hd')
    repeat' (first
      | refine RC.seq ?_
      | (refine RC.region sok ?_; repeat' (first
          | refine RO.nil ?_
          | (refine RO.gs rfl ?_; first
              | (refine RO.gd isCmpO rfl ?_; first | refine RO.cmp true rfl rfl rfl ?_ | refine RO.cmp false rfl rfl rfl ?_ | refine RO.cmpB rfl rfl rfl (fun hb => ?_) (fun hb => ?_))
              | refine RO.st rfl rfl rfl (by first | rfl | (refine or_r ?_; repeat first | exact okR_nil | refine okR_bit rfl ?_ | refine okR_ld rfl ?_ | refine okR_rd ?_)) ?_
              | refine RO.len rfl rfl rfl rfl (by first | assumption | exact SlA.sl _ | exact LiveS.sla (by assumption)) rfl rfl rfl ?_
              | refine RO.idx rfl rfl rfl rfl (by first | assumption | exact SlA.sl _ | exact LiveS.sla (by assumption)) (by first | assumption | (simp only [Int.toNat_natCast]; assumption)) (by omega) rfl rfl rfl rfl ?_
              | refine RO.ldA rfl rfl rfl (by first | assumption | (simp only [Int.toNat_natCast]; assumption)) rfl rfl rfl (by first | rfl | (refine or_r ?_; repeat first | exact okR_nil | refine okR_bit rfl ?_ | refine okR_ld rfl ?_ | refine okR_rd ?_)) ?_
              | refine RO.ldF rfl rfl rfl (by first | assumption | (simp only [Int.toNat_natCast]; assumption)) rfl rfl rfl (by first | rfl | (refine or_r ?_; repeat first | exact okR_nil | refine okR_bit rfl ?_ | refine okR_ld rfl ?_ | refine okR_rd ?_)) ?_)
          | (refine RO.gd isCallF rfl ?_; first
              | refine RO.call rfl rfl rfl rfl rfl (ih _ _ _ _ _ _ hsz hd hd' ⟨(by first | rfl | (refine or_r ?_; repeat first | exact okL_nil | refine okL_ld ?_ | refine okL_bit rfl ?_ | refine okL_rd rfl ?_)), ?_⟩))
          | (refine RO.loud rfl rfl rfl (by first | rfl | (refine or_r ?_; repeat first | exact okL_nil | refine okL_ld ?_ | refine okL_bit rfl ?_ | refine okL_rd rfl ?_)) ?_; (try dsimp only [St.alloc, Sys.s0, Sys.s1, S0, Nat.reduceAdd]))
          | (refine RO.loud rfl rfl (loud_store rfl rfl rfl (store_agg rfl rfl rfl rfl (dec_flat2 hd))) (by first | rfl | (refine or_r ?_; repeat first | exact okL_nil | refine okL_ld ?_ | refine okL_bit rfl ?_ | refine okL_rd rfl ?_)) ?_; (try dsimp only [St.alloc, Sys.s0, Sys.s1, S0, Nat.reduceAdd]))
          | (refine RO.loud rfl rfl (loud_store rfl rfl rfl (store_agg rfl rfl rfl rfl (dec_flat2 hd'))) (by first | rfl | (refine or_r ?_; repeat first | exact okL_nil | refine okL_ld ?_ | refine okL_bit rfl ?_ | refine okL_rd rfl ?_)) ?_; (try dsimp only [St.alloc, Sys.s0, Sys.s1, S0, Nat.reduceAdd]))
          | refine RO.skip rfl ?_))
      | refine RC.skip ?_
      | refine RC.block ?_
      | refine RC.exit ?_
      | refine RC.condT rfl ?_
      | refine RC.condF rfl ?_
      | refine RC.cond _ rfl (fun hb => ?_) (fun hb => ?_)
      | refine RC.ret ⟨_, rfl, ?_⟩)
    all_goals try (exfalso; simp only [decide_eq_true_eq, decide_eq_false_iff_not, beq_iff_eq, bne_iff_ne, ne_eq, beq_eq_false_iff_ne, bne_eq_false_iff_eq, Decidable.not_not, Int.not_lt, Int.not_le, gt_iff_lt, ge_iff_le] at *; omega)
    · exact ⟨_, rfl, rfl, by rw [ho, cmpVs_drop hlt.1 hlt.2, if_pos (by simpa using ‹(cmpV l[i] l'[i] != 0) = true›)]; rfl⟩
    · have hw : IntKind.i64.wrap ((i : Int) + 1) = ((i + 1 : Nat) : Int) := by rw [wrap_ok (by omega) (by omega)]; rfl
      refine ⟨l.length - (i + 1), by omega, Tr.ofList [(0, y), (1, y'), (2, .fn (.func 12) [] []), (11, y), (12, .int .i64 xs.length), (13, .int .i64 (i + 1 : Nat))], _, .gc0 ⟨rfl, rfl, rfl, rfl, rfl, hw ▸ rfl, trivial⟩ ⟨pure_Low hpy, pure_Low hpy', pure_Low rfl, pure_Low hpy, pure_Low rfl, pure_Low rfl, trivial⟩ (fun b hb => ?_) (by show 6 ≤ 8; omega), rfl, i + 1, rfl, by omega, by omega, ?_, rfl⟩
      · have hb : b < 6 := hb
        simp only [Tr.get_set]
        (repeat rw [if_neg (by omega)])
      · rw [ho, cmpVs_drop hlt.1 hlt.2, if_neg (by simpa using ‹(cmpV l[i] l'[i] != 0) = false›)]
  by_cases hlt1 : i < l.length
  · obtain ⟨c0, c1, c2, c3, hx, hd⟩ := decs_get4 hlt1 hl
    repeat' (first
      | refine RC.seq ?_
      | (refine RC.region sok ?_; repeat' (first
          | refine RO.nil ?_
          | (refine RO.gs rfl ?_; first
              | (refine RO.gd isCmpO rfl ?_; first | refine RO.cmp true rfl rfl rfl ?_ | refine RO.cmp false rfl rfl rfl ?_ | refine RO.cmpB rfl rfl rfl (fun hb => ?_) (fun hb => ?_))
              | refine RO.st rfl rfl rfl (by first | rfl | (refine or_r ?_; repeat first | exact okR_nil | refine okR_bit rfl ?_ | refine okR_ld rfl ?_ | refine okR_rd ?_)) ?_
              | refine RO.len rfl rfl rfl rfl (by first | assumption | exact SlA.sl _ | exact LiveS.sla (by assumption)) rfl rfl rfl ?_
              | refine RO.idx rfl rfl rfl rfl (by first | assumption | exact SlA.sl _ | exact LiveS.sla (by assumption)) (by first | assumption | (simp only [Int.toNat_natCast]; assumption)) (by omega) rfl rfl rfl rfl ?_
              | refine RO.ldA rfl rfl rfl (by first | assumption | (simp only [Int.toNat_natCast]; assumption)) rfl rfl rfl (by first | rfl | (refine or_r ?_; repeat first | exact okR_nil | refine okR_bit rfl ?_ | refine okR_ld rfl ?_ | refine okR_rd ?_)) ?_
              | refine RO.ldF rfl rfl rfl (by first | assumption | (simp only [Int.toNat_natCast]; assumption)) rfl rfl rfl (by first | rfl | (refine or_r ?_; repeat first | exact okR_nil | refine okR_bit rfl ?_ | refine okR_ld rfl ?_ | refine okR_rd ?_)) ?_)
          | (refine RO.loud rfl rfl rfl (by first | rfl | (refine or_r ?_; repeat first | exact okL_nil | refine okL_ld ?_ | refine okL_bit rfl ?_ | refine okL_rd rfl ?_)) ?_; (try dsimp only [St.alloc, Sys.s0, Sys.s1, S0, Nat.reduceAdd]))
          | (refine RO.loud rfl rfl (loud_store rfl rfl rfl (store_agg rfl rfl rfl rfl (dec_flat2 hd))) (by first | rfl | (refine or_r ?_; repeat first | exact okL_nil | refine okL_ld ?_ | refine okL_bit rfl ?_ | refine okL_rd rfl ?_)) ?_; (try dsimp only [St.alloc, Sys.s0, Sys.s1, S0, Nat.reduceAdd]))
          | refine RO.skip rfl ?_))
      | refine RC.skip ?_
      | refine RC.block ?_
      | refine RC.exit ?_
      | refine RC.condT rfl ?_
      | refine RC.condF rfl ?_
      | refine RC.cond _ rfl (fun hb => ?_) (fun hb => ?_)
      | refine RC.ret ⟨_, rfl, ?_⟩)
    all_goals try (exfalso; simp only [decide_eq_true_eq, decide_eq_false_iff_not, beq_iff_eq, bne_iff_ne, ne_eq, beq_eq_false_iff_ne, bne_eq_false_iff_eq, Decidable.not_not, Int.not_lt, Int.not_le, gt_iff_lt, ge_iff_le] at *; omega)
    all_goals
      refine ⟨_, rfl, rfl, ?_⟩
      rw [ho, cmpVs_end hi hi' hlt]
      simp only [decide_eq_true_eq, decide_eq_false_iff_not, beq_iff_eq, bne_iff_ne, ne_eq, beq_eq_false_iff_ne, bne_eq_false_iff_eq, Decidable.not_not, Int.not_lt, Int.not_le, gt_iff_lt, ge_iff_le] at *
      (repeat' split) <;> first | rfl | (exfalso; omega)
  · repeat' (first
      | refine RC.seq ?_
      | (refine RC.region sok ?_; repeat' (first
          | refine RO.nil ?_
          | (refine RO.gs rfl ?_; first
              | (refine RO.gd isCmpO rfl ?_; first | refine RO.cmp true rfl rfl rfl ?_ | refine RO.cmp false rfl rfl rfl ?_ | refine RO.cmpB rfl rfl rfl (fun hb => ?_) (fun hb => ?_))
              | refine RO.st rfl rfl rfl (by first | rfl | (refine or_r ?_; repeat first | exact okR_nil | refine okR_bit rfl ?_ | refine okR_ld rfl ?_ | refine okR_rd ?_)) ?_
              | refine RO.len rfl rfl rfl rfl (by first | assumption | exact SlA.sl _ | exact LiveS.sla (by assumption)) rfl rfl rfl ?_
              | refine RO.idx rfl rfl rfl rfl (by first | assumption | exact SlA.sl _ | exact LiveS.sla (by assumption)) (by first | assumption | (simp only [Int.toNat_natCast]; assumption)) (by omega) rfl rfl rfl rfl ?_
              | refine RO.ldA rfl rfl rfl (by first | assumption | (simp only [Int.toNat_natCast]; assumption)) rfl rfl rfl (by first | rfl | (refine or_r ?_; repeat first | exact okR_nil | refine okR_bit rfl ?_ | refine okR_ld rfl ?_ | refine okR_rd ?_)) ?_
              | refine RO.ldF rfl rfl rfl (by first | assumption | (simp only [Int.toNat_natCast]; assumption)) rfl rfl rfl (by first | rfl | (refine or_r ?_; repeat first | exact okR_nil | refine okR_bit rfl ?_ | refine okR_ld rfl ?_ | refine okR_rd ?_)) ?_)
          | (refine RO.loud rfl rfl rfl (by first | rfl | (refine or_r ?_; repeat first | exact okL_nil | refine okL_ld ?_ | refine okL_bit rfl ?_ | refine okL_rd rfl ?_)) ?_; (try dsimp only [St.alloc, Sys.s0, Sys.s1, S0, Nat.reduceAdd]))
          | refine RO.skip rfl ?_))
      | refine RC.skip ?_
      | refine RC.block ?_
      | refine RC.exit ?_
      | refine RC.condT rfl ?_
      | refine RC.condF rfl ?_
      | refine RC.cond _ rfl (fun hb => ?_) (fun hb => ?_)
      | refine RC.ret ⟨_, rfl, ?_⟩)
    all_goals try (exfalso; simp only [decide_eq_true_eq, decide_eq_false_iff_not, beq_iff_eq, bne_iff_ne, ne_eq, beq_eq_false_iff_ne, bne_eq_false_iff_eq, Decidable.not_not, Int.not_lt, Int.not_le, gt_iff_lt, ge_iff_le] at *; omega)
    all_goals
      refine ⟨_, rfl, rfl, ?_⟩
      rw [ho, cmpVs_end hi hi' hlt]
      simp only [decide_eq_true_eq, decide_eq_false_iff_not, beq_iff_eq, bne_iff_ne, ne_eq, beq_eq_false_iff_ne, bne_eq_false_iff_eq, Decidable.not_not, Int.not_lt, Int.not_le, gt_iff_lt, ge_iff_le] at *
      (repeat' split) <;> first | rfl | (exfalso; omega)
end Go.Am.Tryz
