/- The values seat: values.Compare. -/
import Derived.Test.YtmbkcjnjjlkidaaGreatDoorVCf
namespace Go.Am.Tryz
open Go.Proofs Go.Am
set_option maxRecDepth 100000
set_option linter.unusedVariables false
set_option linter.unusedSimpArgs false
set_option maxHeartbeats 4000000

variable {ρ : Nat → Option (Nat × Nat)}

theorem cmpV_or3 {k n k' n' : Int} {s s' : ByteArray} {l l' : List V} : cmpV (.mk k n s l) (.mk k' n' s' l') = if orL [cmpI k k', cmpI n n', cmpB s s'] ≠ 0 then orL [cmpI k k', cmpI n n', cmpB s s'] else cmpVs l l' := by
  simp only [cmpV, orL]
  by_cases h1 : cmpI k k' = 0 <;> by_cases h2 : cmpI n n' = 0 <;> by_cases h3 : cmpB s s' = 0 <;> simp [h1, h2, h3]

theorem cmpIH : ∀ N, CmpIH ρ N := by
  intro N
  induction N with
  | zero => intro v w a b s R h; omega
  | succ N ih =>
    intro v w a b s R hN ha hb hR
    refine fnP (Q := fun r => r = .int .i64 (cmpV v w)) (fun _ h => h ▸ hR) (by simp [pureVs, dec_pure ha, dec_pure hb]) (show _ = [deaden a, deaden b] from rfl) rfl ?_
    obtain ⟨k, n, t, l, y, xs, e1, rfl, hy, hl, hbx⟩ := dec_shape (dec_dead ha)
    obtain ⟨k', n', t', l', y', xs', e2, rfl, hy', hl', hbx'⟩ := dec_shape (dec_dead hb)
    rw [e1, e2]
    clear e1 e2 ha hb hR
    have hsz : szVs l < N := by simp only [szV] at hN; omega
    repeat' (first
      | refine RC.seq ?_
      | (refine RC.region sok ?_; repeat' (first
          | refine RO.nil ?_
          | (refine RO.gs rfl ?_; first
              | (refine RO.gd isCmpO rfl ?_; first | refine RO.cmp true rfl rfl rfl ?_ | refine RO.cmp false rfl rfl rfl ?_ | refine RO.cmpB rfl rfl rfl (fun hb => ?_) (fun hb => ?_))
              | refine RO.st rfl rfl rfl (by first | rfl | (refine or_r ?_; repeat first | exact okR_nil | refine okR_bit rfl ?_ | refine okR_ld rfl ?_ | refine okR_rd ?_)) ?_
              | refine RO.len rfl rfl rfl rfl (by first | assumption | exact SlA.sl _ | exact LiveS.sla (by assumption)) rfl rfl rfl ?_
              | refine RO.idx rfl rfl rfl rfl (by first | assumption | exact SlA.sl _ | exact LiveS.sla (by assumption)) (by first | assumption | (simp only [Int.toNat_natCast]; assumption)) (by omega) rfl rfl rfl rfl ?_
              | refine RO.ldA rfl rfl rfl (by first | assumption | (simp only [Int.toNat_natCast]; assumption)) rfl rfl rfl (by first | rfl | (refine or_r ?_; repeat first | exact okR_nil | refine okR_bit rfl ?_ | refine okR_ld rfl ?_ | refine okR_rd ?_)) ?_
              | refine RO.ldF rfl rfl rfl (by first | assumption | (simp only [Int.toNat_natCast]; assumption)) rfl rfl rfl (by first | rfl | (refine or_r ?_; repeat first | exact okR_nil | refine okR_bit rfl ?_ | refine okR_ld rfl ?_ | refine okR_rd ?_)) ?_)
          | (refine RO.gd isCallF rfl ?_; first
              | refine RO.call rfl rfl rfl rfl rfl (cmpI_c _ _ ⟨(by first | rfl | (refine or_r ?_; repeat first | exact okL_nil | refine okL_ld ?_ | refine okL_bit rfl ?_ | refine okL_rd rfl ?_)), ?_⟩)
              | refine RO.call rfl rfl rfl rfl rfl (strCompare_c _ _ ⟨(by first | rfl | (refine or_r ?_; repeat first | exact okL_nil | refine okL_ld ?_ | refine okL_bit rfl ?_ | refine okL_rd rfl ?_)), ?_⟩)
              | refine RO.call rfl rfl rfl rfl rfl (or_c [_, _, _] _ (by simp) ⟨(by first | rfl | (refine or_r ?_; repeat first | exact okL_nil | refine okL_ld ?_ | refine okL_bit rfl ?_ | refine okL_rd rfl ?_)), ?_⟩)
              | refine RO.call rfl rfl rfl rfl rfl (cf_c ih _ _ _ _ _ _ hy hy' hl hl' hbx hbx' hsz _ _ ⟨(by first | rfl | (refine or_r ?_; repeat first | exact okL_nil | refine okL_ld ?_ | refine okL_bit rfl ?_ | refine okL_rd rfl ?_)), ?_⟩))
          | (refine RO.loud rfl rfl rfl (by first | rfl | (refine or_r ?_; repeat first | exact okL_nil | refine okL_ld ?_ | refine okL_bit rfl ?_ | refine okL_rd rfl ?_)) ?_; (try dsimp only [St.alloc, Sys.s0, Sys.s1, S0, Nat.reduceAdd]))
          | (refine RO.loud rfl rfl (loud_box (hy.flat4 rfl rfl rfl) rfl rfl) (by first | rfl | (refine or_r ?_; repeat first | exact okL_nil | refine okL_ld ?_ | refine okL_bit rfl ?_ | refine okL_rd rfl ?_)) ?_; (try dsimp only [St.alloc, Sys.s0, Sys.s1, S0, Nat.reduceAdd]))
          | (refine RO.loud rfl rfl (loud_box (hy'.flat4 rfl rfl rfl) rfl rfl) (by first | rfl | (refine or_r ?_; repeat first | exact okL_nil | refine okL_ld ?_ | refine okL_bit rfl ?_ | refine okL_rd rfl ?_)) ?_; (try dsimp only [St.alloc, Sys.s0, Sys.s1, S0, Nat.reduceAdd]))
          | refine RO.skip rfl ?_))
      | refine RC.skip ?_
      | refine RC.block ?_
      | refine RC.exit ?_
      | refine RC.condT rfl ?_
      | refine RC.condF rfl ?_
      | refine RC.cond _ rfl (fun hb => ?_) (fun hb => ?_)
      | refine RC.ret ⟨_, rfl, ?_⟩)
    · exact ⟨_, rfl, rfl, by rw [cmpV_or3, if_pos (by simpa using hb)]; rfl⟩
    · exact ⟨_, rfl, rfl, by rw [cmpV_or3, if_neg (by simpa using hb)]; rfl⟩

theorem cmp_c {v w : V} {a b : AV} {s : St} {R : Res → St → Prop} (ha : decV a = some v) (hb : decV b = some w) (hR : R (.ret (.int .i64 (cmpV v w))) s) : CallsTo (SV ρ) 12 [a, b] s R :=
  cmpIH (szV v + 1) v w a b s R (Nat.lt_succ_self _) ha hb hR
theorem refcmp_c {v w : V} {a b : AV} {s : St} {R : Res → St → Prop} (ha : decV a = some v) (hb : decV b = some w) (hR : R (.ret (.int .i64 (cmpV v w))) s) : CallsTo (SV ρ) 13 [a, b] s R :=
  refCmp_c (szV v + 1) v w a b s R (Nat.lt_succ_self _) ha hb hR
end Go.Am.Tryz
