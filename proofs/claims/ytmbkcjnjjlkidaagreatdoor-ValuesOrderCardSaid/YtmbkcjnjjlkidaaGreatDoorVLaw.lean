/- The values seat: the law ValuesOrder. -/
import Derived.Test.YtmbkcjnjjlkidaaGreatDoorVSome
namespace Go.Am.Tryz
open Go.Proofs Go.Am
set_option maxRecDepth 100000
set_option linter.unusedVariables false
set_option linter.unusedSimpArgs false
set_option maxHeartbeats 4000000

variable {ρ : Nat → Option (Nat × Nat)} {s : St} {R : Res → St → Prop}

theorem cmpB_range (s t : ByteArray) : -1 ≤ cmpB s t ∧ cmpB s t ≤ 1 := by
  have : ∀ a b : List UInt8, -1 ≤ Lib.compareBytes a b ∧ Lib.compareBytes a b ≤ 1 := by
    intro a
    induction a with
    | nil => intro b; cases b <;> simp [Lib.compareBytes]
    | cons x a ih =>
      intro b
      cases b with
      | nil => simp [Lib.compareBytes]
      | cons y b =>
        unfold Lib.compareBytes
        have := ih b
        split
        · omega
        · split <;> omega
  unfold cmpB
  rw [Lib.cmp_eq]
  exact this _ _
theorem cmpI_range (a b : Int) : -1 ≤ cmpI a b ∧ cmpI a b ≤ 1 := by unfold cmpI; split <;> (try split) <;> omega
mutual
theorem cmpV_range : ∀ v w : V, -1 ≤ cmpV v w ∧ cmpV v w ≤ 1
  | .mk k n s l, .mk k' n' s' l' => by
    unfold cmpV
    have h1 := cmpI_range k k'
    have h2 := cmpI_range n n'
    have h3 := cmpB_range s s'
    have h4 := cmpVs_range l l'
    split
    · exact h1
    · split
      · exact h2
      · split
        · exact h3
        · exact h4
theorem cmpVs_range : ∀ v w : List V, -1 ≤ cmpVs v w ∧ cmpVs v w ≤ 1
  | [], [] => by simp [cmpVs]
  | [], _ :: _ => by simp [cmpVs]
  | _ :: _, [] => by simp [cmpVs]
  | x :: xs, y :: ys => by
    unfold cmpVs
    have h1 := cmpV_range x y
    have h2 := cmpVs_range xs ys
    split
    · exact h1
    · exact h2
end

theorem decs4 {xs : List AV} {l : List V} {i : Nat} (hi : i < 4) (h4 : l.length = 4) (h : decVs xs = some l) : ∃ c0 c1 c2 c3 v, xs[(i : Int).toNat]? = some (.agg [c0, c1, c2, c3]) ∧ decV (.agg [c0, c1, c2, c3]) = some v ∧ l[i]? = some v := by
  have hi' : i < l.length := by omega
  obtain ⟨c0, c1, c2, c3, h1, h2⟩ := decs_get4 hi' h
  exact ⟨c0, c1, c2, c3, _, h1, h2, by simp [hi']⟩

theorem law_order {x0 x1 x2 : AV} {l0 l1 l2 : List Int} {a3 a4 : Int} (h0 : GB x0 l0) (h1 : GB x1 l1) (h2 : GB x2 l2) : CallsTo (SV ρ) 3 [x0, x1, x2, .int .i64 a3, .int .i64 a4] (SV ρ).s0 fun r _ => r = .ret (.bool true) := by
  refine CallsTo.run (fn := mkF Tryz.f3 [] none) sok rfl ?_
  repeat' (first
    | refine RC.seq ?_
    | (refine RC.region sok ?_; repeat' (first
        | refine RO.nil ?_
        | (refine RO.gs rfl ?_; first
            | (refine RO.gd isCmpO rfl ?_; first | refine RO.cmp true rfl rfl rfl ?_ | refine RO.cmp false rfl rfl rfl ?_ | refine RO.cmpB rfl rfl rfl (fun hb => ?_) (fun hb => ?_))
            | refine RO.st rfl rfl rfl (by first | rfl | (refine or_r ?_; repeat first | exact okR_nil | refine okR_bit rfl ?_ | refine okR_ld rfl ?_ | refine okR_rd ?_)) ?_
            | refine RO.len rfl rfl rfl rfl (by first | assumption | exact SlA.sl _ | exact LiveS.sla (by assumption)) rfl rfl rfl ?_
            | refine RO.idx rfl rfl rfl rfl (by first | assumption | exact SlA.sl _ | exact LiveS.sla (by assumption)) (by first | assumption | exact hp | (simp only [Int.toNat_natCast]; assumption)) (by omega) rfl rfl rfl rfl ?_
            | refine RO.ldA rfl rfl rfl (by first | assumption | exact hp | (simp only [Int.toNat_natCast]; assumption)) rfl rfl rfl (by first | rfl | (refine or_r ?_; repeat first | exact okR_nil | refine okR_bit rfl ?_ | refine okR_ld rfl ?_ | refine okR_rd ?_)) ?_
            | refine RO.ldF rfl rfl rfl (by first | assumption | exact hp | (simp only [Int.toNat_natCast]; assumption)) rfl rfl rfl (by first | rfl | (refine or_r ?_; repeat first | exact okR_nil | refine okR_bit rfl ?_ | refine okR_ld rfl ?_ | refine okR_rd ?_)) ?_)
        | (refine RO.gd isCallF rfl ?_; first
            | (refine RO.call rfl rfl rfl rfl rfl (some_c (bent := a3) (by_ := a4) h0 (fun p0 p1 p2 p3 v0 hv0 _ _ => ⟨(by first | rfl | (refine or_r ?_; repeat first | exact okL_nil | refine okL_ld ?_ | refine okL_bit rfl ?_ | refine okL_rd rfl ?_)), ?_⟩)))
            | (refine RO.call rfl rfl rfl rfl rfl (some_c h1 (fun q0 q1 q2 q3 v1 hv1 _ _ => ⟨(by first | rfl | (refine or_r ?_; repeat first | exact okL_nil | refine okL_ld ?_ | refine okL_bit rfl ?_ | refine okL_rd rfl ?_)), ?_⟩)))
            | (refine RO.call rfl rfl rfl rfl rfl (some_c h2 (fun r0 r1 r2 r3 v2 hv2 _ _ => ⟨(by first | rfl | (refine or_r ?_; repeat first | exact okL_nil | refine okL_ld ?_ | refine okL_bit rfl ?_ | refine okL_rd rfl ?_)), ?_⟩)))
            | (refine RO.call rfl rfl rfl rfl rfl (some_c (bent := 0) (by_ := 0) h0 (fun s0 s1 s2 s3 v3 hv3 _ _ => ⟨(by first | rfl | (refine or_r ?_; repeat first | exact okL_nil | refine okL_ld ?_ | refine okL_bit rfl ?_ | refine okL_rd rfl ?_)), ?_⟩))))
        | (refine RO.loud rfl rfl rfl (by first | rfl | (refine or_r ?_; repeat first | exact okL_nil | refine okL_ld ?_ | refine okL_bit rfl ?_ | refine okL_rd rfl ?_)) ?_; (try dsimp only [St.alloc, Sys.s0, Sys.s1, S0, Nat.reduceAdd]))
        | refine RO.skip rfl ?_))
    | refine RC.skip ?_
    | refine RC.block ?_
    | refine RC.exit ?_
    | refine RC.condT rfl ?_
    | refine RC.condF rfl ?_
    | refine RC.cond _ rfl (fun hb => ?_) (fun hb => ?_)
    | refine RC.ret ⟨_, rfl, ?_⟩)
  have hdec : decVs [.agg [p0, p1, p2, p3], .agg [q0, q1, q2, q3], .agg [r0, r1, r2, r3], .agg [s0, s1, s2, s3]] = some [v0, v1, v2, v3] := by
    simp only [decVs, hv0, hv1, hv2, hv3]
  obtain ⟨xs, hxs⟩ : ∃ xs : List AV, xs = [.agg [p0, p1, p2, p3], .agg [q0, q1, q2, q3], .agg [r0, r1, r2, r3], .agg [s0, s1, s2, s3]] := ⟨_, rfl⟩
  rw [← hxs] at hdec
  refine RC.loop (fun q e st => st = _ ∧ ∃ i : Nat, q = 4 - i ∧ i ≤ 4 ∧ e = Tr.ofList [(11, .sl xs .full), (12, .int .i64 i)]) ?_ 4 _ ⟨rfl, 0, rfl, by omega, rfl⟩ (sub_of ⟨by rw [hxs]; rfl, rfl, trivial⟩)
  clear hxs hv0 hv1 hv2 hv3
  generalize hl4 : [v0, v1, v2, v3] = l at hdec
  have h4 : l.length = 4 := by rw [← hl4]; rfl
  clear hl4
  have hxl := decs_length hdec
  rintro q e st ⟨rfl, i, rfl, hi, rfl⟩
  by_cases hli : i < 4
  · obtain ⟨a0, a1, a2, a3, vi, hai, hvi, hgi⟩ := decs4 hli h4 hdec
    repeat' (first
      | refine RC.seq ?_
      | (refine RC.region sok ?_; repeat' (first
          | refine RO.nil ?_
          | (refine RO.gs rfl ?_; first
              | (refine RO.gd isCmpO rfl ?_; first | refine RO.cmp true rfl rfl rfl ?_ | refine RO.cmp false rfl rfl rfl ?_ | refine RO.cmpB rfl rfl rfl (fun hb => ?_) (fun hb => ?_))
              | refine RO.st rfl rfl rfl (by first | rfl | (refine or_r ?_; repeat first | exact okR_nil | refine okR_bit rfl ?_ | refine okR_ld rfl ?_ | refine okR_rd ?_)) ?_
              | refine RO.len rfl rfl rfl rfl (by first | assumption | exact SlA.sl _ | exact LiveS.sla (by assumption)) rfl rfl rfl ?_
              | refine RO.idx rfl rfl rfl rfl (by first | assumption | exact SlA.sl _ | exact LiveS.sla (by assumption)) (by first | assumption | exact hp | (simp only [Int.toNat_natCast]; assumption)) (by omega) rfl rfl rfl rfl ?_
              | refine RO.ldA rfl rfl rfl (by first | assumption | exact hp | (simp only [Int.toNat_natCast]; assumption)) rfl rfl rfl (by first | rfl | (refine or_r ?_; repeat first | exact okR_nil | refine okR_bit rfl ?_ | refine okR_ld rfl ?_ | refine okR_rd ?_)) ?_
              | refine RO.ldF rfl rfl rfl (by first | assumption | exact hp | (simp only [Int.toNat_natCast]; assumption)) rfl rfl rfl (by first | rfl | (refine or_r ?_; repeat first | exact okR_nil | refine okR_bit rfl ?_ | refine okR_ld rfl ?_ | refine okR_rd ?_)) ?_)
          | (refine RO.loud rfl rfl rfl (by first | rfl | (refine or_r ?_; repeat first | exact okL_nil | refine okL_ld ?_ | refine okL_bit rfl ?_ | refine okL_rd rfl ?_)) ?_; (try dsimp only [St.alloc, Sys.s0, Sys.s1, S0, Nat.reduceAdd]))
          | refine RO.skip rfl ?_))
      | refine RC.skip ?_
      | refine RC.block ?_
      | refine RC.exit ?_
      | refine RC.condT rfl ?_
      | refine RC.condF rfl ?_
      | refine RC.cond _ rfl (fun hb => ?_) (fun hb => ?_)
      | refine RC.ret ⟨_, rfl, ?_⟩)
    all_goals try (exfalso; (simp only [not_true_eq_false, not_false_eq_true, decide_eq_true_eq, decide_eq_false_iff_not, beq_iff_eq, bne_iff_ne, ne_eq, beq_eq_false_iff_ne, bne_eq_false_iff_eq, Decidable.not_not, Int.not_lt, Int.not_le, gt_iff_lt, ge_iff_le] at *) <;> omega)
    refine RC.loop (fun q e st => st = _ ∧ ∃ k : Nat, q = 4 - k ∧ k ≤ 4 ∧ e = Tr.ofList [(11, .sl xs .full), (12, .int .i64 i), (13, .int .i64 k)]) ?_ 4 _ ⟨rfl, 0, rfl, by omega, rfl⟩ (sub_of ⟨rfl, rfl, rfl, trivial⟩)
    rintro q e st ⟨rfl, k, rfl, hk, rfl⟩
    by_cases hlk : k < 4
    · obtain ⟨b0, b1, b2, b3, vk, hak, hvk, hgk⟩ := decs4 hlk h4 hdec
      have hanti := cmpV_anti vi vk
      have hrg := cmpV_range vk vi
      have hneg : IntKind.i64.wrap (0 - cmpV vk vi) = 0 - cmpV vk vi := wrap_ok (by omega) (by omega)
      repeat' (first
        | refine RC.seq ?_
        | (refine RC.region sok ?_; repeat' (first
            | refine RO.nil ?_
            | (refine RO.gs rfl ?_; first
                | (refine RO.gd isCmpO rfl ?_; first | refine RO.cmp true rfl rfl rfl ?_ | refine RO.cmp false rfl rfl rfl ?_ | refine RO.cmpB rfl rfl rfl (fun hb => ?_) (fun hb => ?_))
                | refine RO.st rfl rfl rfl (by first | rfl | (refine or_r ?_; repeat first | exact okR_nil | refine okR_bit rfl ?_ | refine okR_ld rfl ?_ | refine okR_rd ?_)) ?_
                | refine RO.len rfl rfl rfl rfl (by first | assumption | exact SlA.sl _ | exact LiveS.sla (by assumption)) rfl rfl rfl ?_
                | refine RO.idx rfl rfl rfl rfl (by first | assumption | exact SlA.sl _ | exact LiveS.sla (by assumption)) (by first | assumption | exact hp | (simp only [Int.toNat_natCast]; assumption)) (by omega) rfl rfl rfl rfl ?_
                | refine RO.ldA rfl rfl rfl (by first | assumption | exact hp | (simp only [Int.toNat_natCast]; assumption)) rfl rfl rfl (by first | rfl | (refine or_r ?_; repeat first | exact okR_nil | refine okR_bit rfl ?_ | refine okR_ld rfl ?_ | refine okR_rd ?_)) ?_
                | refine RO.ldF rfl rfl rfl (by first | assumption | exact hp | (simp only [Int.toNat_natCast]; assumption)) rfl rfl rfl (by first | rfl | (refine or_r ?_; repeat first | exact okR_nil | refine okR_bit rfl ?_ | refine okR_ld rfl ?_ | refine okR_rd ?_)) ?_)
            | (refine RO.gd isCallF rfl ?_; first
                | (refine RO.call rfl rfl rfl rfl rfl (cmp_c hvi hvk ⟨(by first | rfl | (refine or_r ?_; repeat first | exact okL_nil | refine okL_ld ?_ | refine okL_bit rfl ?_ | refine okL_rd rfl ?_)), ?_⟩))
                | (refine RO.call rfl rfl rfl rfl rfl (cmp_c hvk hvi ⟨(by first | rfl | (refine or_r ?_; repeat first | exact okL_nil | refine okL_ld ?_ | refine okL_bit rfl ?_ | refine okL_rd rfl ?_)), ?_⟩))
                | (refine RO.call rfl rfl rfl rfl rfl (refcmp_c hvi hvk ⟨(by first | rfl | (refine or_r ?_; repeat first | exact okL_nil | refine okL_ld ?_ | refine okL_bit rfl ?_ | refine okL_rd rfl ?_)), ?_⟩)))
            | (refine RO.loud rfl rfl rfl (by first | rfl | (refine or_r ?_; repeat first | exact okL_nil | refine okL_ld ?_ | refine okL_bit rfl ?_ | refine okL_rd rfl ?_)) ?_; (try dsimp only [St.alloc, Sys.s0, Sys.s1, S0, Nat.reduceAdd]))
            | refine RO.skip rfl ?_))
        | refine RC.skip ?_
        | refine RC.block ?_
        | refine RC.exit ?_
        | refine RC.condT rfl ?_
        | refine RC.condF rfl ?_
        | refine RC.cond _ rfl (fun hb => ?_) (fun hb => ?_)
        | refine RC.ret ⟨_, rfl, ?_⟩)
      all_goals try (exfalso; (simp only [not_true_eq_false, not_false_eq_true, decide_eq_true_eq, decide_eq_false_iff_not, beq_iff_eq, bne_iff_ne, ne_eq, beq_eq_false_iff_ne, bne_eq_false_iff_eq, Decidable.not_not, Int.not_lt, Int.not_le, gt_iff_lt, ge_iff_le] at *) <;> omega)
      refine RC.loop (fun q e st => st = _ ∧ ∃ j : Nat, q = 4 - j ∧ j ≤ 4 ∧ e = Tr.ofList [(11, .sl xs .full), (12, .int .i64 i), (13, .int .i64 k), (14, .int .i64 (cmpV vi vk)), (15, .int .i64 j)]) ?_ 4 _ ⟨rfl, 0, rfl, by omega, rfl⟩ (sub_of ⟨rfl, rfl, rfl, rfl, rfl, trivial⟩)
      rintro q e st ⟨rfl, j, rfl, hj, rfl⟩
      by_cases hlj : j < 4
      · obtain ⟨c0, c1, c2, c3, vj, haj, hvj, hgj⟩ := decs4 hlj h4 hdec
        have htr := cmpV_trans vi vk vj
        have hw : IntKind.i64.wrap ((j : Int) + 1) = ((j + 1 : Nat) : Int) := by rw [wrap_ok (by omega) (by omega)]; rfl
        repeat' (first
          | refine RC.seq ?_
          | (refine RC.region sok ?_; repeat' (first
              | refine RO.nil ?_
              | (refine RO.gs rfl ?_; first
                  | (refine RO.gd isCmpO rfl ?_; first | refine RO.cmp true rfl rfl rfl ?_ | refine RO.cmp false rfl rfl rfl ?_ | refine RO.cmpB rfl rfl rfl (fun hb => ?_) (fun hb => ?_))
                  | refine RO.st rfl rfl rfl (by first | rfl | (refine or_r ?_; repeat first | exact okR_nil | refine okR_bit rfl ?_ | refine okR_ld rfl ?_ | refine okR_rd ?_)) ?_
                  | refine RO.len rfl rfl rfl rfl (by first | assumption | exact SlA.sl _ | exact LiveS.sla (by assumption)) rfl rfl rfl ?_
                  | refine RO.idx rfl rfl rfl rfl (by first | assumption | exact SlA.sl _ | exact LiveS.sla (by assumption)) (by first | assumption | exact hp | (simp only [Int.toNat_natCast]; assumption)) (by omega) rfl rfl rfl rfl ?_
                  | refine RO.ldA rfl rfl rfl (by first | assumption | exact hp | (simp only [Int.toNat_natCast]; assumption)) rfl rfl rfl (by first | rfl | (refine or_r ?_; repeat first | exact okR_nil | refine okR_bit rfl ?_ | refine okR_ld rfl ?_ | refine okR_rd ?_)) ?_
                  | refine RO.ldF rfl rfl rfl (by first | assumption | exact hp | (simp only [Int.toNat_natCast]; assumption)) rfl rfl rfl (by first | rfl | (refine or_r ?_; repeat first | exact okR_nil | refine okR_bit rfl ?_ | refine okR_ld rfl ?_ | refine okR_rd ?_)) ?_)
              | (refine RO.gd isCallF rfl ?_; first
                  | (refine RO.call rfl rfl rfl rfl rfl (cmp_c hvk hvj ⟨(by first | rfl | (refine or_r ?_; repeat first | exact okL_nil | refine okL_ld ?_ | refine okL_bit rfl ?_ | refine okL_rd rfl ?_)), ?_⟩))
                  | (refine RO.call rfl rfl rfl rfl rfl (cmp_c hvi hvj ⟨(by first | rfl | (refine or_r ?_; repeat first | exact okL_nil | refine okL_ld ?_ | refine okL_bit rfl ?_ | refine okL_rd rfl ?_)), ?_⟩)))
              | (refine RO.loud rfl rfl rfl (by first | rfl | (refine or_r ?_; repeat first | exact okL_nil | refine okL_ld ?_ | refine okL_bit rfl ?_ | refine okL_rd rfl ?_)) ?_; (try dsimp only [St.alloc, Sys.s0, Sys.s1, S0, Nat.reduceAdd]))
              | refine RO.skip rfl ?_))
          | refine RC.skip ?_
          | refine RC.block ?_
          | refine RC.exit ?_
          | refine RC.condT rfl ?_
          | refine RC.condF rfl ?_
          | refine RC.cond _ rfl (fun hb => ?_) (fun hb => ?_)
          | refine RC.ret ⟨_, rfl, ?_⟩)
        all_goals try (exfalso; (simp only [not_true_eq_false, not_false_eq_true, decide_eq_true_eq, decide_eq_false_iff_not, beq_iff_eq, bne_iff_ne, ne_eq, beq_eq_false_iff_ne, bne_eq_false_iff_eq, Decidable.not_not, Int.not_lt, Int.not_le, gt_iff_lt, ge_iff_le] at *) <;> omega)
        all_goals
          refine ⟨4 - (j + 1), by omega, Tr.ofList [(11, .sl xs .full), (12, .int .i64 i), (13, .int .i64 k), (14, .int .i64 (cmpV vi vk)), (15, .int .i64 (j + 1 : Nat))], _, .forget (sub_of ⟨rfl, rfl, rfl, rfl, hw ▸ rfl, trivial⟩), rfl, j + 1, rfl, by omega, rfl⟩
      · have hw : IntKind.i64.wrap ((k : Int) + 1) = ((k + 1 : Nat) : Int) := by rw [wrap_ok (by omega) (by omega)]; rfl
        repeat' (first
          | refine RC.seq ?_
          | (refine RC.region sok ?_; repeat' (first
              | refine RO.nil ?_
              | (refine RO.gs rfl ?_; first
                  | (refine RO.gd isCmpO rfl ?_; first | refine RO.cmp true rfl rfl rfl ?_ | refine RO.cmp false rfl rfl rfl ?_ | refine RO.cmpB rfl rfl rfl (fun hb => ?_) (fun hb => ?_))
                  | refine RO.st rfl rfl rfl (by first | rfl | (refine or_r ?_; repeat first | exact okR_nil | refine okR_bit rfl ?_ | refine okR_ld rfl ?_ | refine okR_rd ?_)) ?_
                  | refine RO.len rfl rfl rfl rfl (by first | assumption | exact SlA.sl _ | exact LiveS.sla (by assumption)) rfl rfl rfl ?_
                  | refine RO.idx rfl rfl rfl rfl (by first | assumption | exact SlA.sl _ | exact LiveS.sla (by assumption)) (by first | assumption | exact hp | (simp only [Int.toNat_natCast]; assumption)) (by omega) rfl rfl rfl rfl ?_
                  | refine RO.ldA rfl rfl rfl (by first | assumption | exact hp | (simp only [Int.toNat_natCast]; assumption)) rfl rfl rfl (by first | rfl | (refine or_r ?_; repeat first | exact okR_nil | refine okR_bit rfl ?_ | refine okR_ld rfl ?_ | refine okR_rd ?_)) ?_
                  | refine RO.ldF rfl rfl rfl (by first | assumption | exact hp | (simp only [Int.toNat_natCast]; assumption)) rfl rfl rfl (by first | rfl | (refine or_r ?_; repeat first | exact okR_nil | refine okR_bit rfl ?_ | refine okR_ld rfl ?_ | refine okR_rd ?_)) ?_)
              | (refine RO.loud rfl rfl rfl (by first | rfl | (refine or_r ?_; repeat first | exact okL_nil | refine okL_ld ?_ | refine okL_bit rfl ?_ | refine okL_rd rfl ?_)) ?_; (try dsimp only [St.alloc, Sys.s0, Sys.s1, S0, Nat.reduceAdd]))
              | refine RO.skip rfl ?_))
          | refine RC.skip ?_
          | refine RC.block ?_
          | refine RC.exit ?_
          | refine RC.condT rfl ?_
          | refine RC.condF rfl ?_
          | refine RC.cond _ rfl (fun hb => ?_) (fun hb => ?_)
          | refine RC.ret ⟨_, rfl, ?_⟩)
        all_goals try (exfalso; (simp only [not_true_eq_false, not_false_eq_true, decide_eq_true_eq, decide_eq_false_iff_not, beq_iff_eq, bne_iff_ne, ne_eq, beq_eq_false_iff_ne, bne_eq_false_iff_eq, Decidable.not_not, Int.not_lt, Int.not_le, gt_iff_lt, ge_iff_le] at *) <;> omega)
        refine ⟨4 - (k + 1), by omega, Tr.ofList [(11, .sl xs .full), (12, .int .i64 i), (13, .int .i64 (k + 1 : Nat))], _, .forget (sub_of ⟨rfl, rfl, hw ▸ rfl, trivial⟩), rfl, k + 1, rfl, by omega, rfl⟩
    · have hw : IntKind.i64.wrap ((i : Int) + 1) = ((i + 1 : Nat) : Int) := by rw [wrap_ok (by omega) (by omega)]; rfl
      repeat' (first
        | refine RC.seq ?_
        | (refine RC.region sok ?_; repeat' (first
            | refine RO.nil ?_
            | (refine RO.gs rfl ?_; first
                | (refine RO.gd isCmpO rfl ?_; first | refine RO.cmp true rfl rfl rfl ?_ | refine RO.cmp false rfl rfl rfl ?_ | refine RO.cmpB rfl rfl rfl (fun hb => ?_) (fun hb => ?_))
                | refine RO.st rfl rfl rfl (by first | rfl | (refine or_r ?_; repeat first | exact okR_nil | refine okR_bit rfl ?_ | refine okR_ld rfl ?_ | refine okR_rd ?_)) ?_
                | refine RO.len rfl rfl rfl rfl (by first | assumption | exact SlA.sl _ | exact LiveS.sla (by assumption)) rfl rfl rfl ?_
                | refine RO.idx rfl rfl rfl rfl (by first | assumption | exact SlA.sl _ | exact LiveS.sla (by assumption)) (by first | assumption | exact hp | (simp only [Int.toNat_natCast]; assumption)) (by omega) rfl rfl rfl rfl ?_
                | refine RO.ldA rfl rfl rfl (by first | assumption | exact hp | (simp only [Int.toNat_natCast]; assumption)) rfl rfl rfl (by first | rfl | (refine or_r ?_; repeat first | exact okR_nil | refine okR_bit rfl ?_ | refine okR_ld rfl ?_ | refine okR_rd ?_)) ?_
                | refine RO.ldF rfl rfl rfl (by first | assumption | exact hp | (simp only [Int.toNat_natCast]; assumption)) rfl rfl rfl (by first | rfl | (refine or_r ?_; repeat first | exact okR_nil | refine okR_bit rfl ?_ | refine okR_ld rfl ?_ | refine okR_rd ?_)) ?_)
            | (refine RO.loud rfl rfl rfl (by first | rfl | (refine or_r ?_; repeat first | exact okL_nil | refine okL_ld ?_ | refine okL_bit rfl ?_ | refine okL_rd rfl ?_)) ?_; (try dsimp only [St.alloc, Sys.s0, Sys.s1, S0, Nat.reduceAdd]))
            | refine RO.skip rfl ?_))
        | refine RC.skip ?_
        | refine RC.block ?_
        | refine RC.exit ?_
        | refine RC.condT rfl ?_
        | refine RC.condF rfl ?_
        | refine RC.cond _ rfl (fun hb => ?_) (fun hb => ?_)
        | refine RC.ret ⟨_, rfl, ?_⟩)
      all_goals try (exfalso; (simp only [not_true_eq_false, not_false_eq_true, decide_eq_true_eq, decide_eq_false_iff_not, beq_iff_eq, bne_iff_ne, ne_eq, beq_eq_false_iff_ne, bne_eq_false_iff_eq, Decidable.not_not, Int.not_lt, Int.not_le, gt_iff_lt, ge_iff_le] at *) <;> omega)
      refine ⟨4 - (i + 1), by omega, Tr.ofList [(11, .sl xs .full), (12, .int .i64 (i + 1 : Nat))], _, .forget (sub_of ⟨rfl, hw ▸ rfl, trivial⟩), rfl, i + 1, rfl, by omega, rfl⟩
  · repeat' (first
      | refine RC.seq ?_
      | (refine RC.region sok ?_; repeat' (first
          | refine RO.nil ?_
          | (refine RO.gs rfl ?_; first
              | (refine RO.gd isCmpO rfl ?_; first | refine RO.cmp true rfl rfl rfl ?_ | refine RO.cmp false rfl rfl rfl ?_ | refine RO.cmpB rfl rfl rfl (fun hb => ?_) (fun hb => ?_))
              | refine RO.st rfl rfl rfl (by first | rfl | (refine or_r ?_; repeat first | exact okR_nil | refine okR_bit rfl ?_ | refine okR_ld rfl ?_ | refine okR_rd ?_)) ?_
              | refine RO.len rfl rfl rfl rfl (by first | assumption | exact SlA.sl _ | exact LiveS.sla (by assumption)) rfl rfl rfl ?_
              | refine RO.idx rfl rfl rfl rfl (by first | assumption | exact SlA.sl _ | exact LiveS.sla (by assumption)) (by first | assumption | exact hp | (simp only [Int.toNat_natCast]; assumption)) (by omega) rfl rfl rfl rfl ?_
              | refine RO.ldA rfl rfl rfl (by first | assumption | exact hp | (simp only [Int.toNat_natCast]; assumption)) rfl rfl rfl (by first | rfl | (refine or_r ?_; repeat first | exact okR_nil | refine okR_bit rfl ?_ | refine okR_ld rfl ?_ | refine okR_rd ?_)) ?_
              | refine RO.ldF rfl rfl rfl (by first | assumption | exact hp | (simp only [Int.toNat_natCast]; assumption)) rfl rfl rfl (by first | rfl | (refine or_r ?_; repeat first | exact okR_nil | refine okR_bit rfl ?_ | refine okR_ld rfl ?_ | refine okR_rd ?_)) ?_)
          | (refine RO.gd isCallF rfl ?_; first
              | (refine RO.call rfl rfl rfl rfl rfl (lives_c ⟨(by first | rfl | (refine or_r ?_; repeat first | exact okL_nil | refine okL_ld ?_ | refine okL_bit rfl ?_ | refine okL_rd rfl ?_)), ?_⟩)))
          | (refine RO.loud rfl rfl rfl (by first | rfl | (refine or_r ?_; repeat first | exact okL_nil | refine okL_ld ?_ | refine okL_bit rfl ?_ | refine okL_rd rfl ?_)) ?_; (try dsimp only [St.alloc, Sys.s0, Sys.s1, S0, Nat.reduceAdd]))
          | refine RO.skip rfl ?_))
      | refine RC.skip ?_
      | refine RC.block ?_
      | refine RC.exit ?_
      | refine RC.condT rfl ?_
      | refine RC.condF rfl ?_
      | refine RC.cond _ rfl (fun hb => ?_) (fun hb => ?_)
      | refine RC.ret ⟨_, rfl, ?_⟩)
    all_goals try (exfalso; (simp only [not_true_eq_false, not_false_eq_true, decide_eq_true_eq, decide_eq_false_iff_not, beq_iff_eq, bne_iff_ne, ne_eq, beq_eq_false_iff_ne, bne_eq_false_iff_eq, Decidable.not_not, Int.not_lt, Int.not_le, gt_iff_lt, ge_iff_le] at *) <;> omega)
    rfl
end Go.Am.Tryz
