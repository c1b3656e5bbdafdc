/- The values seat: Bent. -/
import Derived.Test.YtmbkcjnjjlkidaaGreatDoorVMany
import Derived.Test.YtmbkcjnjjlkidaaGreatDoorVGen
namespace Go.Am.Tryz
open Go.Proofs Go.Am
set_option maxRecDepth 100000
set_option linter.unusedVariables false
set_option linter.unusedSimpArgs false
set_option maxHeartbeats 4000000

variable {ρ : Nat → Option (Nat × Nat)}

theorem gb3 (a b c : Int) (k : SK) : GB (.sl [.int .i64 a, .int .i64 b, .int .i64 c] k) [a, b, c] := SlA.sl k
theorem gb1 (a : Int) (k : SK) : GB (.sl [.int .i64 a] k) [a] := SlA.sl k

def BentIH (ρ : Nat → Option (Nat × Nat)) (N : Nat) : Prop := ∀ (v : V) (a : AV) (which by_ : Int) (s : St) (R : Res → St → Prop), szV v < N → szV v < 2 ^ 32 → decV a = some v →
  (∀ c0 c1 c2 c3 w, decV (.agg [c0, c1, c2, c3]) = some w → szV w ≤ szV v + 2000 → R (.ret (.agg [c0, c1, c2, c3])) s) → CallsTo (SV ρ) 15 [a, .int .i64 which, .int .i64 by_] s R

theorem bentIH : ∀ N, BentIH ρ N := by
  intro N
  induction N with
  | zero => intro v a _ _ s R h; omega
  | succ N ih =>
    intro v a which by_ s R hN h32 ha hR
    refine (CallsTo.pure sok (Q := fun r => ∃ c0 c1 c2 c3 w, r = .agg [c0, c1, c2, c3] ∧ decV r = some w ∧ szV w ≤ szV v + 2000) (by simp [pureVs, pureV, dec_pure ha]) ?_).mono (by rintro r s' ⟨rfl, v, rfl, c0, c1, c2, c3, w, rfl, h1, h2⟩; exact hR c0 c1 c2 c3 w h1 h2)
    refine CallsTo.frz (CallsTo.run (fn := mkF Tryz.f15 [35] none) sok rfl ?_)
    show RC (SV ρ) _ _ (Tr.ofList (enumA [deaden a, _, _] 0)) ⟨YtmbkcjnjjlkidaaGreatDoor.heap0, 6, .nil, 0⟩ _
    obtain ⟨kk, nn, tt, l, y, xs, e1, rfl, hy, hl, hbx⟩ := dec_shape (dec_dead ha)
    rw [e1]
    have hlen := decs_length hl
    have hls := len_le_sz l
    have hfl : isFlat y = true := hy.flat
    have hsv : szV (.mk kk nn tt l) = 1 + szVs l := rfl
    have hpy := hy.pure (decs_pure hl)
    repeat' (first
      | refine RC.seq ?_
      | (refine RC.region sok ?_; repeat' (first
          | refine RO.nil ?_
          | (refine RO.gs rfl ?_; first
              | (refine RO.gd isCmpO rfl ?_; first | refine RO.cmp true rfl rfl rfl ?_ | refine RO.cmp false rfl rfl rfl ?_ | refine RO.cmpB rfl rfl rfl (fun hb => ?_) (fun hb => ?_))
              | refine RO.st rfl rfl (add_op rfl rfl (by omega) (by omega)) (by first | rfl | (refine or_r ?_; repeat first | exact okR_nil | refine okR_bit rfl ?_ | refine okR_ld rfl ?_ | refine okR_rd ?_)) ?_
              | refine RO.st rfl rfl rfl (by first | rfl | (refine or_r ?_; repeat first | exact okR_nil | refine okR_bit rfl ?_ | refine okR_ld rfl ?_ | refine okR_rd ?_)) ?_
              | refine RO.len rfl rfl rfl rfl (by first | assumption | exact SlA.sl _ | exact LiveS.sla (by assumption)) rfl rfl rfl ?_
              | refine RO.idx rfl rfl rfl rfl (by first | assumption | exact SlA.sl _ | exact LiveS.sla (by assumption)) (by first | assumption | exact hp | (simp only [Int.toNat_natCast]; assumption)) (by omega) rfl rfl rfl rfl ?_
              | refine RO.ldA rfl rfl rfl (by first | assumption | exact hp | (simp only [Int.toNat_natCast]; assumption)) rfl rfl rfl (by first | rfl | (refine or_r ?_; repeat first | exact okR_nil | refine okR_bit rfl ?_ | refine okR_ld rfl ?_ | refine okR_rd ?_)) ?_
              | refine RO.ldF rfl rfl rfl (by first | assumption | exact hp | (simp only [Int.toNat_natCast]; assumption)) rfl rfl rfl (by first | rfl | (refine or_r ?_; repeat first | exact okR_nil | refine okR_bit rfl ?_ | refine okR_ld rfl ?_ | refine okR_rd ?_)) ?_)
          | (refine RO.gd isCallF rfl ?_; first
              | (refine RO.call rfl rfl rfl rfl rfl (nextS_c [nm [], nm [97], nm [90], nm [65, 66, 67, 68, 69, 70, 71, 72, 73, 74, 75, 76, 77, 78, 79, 80], nm [65, 66, 67, 68, 69, 70, 71, 72, 73, 74, 75, 76, 77, 78, 79, 80, 81], nm [65, 45], nm [65, 98, 57, 95]] rfl rfl (by first | assumption | exact gb3 _ _ _ _ | exact gb1 _ _) (by omega) (by omega) (by omega) (by omega) (fun k x2 z hx2 k0 k1 hz hp => ⟨(by first | rfl | (refine or_r ?_; repeat first | exact okL_nil | refine okL_ld ?_ | refine okL_bit rfl ?_ | refine okL_rd rfl ?_)), ?_⟩)); (try dsimp only [St.alloc, Sys.s0, Sys.s1, S0, Nat.reduceAdd]))
              | (refine RO.call rfl rfl rfl rfl rfl (next_c rfl (by first | assumption | exact gb3 _ _ _ _ | exact gb1 _ _) (by omega) (by omega) (by omega) (by omega) (fun k x2 hx2 k0 k1 => ⟨(by first | rfl | (refine or_r ?_; repeat first | exact okL_nil | refine okL_ld ?_ | refine okL_bit rfl ?_ | refine okL_rd rfl ?_)), ?_⟩)); (try dsimp only [St.alloc, Sys.s0, Sys.s1, S0, Nat.reduceAdd]))
              | (refine RO.call rfl rfl rfl rfl rfl (many_c (by omega) (by omega) (fun ys us hys hus hsz => ⟨(by first | rfl | (refine or_r ?_; repeat first | exact okL_nil | refine okL_ld ?_ | refine okL_bit rfl ?_ | refine okL_rd rfl ?_)), ?_⟩))))
          | (refine RO.loud rfl rfl rfl (by first | rfl | (refine or_r ?_; repeat first | exact okL_nil | refine okL_ld ?_ | refine okL_bit rfl ?_ | refine okL_rd rfl ?_)) ?_; (try dsimp only [St.alloc, Sys.s0, Sys.s1, S0, Nat.reduceAdd]))
          | (refine RO.loud rfl rfl (loud_box (hy.flat4 rfl rfl rfl) rfl rfl) (by first | rfl | (refine or_r ?_; repeat first | exact okL_nil | refine okL_ld ?_ | refine okL_bit rfl ?_ | refine okL_rd rfl ?_)) ?_; (try dsimp only [St.alloc, Sys.s0, Sys.s1, S0, Nat.reduceAdd]))
          | (refine RO.loud rfl rfl (loud_store rfl rfl rfl (store_agg rfl rfl rfl rfl (show ([_, _, _, y] : List AV).all isFlat = true by simp only [List.all_cons, hfl]; rfl))) (by first | rfl | (refine or_r ?_; repeat first | exact okL_nil | refine okL_ld ?_ | refine okL_bit rfl ?_ | refine okL_rd rfl ?_)) ?_; (try dsimp only [St.alloc, Sys.s0, Sys.s1, S0, Nat.reduceAdd]))
          | refine RO.skip rfl ?_))
      | refine RC.skip ?_
      | refine RC.block ?_
      | refine RC.exit ?_
      | refine RC.condT rfl ?_
      | refine RC.condF rfl ?_
      | refine RC.cond _ rfl (fun hb => ?_) (fun hb => ?_)
      | refine RC.ret ⟨_, rfl, ?_⟩)
    all_goals try (exfalso; simp only [decide_eq_true_eq, decide_eq_false_iff_not, beq_iff_eq, bne_iff_ne, ne_eq, beq_eq_false_iff_ne, bne_eq_false_iff_eq, Decidable.not_not, Int.not_lt, Int.not_le, gt_iff_lt, ge_iff_le] at *; omega)
    · have hpos : 0 < xs.length := by have h : decide ((xs.length : Int) > 0) = true := by assumption
                                      simp only [decide_eq_true_eq] at h; omega
      have hne : xs ≠ [] := fun h => by subst h; simp at hpos
      repeat' (first
        | refine RC.seq ?_
        | (refine RC.region sok ?_; repeat' (first
            | refine RO.nil ?_
            | (refine RO.gs rfl ?_; first
                | (refine RO.gd isCmpO rfl ?_; first | refine RO.cmp true rfl rfl rfl ?_ | refine RO.cmp false rfl rfl rfl ?_ | refine RO.cmpB rfl rfl rfl (fun hb => ?_) (fun hb => ?_))
                | refine RO.st rfl rfl rfl (by first | rfl | (refine or_r ?_; repeat first | exact okR_nil | refine okR_bit rfl ?_ | refine okR_ld rfl ?_ | refine okR_rd ?_)) ?_
                | refine RO.len rfl rfl rfl rfl (by first | assumption | exact SlA.sl _ | exact LiveS.sla (by assumption)) rfl rfl rfl ?_
                | refine RO.idx rfl rfl rfl rfl (by first | assumption | exact SlA.sl _ | exact LiveS.sla (by assumption)) (by first | assumption | exact hp | (simp only [Int.toNat_natCast]; assumption)) (by omega) rfl rfl rfl rfl ?_
                | refine RO.ldA rfl rfl rfl (by first | assumption | exact hp | (simp only [Int.toNat_natCast]; assumption)) rfl rfl rfl (by first | rfl | (refine or_r ?_; repeat first | exact okR_nil | refine okR_bit rfl ?_ | refine okR_ld rfl ?_ | refine okR_rd ?_)) ?_
                | refine RO.ldF rfl rfl rfl (by first | assumption | exact hp | (simp only [Int.toNat_natCast]; assumption)) rfl rfl rfl (by first | rfl | (refine or_r ?_; repeat first | exact okR_nil | refine okR_bit rfl ?_ | refine okR_ld rfl ?_ | refine okR_rd ?_)) ?_)
            | (refine RO.gd isCallF rfl ?_; first
                | (refine RO.call rfl rfl rfl rfl rfl (nextS_c [nm [], nm [97], nm [90], nm [65, 66, 67, 68, 69, 70, 71, 72, 73, 74, 75, 76, 77, 78, 79, 80], nm [65, 66, 67, 68, 69, 70, 71, 72, 73, 74, 75, 76, 77, 78, 79, 80, 81], nm [65, 45], nm [65, 98, 57, 95]] rfl rfl (by first | assumption | exact gb3 _ _ _ _ | exact gb1 _ _) (by omega) (by omega) (by omega) (by omega) (fun k x2 z hx2 k0 k1 hz hp => ⟨(by first | rfl | (refine or_r ?_; repeat first | exact okL_nil | refine okL_ld ?_ | refine okL_bit rfl ?_ | refine okL_rd rfl ?_)), ?_⟩)); (try dsimp only [St.alloc, Sys.s0, Sys.s1, S0, Nat.reduceAdd]))
                | (refine RO.call rfl rfl rfl rfl rfl (next_c rfl (by first | assumption | exact gb3 _ _ _ _ | exact gb1 _ _) (by omega) (by omega) (by omega) (by omega) (fun k x2 hx2 k0 k1 => ⟨(by first | rfl | (refine or_r ?_; repeat first | exact okL_nil | refine okL_ld ?_ | refine okL_bit rfl ?_ | refine okL_rd rfl ?_)), ?_⟩)); (try dsimp only [St.alloc, Sys.s0, Sys.s1, S0, Nat.reduceAdd]))
                | (refine RO.call rfl rfl rfl rfl rfl (many_c (by omega) (by omega) (fun ys us hys hus hsz => ⟨(by first | rfl | (refine or_r ?_; repeat first | exact okL_nil | refine okL_ld ?_ | refine okL_bit rfl ?_ | refine okL_rd rfl ?_)), ?_⟩))))
            | (refine RO.loud rfl rfl rfl (by first | rfl | (refine or_r ?_; repeat first | exact okL_nil | refine okL_ld ?_ | refine okL_bit rfl ?_ | refine okL_rd rfl ?_)) ?_; (try dsimp only [St.alloc, Sys.s0, Sys.s1, S0, Nat.reduceAdd]))
            | refine RO.skip rfl ?_))
        | refine RC.skip ?_
        | refine RC.block ?_
        | refine RC.exit ?_
        | refine RC.condT rfl ?_
        | refine RC.condF rfl ?_
        | refine RC.cond _ rfl (fun hb => ?_) (fun hb => ?_)
        | refine RO.nil ?_
        | (refine RO.gs rfl ?_; first
            | (refine RO.gd isCmpO rfl ?_; first | refine RO.cmp true rfl rfl rfl ?_ | refine RO.cmp false rfl rfl rfl ?_ | refine RO.cmpB rfl rfl rfl (fun hb => ?_) (fun hb => ?_))
            | refine RO.st rfl rfl rfl (by first | rfl | (refine or_r ?_; repeat first | exact okR_nil | refine okR_bit rfl ?_ | refine okR_ld rfl ?_ | refine okR_rd ?_)) ?_
            | refine RO.len rfl rfl rfl rfl (by first | assumption | exact SlA.sl _ | exact LiveS.sla (by assumption)) rfl rfl rfl ?_
            | refine RO.idx rfl rfl rfl rfl (by first | assumption | exact SlA.sl _ | exact LiveS.sla (by assumption)) (by first | assumption | exact hp | (simp only [Int.toNat_natCast]; assumption)) (by omega) rfl rfl rfl rfl ?_
            | refine RO.ldA rfl rfl rfl (by first | assumption | exact hp | (simp only [Int.toNat_natCast]; assumption)) rfl rfl rfl (by first | rfl | (refine or_r ?_; repeat first | exact okR_nil | refine okR_bit rfl ?_ | refine okR_ld rfl ?_ | refine okR_rd ?_)) ?_
            | refine RO.ldF rfl rfl rfl (by first | assumption | exact hp | (simp only [Int.toNat_natCast]; assumption)) rfl rfl rfl (by first | rfl | (refine or_r ?_; repeat first | exact okR_nil | refine okR_bit rfl ?_ | refine okR_ld rfl ?_ | refine okR_rd ?_)) ?_)
        | (refine RO.gd isCallF rfl ?_; first
            | (refine RO.call rfl rfl rfl rfl rfl (nextS_c [nm [], nm [97], nm [90], nm [65, 66, 67, 68, 69, 70, 71, 72, 73, 74, 75, 76, 77, 78, 79, 80], nm [65, 66, 67, 68, 69, 70, 71, 72, 73, 74, 75, 76, 77, 78, 79, 80, 81], nm [65, 45], nm [65, 98, 57, 95]] rfl rfl (by first | assumption | exact gb3 _ _ _ _ | exact gb1 _ _) (by omega) (by omega) (by omega) (by omega) (fun k x2 z hx2 k0 k1 hz hp => ⟨(by first | rfl | (refine or_r ?_; repeat first | exact okL_nil | refine okL_ld ?_ | refine okL_bit rfl ?_ | refine okL_rd rfl ?_)), ?_⟩)); (try dsimp only [St.alloc, Sys.s0, Sys.s1, S0, Nat.reduceAdd]))
            | (refine RO.call rfl rfl rfl rfl rfl (next_c rfl (by first | assumption | exact gb3 _ _ _ _ | exact gb1 _ _) (by omega) (by omega) (by omega) (by omega) (fun k x2 hx2 k0 k1 => ⟨(by first | rfl | (refine or_r ?_; repeat first | exact okL_nil | refine okL_ld ?_ | refine okL_bit rfl ?_ | refine okL_rd rfl ?_)), ?_⟩)); (try dsimp only [St.alloc, Sys.s0, Sys.s1, S0, Nat.reduceAdd]))
            | (refine RO.call rfl rfl rfl rfl rfl (many_c (by omega) (by omega) (fun ys us hys hus hsz => ⟨(by first | rfl | (refine or_r ?_; repeat first | exact okL_nil | refine okL_ld ?_ | refine okL_bit rfl ?_ | refine okL_rd rfl ?_)), ?_⟩))))
        | (refine RO.loud rfl rfl rfl (by first | rfl | (refine or_r ?_; repeat first | exact okL_nil | refine okL_ld ?_ | refine okL_bit rfl ?_ | refine okL_rd rfl ?_)) ?_; (try dsimp only [St.alloc, Sys.s0, Sys.s1, S0, Nat.reduceAdd]))
        | refine RO.skip rfl ?_
        | refine RC.ret ⟨_, rfl, ?_⟩)
      obtain ⟨c0, c1, c2, c3, hx, hd⟩ := decs_get4 (i := k.toNat) (l := l) (by omega) hl
      simp only [Int.toNat_natCast] at hx
      have hsz := szVs_get (l := l) (i := k.toNat) (by omega)
      refine RO.appendM rfl rfl rfl rfl rfl rfl rfl rfl rfl rfl rfl rfl (by decide) (by decide) (srcElems_of hy (decs_cells hl)) hne (by omega) (by first | rfl | (refine or_r ?_; repeat first | exact okL_nil | refine okL_ld ?_ | refine okL_bit rfl ?_ | refine okL_rd rfl ?_)) ?_
      repeat' (first
        | refine RC.seq ?_
        | (refine RC.region sok ?_; repeat' (first
            | refine RO.nil ?_
            | (refine RO.gs rfl ?_; first
                | (refine RO.gd isCmpO rfl ?_; first | refine RO.cmp true rfl rfl rfl ?_ | refine RO.cmp false rfl rfl rfl ?_ | refine RO.cmpB rfl rfl rfl (fun hb => ?_) (fun hb => ?_))
                | refine RO.st rfl rfl rfl (by first | rfl | (refine or_r ?_; repeat first | exact okR_nil | refine okR_bit rfl ?_ | refine okR_ld rfl ?_ | refine okR_rd ?_)) ?_
                | refine RO.len rfl rfl rfl rfl (by first | assumption | exact SlA.sl _ | exact LiveS.sla (by assumption)) rfl rfl rfl ?_
                | refine RO.idx rfl rfl rfl rfl (by first | assumption | exact SlA.sl _ | exact LiveS.sla (by assumption)) (by first | assumption | exact hp | (simp only [Int.toNat_natCast]; assumption)) (by omega) rfl rfl rfl rfl ?_
                | refine RO.ldA rfl rfl rfl (by first | assumption | exact hp | (simp only [Int.toNat_natCast]; assumption)) rfl rfl rfl (by first | rfl | (refine or_r ?_; repeat first | exact okR_nil | refine okR_bit rfl ?_ | refine okR_ld rfl ?_ | refine okR_rd ?_)) ?_
                | refine RO.ldF rfl rfl rfl (by first | assumption | exact hp | (simp only [Int.toNat_natCast]; assumption)) rfl rfl rfl (by first | rfl | (refine or_r ?_; repeat first | exact okR_nil | refine okR_bit rfl ?_ | refine okR_ld rfl ?_ | refine okR_rd ?_)) ?_)
            | (refine RO.gd isCallF rfl ?_; first
                | (refine RO.call rfl rfl rfl rfl rfl (ih _ _ _ _ _ _ (by omega) (by omega) hd (fun d0 d1 d2 d3 w hw hwz => ⟨(by first | rfl | (refine or_r ?_; repeat first | exact okL_nil | refine okL_ld ?_ | refine okL_bit rfl ?_ | refine okL_rd rfl ?_)), ?_⟩))))
            | (refine RO.loud rfl rfl rfl (by first | rfl | (refine or_r ?_; repeat first | exact okL_nil | refine okL_ld ?_ | refine okL_bit rfl ?_ | refine okL_rd rfl ?_)) ?_; (try dsimp only [St.alloc, Sys.s0, Sys.s1, S0, Nat.reduceAdd]))
            | (refine RO.loud rfl rfl (loud_store rfl rfl rfl (store_ms rfl rfl (decs_cells hl) (by omega) rfl (dec_flat2 hw))) (by first | rfl | (refine or_r ?_; repeat first | exact okL_nil | refine okL_ld ?_ | refine okL_bit rfl ?_ | refine okL_rd rfl ?_)) ?_; (try dsimp only [St.alloc, Sys.s0, Sys.s1, S0, Nat.reduceAdd]))
            | refine RO.idxM rfl rfl rfl rfl (by omega) (by omega) rfl rfl rfl rfl ?_
            | refine RO.ldM rfl rfl rfl rfl (decs_cells hl) hx rfl rfl (by first | rfl | (refine or_r ?_; repeat first | exact okR_nil | refine okR_bit rfl ?_ | refine okR_ld rfl ?_ | refine okR_rd ?_)) ?_
            | refine RO.skip rfl ?_))
        | refine RC.skip ?_
        | refine RC.block ?_
        | refine RC.exit ?_
        | refine RC.condT rfl ?_
        | refine RC.condF rfl ?_
        | refine RC.cond _ rfl (fun hb => ?_) (fun hb => ?_)
        | refine RO.idxM rfl rfl rfl rfl (by omega) (by omega) rfl rfl rfl rfl ?_
        | refine RO.ldM rfl rfl rfl rfl (decs_cells hl) hx rfl rfl (by first | rfl | (refine or_r ?_; repeat first | exact okR_nil | refine okR_bit rfl ?_ | refine okR_ld rfl ?_ | refine okR_rd ?_)) ?_
        | refine RO.nil ?_
        | (refine RO.gs rfl ?_; first
            | (refine RO.gd isCmpO rfl ?_; first | refine RO.cmp true rfl rfl rfl ?_ | refine RO.cmp false rfl rfl rfl ?_ | refine RO.cmpB rfl rfl rfl (fun hb => ?_) (fun hb => ?_))
            | refine RO.st rfl rfl rfl (by first | rfl | (refine or_r ?_; repeat first | exact okR_nil | refine okR_bit rfl ?_ | refine okR_ld rfl ?_ | refine okR_rd ?_)) ?_
            | refine RO.len rfl rfl rfl rfl (by first | assumption | exact SlA.sl _ | exact LiveS.sla (by assumption)) rfl rfl rfl ?_
            | refine RO.idx rfl rfl rfl rfl (by first | assumption | exact SlA.sl _ | exact LiveS.sla (by assumption)) (by first | assumption | exact hp | (simp only [Int.toNat_natCast]; assumption)) (by omega) rfl rfl rfl rfl ?_
            | refine RO.ldA rfl rfl rfl (by first | assumption | exact hp | (simp only [Int.toNat_natCast]; assumption)) rfl rfl rfl (by first | rfl | (refine or_r ?_; repeat first | exact okR_nil | refine okR_bit rfl ?_ | refine okR_ld rfl ?_ | refine okR_rd ?_)) ?_
            | refine RO.ldF rfl rfl rfl (by first | assumption | exact hp | (simp only [Int.toNat_natCast]; assumption)) rfl rfl rfl (by first | rfl | (refine or_r ?_; repeat first | exact okR_nil | refine okR_bit rfl ?_ | refine okR_ld rfl ?_ | refine okR_rd ?_)) ?_)
        | (refine RO.gd isCallF rfl ?_; first
            | (refine RO.call rfl rfl rfl rfl rfl (ih _ _ _ _ _ _ (by omega) (by omega) hd (fun d0 d1 d2 d3 w hw hwz => ⟨(by first | rfl | (refine or_r ?_; repeat first | exact okL_nil | refine okL_ld ?_ | refine okL_bit rfl ?_ | refine okL_rd rfl ?_)), ?_⟩))))
        | (refine RO.loud rfl rfl rfl (by first | rfl | (refine or_r ?_; repeat first | exact okL_nil | refine okL_ld ?_ | refine okL_bit rfl ?_ | refine okL_rd rfl ?_)) ?_; (try dsimp only [St.alloc, Sys.s0, Sys.s1, S0, Nat.reduceAdd]))
        | (refine RO.loud rfl rfl (loud_store rfl rfl rfl (store_ms rfl rfl (decs_cells hl) (by omega) rfl (dec_flat2 hw))) (by first | rfl | (refine or_r ?_; repeat first | exact okL_nil | refine okL_ld ?_ | refine okL_bit rfl ?_ | refine okL_rd rfl ?_)) ?_; (try dsimp only [St.alloc, Sys.s0, Sys.s1, S0, Nat.reduceAdd]))
        | refine RO.idxM rfl rfl rfl rfl (by omega) (by omega) rfl rfl rfl rfl ?_
        | refine RO.ldM rfl rfl rfl rfl (decs_cells hl) hx rfl rfl (by first | rfl | (refine or_r ?_; repeat first | exact okR_nil | refine okR_bit rfl ?_ | refine okR_ld rfl ?_ | refine okR_rd ?_)) ?_
        | refine RO.skip rfl ?_
        | refine RC.ret ⟨_, rfl, ?_⟩)
      have hset := decs_set (i := k.toNat) hl hw
      have hss := szVs_set (l := l) (i := k.toNat) (w := w) (by omega)
      have hlset : (xs.set k.toNat (.agg [d0, d1, d2, d3])).length = xs.length := by simp
      refine .inr ⟨9, 4, xs.set k.toNat (.agg [d0, d1, d2, d3]), .ret (.agg [.int .i64 kk, .int .i64 nn, .str tt, .sl (xs.set k.toNat (.agg [d0, d1, d2, d3])) .dead]), rfl, decs_cells hset,
        ⟨_, (show Frz _ (.agg [.int .i64 kk, .int .i64 nn, .str tt, .ms 9 0 xs.length 4]) _ from .inr ⟨_, ⟨_, _, .inl rfl, ⟨_, _, .inl rfl, ⟨_, _, .inl rfl, ⟨_, _, .inr ⟨by rw [hlset], rfl⟩, rfl, rfl⟩, rfl⟩, rfl⟩, rfl⟩, rfl⟩), rfl⟩, ?_⟩
      exact ⟨_, rfl, by simp [pureV, pureVs, decs_pure hset], _, _, _, _, .mk kk nn tt (l.set k.toNat w), rfl, dec_mk (SlA.deaden (.sl .dead)) (decs_dead hset) (by rw [deadens_length, hlset]; exact hbx), by simp only [szV] at *; omega⟩
    · exact .inl ⟨.agg [.int .i64 by_, .int .i64 nn, .str tt, y], rfl, (by simp [pureV, pureVs, hpy]), _, _, _, _, .mk by_ nn tt l, rfl, dec_mk (SlA.deaden hy) (decs_dead hl) (by rw [deadens_length]; omega), by simp only [szV, szVs] at *; omega⟩
    · exact .inl ⟨.agg [.int .i64 kk, .int .i64 by_, .str tt, y], rfl, (by simp [pureV, pureVs, hpy]), _, _, _, _, .mk kk by_ tt l, rfl, dec_mk (SlA.deaden hy) (decs_dead hl) (by rw [deadens_length]; omega), by simp only [szV, szVs] at *; omega⟩
    · exact .inl ⟨.agg [.int .i64 kk, .int .i64 nn, .str z, y], rfl, (by simp [pureV, pureVs, hpy]), _, _, _, _, .mk kk nn z l, rfl, dec_mk (SlA.deaden hy) (decs_dead hl) (by rw [deadens_length]; omega), by simp only [szV, szVs] at *; omega⟩
    · by_cases hne : xs = []
      · refine RO.append0 rfl rfl rfl rfl rfl rfl rfl rfl rfl rfl (by decide) (srcElems_nil hy hne) (by first | rfl | (refine or_r ?_; repeat first | exact okL_nil | refine okL_ld ?_ | refine okL_bit rfl ?_ | refine okL_rd rfl ?_)) ?_
        repeat' (first
          | refine RC.seq ?_
          | (refine RC.region sok ?_; repeat' (first
              | refine RO.nil ?_
              | (refine RO.gs rfl ?_; first
                  | (refine RO.gd isCmpO rfl ?_; first | refine RO.cmp true rfl rfl rfl ?_ | refine RO.cmp false rfl rfl rfl ?_ | refine RO.cmpB rfl rfl rfl (fun hb => ?_) (fun hb => ?_))
                  | refine RO.st rfl rfl rfl (by first | rfl | (refine or_r ?_; repeat first | exact okR_nil | refine okR_bit rfl ?_ | refine okR_ld rfl ?_ | refine okR_rd ?_)) ?_
                  | refine RO.len rfl rfl rfl rfl (by first | assumption | exact SlA.sl _ | exact LiveS.sla (by assumption)) rfl rfl rfl ?_
                  | refine RO.idx rfl rfl rfl rfl (by first | assumption | exact SlA.sl _ | exact LiveS.sla (by assumption)) (by first | assumption | exact hp | (simp only [Int.toNat_natCast]; assumption)) (by omega) rfl rfl rfl rfl ?_
                  | refine RO.ldA rfl rfl rfl (by first | assumption | exact hp | (simp only [Int.toNat_natCast]; assumption)) rfl rfl rfl (by first | rfl | (refine or_r ?_; repeat first | exact okR_nil | refine okR_bit rfl ?_ | refine okR_ld rfl ?_ | refine okR_rd ?_)) ?_
                  | refine RO.ldF rfl rfl rfl (by first | assumption | exact hp | (simp only [Int.toNat_natCast]; assumption)) rfl rfl rfl (by first | rfl | (refine or_r ?_; repeat first | exact okR_nil | refine okR_bit rfl ?_ | refine okR_ld rfl ?_ | refine okR_rd ?_)) ?_)
              | (refine RO.loud rfl rfl rfl (by first | rfl | (refine or_r ?_; repeat first | exact okL_nil | refine okL_ld ?_ | refine okL_bit rfl ?_ | refine okL_rd rfl ?_)) ?_; (try dsimp only [St.alloc, Sys.s0, Sys.s1, S0, Nat.reduceAdd]))
              | refine RO.skip rfl ?_))
          | refine RC.skip ?_
          | refine RC.block ?_
          | refine RC.exit ?_
          | refine RC.condT rfl ?_
          | refine RC.condF rfl ?_
          | refine RC.cond _ rfl (fun hb => ?_) (fun hb => ?_)
          | refine RO.nil ?_
          | (refine RO.gs rfl ?_; first
              | (refine RO.gd isCmpO rfl ?_; first | refine RO.cmp true rfl rfl rfl ?_ | refine RO.cmp false rfl rfl rfl ?_ | refine RO.cmpB rfl rfl rfl (fun hb => ?_) (fun hb => ?_))
              | refine RO.st rfl rfl rfl (by first | rfl | (refine or_r ?_; repeat first | exact okR_nil | refine okR_bit rfl ?_ | refine okR_ld rfl ?_ | refine okR_rd ?_)) ?_
              | refine RO.len rfl rfl rfl rfl (by first | assumption | exact SlA.sl _ | exact LiveS.sla (by assumption)) rfl rfl rfl ?_
              | refine RO.idx rfl rfl rfl rfl (by first | assumption | exact SlA.sl _ | exact LiveS.sla (by assumption)) (by first | assumption | exact hp | (simp only [Int.toNat_natCast]; assumption)) (by omega) rfl rfl rfl rfl ?_
              | refine RO.ldA rfl rfl rfl (by first | assumption | exact hp | (simp only [Int.toNat_natCast]; assumption)) rfl rfl rfl (by first | rfl | (refine or_r ?_; repeat first | exact okR_nil | refine okR_bit rfl ?_ | refine okR_ld rfl ?_ | refine okR_rd ?_)) ?_
              | refine RO.ldF rfl rfl rfl (by first | assumption | exact hp | (simp only [Int.toNat_natCast]; assumption)) rfl rfl rfl (by first | rfl | (refine or_r ?_; repeat first | exact okR_nil | refine okR_bit rfl ?_ | refine okR_ld rfl ?_ | refine okR_rd ?_)) ?_)
          | (refine RO.loud rfl rfl rfl (by first | rfl | (refine or_r ?_; repeat first | exact okL_nil | refine okL_ld ?_ | refine okL_bit rfl ?_ | refine okL_rd rfl ?_)) ?_; (try dsimp only [St.alloc, Sys.s0, Sys.s1, S0, Nat.reduceAdd]))
          | refine RO.skip rfl ?_
          | refine RC.ret ⟨_, rfl, ?_⟩)
        exact .inl ⟨.agg [.int .i64 kk, .int .i64 nn, .str tt, .sl [(.agg [.int .i64 0, .int .i64 by_, .str ⟨#[]⟩, .nils])] .full], rfl, rfl, _, _, _, _, .mk kk nn tt [.mk 0 by_ ⟨#[]⟩ []], rfl, rfl, by simp only [szV, szVs] at *; omega⟩
      · refine RO.append rfl rfl rfl rfl rfl rfl rfl rfl rfl rfl rfl (by decide) (by decide) (srcElems_of hy (decs_cells hl)) hne (decs_flat hl) LiveT.full (show ∀ x ∈ [(.agg [.int .i64 0, .int .i64 by_, .str ⟨#[]⟩, .nils])], (cellsOf x).length = 4 from by simp [cellsOf]) (by show 1 + xs.length ≤ _; omega) (fun _ => (by first | rfl | (refine or_r ?_; repeat first | exact okL_nil | refine okL_ld ?_ | refine okL_bit rfl ?_ | refine okL_rd rfl ?_))) (fun L hL hkp => ?_)
        repeat' (first
          | refine RC.seq ?_
          | (refine RC.region sok ?_; repeat' (first
              | refine RO.nil ?_
              | (refine RO.gs rfl ?_; first
                  | (refine RO.gd isCmpO rfl ?_; first | refine RO.cmp true rfl rfl rfl ?_ | refine RO.cmp false rfl rfl rfl ?_ | refine RO.cmpB rfl rfl rfl (fun hb => ?_) (fun hb => ?_))
                  | refine RO.st rfl rfl rfl (by first | rfl | (refine or_r ?_; repeat first | exact okR_nil | refine okR_bit rfl ?_ | refine okR_ld rfl ?_ | refine okR_rd ?_)) ?_
                  | refine RO.len rfl rfl rfl rfl (by first | assumption | exact SlA.sl _ | exact LiveS.sla (by assumption)) rfl rfl rfl ?_
                  | refine RO.idx rfl rfl rfl rfl (by first | assumption | exact SlA.sl _ | exact LiveS.sla (by assumption)) (by first | assumption | exact hp | (simp only [Int.toNat_natCast]; assumption)) (by omega) rfl rfl rfl rfl ?_
                  | refine RO.ldA rfl rfl rfl (by first | assumption | exact hp | (simp only [Int.toNat_natCast]; assumption)) rfl rfl rfl (by first | rfl | (refine or_r ?_; repeat first | exact okR_nil | refine okR_bit rfl ?_ | refine okR_ld rfl ?_ | refine okR_rd ?_)) ?_
                  | refine RO.ldF rfl rfl rfl (by first | assumption | exact hp | (simp only [Int.toNat_natCast]; assumption)) rfl rfl rfl (by first | rfl | (refine or_r ?_; repeat first | exact okR_nil | refine okR_bit rfl ?_ | refine okR_ld rfl ?_ | refine okR_rd ?_)) ?_)
              | (refine RO.loud rfl rfl rfl (by first | rfl | (refine or_r ?_; repeat first | exact okL_nil | refine okL_ld ?_ | refine okL_bit rfl ?_ | refine okL_rd rfl ?_)) ?_; (try dsimp only [St.alloc, Sys.s0, Sys.s1, S0, Nat.reduceAdd]))
              | refine RO.skip rfl ?_))
          | refine RC.skip ?_
          | refine RC.block ?_
          | refine RC.exit ?_
          | refine RC.condT rfl ?_
          | refine RC.condF rfl ?_
          | refine RC.cond _ rfl (fun hb => ?_) (fun hb => ?_)
          | refine RO.nil ?_
          | (refine RO.gs rfl ?_; first
              | (refine RO.gd isCmpO rfl ?_; first | refine RO.cmp true rfl rfl rfl ?_ | refine RO.cmp false rfl rfl rfl ?_ | refine RO.cmpB rfl rfl rfl (fun hb => ?_) (fun hb => ?_))
              | refine RO.st rfl rfl rfl (by first | rfl | (refine or_r ?_; repeat first | exact okR_nil | refine okR_bit rfl ?_ | refine okR_ld rfl ?_ | refine okR_rd ?_)) ?_
              | refine RO.len rfl rfl rfl rfl (by first | assumption | exact SlA.sl _ | exact LiveS.sla (by assumption)) rfl rfl rfl ?_
              | refine RO.idx rfl rfl rfl rfl (by first | assumption | exact SlA.sl _ | exact LiveS.sla (by assumption)) (by first | assumption | exact hp | (simp only [Int.toNat_natCast]; assumption)) (by omega) rfl rfl rfl rfl ?_
              | refine RO.ldA rfl rfl rfl (by first | assumption | exact hp | (simp only [Int.toNat_natCast]; assumption)) rfl rfl rfl (by first | rfl | (refine or_r ?_; repeat first | exact okR_nil | refine okR_bit rfl ?_ | refine okR_ld rfl ?_ | refine okR_rd ?_)) ?_
              | refine RO.ldF rfl rfl rfl (by first | assumption | exact hp | (simp only [Int.toNat_natCast]; assumption)) rfl rfl rfl (by first | rfl | (refine or_r ?_; repeat first | exact okR_nil | refine okR_bit rfl ?_ | refine okR_ld rfl ?_ | refine okR_rd ?_)) ?_)
          | (refine RO.loud rfl rfl rfl (by first | rfl | (refine or_r ?_; repeat first | exact okL_nil | refine okL_ld ?_ | refine okL_bit rfl ?_ | refine okL_rd rfl ?_)) ?_; (try dsimp only [St.alloc, Sys.s0, Sys.s1, S0, Nat.reduceAdd]))
          | refine RO.skip rfl ?_
          | refine RC.ret ⟨_, rfl, ?_⟩)
        have he : decVs ((.agg [.int .i64 0, .int .i64 by_, .str ⟨#[]⟩, .nils]) :: xs) = some (.mk 0 by_ ⟨#[]⟩ [] :: l) := by
          have h1 : decV (.agg [.int .i64 0, .int .i64 by_, .str ⟨#[]⟩, .nils]) = some (.mk 0 by_ ⟨#[]⟩ []) := rfl
          simp only [decVs, h1, hl]
        exact .inl ⟨.agg [.int .i64 kk, .int .i64 nn, .str tt, (.sl ((.agg [.int .i64 0, .int .i64 by_, .str ⟨#[]⟩, .nils]) :: xs) (.tag 0))], rfl, (by simp [pureV, pureVs, decs_pure hl]), _, _, _, _, .mk kk nn tt (.mk 0 by_ ⟨#[]⟩ [] :: l), rfl, dec_mk (SlA.deaden (.sl _)) (decs_dead he) (by rw [deadens_length]; simp only [List.length_cons]; omega), by simp only [szV, szVs] at *; omega⟩
    · have := decs_length hys
      exact .inl ⟨.agg [.int .i64 2, .int .i64 0, .str (nm []), (.sl ys .dead)], rfl, (by simp [pureV, pureVs, decs_pure hys]), _, _, _, _, .mk 2 0 (nm []) us, rfl, dec_mk (SlA.deaden (.sl _)) (decs_dead hys) (by rw [deadens_length]; omega), by simp only [szV, szVs] at *; omega⟩
    · have := decs_length hys
      exact .inl ⟨.agg [.int .i64 3, .int .i64 0, .str (nm [77]), (.sl ys .dead)], rfl, (by simp [pureV, pureVs, decs_pure hys]), _, _, _, _, .mk 3 0 (nm [77]) us, rfl, dec_mk (SlA.deaden (.sl _)) (decs_dead hys) (by rw [deadens_length]; omega), by simp only [szV, szVs] at *; omega⟩
    · rename_i ya ua hya hua hza yb ub hyb hub hzb yc uc hyc huc hzc
      have g1 := decs_length hya
      have g2 := decs_length hyb
      have g3 := decs_length hyc
      have g4 := decs_length hys
      have he : decVs [.agg [.int .i64 2, .int .i64 0, .str (nm []), .sl ya .dead], .agg [.int .i64 2, .int .i64 0, .str (nm []), .sl yb .dead], .agg [.int .i64 2, .int .i64 0, .str (nm []), .sl yc .dead], .agg [.int .i64 2, .int .i64 0, .str (nm []), .sl ys .dead], .agg [.int .i64 0, .int .i64 by_, .str (nm []), .nils], .agg [.int .i64 0, .int .i64 1, .str (nm []), .nils]] =
          some [.mk 2 0 (nm []) ua, .mk 2 0 (nm []) ub, .mk 2 0 (nm []) uc, .mk 2 0 (nm []) us, .mk 0 by_ (nm []) [], .mk 0 1 (nm []) []] := by
        have e5 : decV (.agg [.int .i64 0, .int .i64 by_, .str (nm []), .nils]) = some (.mk 0 by_ (nm []) []) := rfl
        have e6 : decV (.agg [.int .i64 0, .int .i64 1, .str (nm []), .nils]) = some (.mk 0 1 (nm []) []) := rfl
        simp only [decVs, dec_mk (.sl .dead) hya (show ya.length < 2 ^ 62 by omega), dec_mk (.sl .dead) hyb (show yb.length < 2 ^ 62 by omega), dec_mk (.sl .dead) hyc (show yc.length < 2 ^ 62 by omega), dec_mk (.sl .dead) hys (show ys.length < 2 ^ 62 by omega), e5, e6]
      exact .inl ⟨.agg [.int .i64 2, .int .i64 0, .str (nm []), .sl [.agg [.int .i64 2, .int .i64 0, .str (nm []), .sl ya .dead], .agg [.int .i64 2, .int .i64 0, .str (nm []), .sl yb .dead], .agg [.int .i64 2, .int .i64 0, .str (nm []), .sl yc .dead], .agg [.int .i64 2, .int .i64 0, .str (nm []), .sl ys .dead], .agg [.int .i64 0, .int .i64 by_, .str (nm []), .nils], .agg [.int .i64 0, .int .i64 1, .str (nm []), .nils]] .full], rfl, (show pureV (.agg [.int .i64 2, .int .i64 0, .str (nm []), .sl [.agg [.int .i64 2, .int .i64 0, .str (nm []), .sl ya .dead], .agg [.int .i64 2, .int .i64 0, .str (nm []), .sl yb .dead], .agg [.int .i64 2, .int .i64 0, .str (nm []), .sl yc .dead], .agg [.int .i64 2, .int .i64 0, .str (nm []), .sl ys .dead], .agg [.int .i64 0, .int .i64 by_, .str (nm []), .nils], .agg [.int .i64 0, .int .i64 1, .str (nm []), .nils]] .full]) = true by have h := decs_pure he; simp only [pureV, pureVs] at h ⊢; simpa using h), _, _, _, _, .mk 2 0 (nm []) _, rfl, dec_mk (SlA.deaden (.sl .full)) (decs_dead he) (by rw [deadens_length]; simp), by simp only [szV, szVs] at *; omega⟩
    · exact .inl ⟨.agg [.int .i64 by_, .int .i64 nn, .str tt, y], rfl, (by simp [pureV, pureVs, hpy]), _, _, _, _, .mk by_ nn tt l, rfl, dec_mk (SlA.deaden hy) (decs_dead hl) (by rw [deadens_length]; omega), by simp only [szV, szVs] at *; omega⟩
    · exact .inl ⟨.agg [.int .i64 kk, .int .i64 by_, .str tt, y], rfl, (by simp [pureV, pureVs, hpy]), _, _, _, _, .mk kk by_ tt l, rfl, dec_mk (SlA.deaden hy) (decs_dead hl) (by rw [deadens_length]; omega), by simp only [szV, szVs] at *; omega⟩
    · exact .inl ⟨.agg [.int .i64 kk, .int .i64 nn, .str z, y], rfl, (by simp [pureV, pureVs, hpy]), _, _, _, _, .mk kk nn z l, rfl, dec_mk (SlA.deaden hy) (decs_dead hl) (by rw [deadens_length]; omega), by simp only [szV, szVs] at *; omega⟩
    · by_cases hne : xs = []
      · refine RO.append0 rfl rfl rfl rfl rfl rfl rfl rfl rfl rfl (by decide) (srcElems_nil hy hne) (by first | rfl | (refine or_r ?_; repeat first | exact okL_nil | refine okL_ld ?_ | refine okL_bit rfl ?_ | refine okL_rd rfl ?_)) ?_
        repeat' (first
          | refine RC.seq ?_
          | (refine RC.region sok ?_; repeat' (first
              | refine RO.nil ?_
              | (refine RO.gs rfl ?_; first
                  | (refine RO.gd isCmpO rfl ?_; first | refine RO.cmp true rfl rfl rfl ?_ | refine RO.cmp false rfl rfl rfl ?_ | refine RO.cmpB rfl rfl rfl (fun hb => ?_) (fun hb => ?_))
                  | refine RO.st rfl rfl rfl (by first | rfl | (refine or_r ?_; repeat first | exact okR_nil | refine okR_bit rfl ?_ | refine okR_ld rfl ?_ | refine okR_rd ?_)) ?_
                  | refine RO.len rfl rfl rfl rfl (by first | assumption | exact SlA.sl _ | exact LiveS.sla (by assumption)) rfl rfl rfl ?_
                  | refine RO.idx rfl rfl rfl rfl (by first | assumption | exact SlA.sl _ | exact LiveS.sla (by assumption)) (by first | assumption | exact hp | (simp only [Int.toNat_natCast]; assumption)) (by omega) rfl rfl rfl rfl ?_
                  | refine RO.ldA rfl rfl rfl (by first | assumption | exact hp | (simp only [Int.toNat_natCast]; assumption)) rfl rfl rfl (by first | rfl | (refine or_r ?_; repeat first | exact okR_nil | refine okR_bit rfl ?_ | refine okR_ld rfl ?_ | refine okR_rd ?_)) ?_
                  | refine RO.ldF rfl rfl rfl (by first | assumption | exact hp | (simp only [Int.toNat_natCast]; assumption)) rfl rfl rfl (by first | rfl | (refine or_r ?_; repeat first | exact okR_nil | refine okR_bit rfl ?_ | refine okR_ld rfl ?_ | refine okR_rd ?_)) ?_)
              | (refine RO.loud rfl rfl rfl (by first | rfl | (refine or_r ?_; repeat first | exact okL_nil | refine okL_ld ?_ | refine okL_bit rfl ?_ | refine okL_rd rfl ?_)) ?_; (try dsimp only [St.alloc, Sys.s0, Sys.s1, S0, Nat.reduceAdd]))
              | refine RO.skip rfl ?_))
          | refine RC.skip ?_
          | refine RC.block ?_
          | refine RC.exit ?_
          | refine RC.condT rfl ?_
          | refine RC.condF rfl ?_
          | refine RC.cond _ rfl (fun hb => ?_) (fun hb => ?_)
          | refine RO.nil ?_
          | (refine RO.gs rfl ?_; first
              | (refine RO.gd isCmpO rfl ?_; first | refine RO.cmp true rfl rfl rfl ?_ | refine RO.cmp false rfl rfl rfl ?_ | refine RO.cmpB rfl rfl rfl (fun hb => ?_) (fun hb => ?_))
              | refine RO.st rfl rfl rfl (by first | rfl | (refine or_r ?_; repeat first | exact okR_nil | refine okR_bit rfl ?_ | refine okR_ld rfl ?_ | refine okR_rd ?_)) ?_
              | refine RO.len rfl rfl rfl rfl (by first | assumption | exact SlA.sl _ | exact LiveS.sla (by assumption)) rfl rfl rfl ?_
              | refine RO.idx rfl rfl rfl rfl (by first | assumption | exact SlA.sl _ | exact LiveS.sla (by assumption)) (by first | assumption | exact hp | (simp only [Int.toNat_natCast]; assumption)) (by omega) rfl rfl rfl rfl ?_
              | refine RO.ldA rfl rfl rfl (by first | assumption | exact hp | (simp only [Int.toNat_natCast]; assumption)) rfl rfl rfl (by first | rfl | (refine or_r ?_; repeat first | exact okR_nil | refine okR_bit rfl ?_ | refine okR_ld rfl ?_ | refine okR_rd ?_)) ?_
              | refine RO.ldF rfl rfl rfl (by first | assumption | exact hp | (simp only [Int.toNat_natCast]; assumption)) rfl rfl rfl (by first | rfl | (refine or_r ?_; repeat first | exact okR_nil | refine okR_bit rfl ?_ | refine okR_ld rfl ?_ | refine okR_rd ?_)) ?_)
          | (refine RO.loud rfl rfl rfl (by first | rfl | (refine or_r ?_; repeat first | exact okL_nil | refine okL_ld ?_ | refine okL_bit rfl ?_ | refine okL_rd rfl ?_)) ?_; (try dsimp only [St.alloc, Sys.s0, Sys.s1, S0, Nat.reduceAdd]))
          | refine RO.skip rfl ?_
          | refine RC.ret ⟨_, rfl, ?_⟩)
        exact .inl ⟨.agg [.int .i64 kk, .int .i64 nn, .str tt, .sl [(.agg [.int .i64 0, .int .i64 by_, .str ⟨#[]⟩, .nils])] .full], rfl, rfl, _, _, _, _, .mk kk nn tt [.mk 0 by_ ⟨#[]⟩ []], rfl, rfl, by simp only [szV, szVs] at *; omega⟩
      · refine RO.append rfl rfl rfl rfl rfl rfl rfl rfl rfl rfl rfl (by decide) (by decide) (srcElems_of hy (decs_cells hl)) hne (decs_flat hl) LiveT.full (show ∀ x ∈ [(.agg [.int .i64 0, .int .i64 by_, .str ⟨#[]⟩, .nils])], (cellsOf x).length = 4 from by simp [cellsOf]) (by show 1 + xs.length ≤ _; omega) (fun _ => (by first | rfl | (refine or_r ?_; repeat first | exact okL_nil | refine okL_ld ?_ | refine okL_bit rfl ?_ | refine okL_rd rfl ?_))) (fun L hL hkp => ?_)
        repeat' (first
          | refine RC.seq ?_
          | (refine RC.region sok ?_; repeat' (first
              | refine RO.nil ?_
              | (refine RO.gs rfl ?_; first
                  | (refine RO.gd isCmpO rfl ?_; first | refine RO.cmp true rfl rfl rfl ?_ | refine RO.cmp false rfl rfl rfl ?_ | refine RO.cmpB rfl rfl rfl (fun hb => ?_) (fun hb => ?_))
                  | refine RO.st rfl rfl rfl (by first | rfl | (refine or_r ?_; repeat first | exact okR_nil | refine okR_bit rfl ?_ | refine okR_ld rfl ?_ | refine okR_rd ?_)) ?_
                  | refine RO.len rfl rfl rfl rfl (by first | assumption | exact SlA.sl _ | exact LiveS.sla (by assumption)) rfl rfl rfl ?_
                  | refine RO.idx rfl rfl rfl rfl (by first | assumption | exact SlA.sl _ | exact LiveS.sla (by assumption)) (by first | assumption | exact hp | (simp only [Int.toNat_natCast]; assumption)) (by omega) rfl rfl rfl rfl ?_
                  | refine RO.ldA rfl rfl rfl (by first | assumption | exact hp | (simp only [Int.toNat_natCast]; assumption)) rfl rfl rfl (by first | rfl | (refine or_r ?_; repeat first | exact okR_nil | refine okR_bit rfl ?_ | refine okR_ld rfl ?_ | refine okR_rd ?_)) ?_
                  | refine RO.ldF rfl rfl rfl (by first | assumption | exact hp | (simp only [Int.toNat_natCast]; assumption)) rfl rfl rfl (by first | rfl | (refine or_r ?_; repeat first | exact okR_nil | refine okR_bit rfl ?_ | refine okR_ld rfl ?_ | refine okR_rd ?_)) ?_)
              | (refine RO.loud rfl rfl rfl (by first | rfl | (refine or_r ?_; repeat first | exact okL_nil | refine okL_ld ?_ | refine okL_bit rfl ?_ | refine okL_rd rfl ?_)) ?_; (try dsimp only [St.alloc, Sys.s0, Sys.s1, S0, Nat.reduceAdd]))
              | refine RO.skip rfl ?_))
          | refine RC.skip ?_
          | refine RC.block ?_
          | refine RC.exit ?_
          | refine RC.condT rfl ?_
          | refine RC.condF rfl ?_
          | refine RC.cond _ rfl (fun hb => ?_) (fun hb => ?_)
          | refine RO.nil ?_
          | (refine RO.gs rfl ?_; first
              | (refine RO.gd isCmpO rfl ?_; first | refine RO.cmp true rfl rfl rfl ?_ | refine RO.cmp false rfl rfl rfl ?_ | refine RO.cmpB rfl rfl rfl (fun hb => ?_) (fun hb => ?_))
              | refine RO.st rfl rfl rfl (by first | rfl | (refine or_r ?_; repeat first | exact okR_nil | refine okR_bit rfl ?_ | refine okR_ld rfl ?_ | refine okR_rd ?_)) ?_
              | refine RO.len rfl rfl rfl rfl (by first | assumption | exact SlA.sl _ | exact LiveS.sla (by assumption)) rfl rfl rfl ?_
              | refine RO.idx rfl rfl rfl rfl (by first | assumption | exact SlA.sl _ | exact LiveS.sla (by assumption)) (by first | assumption | exact hp | (simp only [Int.toNat_natCast]; assumption)) (by omega) rfl rfl rfl rfl ?_
              | refine RO.ldA rfl rfl rfl (by first | assumption | exact hp | (simp only [Int.toNat_natCast]; assumption)) rfl rfl rfl (by first | rfl | (refine or_r ?_; repeat first | exact okR_nil | refine okR_bit rfl ?_ | refine okR_ld rfl ?_ | refine okR_rd ?_)) ?_
              | refine RO.ldF rfl rfl rfl (by first | assumption | exact hp | (simp only [Int.toNat_natCast]; assumption)) rfl rfl rfl (by first | rfl | (refine or_r ?_; repeat first | exact okR_nil | refine okR_bit rfl ?_ | refine okR_ld rfl ?_ | refine okR_rd ?_)) ?_)
          | (refine RO.loud rfl rfl rfl (by first | rfl | (refine or_r ?_; repeat first | exact okL_nil | refine okL_ld ?_ | refine okL_bit rfl ?_ | refine okL_rd rfl ?_)) ?_; (try dsimp only [St.alloc, Sys.s0, Sys.s1, S0, Nat.reduceAdd]))
          | refine RO.skip rfl ?_
          | refine RC.ret ⟨_, rfl, ?_⟩)
        have he : decVs ((.agg [.int .i64 0, .int .i64 by_, .str ⟨#[]⟩, .nils]) :: xs) = some (.mk 0 by_ ⟨#[]⟩ [] :: l) := by
          have h1 : decV (.agg [.int .i64 0, .int .i64 by_, .str ⟨#[]⟩, .nils]) = some (.mk 0 by_ ⟨#[]⟩ []) := rfl
          simp only [decVs, h1, hl]
        exact .inl ⟨.agg [.int .i64 kk, .int .i64 nn, .str tt, (.sl ((.agg [.int .i64 0, .int .i64 by_, .str ⟨#[]⟩, .nils]) :: xs) (.tag 0))], rfl, (by simp [pureV, pureVs, decs_pure hl]), _, _, _, _, .mk kk nn tt (.mk 0 by_ ⟨#[]⟩ [] :: l), rfl, dec_mk (SlA.deaden (.sl _)) (decs_dead he) (by rw [deadens_length]; simp only [List.length_cons]; omega), by simp only [szV, szVs] at *; omega⟩
    · have := decs_length hys
      exact .inl ⟨.agg [.int .i64 2, .int .i64 0, .str (nm []), (.sl ys .dead)], rfl, (by simp [pureV, pureVs, decs_pure hys]), _, _, _, _, .mk 2 0 (nm []) us, rfl, dec_mk (SlA.deaden (.sl _)) (decs_dead hys) (by rw [deadens_length]; omega), by simp only [szV, szVs] at *; omega⟩
    · have := decs_length hys
      exact .inl ⟨.agg [.int .i64 3, .int .i64 0, .str (nm [77]), (.sl ys .dead)], rfl, (by simp [pureV, pureVs, decs_pure hys]), _, _, _, _, .mk 3 0 (nm [77]) us, rfl, dec_mk (SlA.deaden (.sl _)) (decs_dead hys) (by rw [deadens_length]; omega), by simp only [szV, szVs] at *; omega⟩
    · rename_i ya ua hya hua hza yb ub hyb hub hzb yc uc hyc huc hzc
      have g1 := decs_length hya
      have g2 := decs_length hyb
      have g3 := decs_length hyc
      have g4 := decs_length hys
      have he : decVs [.agg [.int .i64 2, .int .i64 0, .str (nm []), .sl ya .dead], .agg [.int .i64 2, .int .i64 0, .str (nm []), .sl yb .dead], .agg [.int .i64 2, .int .i64 0, .str (nm []), .sl yc .dead], .agg [.int .i64 2, .int .i64 0, .str (nm []), .sl ys .dead], .agg [.int .i64 0, .int .i64 by_, .str (nm []), .nils], .agg [.int .i64 0, .int .i64 1, .str (nm []), .nils]] =
          some [.mk 2 0 (nm []) ua, .mk 2 0 (nm []) ub, .mk 2 0 (nm []) uc, .mk 2 0 (nm []) us, .mk 0 by_ (nm []) [], .mk 0 1 (nm []) []] := by
        have e5 : decV (.agg [.int .i64 0, .int .i64 by_, .str (nm []), .nils]) = some (.mk 0 by_ (nm []) []) := rfl
        have e6 : decV (.agg [.int .i64 0, .int .i64 1, .str (nm []), .nils]) = some (.mk 0 1 (nm []) []) := rfl
        simp only [decVs, dec_mk (.sl .dead) hya (show ya.length < 2 ^ 62 by omega), dec_mk (.sl .dead) hyb (show yb.length < 2 ^ 62 by omega), dec_mk (.sl .dead) hyc (show yc.length < 2 ^ 62 by omega), dec_mk (.sl .dead) hys (show ys.length < 2 ^ 62 by omega), e5, e6]
      exact .inl ⟨.agg [.int .i64 2, .int .i64 0, .str (nm []), .sl [.agg [.int .i64 2, .int .i64 0, .str (nm []), .sl ya .dead], .agg [.int .i64 2, .int .i64 0, .str (nm []), .sl yb .dead], .agg [.int .i64 2, .int .i64 0, .str (nm []), .sl yc .dead], .agg [.int .i64 2, .int .i64 0, .str (nm []), .sl ys .dead], .agg [.int .i64 0, .int .i64 by_, .str (nm []), .nils], .agg [.int .i64 0, .int .i64 1, .str (nm []), .nils]] .full], rfl, (show pureV (.agg [.int .i64 2, .int .i64 0, .str (nm []), .sl [.agg [.int .i64 2, .int .i64 0, .str (nm []), .sl ya .dead], .agg [.int .i64 2, .int .i64 0, .str (nm []), .sl yb .dead], .agg [.int .i64 2, .int .i64 0, .str (nm []), .sl yc .dead], .agg [.int .i64 2, .int .i64 0, .str (nm []), .sl ys .dead], .agg [.int .i64 0, .int .i64 by_, .str (nm []), .nils], .agg [.int .i64 0, .int .i64 1, .str (nm []), .nils]] .full]) = true by have h := decs_pure he; simp only [pureV, pureVs] at h ⊢; simpa using h), _, _, _, _, .mk 2 0 (nm []) _, rfl, dec_mk (SlA.deaden (.sl .full)) (decs_dead he) (by rw [deadens_length]; simp), by simp only [szV, szVs] at *; omega⟩


theorem bent_c {v : V} {a : AV} {which by_ : Int} {s : St} {R : Res → St → Prop} (h32 : szV v < 2 ^ 32) (ha : decV a = some v) (hR : ∀ c0 c1 c2 c3 w, decV (.agg [c0, c1, c2, c3]) = some w → szV w ≤ szV v + 2000 → R (.ret (.agg [c0, c1, c2, c3])) s) : CallsTo (SV ρ) 15 [a, .int .i64 which, .int .i64 by_] s R :=
  bentIH (szV v + 1) v a which by_ s R (Nat.lt_succ_self _) h32 ha hR
end Go.Am.Tryz
