/- The values seat: the generator of numbers. -/
import Derived.Test.YtmbkcjnjjlkidaaGreatDoorVCmp
import Derived.Test.YtmbkcjnjjlkidaaGreatDoorAmApp
namespace Go.Am.Tryz
open Go.Proofs Go.Am
set_option maxRecDepth 100000
set_option linter.unusedVariables false
set_option linter.unusedSimpArgs false
set_option maxHeartbeats 4000000

variable {ρ : Nat → Option (Nat × Nat)}

def nm (l : List UInt8) : ByteArray := ⟨l.toArray⟩
def ints (l : List Int) : List AV := l.map (.int .i64)
theorem ints_deadens : ∀ l : List Int, deadens (ints l) = ints l
  | [] => rfl
  | x :: l => by have := ints_deadens l; simp only [ints, List.map_cons, deadens, deaden] at this ⊢; rw [this]
theorem ints_pure : ∀ l : List Int, pureVs (ints l) = true
  | [] => rfl
  | x :: l => by have := ints_pure l; simp only [ints, List.map_cons, pureVs, pureV, Bool.true_and] at this ⊢; exact this

/-- A block of the generator: its numbers, how many were taken. -/
def GB (x : AV) (l : List Int) : Prop := SlA x (ints l)
theorem GB.pure {x : AV} {l : List Int} (h : GB x l) : pureV x = true := SlA.pure h (ints_pure l)
theorem GB.dead {x : AV} {l : List Int} (h : GB x l) : GB (deaden x) l := by have := SlA.deaden h; rwa [ints_deadens] at this

theorem next_c {s : St} {b : Nat} {x : AV} {l : List Int} {n most : Int} {R : Res → St → Prop} (hb : s.heap.get b = some (.cells [x, .int .i64 n] false)) (hx : GB x l) (h0 : 0 ≤ n) (h1 : n < 2 ^ 60) (hm : 1 ≤ most) (hm2 : most < 2 ^ 60)
    (hR : ∀ k x', GB x' l → 0 ≤ k → k < most → R (.ret (.int .i64 k)) { s with heap := s.heap.set b (.cells [x', .int .i64 (n + 1)] false) }) : CallsTo (SV ρ) 26 [.ptr b 0, .int .i64 most] s R := by
  refine (CallsTo.frame1 (Q := fun r cs => ∃ k x', r = .ret (.int .i64 k) ∧ cs = [x', .int .i64 (n + 1)] ∧ GB x' l ∧ 0 ≤ k ∧ k < most) (S := SV ρ) (args := [.ptr b 0, .int .i64 most]) (args0 := [.ptr 6 0, .int .i64 most]) (cs0 := [deaden x, .int .i64 n]) sok hb
    ⟨_, _, ⟨6, inB_own (S := SV ρ) b, rfl⟩, ⟨_, _, rfl, rfl, rfl⟩, rfl⟩ (pure_RVs (a := [x, .int .i64 n]) (by simp [pureVs, pureV, hx.pure])) ?_).mono ?_
  · have hy := hx.dead
    generalize deaden x = y at *
    have hsl : SlA y (ints l) := hy
    have hil : (ints l).length = l.length := by simp [ints]
    have hw : IntKind.i64.wrap (n + 1) = n + 1 := wrap_ok (by omega) (by omega)
    refine CallsTo.run (fn := mkF Tryz.f26 [] none) sok rfl ?_
    show RC (SV ρ) _ _ _ ⟨YtmbkcjnjjlkidaaGreatDoor.heap0.set 6 (.cells [y, .int .i64 n] false), 7, .nil, 0⟩ _
    by_cases hlt : n < l.length
    · have hx : (ints l)[n.toNat]? = some (.int .i64 (l[n.toNat]'(by omega))) := by
        have : n.toNat < l.length := by omega
        simp [ints, this]
      have hrem : ∀ (v : Int), (match most == 0 with
          | true => none
          | false => some (AV.int .i64 (v.tmod most))) = some (.int .i64 (v.tmod most)) := fun v => by
        rw [beq_eq_false_iff_ne.2 (by omega)]
      repeat' (first
        | refine RC.seq ?_
        | (refine RC.region sok ?_; repeat' (first
            | refine RO.nil ?_
            | (refine RO.gs rfl ?_; first
                | (refine RO.gd isCmpO rfl ?_; first | refine RO.cmp true rfl rfl rfl ?_ | refine RO.cmp false rfl rfl rfl ?_ | refine RO.cmpB rfl rfl rfl (fun hb => ?_) (fun hb => ?_))
                | refine RO.st rfl rfl (hrem _) (by first | rfl | (refine or_r ?_; repeat first | exact okR_nil | refine okR_bit rfl ?_ | refine okR_ld rfl ?_ | refine okR_rd ?_)) ?_
                | refine RO.st rfl rfl rfl (by first | rfl | (refine or_r ?_; repeat first | exact okR_nil | refine okR_bit rfl ?_ | refine okR_ld rfl ?_ | refine okR_rd ?_)) ?_
                | refine RO.len rfl rfl rfl rfl (by first | assumption | exact SlA.sl _ | exact LiveS.sla (by assumption)) rfl rfl rfl ?_
                | refine RO.idx rfl rfl rfl rfl (by first | assumption | exact SlA.sl _ | exact LiveS.sla (by assumption)) (by first | assumption | exact hp | (simp only [Int.toNat_natCast]; assumption)) (by omega) rfl rfl rfl rfl ?_
                | refine RO.ldA rfl rfl rfl (by first | assumption | exact hp | (simp only [Int.toNat_natCast]; assumption)) rfl rfl rfl (by first | rfl | (refine or_r ?_; repeat first | exact okR_nil | refine okR_bit rfl ?_ | refine okR_ld rfl ?_ | refine okR_rd ?_)) ?_
                | refine RO.ldF rfl rfl rfl (by first | assumption | exact hp | (simp only [Int.toNat_natCast]; assumption)) rfl rfl rfl (by first | rfl | (refine or_r ?_; repeat first | exact okR_nil | refine okR_bit rfl ?_ | refine okR_ld rfl ?_ | refine okR_rd ?_)) ?_)
            | (refine RO.loud rfl rfl rfl (by first | rfl | (refine or_r ?_; repeat first | exact okL_nil | refine okL_ld ?_ | refine okL_bit rfl ?_ | refine okL_rd rfl ?_)) ?_; (try dsimp only [St.alloc, Sys.s0, Sys.s1, S0, Nat.reduceAdd]))
            | refine RO.skip rfl ?_))
        | refine RC.skip ?_
        | refine RC.block ?_
        | refine RC.exit ?_
        | refine RC.condT rfl ?_
        | refine RC.condF rfl ?_
        | refine RC.cond _ rfl (fun hb => ?_) (fun hb => ?_)
        | refine RC.ret ⟨_, rfl, ?_⟩)
      all_goals try (exfalso; simp only [decide_eq_true_eq, decide_eq_false_iff_not, beq_iff_eq, bne_iff_ne, ne_eq, beq_eq_false_iff_ne, bne_eq_false_iff_eq, Decidable.not_not, Int.not_lt, Int.not_le, gt_iff_lt, ge_iff_le] at *; omega)
      · refine ⟨[y, .int .i64 (IntKind.i64.wrap (n + 1))], .ret (.int .i64 _), [deaden y, .int .i64 (IntKind.i64.wrap (n + 1))], rfl, ⟨_, rfl, rfl⟩, pure_RVs (a := [y, .int .i64 (IntKind.i64.wrap (n + 1))]) (by simp [pureVs, pureV, hy.pure]), _, _, rfl, by rw [hw], hy.dead, ?_, ?_⟩ <;> omega
      all_goals (have h4 := Int.tmod_lt_of_pos l[n.toNat] (show 0 < most by omega); have h5 := Int.tmod_lt_of_pos (-l[n.toNat]) (show 0 < most by omega); rw [Int.neg_tmod] at h5)
      · refine ⟨[y, .int .i64 (IntKind.i64.wrap (n + 1))], .ret (.int .i64 _), [deaden y, .int .i64 (IntKind.i64.wrap (n + 1))], rfl, ⟨_, rfl, rfl⟩, pure_RVs (a := [y, .int .i64 (IntKind.i64.wrap (n + 1))]) (by simp [pureVs, pureV, hy.pure]), _, _, rfl, by rw [hw], hy.dead, ?_, ?_⟩
        all_goals (simp only [decide_eq_true_eq] at hb; rw [wrap_ok (by omega) (by omega)]; omega)
      · refine ⟨[y, .int .i64 (IntKind.i64.wrap (n + 1))], .ret (.int .i64 _), [deaden y, .int .i64 (IntKind.i64.wrap (n + 1))], rfl, ⟨_, rfl, rfl⟩, pure_RVs (a := [y, .int .i64 (IntKind.i64.wrap (n + 1))]) (by simp [pureVs, pureV, hy.pure]), _, _, rfl, by rw [hw], hy.dead, ?_, ?_⟩
        all_goals (simp only [decide_eq_false_iff_not] at hb; omega)
    · repeat' (first
        | refine RC.seq ?_
        | (refine RC.region sok ?_; repeat' (first
            | refine RO.nil ?_
            | (refine RO.gs rfl ?_; first
                | (refine RO.gd isCmpO rfl ?_; first | refine RO.cmp true rfl rfl rfl ?_ | refine RO.cmp false rfl rfl rfl ?_ | refine RO.cmpB rfl rfl rfl (fun hb => ?_) (fun hb => ?_))
                | refine RO.st rfl rfl rfl (by first | rfl | (refine or_r ?_; repeat first | exact okR_nil | refine okR_bit rfl ?_ | refine okR_ld rfl ?_ | refine okR_rd ?_)) ?_
                | refine RO.len rfl rfl rfl rfl (by first | assumption | exact SlA.sl _ | exact LiveS.sla (by assumption)) rfl rfl rfl ?_
                | refine RO.idx rfl rfl rfl rfl (by first | assumption | exact SlA.sl _ | exact LiveS.sla (by assumption)) (by first | assumption | exact hp | (simp only [Int.toNat_natCast]; assumption)) (by omega) rfl rfl rfl rfl ?_
                | refine RO.ldA rfl rfl rfl (by first | assumption | exact hp | (simp only [Int.toNat_natCast]; assumption)) rfl rfl rfl (by first | rfl | (refine or_r ?_; repeat first | exact okR_nil | refine okR_bit rfl ?_ | refine okR_ld rfl ?_ | refine okR_rd ?_)) ?_
                | refine RO.ldF rfl rfl rfl (by first | assumption | exact hp | (simp only [Int.toNat_natCast]; assumption)) rfl rfl rfl (by first | rfl | (refine or_r ?_; repeat first | exact okR_nil | refine okR_bit rfl ?_ | refine okR_ld rfl ?_ | refine okR_rd ?_)) ?_)
            | (refine RO.loud rfl rfl rfl (by first | rfl | (refine or_r ?_; repeat first | exact okL_nil | refine okL_ld ?_ | refine okL_bit rfl ?_ | refine okL_rd rfl ?_)) ?_; (try dsimp only [St.alloc, Sys.s0, Sys.s1, S0, Nat.reduceAdd]))
            | refine RO.skip rfl ?_))
        | refine RC.skip ?_
        | refine RC.block ?_
        | refine RC.exit ?_
        | refine RC.condT rfl ?_
        | refine RC.condF rfl ?_
        | refine RC.cond _ rfl (fun hb => ?_) (fun hb => ?_)
        | refine RC.ret ⟨_, rfl, ?_⟩)
      all_goals try (exfalso; simp only [decide_eq_true_eq, decide_eq_false_iff_not, beq_iff_eq, bne_iff_ne, ne_eq, beq_eq_false_iff_ne, bne_eq_false_iff_eq, Decidable.not_not, Int.not_lt, Int.not_le, gt_iff_lt, ge_iff_le] at *; omega)
      · refine ⟨[y, .int .i64 (IntKind.i64.wrap (n + 1))], .ret (.int .i64 _), [deaden y, .int .i64 (IntKind.i64.wrap (n + 1))], rfl, ⟨_, rfl, rfl⟩, pure_RVs (a := [y, .int .i64 (IntKind.i64.wrap (n + 1))]) (by simp [pureVs, pureV, hy.pure]), _, _, rfl, by rw [hw], hy.dead, ?_, ?_⟩ <;> omega
  · rintro r s' ⟨cs', rfl, k, x', rfl, rfl, h1, h2, h3⟩
    exact hR k x' h1 h2 h3

theorem pickS (ss : List ByteArray) {k : Int} (h0 : 0 ≤ k) (h1 : k < ss.length) : ∃ z, z ∈ ss ∧ (ss.map AV.str)[k.toNat]? = some (.str z) := by
  have h : k.toNat < ss.length := by omega
  exact ⟨ss[k.toNat], List.getElem_mem h, by simp [h]⟩
theorem pickI (ss : List Int) {k : Int} (h0 : 0 ≤ k) (h1 : k < ss.length) : ∃ z, z ∈ ss ∧ (ints ss)[k.toNat]? = some (.int .i64 z) := by
  have h : k.toNat < ss.length := by omega
  exact ⟨ss[k.toNat], List.getElem_mem h, by simp [ints, h]⟩

/-- A number by which one of some texts is taken. -/
theorem nextS_c (ss : List ByteArray) {s : St} {b : Nat} {x : AV} {l : List Int} {n most : Int} {R : Res → St → Prop} (hms : most = ss.length) (hb : s.heap.get b = some (.cells [x, .int .i64 n] false)) (hx : GB x l) (h0 : 0 ≤ n) (h1 : n < 2 ^ 60) (hm : 1 ≤ most) (hm2 : most < 2 ^ 60)
    (hR : ∀ k x' z, GB x' l → 0 ≤ k → k < most → z ∈ ss → (ss.map AV.str)[k.toNat]? = some (.str z) → R (.ret (.int .i64 k)) { s with heap := s.heap.set b (.cells [x', .int .i64 (n + 1)] false) }) : CallsTo (SV ρ) 26 [.ptr b 0, .int .i64 most] s R :=
  next_c hb hx h0 h1 hm hm2 fun k x' hx' k0 k1 => by
    obtain ⟨z, hz, he⟩ := pickS ss k0 (by omega)
    exact hR k x' z hx' k0 k1 hz he
/-- A number by which one of some numbers is taken. -/
theorem nextI_c (ss : List Int) {s : St} {b : Nat} {x : AV} {l : List Int} {n most : Int} {R : Res → St → Prop} (hms : most = ss.length) (hb : s.heap.get b = some (.cells [x, .int .i64 n] false)) (hx : GB x l) (h0 : 0 ≤ n) (h1 : n < 2 ^ 60) (hm : 1 ≤ most) (hm2 : most < 2 ^ 60)
    (hR : ∀ k x' z, GB x' l → 0 ≤ k → k < most → k.tmod 4 = k % 4 → z ∈ ss → (ints ss)[k.toNat]? = some (.int .i64 z) → R (.ret (.int .i64 k)) { s with heap := s.heap.set b (.cells [x', .int .i64 (n + 1)] false) }) : CallsTo (SV ρ) 26 [.ptr b 0, .int .i64 most] s R :=
  next_c hb hx h0 h1 hm hm2 fun k x' hx' k0 k1 => by
    obtain ⟨z, hz, he⟩ := pickI ss k0 (by omega)
    exact hR k x' z hx' k0 k1 (Int.tmod_eq_emod_of_nonneg k0) hz he

end Go.Am.Tryz
