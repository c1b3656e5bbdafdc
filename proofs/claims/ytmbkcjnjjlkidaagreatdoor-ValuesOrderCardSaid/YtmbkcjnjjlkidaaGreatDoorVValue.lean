/- The values seat: the values that numbers make. -/
import Derived.Test.YtmbkcjnjjlkidaaGreatDoorVGen
namespace Go.Am.Tryz
open Go.Proofs Go.Am
set_option maxRecDepth 100000
set_option linter.unusedVariables false
set_option linter.unusedSimpArgs false
set_option maxHeartbeats 4000000

variable {ρ : Nat → Option (Nat × Nat)}

def cst : Nat → Int
  | 0 => 6
  | d + 1 => 6 + 3 * cst d
theorem cst_pos : ∀ d, 6 ≤ cst d
  | 0 => by simp [cst]
  | d + 1 => by have := cst_pos d; simp only [cst]; omega

/-- A value without kids that the generator makes. -/
def genL (k n : Int) (s : ByteArray) : Prop := (k = 0 ∧ (Lit.int .i64 n).wf = true ∧ s = nm []) ∨ (k = 1 ∧ 0 ≤ n ∧ n < 2 ∧ s = nm []) ∨ (k = 3 ∧ n = 0 ∧ s ∈ [nm [76, 101, 97, 102], nm [65], nm [69, 109, 112, 116, 121], nm [66, 95, 50]])
/-- The kind and the name of one with kids. -/
def genK (k : Int) (s : ByteArray) : Prop := (k = 2 ∧ s = nm []) ∨ (k = 3 ∧ s ∈ [nm [70, 111, 114, 107], nm [65], nm [90, 122]])
/-- A value that the generator makes. -/
def genV : Nat → V → Prop
  | 0, .mk k n s l => l = [] ∧ genL k n s
  | d + 1, .mk k n s l => (l = [] ∧ genL k n s) ∨ (n = 0 ∧ l.length ≤ 3 ∧ (∀ w ∈ l, genV d w) ∧ genK k s)

theorem wf_i64 {n : Int} (h0 : -9223372036854775808 ≤ n) (h1 : n ≤ 9223372036854775807) : (Lit.int .i64 n).wf = true := by
  simp only [Lit.wf, Bool.and_eq_true, decide_eq_true_eq]
  exact ⟨h0, h1⟩

theorem value_c : ∀ (d : Nat), d ≤ 9 → ∀ {s : St} {b : Nat} {x : AV} {l : List Int} {n : Int} {R : Res → St → Prop}, s.heap.get b = some (.cells [x, .int .i64 n] false) → GB x l → 0 ≤ n → n + cst d < 2 ^ 59 →
    (∀ c0 c1 c2 c3 w x' n', decV (.agg [c0, c1, c2, c3]) = some w → genV d w → GB x' l → n ≤ n' → n' ≤ n + cst d → R (.ret (.agg [c0, c1, c2, c3])) { s with heap := s.heap.set b (.cells [x', .int .i64 n'] false) }) → CallsTo (SV ρ) 41 [.ptr b 0, .int .i64 d] s R := by
  intro d
  induction d with
  | zero =>
    intro hd s b x l n R hb hx h0 h1 hR
    have hc1 : cst 0 = 6 := rfl
    refine (CallsTo.frame1 (Q := fun r cs => ∃ c0 c1 c2 c3 w x' n', r = .ret (.agg [c0, c1, c2, c3]) ∧ cs = [x', .int .i64 n'] ∧ decV (.agg [c0, c1, c2, c3]) = some w ∧ genV 0 w ∧ GB x' l ∧ n ≤ n' ∧ n' ≤ n + cst 0) (S := SV ρ) (args := [.ptr b 0, .int .i64 (0 : Nat)]) (args0 := [.ptr 6 0, .int .i64 (0 : Nat)]) (cs0 := [deaden x, .int .i64 n]) sok hb
      ⟨_, _, ⟨6, inB_own (S := SV ρ) b, rfl⟩, ⟨_, _, rfl, rfl, rfl⟩, rfl⟩ (pure_RVs (a := [x, .int .i64 n]) (by simp [pureVs, pureV, hx.pure])) ?_).mono (by rintro r s' ⟨cs', rfl, c0, c1, c2, c3, w, x', n', rfl, rfl, h2, h4, h5, h6, h7⟩; exact hR c0 c1 c2 c3 w x' n' h2 h4 h5 h6 h7)
    have hy := hx.dead
    generalize deaden x = y at *
    refine CallsTo.run (fn := mkF Tryz.f41 [] none) sok rfl ?_
    show RC (SV ρ) _ _ _ ⟨YtmbkcjnjjlkidaaGreatDoor.heap0.set 6 (.cells [y, .int .i64 n] false), 7, .nil, 0⟩ _
    repeat' (first
      | refine RC.seq ?_
      | (refine RC.region sok ?_; repeat' (first
          | refine RO.nil ?_
          | (refine RO.gs rfl ?_; first
              | (refine RO.gd isCmpO rfl ?_; first | refine RO.cmp true rfl rfl rfl ?_ | refine RO.cmp false rfl rfl rfl ?_ | refine RO.cmpB rfl rfl rfl (fun hb => ?_) (fun hb => ?_))
              | refine RO.st rfl rfl rfl (by first | rfl | (refine or_r ?_; repeat first | exact okR_nil | refine okR_bit rfl ?_ | refine okR_ld rfl ?_ | refine okR_rd ?_)) ?_
              | refine RO.len rfl rfl rfl rfl (by first | assumption | exact SlA.sl _ | exact LiveS.sla (by assumption)) rfl rfl rfl ?_
              | refine RO.idx rfl rfl rfl rfl (by first | assumption | exact SlA.sl _ | exact LiveS.sla (by assumption)) (by first | assumption | exact hp | (simp only [Int.toNat_natCast]; assumption)) (by omega) rfl rfl rfl rfl ?_
              | refine RO.ldA rfl rfl rfl (by first | assumption | exact hp | (simp only [Int.toNat_natCast]; assumption)) rfl rfl rfl (by first | rfl | (refine or_r ?_; repeat first | exact okR_nil | refine okR_bit rfl ?_ | refine okR_ld rfl ?_ | refine okR_rd ?_)) ?_
              | refine RO.ldF rfl rfl rfl (by first | assumption | exact hp | (simp only [Int.toNat_natCast]; assumption)) rfl rfl rfl (by first | rfl | (refine or_r ?_; repeat first | exact okR_nil | refine okR_bit rfl ?_ | refine okR_ld rfl ?_ | refine okR_rd ?_)) ?_)
          | (refine RO.gd isCallF rfl ?_; first
              | (refine RO.call rfl rfl rfl rfl rfl (nextS_c [nm [76, 101, 97, 102], nm [65], nm [69, 109, 112, 116, 121], nm [66, 95, 50]] rfl rfl (by assumption) (by omega) (by omega) (by omega) (by omega) (fun k x2 z hx2 k0 k1 hz hp => ⟨(by first | rfl | (refine or_r ?_; repeat first | exact okL_nil | refine okL_ld ?_ | refine okL_bit rfl ?_ | refine okL_rd rfl ?_)), ?_⟩)); (try dsimp only [St.alloc, Sys.s0, Sys.s1, S0, Nat.reduceAdd]))
              | (refine RO.call rfl rfl rfl rfl rfl (nextS_c [nm [70, 111, 114, 107], nm [65], nm [90, 122]] rfl rfl (by assumption) (by omega) (by omega) (by omega) (by omega) (fun k x2 z hx2 k0 k1 hz hp => ⟨(by first | rfl | (refine or_r ?_; repeat first | exact okL_nil | refine okL_ld ?_ | refine okL_bit rfl ?_ | refine okL_rd rfl ?_)), ?_⟩)); (try dsimp only [St.alloc, Sys.s0, Sys.s1, S0, Nat.reduceAdd]))
              | (refine RO.call rfl rfl rfl rfl rfl (nextI_c [0, 0, 0, 1, 1, 2, 3] rfl rfl (by assumption) (by omega) (by omega) (by omega) (by omega) (fun k x2 z hx2 k0 k1 hkm hz hp => ⟨(by first | rfl | (refine or_r ?_; repeat first | exact okL_nil | refine okL_ld ?_ | refine okL_bit rfl ?_ | refine okL_rd rfl ?_)), ?_⟩)); (try dsimp only [St.alloc, Sys.s0, Sys.s1, S0, Nat.reduceAdd]))
              | (refine RO.call rfl rfl rfl rfl rfl (next_c rfl (by assumption) (by omega) (by omega) (by omega) (by omega) (fun k x2 hx2 k0 k1 => ⟨(by first | rfl | (refine or_r ?_; repeat first | exact okL_nil | refine okL_ld ?_ | refine okL_bit rfl ?_ | refine okL_rd rfl ?_)), ?_⟩)); (try dsimp only [St.alloc, Sys.s0, Sys.s1, S0, Nat.reduceAdd])))
          | (refine RO.loud rfl rfl rfl (by first | rfl | (refine or_r ?_; repeat first | exact okL_nil | refine okL_ld ?_ | refine okL_bit rfl ?_ | refine okL_rd rfl ?_)) ?_; (try dsimp only [St.alloc, Sys.s0, Sys.s1, S0, Nat.reduceAdd]))
          | refine RO.skip rfl ?_))
      | refine RC.skip ?_
      | refine RC.block ?_
      | refine RC.exit ?_
      | refine RC.condT rfl ?_
      | refine RC.condF rfl ?_
      | refine RC.cond _ rfl (fun hb => ?_) (fun hb => ?_)
      | refine RC.ret ⟨_, rfl, ?_⟩)
    iterate 2 (focus
      have hz' : z = 0 ∨ z = 1 ∨ z = 2 ∨ z = 3 := by
        simp only [List.mem_cons, List.not_mem_nil, or_false] at hz; omega
      rcases hz' with rfl | rfl | rfl | rfl
      all_goals (
        repeat' (first
          | refine RC.seq ?_
          | (refine RC.region sok ?_; repeat' (first
              | refine RO.nil ?_
              | (refine RO.gs rfl ?_; first
                  | (refine RO.gd isCmpO rfl ?_; first | refine RO.cmp true rfl rfl rfl ?_ | refine RO.cmp false rfl rfl rfl ?_ | refine RO.cmpB rfl rfl rfl (fun hb => ?_) (fun hb => ?_))
                  | refine RO.st rfl rfl rfl (by first | rfl | (refine or_r ?_; repeat first | exact okR_nil | refine okR_bit rfl ?_ | refine okR_ld rfl ?_ | refine okR_rd ?_)) ?_
                  | refine RO.len rfl rfl rfl rfl (by first | assumption | exact SlA.sl _ | exact LiveS.sla (by assumption)) rfl rfl rfl ?_
                  | refine RO.idx rfl rfl rfl rfl (by first | assumption | exact SlA.sl _ | exact LiveS.sla (by assumption)) (by first | assumption | exact hp | (simp only [Int.toNat_natCast]; assumption)) (by omega) rfl rfl rfl rfl ?_
                  | refine RO.ldA rfl rfl rfl (by first | assumption | exact hp | (simp only [Int.toNat_natCast]; assumption)) rfl rfl rfl (by first | rfl | (refine or_r ?_; repeat first | exact okR_nil | refine okR_bit rfl ?_ | refine okR_ld rfl ?_ | refine okR_rd ?_)) ?_
                  | refine RO.ldF rfl rfl rfl (by first | assumption | exact hp | (simp only [Int.toNat_natCast]; assumption)) rfl rfl rfl (by first | rfl | (refine or_r ?_; repeat first | exact okR_nil | refine okR_bit rfl ?_ | refine okR_ld rfl ?_ | refine okR_rd ?_)) ?_)
              | (refine RO.loud rfl rfl rfl (by first | rfl | (refine or_r ?_; repeat first | exact okL_nil | refine okL_ld ?_ | refine okL_bit rfl ?_ | refine okL_rd rfl ?_)) ?_; (try dsimp only [St.alloc, Sys.s0, Sys.s1, S0, Nat.reduceAdd]))
              | refine RO.skip rfl ?_))
          | refine RC.skip ?_
          | refine RC.block ?_
          | refine RC.exit ?_
          | refine RC.condT rfl ?_
          | refine RC.condF rfl ?_
          | refine RC.cond _ rfl (fun hb => ?_) (fun hb => ?_)
          | refine RO.nil ?_
          | (refine RO.gs rfl ?_; first
              | (refine RO.gd isCmpO rfl ?_; first | refine RO.cmp true rfl rfl rfl ?_ | refine RO.cmp false rfl rfl rfl ?_ | refine RO.cmpB rfl rfl rfl (fun hb => ?_) (fun hb => ?_))
              | refine RO.st rfl rfl rfl (by first | rfl | (refine or_r ?_; repeat first | exact okR_nil | refine okR_bit rfl ?_ | refine okR_ld rfl ?_ | refine okR_rd ?_)) ?_
              | refine RO.len rfl rfl rfl rfl (by first | assumption | exact SlA.sl _ | exact LiveS.sla (by assumption)) rfl rfl rfl ?_
              | refine RO.idx rfl rfl rfl rfl (by first | assumption | exact SlA.sl _ | exact LiveS.sla (by assumption)) (by first | assumption | exact hp | (simp only [Int.toNat_natCast]; assumption)) (by omega) rfl rfl rfl rfl ?_
              | refine RO.ldA rfl rfl rfl (by first | assumption | exact hp | (simp only [Int.toNat_natCast]; assumption)) rfl rfl rfl (by first | rfl | (refine or_r ?_; repeat first | exact okR_nil | refine okR_bit rfl ?_ | refine okR_ld rfl ?_ | refine okR_rd ?_)) ?_
              | refine RO.ldF rfl rfl rfl (by first | assumption | exact hp | (simp only [Int.toNat_natCast]; assumption)) rfl rfl rfl (by first | rfl | (refine or_r ?_; repeat first | exact okR_nil | refine okR_bit rfl ?_ | refine okR_ld rfl ?_ | refine okR_rd ?_)) ?_)
          | (refine RO.loud rfl rfl rfl (by first | rfl | (refine or_r ?_; repeat first | exact okL_nil | refine okL_ld ?_ | refine okL_bit rfl ?_ | refine okL_rd rfl ?_)) ?_; (try dsimp only [St.alloc, Sys.s0, Sys.s1, S0, Nat.reduceAdd]))
          | refine RO.skip rfl ?_
          | refine RC.ret ⟨_, rfl, ?_⟩))
      · rename_i ka xa hxa ka0 ka1 kb xb hxb kb0 kb1
        exact ⟨[x2, .int .i64 (n + 1 + 1 + 1 + 1)], .ret (.agg [.int .i64 0, .int .i64 _, .str (nm []), .nils]), [deaden x2, .int .i64 (n + 1 + 1 + 1 + 1)], rfl, ⟨_, pure_RV (a := .agg [.int .i64 0, .int .i64 _, .str (nm []), .nils]) rfl, rfl⟩, pure_RVs (a := [x2, .int .i64 (n + 1 + 1 + 1 + 1)]) (by simp [pureVs, pureV, hx2.pure]), _, _, _, _, .mk 0 _ (nm []) [], _, _, rfl, rfl, rfl, ⟨rfl, .inl ⟨rfl, wf_i64 (by omega) (by omega), rfl⟩⟩, hx2.dead, by omega, by omega⟩
      · rename_i ka xa hxa ka0 ka1 kb xb hxb kb0 kb1
        have hwr : IntKind.i64.wrap (kb - 50) = kb - 50 := wrap_ok (by omega) (by omega)
        exact ⟨[x2, .int .i64 (n + 1 + 1 + 1 + 1)], .ret (.agg [.int .i64 0, .int .i64 _, .str (nm []), .nils]), [deaden x2, .int .i64 (n + 1 + 1 + 1 + 1)], rfl, ⟨_, pure_RV (a := .agg [.int .i64 0, .int .i64 _, .str (nm []), .nils]) rfl, rfl⟩, pure_RVs (a := [x2, .int .i64 (n + 1 + 1 + 1 + 1)]) (by simp [pureVs, pureV, hx2.pure]), _, _, _, _, .mk 0 _ (nm []) [], _, _, rfl, rfl, rfl, ⟨rfl, .inl ⟨rfl, wf_i64 (by rw [hwr]; omega) (by rw [hwr]; omega), rfl⟩⟩, hx2.dead, by omega, by omega⟩
      · exact ⟨[x2, .int .i64 (n + 1 + 1 + 1 + 1)], .ret (.agg [.int .i64 0, .int .i64 _, .str (nm []), .nils]), [deaden x2, .int .i64 (n + 1 + 1 + 1 + 1)], rfl, ⟨_, pure_RV (a := .agg [.int .i64 0, .int .i64 _, .str (nm []), .nils]) rfl, rfl⟩, pure_RVs (a := [x2, .int .i64 (n + 1 + 1 + 1 + 1)]) (by simp [pureVs, pureV, hx2.pure]), _, _, _, _, .mk 0 _ (nm []) [], _, _, rfl, rfl, rfl, ⟨rfl, .inl ⟨rfl, wf_i64 (by omega) (by omega), rfl⟩⟩, hx2.dead, by omega, by omega⟩
      · exact ⟨[x2, .int .i64 (n + 1 + 1 + 1 + 1)], .ret (.agg [.int .i64 0, .int .i64 _, .str (nm []), .nils]), [deaden x2, .int .i64 (n + 1 + 1 + 1 + 1)], rfl, ⟨_, pure_RV (a := .agg [.int .i64 0, .int .i64 _, .str (nm []), .nils]) rfl, rfl⟩, pure_RVs (a := [x2, .int .i64 (n + 1 + 1 + 1 + 1)]) (by simp [pureVs, pureV, hx2.pure]), _, _, _, _, .mk 0 _ (nm []) [], _, _, rfl, rfl, rfl, ⟨rfl, .inl ⟨rfl, wf_i64 (by omega) (by omega), rfl⟩⟩, hx2.dead, by omega, by omega⟩)
    · exact ⟨[x2, .int .i64 (n + 1 + 1)], .ret (.agg [.int .i64 1, .int .i64 k, .str (nm []), .nils]), [deaden x2, .int .i64 (n + 1 + 1)], rfl, ⟨_, pure_RV (a := .agg [.int .i64 1, .int .i64 k, .str (nm []), .nils]) rfl, rfl⟩, pure_RVs (a := [x2, .int .i64 (n + 1 + 1)]) (by simp [pureVs, pureV, hx2.pure]), _, _, _, _, .mk 1 k (nm []) [], _, _, rfl, rfl, rfl, ⟨rfl, .inr (.inl ⟨rfl, k0, k1, rfl⟩)⟩, hx2.dead, by omega, by omega⟩
    · exact ⟨[x2, .int .i64 (n + 1 + 1)], .ret (.agg [.int .i64 3, .int .i64 0, .str z, .nils]), [deaden x2, .int .i64 (n + 1 + 1)], rfl, ⟨_, pure_RV (a := .agg [.int .i64 3, .int .i64 0, .str z, .nils]) rfl, rfl⟩, pure_RVs (a := [x2, .int .i64 (n + 1 + 1)]) (by simp [pureVs, pureV, hx2.pure]), _, _, _, _, .mk 3 0 z [], _, _, rfl, rfl, rfl, ⟨rfl, .inr (.inr ⟨rfl, rfl, hz⟩)⟩, hx2.dead, by omega, by omega⟩
    all_goals try (exfalso; simp only [decide_eq_true_eq, decide_eq_false_iff_not, beq_iff_eq, bne_iff_ne, ne_eq, beq_eq_false_iff_ne, bne_eq_false_iff_eq, Decidable.not_not, Int.not_lt, Int.not_le, gt_iff_lt, ge_iff_le] at *; omega)
  | succ d ih =>
    intro hd s b x l n R hb hx h0 h1 hR
    have hc := cst_pos d
    have hc1 : cst (d + 1) = 6 + 3 * cst d := rfl
    refine (CallsTo.frame1 (Q := fun r cs => ∃ c0 c1 c2 c3 w x' n', r = .ret (.agg [c0, c1, c2, c3]) ∧ cs = [x', .int .i64 n'] ∧ decV (.agg [c0, c1, c2, c3]) = some w ∧ genV (d + 1) w ∧ GB x' l ∧ n ≤ n' ∧ n' ≤ n + cst (d + 1)) (S := SV ρ) (args := [.ptr b 0, .int .i64 ((d + 1) : Nat)]) (args0 := [.ptr 6 0, .int .i64 ((d + 1) : Nat)]) (cs0 := [deaden x, .int .i64 n]) sok hb
      ⟨_, _, ⟨6, inB_own (S := SV ρ) b, rfl⟩, ⟨_, _, rfl, rfl, rfl⟩, rfl⟩ (pure_RVs (a := [x, .int .i64 n]) (by simp [pureVs, pureV, hx.pure])) ?_).mono (by rintro r s' ⟨cs', rfl, c0, c1, c2, c3, w, x', n', rfl, rfl, h2, h4, h5, h6, h7⟩; exact hR c0 c1 c2 c3 w x' n' h2 h4 h5 h6 h7)
    have hy := hx.dead
    generalize deaden x = y at *
    refine CallsTo.run (fn := mkF Tryz.f41 [] none) sok rfl ?_
    show RC (SV ρ) _ _ _ ⟨YtmbkcjnjjlkidaaGreatDoor.heap0.set 6 (.cells [y, .int .i64 n] false), 7, .nil, 0⟩ _
    repeat' (first
      | refine RC.seq ?_
      | (refine RC.region sok ?_; repeat' (first
          | refine RO.nil ?_
          | (refine RO.gs rfl ?_; first
              | (refine RO.gd isCmpO rfl ?_; first | refine RO.cmp true rfl rfl rfl ?_ | refine RO.cmp false rfl rfl rfl ?_ | refine RO.cmpB rfl rfl rfl (fun hb => ?_) (fun hb => ?_))
              | refine RO.st rfl rfl rfl (by first | rfl | (refine or_r ?_; repeat first | exact okR_nil | refine okR_bit rfl ?_ | refine okR_ld rfl ?_ | refine okR_rd ?_)) ?_
              | refine RO.len rfl rfl rfl rfl (by first | assumption | exact SlA.sl _ | exact LiveS.sla (by assumption)) rfl rfl rfl ?_
              | refine RO.idx rfl rfl rfl rfl (by first | assumption | exact SlA.sl _ | exact LiveS.sla (by assumption)) (by first | assumption | exact hp | (simp only [Int.toNat_natCast]; assumption)) (by omega) rfl rfl rfl rfl ?_
              | refine RO.ldA rfl rfl rfl (by first | assumption | exact hp | (simp only [Int.toNat_natCast]; assumption)) rfl rfl rfl (by first | rfl | (refine or_r ?_; repeat first | exact okR_nil | refine okR_bit rfl ?_ | refine okR_ld rfl ?_ | refine okR_rd ?_)) ?_
              | refine RO.ldF rfl rfl rfl (by first | assumption | exact hp | (simp only [Int.toNat_natCast]; assumption)) rfl rfl rfl (by first | rfl | (refine or_r ?_; repeat first | exact okR_nil | refine okR_bit rfl ?_ | refine okR_ld rfl ?_ | refine okR_rd ?_)) ?_)
          | (refine RO.gd isCallF rfl ?_; first
              | (refine RO.call rfl rfl rfl rfl rfl (nextS_c [nm [76, 101, 97, 102], nm [65], nm [69, 109, 112, 116, 121], nm [66, 95, 50]] rfl rfl (by assumption) (by omega) (by omega) (by omega) (by omega) (fun k x2 z hx2 k0 k1 hz hp => ⟨(by first | rfl | (refine or_r ?_; repeat first | exact okL_nil | refine okL_ld ?_ | refine okL_bit rfl ?_ | refine okL_rd rfl ?_)), ?_⟩)); (try dsimp only [St.alloc, Sys.s0, Sys.s1, S0, Nat.reduceAdd]))
              | (refine RO.call rfl rfl rfl rfl rfl (nextS_c [nm [70, 111, 114, 107], nm [65], nm [90, 122]] rfl rfl (by assumption) (by omega) (by omega) (by omega) (by omega) (fun k x2 z hx2 k0 k1 hz hp => ⟨(by first | rfl | (refine or_r ?_; repeat first | exact okL_nil | refine okL_ld ?_ | refine okL_bit rfl ?_ | refine okL_rd rfl ?_)), ?_⟩)); (try dsimp only [St.alloc, Sys.s0, Sys.s1, S0, Nat.reduceAdd]))
              | (refine RO.call rfl rfl rfl rfl rfl (nextI_c [0, 0, 0, 1, 1, 2, 3] rfl rfl (by assumption) (by omega) (by omega) (by omega) (by omega) (fun k x2 z hx2 k0 k1 hkm hz hp => ⟨(by first | rfl | (refine or_r ?_; repeat first | exact okL_nil | refine okL_ld ?_ | refine okL_bit rfl ?_ | refine okL_rd rfl ?_)), ?_⟩)); (try dsimp only [St.alloc, Sys.s0, Sys.s1, S0, Nat.reduceAdd]))
              | (refine RO.call rfl rfl rfl rfl rfl (next_c rfl (by assumption) (by omega) (by omega) (by omega) (by omega) (fun k x2 hx2 k0 k1 => ⟨(by first | rfl | (refine or_r ?_; repeat first | exact okL_nil | refine okL_ld ?_ | refine okL_bit rfl ?_ | refine okL_rd rfl ?_)), ?_⟩)); (try dsimp only [St.alloc, Sys.s0, Sys.s1, S0, Nat.reduceAdd])))
          | (refine RO.loud rfl rfl rfl (by first | rfl | (refine or_r ?_; repeat first | exact okL_nil | refine okL_ld ?_ | refine okL_bit rfl ?_ | refine okL_rd rfl ?_)) ?_; (try dsimp only [St.alloc, Sys.s0, Sys.s1, S0, Nat.reduceAdd]))
          | refine RO.skip rfl ?_))
      | refine RC.skip ?_
      | refine RC.block ?_
      | refine RC.exit ?_
      | refine RC.condT rfl ?_
      | refine RC.condF rfl ?_
      | refine RC.cond _ rfl (fun hb => ?_) (fun hb => ?_)
      | refine RC.ret ⟨_, rfl, ?_⟩)
    iterate 2 (focus
      have hz' : z = 0 ∨ z = 1 ∨ z = 2 ∨ z = 3 := by
        simp only [List.mem_cons, List.not_mem_nil, or_false] at hz; omega
      rcases hz' with rfl | rfl | rfl | rfl
      all_goals (
        repeat' (first
          | refine RC.seq ?_
          | (refine RC.region sok ?_; repeat' (first
              | refine RO.nil ?_
              | (refine RO.gs rfl ?_; first
                  | (refine RO.gd isCmpO rfl ?_; first | refine RO.cmp true rfl rfl rfl ?_ | refine RO.cmp false rfl rfl rfl ?_ | refine RO.cmpB rfl rfl rfl (fun hb => ?_) (fun hb => ?_))
                  | refine RO.st rfl rfl rfl (by first | rfl | (refine or_r ?_; repeat first | exact okR_nil | refine okR_bit rfl ?_ | refine okR_ld rfl ?_ | refine okR_rd ?_)) ?_
                  | refine RO.len rfl rfl rfl rfl (by first | assumption | exact SlA.sl _ | exact LiveS.sla (by assumption)) rfl rfl rfl ?_
                  | refine RO.idx rfl rfl rfl rfl (by first | assumption | exact SlA.sl _ | exact LiveS.sla (by assumption)) (by first | assumption | exact hp | (simp only [Int.toNat_natCast]; assumption)) (by omega) rfl rfl rfl rfl ?_
                  | refine RO.ldA rfl rfl rfl (by first | assumption | exact hp | (simp only [Int.toNat_natCast]; assumption)) rfl rfl rfl (by first | rfl | (refine or_r ?_; repeat first | exact okR_nil | refine okR_bit rfl ?_ | refine okR_ld rfl ?_ | refine okR_rd ?_)) ?_
                  | refine RO.ldF rfl rfl rfl (by first | assumption | exact hp | (simp only [Int.toNat_natCast]; assumption)) rfl rfl rfl (by first | rfl | (refine or_r ?_; repeat first | exact okR_nil | refine okR_bit rfl ?_ | refine okR_ld rfl ?_ | refine okR_rd ?_)) ?_)
              | (refine RO.loud rfl rfl rfl (by first | rfl | (refine or_r ?_; repeat first | exact okL_nil | refine okL_ld ?_ | refine okL_bit rfl ?_ | refine okL_rd rfl ?_)) ?_; (try dsimp only [St.alloc, Sys.s0, Sys.s1, S0, Nat.reduceAdd]))
              | refine RO.skip rfl ?_))
          | refine RC.skip ?_
          | refine RC.block ?_
          | refine RC.exit ?_
          | refine RC.condT rfl ?_
          | refine RC.condF rfl ?_
          | refine RC.cond _ rfl (fun hb => ?_) (fun hb => ?_)
          | refine RO.nil ?_
          | (refine RO.gs rfl ?_; first
              | (refine RO.gd isCmpO rfl ?_; first | refine RO.cmp true rfl rfl rfl ?_ | refine RO.cmp false rfl rfl rfl ?_ | refine RO.cmpB rfl rfl rfl (fun hb => ?_) (fun hb => ?_))
              | refine RO.st rfl rfl rfl (by first | rfl | (refine or_r ?_; repeat first | exact okR_nil | refine okR_bit rfl ?_ | refine okR_ld rfl ?_ | refine okR_rd ?_)) ?_
              | refine RO.len rfl rfl rfl rfl (by first | assumption | exact SlA.sl _ | exact LiveS.sla (by assumption)) rfl rfl rfl ?_
              | refine RO.idx rfl rfl rfl rfl (by first | assumption | exact SlA.sl _ | exact LiveS.sla (by assumption)) (by first | assumption | exact hp | (simp only [Int.toNat_natCast]; assumption)) (by omega) rfl rfl rfl rfl ?_
              | refine RO.ldA rfl rfl rfl (by first | assumption | exact hp | (simp only [Int.toNat_natCast]; assumption)) rfl rfl rfl (by first | rfl | (refine or_r ?_; repeat first | exact okR_nil | refine okR_bit rfl ?_ | refine okR_ld rfl ?_ | refine okR_rd ?_)) ?_
              | refine RO.ldF rfl rfl rfl (by first | assumption | exact hp | (simp only [Int.toNat_natCast]; assumption)) rfl rfl rfl (by first | rfl | (refine or_r ?_; repeat first | exact okR_nil | refine okR_bit rfl ?_ | refine okR_ld rfl ?_ | refine okR_rd ?_)) ?_)
          | (refine RO.loud rfl rfl rfl (by first | rfl | (refine or_r ?_; repeat first | exact okL_nil | refine okL_ld ?_ | refine okL_bit rfl ?_ | refine okL_rd rfl ?_)) ?_; (try dsimp only [St.alloc, Sys.s0, Sys.s1, S0, Nat.reduceAdd]))
          | refine RO.skip rfl ?_
          | refine RC.ret ⟨_, rfl, ?_⟩))
      · rename_i ka xa hxa ka0 ka1 kb xb hxb kb0 kb1
        exact ⟨[x2, .int .i64 (n + 1 + 1 + 1 + 1)], .ret (.agg [.int .i64 0, .int .i64 _, .str (nm []), .nils]), [deaden x2, .int .i64 (n + 1 + 1 + 1 + 1)], rfl, ⟨_, pure_RV (a := .agg [.int .i64 0, .int .i64 _, .str (nm []), .nils]) rfl, rfl⟩, pure_RVs (a := [x2, .int .i64 (n + 1 + 1 + 1 + 1)]) (by simp [pureVs, pureV, hx2.pure]), _, _, _, _, .mk 0 _ (nm []) [], _, _, rfl, rfl, rfl, .inl ⟨rfl, .inl ⟨rfl, wf_i64 (by omega) (by omega), rfl⟩⟩, hx2.dead, by omega, by omega⟩
      · rename_i ka xa hxa ka0 ka1 kb xb hxb kb0 kb1
        have hwr : IntKind.i64.wrap (kb - 50) = kb - 50 := wrap_ok (by omega) (by omega)
        exact ⟨[x2, .int .i64 (n + 1 + 1 + 1 + 1)], .ret (.agg [.int .i64 0, .int .i64 _, .str (nm []), .nils]), [deaden x2, .int .i64 (n + 1 + 1 + 1 + 1)], rfl, ⟨_, pure_RV (a := .agg [.int .i64 0, .int .i64 _, .str (nm []), .nils]) rfl, rfl⟩, pure_RVs (a := [x2, .int .i64 (n + 1 + 1 + 1 + 1)]) (by simp [pureVs, pureV, hx2.pure]), _, _, _, _, .mk 0 _ (nm []) [], _, _, rfl, rfl, rfl, .inl ⟨rfl, .inl ⟨rfl, wf_i64 (by rw [hwr]; omega) (by rw [hwr]; omega), rfl⟩⟩, hx2.dead, by omega, by omega⟩
      · exact ⟨[x2, .int .i64 (n + 1 + 1 + 1 + 1)], .ret (.agg [.int .i64 0, .int .i64 _, .str (nm []), .nils]), [deaden x2, .int .i64 (n + 1 + 1 + 1 + 1)], rfl, ⟨_, pure_RV (a := .agg [.int .i64 0, .int .i64 _, .str (nm []), .nils]) rfl, rfl⟩, pure_RVs (a := [x2, .int .i64 (n + 1 + 1 + 1 + 1)]) (by simp [pureVs, pureV, hx2.pure]), _, _, _, _, .mk 0 _ (nm []) [], _, _, rfl, rfl, rfl, .inl ⟨rfl, .inl ⟨rfl, wf_i64 (by omega) (by omega), rfl⟩⟩, hx2.dead, by omega, by omega⟩
      · exact ⟨[x2, .int .i64 (n + 1 + 1 + 1 + 1)], .ret (.agg [.int .i64 0, .int .i64 _, .str (nm []), .nils]), [deaden x2, .int .i64 (n + 1 + 1 + 1 + 1)], rfl, ⟨_, pure_RV (a := .agg [.int .i64 0, .int .i64 _, .str (nm []), .nils]) rfl, rfl⟩, pure_RVs (a := [x2, .int .i64 (n + 1 + 1 + 1 + 1)]) (by simp [pureVs, pureV, hx2.pure]), _, _, _, _, .mk 0 _ (nm []) [], _, _, rfl, rfl, rfl, .inl ⟨rfl, .inl ⟨rfl, wf_i64 (by omega) (by omega), rfl⟩⟩, hx2.dead, by omega, by omega⟩)
    · exact ⟨[x2, .int .i64 (n + 1 + 1)], .ret (.agg [.int .i64 1, .int .i64 k, .str (nm []), .nils]), [deaden x2, .int .i64 (n + 1 + 1)], rfl, ⟨_, pure_RV (a := .agg [.int .i64 1, .int .i64 k, .str (nm []), .nils]) rfl, rfl⟩, pure_RVs (a := [x2, .int .i64 (n + 1 + 1)]) (by simp [pureVs, pureV, hx2.pure]), _, _, _, _, .mk 1 k (nm []) [], _, _, rfl, rfl, rfl, .inl ⟨rfl, .inr (.inl ⟨rfl, k0, k1, rfl⟩)⟩, hx2.dead, by omega, by omega⟩
    · exact ⟨[x2, .int .i64 (n + 1 + 1)], .ret (.agg [.int .i64 3, .int .i64 0, .str z, .nils]), [deaden x2, .int .i64 (n + 1 + 1)], rfl, ⟨_, pure_RV (a := .agg [.int .i64 3, .int .i64 0, .str z, .nils]) rfl, rfl⟩, pure_RVs (a := [x2, .int .i64 (n + 1 + 1)]) (by simp [pureVs, pureV, hx2.pure]), _, _, _, _, .mk 3 0 z [], _, _, rfl, rfl, rfl, .inl ⟨rfl, .inr (.inr ⟨rfl, rfl, hz⟩)⟩, hx2.dead, by omega, by omega⟩
    all_goals have hsub : some (AV.int .i64 (IntKind.i64.wrap (((d + 1 : Nat) : Int) - 1))) = some (AV.int .i64 (d : Int)) := (by rw [wrap_ok (by omega) (by omega)]; congr 2; omega)
    · rename_i kf xf zf hxf kf0 kf1 hzf hpf
      refine RC.loop (fun q e st => ∃ (i : Nat) (x3 : AV) (n3 : Int) (kids : AV) (xs : List AV) (ws : List V) (lv : Tr Bool) (nt : Nat), q = k.toNat - i ∧ i ≤ k.toNat ∧ GB x3 l ∧ n ≤ n3 ∧ n3 ≤ n + 3 + (i : Int) * cst d ∧ LiveT lv nt kids xs ∧ decVs xs = some ws ∧ ws.length = i ∧ (∀ w ∈ ws, genV d w) ∧
        st = ⟨((YtmbkcjnjjlkidaaGreatDoor.heap0.set 6 (.cells [x3, .int .i64 n3] false)).set 7 (.cells [.int .i64 0, .int .i64 0, .str ⟨#[]⟩, .nils] false)).set 8 (.cells [.int .i64 3, .int .i64 0, .str zf, kids] false), 9, lv, nt⟩ ∧ e = Tr.ofList [(0, .ptr 6 0), (1, .int .i64 (d + 1 : Nat)), (4, .ptr 7 0), (6, .ptr 8 0), (7, .int .i64 k), (8, .int .i64 i)]) ?_ k.toNat _
        ⟨0, x2, _, .nils, [], [], .nil, 0, rfl, Nat.zero_le _, hx2, by omega, (by simp <;> omega), LiveT.nil, rfl, rfl, by simp, rfl, rfl⟩ (sub_of ⟨rfl, rfl, rfl, rfl, rfl, rfl, trivial⟩)
      rintro q e st ⟨i, x3, n3, kids, xs, ws, lv, nt, rfl, hi, hx3, h3a, h3b, hk, hxs, hws, hgen, rfl, rfl⟩
      have hlx := decs_length hxs
      have hflat : isFlat kids = true := hk.sla.flat
      by_cases hlt : i < k.toNat
      · have hci : (i : Int) * cst d ≤ 2 * cst d := Int.mul_le_mul_of_nonneg_right (by omega) (by omega)
        have hcs : ((i + 1 : Nat) : Int) * cst d = (i : Int) * cst d + cst d := by
          rw [show ((i + 1 : Nat) : Int) = (i : Int) + 1 by omega, Int.add_mul, Int.one_mul]
        have hw : IntKind.i64.wrap ((i : Int) + 1) = ((i + 1 : Nat) : Int) := by rw [wrap_ok (by omega) (by omega)]; rfl
        repeat' (first
          | refine RC.seq ?_
          | (refine RC.region sok ?_; repeat' (first
              | refine RO.nil ?_
              | (refine RO.gs rfl ?_; first
                  | (refine RO.gd isCmpO rfl ?_; first | refine RO.cmp true rfl rfl rfl ?_ | refine RO.cmp false rfl rfl rfl ?_ | refine RO.cmpB rfl rfl rfl (fun hb => ?_) (fun hb => ?_))
                  | refine RO.st rfl rfl (hsub) (by first | rfl | (refine or_r ?_; repeat first | exact okR_nil | refine okR_bit rfl ?_ | refine okR_ld rfl ?_ | refine okR_rd ?_)) ?_
                  | refine RO.st rfl rfl rfl (by first | rfl | (refine or_r ?_; repeat first | exact okR_nil | refine okR_bit rfl ?_ | refine okR_ld rfl ?_ | refine okR_rd ?_)) ?_
                  | refine RO.len rfl rfl rfl rfl (by first | assumption | exact SlA.sl _ | exact LiveS.sla (by assumption)) rfl rfl rfl ?_
                  | refine RO.idx rfl rfl rfl rfl (by first | assumption | exact SlA.sl _ | exact LiveS.sla (by assumption)) (by first | assumption | exact hp | (simp only [Int.toNat_natCast]; assumption)) (by omega) rfl rfl rfl rfl ?_
                  | refine RO.ldA rfl rfl rfl (by first | assumption | exact hp | (simp only [Int.toNat_natCast]; assumption)) rfl rfl rfl (by first | rfl | (refine or_r ?_; repeat first | exact okR_nil | refine okR_bit rfl ?_ | refine okR_ld rfl ?_ | refine okR_rd ?_)) ?_
                  | refine RO.ldF rfl rfl rfl (by first | assumption | exact hp | (simp only [Int.toNat_natCast]; assumption)) rfl rfl rfl (by first | rfl | (refine or_r ?_; repeat first | exact okR_nil | refine okR_bit rfl ?_ | refine okR_ld rfl ?_ | refine okR_rd ?_)) ?_)
              | refine RO.append rfl rfl rfl rfl rfl rfl rfl rfl rfl rfl rfl (by decide) (by decide) rfl (List.cons_ne_nil _ _) (show (List.flatMap cellsOf [AV.agg [c0, c1, c2, c3]]).all isFlat = true by simpa [cellsOf] using dec_flat2 hv) hk (decs_cells hxs) (by show xs.length + 1 ≤ _; omega) (fun _ => (by first | rfl | (refine or_r ?_; repeat first | exact okL_nil | refine okL_ld ?_ | refine okL_bit rfl ?_ | refine okL_rd rfl ?_))) (fun L hL hkp => ?_)
              | (refine RO.gd isCallF rfl ?_; first
                  | (refine RO.call rfl rfl rfl rfl rfl (ih (by omega) rfl hx3 (by omega) (by omega) (fun c0 c1 c2 c3 w x4 n4 hv hg hx4 h5 h6 => ⟨(by first | rfl | (refine or_r ?_; repeat first | exact okL_nil | refine okL_ld ?_ | refine okL_bit rfl ?_ | refine okL_rd rfl ?_)), ?_⟩)); (try dsimp only [St.alloc, Sys.s0, Sys.s1, S0, Nat.reduceAdd])))
              | (refine RO.loud rfl rfl rfl (by first | rfl | (refine or_r ?_; repeat first | exact okL_nil | refine okL_ld ?_ | refine okL_bit rfl ?_ | refine okL_rd rfl ?_)) ?_; (try dsimp only [St.alloc, Sys.s0, Sys.s1, S0, Nat.reduceAdd]))
              | refine RO.skip rfl ?_))
          | refine RC.skip ?_
          | refine RC.block ?_
          | refine RC.exit ?_
          | refine RC.condT rfl ?_
          | refine RC.condF rfl ?_
          | refine RC.cond _ rfl (fun hb => ?_) (fun hb => ?_)
          | refine RC.ret ⟨_, rfl, ?_⟩)
        all_goals try (exfalso; simp only [decide_eq_true_eq, decide_eq_false_iff_not, beq_iff_eq, bne_iff_ne, ne_eq, beq_eq_false_iff_ne, bne_eq_false_iff_eq, Decidable.not_not, Int.not_lt, Int.not_le, gt_iff_lt, ge_iff_le] at *; omega)

        refine ⟨k.toNat - (i + 1), by omega, Tr.ofList [(0, .ptr 6 0), (1, .int .i64 (d + 1 : Nat)), (4, .ptr 7 0), (6, .ptr 8 0), (7, .int .i64 k), (8, .int .i64 (i + 1 : Nat))], _, .forget (sub_of ⟨rfl, rfl, rfl, rfl, rfl, hw ▸ rfl, trivial⟩), i + 1, x4, n4, _, xs ++ [.agg [c0, c1, c2, c3]], ws ++ [w], L, _, rfl, by omega, hx4, by omega, by rw [hcs]; omega, hL, decs_snoc hxs hv, by simp [hws], fun w' hw' => ?_, rfl, rfl⟩
        rcases List.mem_append.1 hw' with h | h
        · exact hgen _ h
        · rw [List.mem_singleton] at h; rw [h]; exact hg
      · have hci : (i : Int) * cst d ≤ 3 * cst d := Int.mul_le_mul_of_nonneg_right (by omega) (by omega)
        repeat' (first
          | refine RC.seq ?_
          | (refine RC.region sok ?_; repeat' (first
              | refine RO.nil ?_
              | (refine RO.gs rfl ?_; first
                  | (refine RO.gd isCmpO rfl ?_; first | refine RO.cmp true rfl rfl rfl ?_ | refine RO.cmp false rfl rfl rfl ?_ | refine RO.cmpB rfl rfl rfl (fun hb => ?_) (fun hb => ?_))
                  | refine RO.st rfl rfl rfl (by first | rfl | (refine or_r ?_; repeat first | exact okR_nil | refine okR_bit rfl ?_ | refine okR_ld rfl ?_ | refine okR_rd ?_)) ?_
                  | refine RO.len rfl rfl rfl rfl (by first | assumption | exact SlA.sl _ | exact LiveS.sla (by assumption)) rfl rfl rfl ?_
                  | refine RO.idx rfl rfl rfl rfl (by first | assumption | exact SlA.sl _ | exact LiveS.sla (by assumption)) (by first | assumption | exact hp | (simp only [Int.toNat_natCast]; assumption)) (by omega) rfl rfl rfl rfl ?_
                  | refine RO.ldA rfl rfl rfl (by first | assumption | exact hp | (simp only [Int.toNat_natCast]; assumption)) rfl rfl rfl (by first | rfl | (refine or_r ?_; repeat first | exact okR_nil | refine okR_bit rfl ?_ | refine okR_ld rfl ?_ | refine okR_rd ?_)) ?_
                  | refine RO.ldF rfl rfl rfl (by first | assumption | exact hp | (simp only [Int.toNat_natCast]; assumption)) rfl rfl rfl (by first | rfl | (refine or_r ?_; repeat first | exact okR_nil | refine okR_bit rfl ?_ | refine okR_ld rfl ?_ | refine okR_rd ?_)) ?_)
              | (refine RO.loud rfl rfl rfl (by first | rfl | (refine or_r ?_; repeat first | exact okL_nil | refine okL_ld ?_ | refine okL_bit rfl ?_ | refine okL_rd rfl ?_)) ?_; (try dsimp only [St.alloc, Sys.s0, Sys.s1, S0, Nat.reduceAdd]))
              | (refine RO.loud rfl rfl (loud_store rfl rfl rfl (store_agg rfl rfl rfl rfl (show ([_, _, _, kids] : List AV).all isFlat = true by simp only [List.all_cons, hflat]; rfl))) (by first | rfl | (refine or_r ?_; repeat first | exact okL_nil | refine okL_ld ?_ | refine okL_bit rfl ?_ | refine okL_rd rfl ?_)) ?_; (try dsimp only [St.alloc, Sys.s0, Sys.s1, S0, Nat.reduceAdd]))
              | refine RO.skip rfl ?_))
          | refine RC.skip ?_
          | refine RC.block ?_
          | refine RC.exit ?_
          | refine RC.condT rfl ?_
          | refine RC.condF rfl ?_
          | refine RC.cond _ rfl (fun hb => ?_) (fun hb => ?_)
          | refine RC.ret ⟨_, rfl, ?_⟩)
        all_goals try (exfalso; simp only [decide_eq_true_eq, decide_eq_false_iff_not, beq_iff_eq, bne_iff_ne, ne_eq, beq_eq_false_iff_ne, bne_eq_false_iff_eq, Decidable.not_not, Int.not_lt, Int.not_le, gt_iff_lt, ge_iff_le] at *; omega)

        exact ⟨[x3, .int .i64 n3], .ret (.agg [.int .i64 3, .int .i64 0, .str zf, deaden kids]), [deaden x3, .int .i64 n3], rfl, ⟨_, pure_RV (a := .agg [.int .i64 3, .int .i64 0, .str zf, kids]) (by simp [pureV, pureVs, hk.sla.pure (decs_pure hxs)]), rfl⟩, pure_RVs (a := [x3, .int .i64 n3]) (by simp [pureVs, pureV, hx3.pure]), _, _, _, _, .mk 3 0 zf ws, _, _, rfl, rfl, dec_mk hk.sla.deaden (decs_dead hxs) (by rw [deadens_length]; omega), .inr ⟨rfl, by omega, hgen, .inr ⟨rfl, hzf⟩⟩, hx3.dead, by omega, by omega⟩
    · refine RC.loop (fun q e st => ∃ (i : Nat) (x3 : AV) (n3 : Int) (kids : AV) (xs : List AV) (ws : List V) (lv : Tr Bool) (nt : Nat), q = k.toNat - i ∧ i ≤ k.toNat ∧ GB x3 l ∧ n ≤ n3 ∧ n3 ≤ n + 3 + (i : Int) * cst d ∧ LiveT lv nt kids xs ∧ decVs xs = some ws ∧ ws.length = i ∧ (∀ w ∈ ws, genV d w) ∧
        st = ⟨((YtmbkcjnjjlkidaaGreatDoor.heap0.set 6 (.cells [x3, .int .i64 n3] false)).set 7 (.cells [.int .i64 0, .int .i64 0, .str ⟨#[]⟩, .nils] false)).set 8 (.cells [.int .i64 2, .int .i64 0, .str (nm []), kids] false), 9, lv, nt⟩ ∧ e = Tr.ofList [(0, .ptr 6 0), (1, .int .i64 (d + 1 : Nat)), (4, .ptr 7 0), (6, .ptr 8 0), (7, .int .i64 k), (8, .int .i64 i)]) ?_ k.toNat _
        ⟨0, x2, _, .nils, [], [], .nil, 0, rfl, Nat.zero_le _, hx2, by omega, (by simp <;> omega), LiveT.nil, rfl, rfl, by simp, rfl, rfl⟩ (sub_of ⟨rfl, rfl, rfl, rfl, rfl, rfl, trivial⟩)
      rintro q e st ⟨i, x3, n3, kids, xs, ws, lv, nt, rfl, hi, hx3, h3a, h3b, hk, hxs, hws, hgen, rfl, rfl⟩
      have hlx := decs_length hxs
      have hflat : isFlat kids = true := hk.sla.flat
      by_cases hlt : i < k.toNat
      · have hci : (i : Int) * cst d ≤ 2 * cst d := Int.mul_le_mul_of_nonneg_right (by omega) (by omega)
        have hcs : ((i + 1 : Nat) : Int) * cst d = (i : Int) * cst d + cst d := by
          rw [show ((i + 1 : Nat) : Int) = (i : Int) + 1 by omega, Int.add_mul, Int.one_mul]
        have hw : IntKind.i64.wrap ((i : Int) + 1) = ((i + 1 : Nat) : Int) := by rw [wrap_ok (by omega) (by omega)]; rfl
        repeat' (first
          | refine RC.seq ?_
          | (refine RC.region sok ?_; repeat' (first
              | refine RO.nil ?_
              | (refine RO.gs rfl ?_; first
                  | (refine RO.gd isCmpO rfl ?_; first | refine RO.cmp true rfl rfl rfl ?_ | refine RO.cmp false rfl rfl rfl ?_ | refine RO.cmpB rfl rfl rfl (fun hb => ?_) (fun hb => ?_))
                  | refine RO.st rfl rfl (hsub) (by first | rfl | (refine or_r ?_; repeat first | exact okR_nil | refine okR_bit rfl ?_ | refine okR_ld rfl ?_ | refine okR_rd ?_)) ?_
                  | refine RO.st rfl rfl rfl (by first | rfl | (refine or_r ?_; repeat first | exact okR_nil | refine okR_bit rfl ?_ | refine okR_ld rfl ?_ | refine okR_rd ?_)) ?_
                  | refine RO.len rfl rfl rfl rfl (by first | assumption | exact SlA.sl _ | exact LiveS.sla (by assumption)) rfl rfl rfl ?_
                  | refine RO.idx rfl rfl rfl rfl (by first | assumption | exact SlA.sl _ | exact LiveS.sla (by assumption)) (by first | assumption | exact hp | (simp only [Int.toNat_natCast]; assumption)) (by omega) rfl rfl rfl rfl ?_
                  | refine RO.ldA rfl rfl rfl (by first | assumption | exact hp | (simp only [Int.toNat_natCast]; assumption)) rfl rfl rfl (by first | rfl | (refine or_r ?_; repeat first | exact okR_nil | refine okR_bit rfl ?_ | refine okR_ld rfl ?_ | refine okR_rd ?_)) ?_
                  | refine RO.ldF rfl rfl rfl (by first | assumption | exact hp | (simp only [Int.toNat_natCast]; assumption)) rfl rfl rfl (by first | rfl | (refine or_r ?_; repeat first | exact okR_nil | refine okR_bit rfl ?_ | refine okR_ld rfl ?_ | refine okR_rd ?_)) ?_)
              | refine RO.append rfl rfl rfl rfl rfl rfl rfl rfl rfl rfl rfl (by decide) (by decide) rfl (List.cons_ne_nil _ _) (show (List.flatMap cellsOf [AV.agg [c0, c1, c2, c3]]).all isFlat = true by simpa [cellsOf] using dec_flat2 hv) hk (decs_cells hxs) (by show xs.length + 1 ≤ _; omega) (fun _ => (by first | rfl | (refine or_r ?_; repeat first | exact okL_nil | refine okL_ld ?_ | refine okL_bit rfl ?_ | refine okL_rd rfl ?_))) (fun L hL hkp => ?_)
              | (refine RO.gd isCallF rfl ?_; first
                  | (refine RO.call rfl rfl rfl rfl rfl (ih (by omega) rfl hx3 (by omega) (by omega) (fun c0 c1 c2 c3 w x4 n4 hv hg hx4 h5 h6 => ⟨(by first | rfl | (refine or_r ?_; repeat first | exact okL_nil | refine okL_ld ?_ | refine okL_bit rfl ?_ | refine okL_rd rfl ?_)), ?_⟩)); (try dsimp only [St.alloc, Sys.s0, Sys.s1, S0, Nat.reduceAdd])))
              | (refine RO.loud rfl rfl rfl (by first | rfl | (refine or_r ?_; repeat first | exact okL_nil | refine okL_ld ?_ | refine okL_bit rfl ?_ | refine okL_rd rfl ?_)) ?_; (try dsimp only [St.alloc, Sys.s0, Sys.s1, S0, Nat.reduceAdd]))
              | refine RO.skip rfl ?_))
          | refine RC.skip ?_
          | refine RC.block ?_
          | refine RC.exit ?_
          | refine RC.condT rfl ?_
          | refine RC.condF rfl ?_
          | refine RC.cond _ rfl (fun hb => ?_) (fun hb => ?_)
          | refine RC.ret ⟨_, rfl, ?_⟩)
        all_goals try (exfalso; simp only [decide_eq_true_eq, decide_eq_false_iff_not, beq_iff_eq, bne_iff_ne, ne_eq, beq_eq_false_iff_ne, bne_eq_false_iff_eq, Decidable.not_not, Int.not_lt, Int.not_le, gt_iff_lt, ge_iff_le] at *; omega)

        refine ⟨k.toNat - (i + 1), by omega, Tr.ofList [(0, .ptr 6 0), (1, .int .i64 (d + 1 : Nat)), (4, .ptr 7 0), (6, .ptr 8 0), (7, .int .i64 k), (8, .int .i64 (i + 1 : Nat))], _, .forget (sub_of ⟨rfl, rfl, rfl, rfl, rfl, hw ▸ rfl, trivial⟩), i + 1, x4, n4, _, xs ++ [.agg [c0, c1, c2, c3]], ws ++ [w], L, _, rfl, by omega, hx4, by omega, by rw [hcs]; omega, hL, decs_snoc hxs hv, by simp [hws], fun w' hw' => ?_, rfl, rfl⟩
        rcases List.mem_append.1 hw' with h | h
        · exact hgen _ h
        · rw [List.mem_singleton] at h; rw [h]; exact hg
      · have hci : (i : Int) * cst d ≤ 3 * cst d := Int.mul_le_mul_of_nonneg_right (by omega) (by omega)
        repeat' (first
          | refine RC.seq ?_
          | (refine RC.region sok ?_; repeat' (first
              | refine RO.nil ?_
              | (refine RO.gs rfl ?_; first
                  | (refine RO.gd isCmpO rfl ?_; first | refine RO.cmp true rfl rfl rfl ?_ | refine RO.cmp false rfl rfl rfl ?_ | refine RO.cmpB rfl rfl rfl (fun hb => ?_) (fun hb => ?_))
                  | refine RO.st rfl rfl rfl (by first | rfl | (refine or_r ?_; repeat first | exact okR_nil | refine okR_bit rfl ?_ | refine okR_ld rfl ?_ | refine okR_rd ?_)) ?_
                  | refine RO.len rfl rfl rfl rfl (by first | assumption | exact SlA.sl _ | exact LiveS.sla (by assumption)) rfl rfl rfl ?_
                  | refine RO.idx rfl rfl rfl rfl (by first | assumption | exact SlA.sl _ | exact LiveS.sla (by assumption)) (by first | assumption | exact hp | (simp only [Int.toNat_natCast]; assumption)) (by omega) rfl rfl rfl rfl ?_
                  | refine RO.ldA rfl rfl rfl (by first | assumption | exact hp | (simp only [Int.toNat_natCast]; assumption)) rfl rfl rfl (by first | rfl | (refine or_r ?_; repeat first | exact okR_nil | refine okR_bit rfl ?_ | refine okR_ld rfl ?_ | refine okR_rd ?_)) ?_
                  | refine RO.ldF rfl rfl rfl (by first | assumption | exact hp | (simp only [Int.toNat_natCast]; assumption)) rfl rfl rfl (by first | rfl | (refine or_r ?_; repeat first | exact okR_nil | refine okR_bit rfl ?_ | refine okR_ld rfl ?_ | refine okR_rd ?_)) ?_)
              | (refine RO.loud rfl rfl rfl (by first | rfl | (refine or_r ?_; repeat first | exact okL_nil | refine okL_ld ?_ | refine okL_bit rfl ?_ | refine okL_rd rfl ?_)) ?_; (try dsimp only [St.alloc, Sys.s0, Sys.s1, S0, Nat.reduceAdd]))
              | (refine RO.loud rfl rfl (loud_store rfl rfl rfl (store_agg rfl rfl rfl rfl (show ([_, _, _, kids] : List AV).all isFlat = true by simp only [List.all_cons, hflat]; rfl))) (by first | rfl | (refine or_r ?_; repeat first | exact okL_nil | refine okL_ld ?_ | refine okL_bit rfl ?_ | refine okL_rd rfl ?_)) ?_; (try dsimp only [St.alloc, Sys.s0, Sys.s1, S0, Nat.reduceAdd]))
              | refine RO.skip rfl ?_))
          | refine RC.skip ?_
          | refine RC.block ?_
          | refine RC.exit ?_
          | refine RC.condT rfl ?_
          | refine RC.condF rfl ?_
          | refine RC.cond _ rfl (fun hb => ?_) (fun hb => ?_)
          | refine RC.ret ⟨_, rfl, ?_⟩)
        all_goals try (exfalso; simp only [decide_eq_true_eq, decide_eq_false_iff_not, beq_iff_eq, bne_iff_ne, ne_eq, beq_eq_false_iff_ne, bne_eq_false_iff_eq, Decidable.not_not, Int.not_lt, Int.not_le, gt_iff_lt, ge_iff_le] at *; omega)

        exact ⟨[x3, .int .i64 n3], .ret (.agg [.int .i64 2, .int .i64 0, .str (nm []), deaden kids]), [deaden x3, .int .i64 n3], rfl, ⟨_, pure_RV (a := .agg [.int .i64 2, .int .i64 0, .str (nm []), kids]) (by simp [pureV, pureVs, hk.sla.pure (decs_pure hxs)]), rfl⟩, pure_RVs (a := [x3, .int .i64 n3]) (by simp [pureVs, pureV, hx3.pure]), _, _, _, _, .mk 2 0 (nm []) ws, _, _, rfl, rfl, dec_mk hk.sla.deaden (decs_dead hxs) (by rw [deadens_length]; omega), .inr ⟨rfl, by omega, hgen, .inl ⟨rfl, rfl⟩⟩, hx3.dead, by omega, by omega⟩
end Go.Am.Tryz
