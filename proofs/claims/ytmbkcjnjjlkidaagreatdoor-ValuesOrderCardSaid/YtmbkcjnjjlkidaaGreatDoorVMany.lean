/- The values seat: Many. -/
import Derived.Test.YtmbkcjnjjlkidaaGreatDoorVCmp
import Derived.Test.YtmbkcjnjjlkidaaGreatDoorAmMs
namespace Go.Am.Tryz
open Go.Proofs Go.Am
set_option maxRecDepth 100000
set_option linter.unusedVariables false
set_option linter.unusedSimpArgs false
set_option maxHeartbeats 4000000

variable {ρ : Nat → Option (Nat × Nat)} {s : St} {R : Res → St → Prop}

theorem szVs_append : ∀ (l m : List V), szVs (l ++ m) = szVs l + szVs m
  | [], m => by simp [szVs]
  | x :: l, m => by simp only [List.cons_append, szVs, szVs_append l m]; omega

theorem many_c {n : Int} (h0 : 0 < n) (h1 : n < 1000) (hR : ∀ xs ws, decVs xs = some ws → ws.length = n.toNat → szVs ws = n.toNat → R (.ret (.sl xs .dead)) s) : CallsTo (SV ρ) 47 [.int .i64 n] s R := by
  refine fnP (Q := fun v => ∃ xs ws, v = .sl xs .dead ∧ decVs xs = some ws ∧ ws.length = n.toNat ∧ szVs ws = n.toNat) (fun v h => by obtain ⟨xs, ws, rfl, h2, h3, h4⟩ := h; exact hR xs ws h2 h3 h4) rfl rfl rfl ?_
  repeat' (first
    | refine RC.seq ?_
    | (refine RC.region sok ?_; repeat' (first
        | refine RO.nil ?_
        | (refine RO.gs rfl ?_; first
            | (refine RO.gd isCmpO rfl ?_; first | refine RO.cmp true rfl rfl rfl ?_ | refine RO.cmp false rfl rfl rfl ?_ | refine RO.cmpB rfl rfl rfl (fun hb => ?_) (fun hb => ?_))
            | refine RO.st rfl rfl rfl (by first | rfl | (refine or_r ?_; repeat first | exact okR_nil | refine okR_bit rfl ?_ | refine okR_ld rfl ?_ | refine okR_rd ?_)) ?_
            | refine RO.len rfl rfl rfl rfl (by first | assumption | exact SlA.sl _ | exact LiveS.sla (by assumption)) rfl rfl rfl ?_
            | refine RO.idx rfl rfl rfl rfl (by first | assumption | exact SlA.sl _ | exact LiveS.sla (by assumption)) (by first | assumption | exact hp | (simp only [Int.toNat_natCast]; assumption)) (by omega) rfl rfl rfl rfl ?_
            | refine RO.ldA rfl rfl rfl (by first | assumption | exact hp | (simp only [Int.toNat_natCast]; assumption)) rfl rfl rfl (by first | rfl | (refine or_r ?_; repeat first | exact okR_nil | refine okR_bit rfl ?_ | refine okR_ld rfl ?_ | refine okR_rd ?_)) ?_
            | refine RO.ldF rfl rfl rfl (by first | assumption | exact hp | (simp only [Int.toNat_natCast]; assumption)) rfl rfl rfl (by first | rfl | (refine or_r ?_; repeat first | exact okR_nil | refine okR_bit rfl ?_ | refine okR_ld rfl ?_ | refine okR_rd ?_)) ?_)
        | (refine RO.loud rfl rfl rfl (by first | rfl | (refine or_r ?_; repeat first | exact okL_nil | refine okL_ld ?_ | refine okL_bit rfl ?_ | refine okL_rd rfl ?_)) ?_; (try dsimp only [St.alloc, Sys.s0, Sys.s1, S0, Nat.reduceAdd]))
        | refine RO.skip rfl ?_))
    | refine RC.skip ?_
    | refine RC.block ?_
    | refine RC.exit ?_
    | refine RC.condT rfl ?_
    | refine RC.condF rfl ?_
    | refine RC.cond _ rfl (fun hb => ?_) (fun hb => ?_)
    | refine RC.ret ⟨_, rfl, ?_⟩)
  refine RC.loop (fun q e st => ∃ (i : Nat) (y : AV) (xs : List AV) (ws : List V) (lv : Tr Bool) (nt : Nat), q = n.toNat - i ∧ i ≤ n.toNat ∧ LiveT lv nt y xs ∧ decVs xs = some ws ∧ ws.length = i ∧ szVs ws = i ∧ (0 < i → ∃ t, y = .sl xs (.tag t)) ∧
    st = ⟨YtmbkcjnjjlkidaaGreatDoor.heap0, 6, lv, nt⟩ ∧ e = Tr.ofList [(0, .int .i64 n), (3, y), (4, .int .i64 i)]) ?_ n.toNat _ ⟨0, .nils, [], [], _, _, rfl, Nat.zero_le _, LiveT.nil, rfl, rfl, rfl, fun h => absurd h (Nat.lt_irrefl _), rfl, rfl⟩ (sub_of ⟨rfl, rfl, rfl, trivial⟩)
  rintro q e st ⟨i, y, xs, ws, lv, nt, rfl, hi, hk, hxs, hws, hsz, hy, rfl, rfl⟩
  have hlx := decs_length hxs
  by_cases hlt : i < n.toNat
  · have hw : IntKind.i64.wrap ((i : Int) + 1) = ((i + 1 : Nat) : Int) := by rw [wrap_ok (by omega) (by omega)]; rfl
    repeat' (first
      | refine RC.seq ?_
      | (refine RC.region sok ?_; repeat' (first
          | refine RO.nil ?_
          | (refine RO.gs rfl ?_; first
              | (refine RO.gd isCmpO rfl ?_; first | refine RO.cmp true rfl rfl rfl ?_ | refine RO.cmp false rfl rfl rfl ?_ | refine RO.cmpB rfl rfl rfl (fun hb => ?_) (fun hb => ?_))
              | refine RO.st rfl rfl rfl (by first | rfl | (refine or_r ?_; repeat first | exact okR_nil | refine okR_bit rfl ?_ | refine okR_ld rfl ?_ | refine okR_rd ?_)) ?_
              | refine RO.len rfl rfl rfl rfl (by first | assumption | exact SlA.sl _ | exact LiveS.sla (by assumption)) rfl rfl rfl ?_
              | refine RO.idx rfl rfl rfl rfl (by first | assumption | exact SlA.sl _ | exact LiveS.sla (by assumption)) (by first | assumption | exact hp | (simp only [Int.toNat_natCast]; assumption)) (by omega) rfl rfl rfl rfl ?_
              | refine RO.ldA rfl rfl rfl (by first | assumption | exact hp | (simp only [Int.toNat_natCast]; assumption)) rfl rfl rfl (by first | rfl | (refine or_r ?_; repeat first | exact okR_nil | refine okR_bit rfl ?_ | refine okR_ld rfl ?_ | refine okR_rd ?_)) ?_
              | refine RO.ldF rfl rfl rfl (by first | assumption | exact hp | (simp only [Int.toNat_natCast]; assumption)) rfl rfl rfl (by first | rfl | (refine or_r ?_; repeat first | exact okR_nil | refine okR_bit rfl ?_ | refine okR_ld rfl ?_ | refine okR_rd ?_)) ?_)
          | refine RO.append rfl rfl rfl rfl rfl rfl rfl rfl rfl rfl rfl (by decide) (by decide) rfl (List.cons_ne_nil _ _) rfl hk (decs_cells hxs) (by show xs.length + 1 ≤ _; omega) (fun _ => (by first | rfl | (refine or_r ?_; repeat first | exact okL_nil | refine okL_ld ?_ | refine okL_bit rfl ?_ | refine okL_rd rfl ?_))) (fun L hL hk => ?_)
          | (refine RO.loud rfl rfl rfl (by first | rfl | (refine or_r ?_; repeat first | exact okL_nil | refine okL_ld ?_ | refine okL_bit rfl ?_ | refine okL_rd rfl ?_)) ?_; (try dsimp only [St.alloc, Sys.s0, Sys.s1, S0, Nat.reduceAdd]))
          | refine RO.skip rfl ?_))
      | refine RC.skip ?_
      | refine RC.block ?_
      | refine RC.exit ?_
      | refine RC.condT rfl ?_
      | refine RC.condF rfl ?_
      | refine RC.cond _ rfl (fun hb => ?_) (fun hb => ?_)
      | refine RC.ret ⟨_, rfl, ?_⟩)
    all_goals try (exfalso; simp only [decide_eq_true_eq, decide_eq_false_iff_not, beq_iff_eq, bne_iff_ne, ne_eq, beq_eq_false_iff_ne, bne_eq_false_iff_eq, Decidable.not_not, Int.not_lt, Int.not_le, gt_iff_lt, ge_iff_le] at *; omega)
    refine ⟨n.toNat - (i + 1), by omega, Tr.ofList [(0, .int .i64 n), (3, _), (4, .int .i64 (i + 1 : Nat))], _, .forget (sub_of ⟨rfl, rfl, hw ▸ rfl, trivial⟩), i + 1, _, xs ++ [.agg [.int .i64 0, .int .i64 ((i : Int).tmod 3), .str ⟨#[]⟩, .nils]], ws ++ [.mk 0 ((i : Int).tmod 3) ⟨#[]⟩ []], L, _, rfl, by omega, hL, decs_snoc hxs rfl, by simp [hws], by rw [szVs_append, hsz]; rfl, fun _ => ⟨_, rfl⟩, rfl, rfl⟩
  · repeat' (first
      | refine RC.seq ?_
      | (refine RC.region sok ?_; repeat' (first
          | refine RO.nil ?_
          | (refine RO.gs rfl ?_; first
              | (refine RO.gd isCmpO rfl ?_; first | refine RO.cmp true rfl rfl rfl ?_ | refine RO.cmp false rfl rfl rfl ?_ | refine RO.cmpB rfl rfl rfl (fun hb => ?_) (fun hb => ?_))
              | refine RO.st rfl rfl rfl (by first | rfl | (refine or_r ?_; repeat first | exact okR_nil | refine okR_bit rfl ?_ | refine okR_ld rfl ?_ | refine okR_rd ?_)) ?_
              | refine RO.len rfl rfl rfl rfl (by first | assumption | exact SlA.sl _ | exact LiveS.sla (by assumption)) rfl rfl rfl ?_
              | refine RO.idx rfl rfl rfl rfl (by first | assumption | exact SlA.sl _ | exact LiveS.sla (by assumption)) (by first | assumption | exact hp | (simp only [Int.toNat_natCast]; assumption)) (by omega) rfl rfl rfl rfl ?_
              | refine RO.ldA rfl rfl rfl (by first | assumption | exact hp | (simp only [Int.toNat_natCast]; assumption)) rfl rfl rfl (by first | rfl | (refine or_r ?_; repeat first | exact okR_nil | refine okR_bit rfl ?_ | refine okR_ld rfl ?_ | refine okR_rd ?_)) ?_
              | refine RO.ldF rfl rfl rfl (by first | assumption | exact hp | (simp only [Int.toNat_natCast]; assumption)) rfl rfl rfl (by first | rfl | (refine or_r ?_; repeat first | exact okR_nil | refine okR_bit rfl ?_ | refine okR_ld rfl ?_ | refine okR_rd ?_)) ?_)
          | (refine RO.loud rfl rfl rfl (by first | rfl | (refine or_r ?_; repeat first | exact okL_nil | refine okL_ld ?_ | refine okL_bit rfl ?_ | refine okL_rd rfl ?_)) ?_; (try dsimp only [St.alloc, Sys.s0, Sys.s1, S0, Nat.reduceAdd]))
          | refine RO.skip rfl ?_))
      | refine RC.skip ?_
      | refine RC.block ?_
      | refine RC.exit ?_
      | refine RC.condT rfl ?_
      | refine RC.condF rfl ?_
      | refine RC.cond _ rfl (fun hb => ?_) (fun hb => ?_)
      | refine RC.ret ⟨_, rfl, ?_⟩)
    all_goals try (exfalso; simp only [decide_eq_true_eq, decide_eq_false_iff_not, beq_iff_eq, bne_iff_ne, ne_eq, beq_eq_false_iff_ne, bne_eq_false_iff_eq, Decidable.not_not, Int.not_lt, Int.not_le, gt_iff_lt, ge_iff_le] at *; omega)
    obtain ⟨t, rfl⟩ := hy (by omega)
    exact ⟨_, rfl, decs_pure hxs, deadens xs, ws, rfl, decs_dead hxs, by omega, by omega⟩
end Go.Am.Tryz
