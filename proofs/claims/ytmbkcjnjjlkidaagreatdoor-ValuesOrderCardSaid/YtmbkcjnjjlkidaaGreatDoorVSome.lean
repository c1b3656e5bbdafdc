/- The values seat: some. -/
import Derived.Test.YtmbkcjnjjlkidaaGreatDoorVBent
import Derived.Test.YtmbkcjnjjlkidaaGreatDoorVValue
namespace Go.Am.Tryz
open Go.Proofs Go.Am
set_option maxRecDepth 100000
set_option linter.unusedVariables false
set_option linter.unusedSimpArgs false
set_option maxHeartbeats 4000000

variable {ρ : Nat → Option (Nat × Nat)} {s : St} {R : Res → St → Prop}

theorem szVs_le {c : Nat} : ∀ {l : List V}, (∀ w ∈ l, szV w ≤ c) → szVs l ≤ l.length * c
  | [], _ => by simp [szVs]
  | v :: l, h => by
    have h1 := szVs_le (l := l) fun w hw => h w (by simp [hw])
    have h2 := h v (by simp)
    simp only [szVs, List.length_cons, Nat.succ_mul]; omega

def gsz : Nat → Nat
  | 0 => 1
  | d + 1 => 1 + 3 * gsz d
theorem genV_sz : ∀ (d : Nat) (w : V), genV d w → szV w ≤ gsz d
  | 0, .mk k n s l, h => by obtain ⟨rfl, _⟩ := h; simp [szV, szVs, gsz]
  | d + 1, .mk k n s l, h => by
    rcases h with ⟨rfl, _⟩ | ⟨_, h2, h3, _⟩
    · simp [szV, szVs, gsz]
    · have := szVs_le (c := gsz d) fun w hw => genV_sz d w (h3 w hw)
      have h4 : l.length * gsz d ≤ 3 * gsz d := Nat.mul_le_mul_right _ h2
      simp only [szV, gsz]; omega

theorem some_c {x : AV} {l : List Int} {bent by_ : Int} (hx : GB x l) (hR : ∀ c0 c1 c2 c3 w, decV (.agg [c0, c1, c2, c3]) = some w → szV w ≤ 2040 → (bent ≤ 0 → genV 3 w) → R (.ret (.agg [c0, c1, c2, c3])) s) : CallsTo (SV ρ) 11 [x, .int .i64 bent, .int .i64 by_] s R := by
  refine (CallsTo.pure sok (Q := fun r => ∃ c0 c1 c2 c3 w, r = .agg [c0, c1, c2, c3] ∧ decV r = some w ∧ szV w ≤ 2040 ∧ (bent ≤ 0 → genV 3 w)) (by simp [pureVs, pureV, hx.pure]) ?_).mono (by rintro r s' ⟨rfl, v, rfl, c0, c1, c2, c3, w, rfl, h1, h2, h3⟩; exact hR c0 c1 c2 c3 w h1 h2 h3)
  refine CallsTo.run (fn := mkF Tryz.f11 [] none) sok rfl ?_
  show RC (SV ρ) _ _ (Tr.ofList (enumA [deaden x, _, _] 0)) ⟨YtmbkcjnjjlkidaaGreatDoor.heap0, 6, .nil, 0⟩ _
  have hy := hx.dead
  generalize deaden x = y at *
  have hfl : isFlat y = true := SlA.flat hy
  have hc3 : cst 3 = 240 := rfl
  have hg3 : gsz 3 = 40 := rfl
  have hy' := hy
  rcases hy' with ⟨e, _⟩ | ⟨kk, e⟩ <;> subst e <;> clear hfl
  all_goals
    repeat' (first
      | refine RC.seq ?_
      | (refine RC.region sok ?_; repeat' (first
          | refine RO.nil ?_
          | (refine RO.gs rfl ?_; first
              | (refine RO.gd isCmpO rfl ?_; first | refine RO.cmp true rfl rfl rfl ?_ | refine RO.cmp false rfl rfl rfl ?_ | refine RO.cmpB rfl rfl rfl (fun hb => ?_) (fun hb => ?_))
              | refine RO.st rfl rfl rfl (by first | rfl | (refine or_r ?_; repeat first | exact okR_nil | refine okR_bit rfl ?_ | refine okR_ld rfl ?_ | refine okR_rd ?_)) ?_
              | refine RO.len rfl rfl rfl rfl (by first | assumption | exact SlA.sl _ | exact LiveS.sla (by assumption)) rfl rfl rfl ?_
              | refine RO.idx rfl rfl rfl rfl (by first | assumption | exact SlA.sl _ | exact LiveS.sla (by assumption)) (by first | assumption | exact hp | (simp only [Int.toNat_natCast]; assumption)) (by omega) rfl rfl rfl rfl ?_
              | refine RO.ldA rfl rfl rfl (by first | assumption | exact hp | (simp only [Int.toNat_natCast]; assumption)) rfl rfl rfl (by first | rfl | (refine or_r ?_; repeat first | exact okR_nil | refine okR_bit rfl ?_ | refine okR_ld rfl ?_ | refine okR_rd ?_)) ?_
              | refine RO.ldF rfl rfl rfl (by first | assumption | exact hp | (simp only [Int.toNat_natCast]; assumption)) rfl rfl rfl (by first | rfl | (refine or_r ?_; repeat first | exact okR_nil | refine okR_bit rfl ?_ | refine okR_ld rfl ?_ | refine okR_rd ?_)) ?_)
          | (refine RO.gd isCallF rfl ?_; first
              | (refine RO.call rfl rfl rfl rfl rfl (value_c 3 (by omega) rfl hy (by omega) (by omega) (fun c0 c1 c2 c3 w x2 n2 hw hg hx2 h1 h2 => ⟨(by first | rfl | (refine or_r ?_; repeat first | exact okL_nil | refine okL_ld ?_ | refine okL_bit rfl ?_ | refine okL_rd rfl ?_)), ?_⟩)); (try dsimp only [St.alloc, Sys.s0, Sys.s1, S0, Nat.reduceAdd]))
              | (refine RO.call rfl rfl rfl rfl rfl (bent_c (by have := genV_sz 3 _ hg; omega) hw (fun d0 d1 d2 d3 w2 hw2 hz2 => ⟨(by first | rfl | (refine or_r ?_; repeat first | exact okL_nil | refine okL_ld ?_ | refine okL_bit rfl ?_ | refine okL_rd rfl ?_)), ?_⟩))))
          | (refine RO.loud rfl rfl rfl (by first | rfl | (refine or_r ?_; repeat first | exact okL_nil | refine okL_ld ?_ | refine okL_bit rfl ?_ | refine okL_rd rfl ?_)) ?_; (try dsimp only [St.alloc, Sys.s0, Sys.s1, S0, Nat.reduceAdd]))
          | (refine RO.loud rfl rfl (loud_box rfl rfl rfl) (by first | rfl | (refine or_r ?_; repeat first | exact okL_nil | refine okL_ld ?_ | refine okL_bit rfl ?_ | refine okL_rd rfl ?_)) ?_; (try dsimp only [St.alloc, Sys.s0, Sys.s1, S0, Nat.reduceAdd]))
          | (refine RO.loud rfl rfl (loud_store rfl rfl rfl (store_agg rfl rfl rfl rfl (dec_flat2 hw2))) (by first | rfl | (refine or_r ?_; repeat first | exact okL_nil | refine okL_ld ?_ | refine okL_bit rfl ?_ | refine okL_rd rfl ?_)) ?_; (try dsimp only [St.alloc, Sys.s0, Sys.s1, S0, Nat.reduceAdd]))
          | (refine RO.loud rfl rfl (loud_store rfl rfl rfl (store_agg rfl rfl rfl rfl (dec_flat2 hw))) (by first | rfl | (refine or_r ?_; repeat first | exact okL_nil | refine okL_ld ?_ | refine okL_bit rfl ?_ | refine okL_rd rfl ?_)) ?_; (try dsimp only [St.alloc, Sys.s0, Sys.s1, S0, Nat.reduceAdd]))
          | refine RO.skip rfl ?_))
      | refine RC.skip ?_
      | refine RC.block ?_
      | refine RC.exit ?_
      | refine RC.condT rfl ?_
      | refine RC.condF rfl ?_
      | refine RC.cond _ rfl (fun hb => ?_) (fun hb => ?_)
      | refine RC.ret ⟨_, rfl, ?_⟩)
  · simp only [decide_eq_true_eq] at hb
    have := genV_sz 3 _ hg
    obtain ⟨k, n, t, ws, y2, xs, e, rfl, hy2, hxs, hbx⟩ := dec_shape (dec_dead hw2)
    exact ⟨.agg [d0, d1, d2, d3], rfl, dec_pure hw2, _, _, _, _, _, e, dec_dead hw2, by omega, fun h => by omega⟩
  · have := genV_sz 3 _ hg
    obtain ⟨k, n, t, ws, y2, xs, e, e2, hy2, hxs, hbx⟩ := dec_shape (dec_dead hw)
    exact ⟨.agg [c0, c1, c2, c3], rfl, dec_pure hw, _, _, _, _, _, e, dec_dead hw, by omega, fun _ => hg⟩
  · simp only [decide_eq_true_eq] at hb
    have := genV_sz 3 _ hg
    obtain ⟨k, n, t, ws, y2, xs, e, rfl, hy2, hxs, hbx⟩ := dec_shape (dec_dead hw2)
    exact ⟨.agg [d0, d1, d2, d3], rfl, dec_pure hw2, _, _, _, _, _, e, dec_dead hw2, by omega, fun h => by omega⟩
  · have := genV_sz 3 _ hg
    obtain ⟨k, n, t, ws, y2, xs, e, e2, hy2, hxs, hbx⟩ := dec_shape (dec_dead hw)
    exact ⟨.agg [c0, c1, c2, c3], rfl, dec_pure hw, _, _, _, _, _, e, dec_dead hw, by omega, fun _ => hg⟩

theorem lives_c (hR : R (.ret (.bool true)) s) : CallsTo (SV ρ) 14 [] s R := (lives s).mono (by rintro r s' ⟨rfl, rfl⟩; exact hR)
end Go.Am.Tryz
