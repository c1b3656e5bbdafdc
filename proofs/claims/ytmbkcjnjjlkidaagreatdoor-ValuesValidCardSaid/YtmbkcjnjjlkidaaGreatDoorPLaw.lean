/- The values seat: the law ValuesValid, out of the typed machine. -/
import Derived.Test.YtmbkcjnjjlkidaaGreatDoorPGen
import Derived.Test.YtmbkcjnjjlkidaaGreatDoorVSys
import Derived.Test.YtmbkcjnjjlkidaaGreatDoorK6
set_option linter.all false
namespace Go.Am.Tryz
open Go.Proofs Go.Am

theorem mok {ρ : Nat → Option (Nat × Nat)} : MOk (SV ρ) MV where
  ok := sok
  T := rfl
  nx := rfl
  F := fun _ _ h => h
  W := wv_ok

theorem lives_sig {ρ : Nat → Option (Nat × Nat)} : SigOk (SV ρ) PV (spV 32) (fun _ => some true) := by
  intro x r h θ s args hX hargs
  cases h
  have ha : args = [] := hargs
  subst ha
  refine (lives s).mono ?_
  rintro r s' ⟨rfl, rfl⟩
  refine ⟨.bool true, fun _ => none, rfl, ?_⟩
  exact {
    ret := by show XR WV _ (.v .bool true) (.bool true); exact XR.mkB
    own := fun j cs hj => by cases (show none = some cs from hj)
    tag := fun t u h => by cases h
    inj := fun t t' u h => by cases h }

theorem ext_ok {ρ : Nat → Option (Nat × Nat)} : ∀ i m, MV.ext i = some m → SigOk (SV ρ) PV (spV i) m := by
  intro i m h
  have h : extV i = some m := h
  unfold extV at h
  split at h
  · cases h; exact lives_sig
  · cases h

theorem sig_ok {ρ : Nat → Option (Nat × Nat)} (n i : Nat) : SigOk (SV ρ) PV (spV i) (run MV n i) := run_ok (S := SV ρ) (M := MV) mok ext_ok n i

theorem lives_run : ∀ n, 1 ≤ n → xlives n = some true := by
  intro n hn
  obtain ⟨n, rfl⟩ : ∃ m, n = m + 1 := ⟨n - 1, by omega⟩
  rfl

/-- Numbers that come in. -/
theorem ints_dd {x : AV} {l : List Int} (h : IntsA .i64 x l) : dd x = encD WV (.sl (.int .i64)) l := by
  have e : dds (l.map (AV.int .i64)) = l.map (AV.int .i64) := by
    rw [dds_map, List.map_map]; rfl
  rcases h.1 with ⟨rfl, rfl⟩ | rfl
  · rfl
  · simp only [dd, e]
    rfl

theorem xsr0 {ρ : Nat → Option (Nat × Nat)} {n : Nat} : XSR PV (SV ρ).h ⟨[], n⟩ (fun _ => none) (SV ρ).s0 where
  next := rfl
  low := fun _ _ => rfl
  own := fun j cs hj => by simp at hj
  high := fun b hb => by
    cases h : (SV ρ).s0.heap.get b with
    | none => rfl
    | some blk =>
      have hb : 6 ≤ b := hb
      have h2 : b < 6 := (sok (ρ := ρ)).dom b blk h
      omega
  tag := fun t u h => by cases h
  inj := fun t t' u h => by cases h

theorem law_valid {ρ : Nat → Option (Nat × Nat)} {x : AV} {l : List Int} {a b c : Int} (h : IntsA .i64 x l) : CallsTo (SV ρ) 4 [x, .int .i64 a, .int .i64 b, .int .i64 c] (SV ρ).s0 fun r _ => r = .ret (.bool true) := by
  have hr : run MV 400001 33 ((), (l, (a, (b, (c, ()))))) = some true := lawValid_true lives_run l a b c
  refine (sig_ok (ρ := ρ) 400001 33 _ _ hr (fun _ => none) (SV ρ).s0 [x, .int .i64 a, .int .i64 b, .int .i64 c] xsr0 ?_).mono ?_
  · exact ⟨_, _, rfl, ints_dd h, _, _, rfl, XR.mkI, _, _, rfl, XR.mkI, _, _, rfl, XR.mkI, rfl⟩
  · rintro r s' ⟨v, θ', rfl, hp⟩
    have h1 : XR WV θ' (.v .bool true) v := hp.ret
    have h2 : dd v = .bool true := by simpa only [XR, encD] using h1
    rw [dd_bool h2]
end Go.Am.Tryz
