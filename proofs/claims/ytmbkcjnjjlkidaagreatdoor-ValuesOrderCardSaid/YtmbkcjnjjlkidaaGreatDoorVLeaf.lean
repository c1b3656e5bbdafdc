/- The values seat: small functions. -/
import Derived.Test.YtmbkcjnjjlkidaaGreatDoorVSys
import Derived.Test.YtmbkcjnjjlkidaaGreatDoorAmVal
import Derived.Test.YtmbkcjnjjlkidaaGreatDoorAmRC
namespace Go.Am.Tryz
open Go.Proofs Go.Am
set_option maxRecDepth 100000
set_option linter.unusedVariables false
set_option linter.unusedSimpArgs false
set_option maxHeartbeats 4000000

variable {ρ : Nat → Option (Nat × Nat)} {s : St} {R : Res → St → Prop}

/-- The fresh state. -/
def S0 : St := ⟨YtmbkcjnjjlkidaaGreatDoor.heap0, 6, .nil, 0⟩

theorem fnP {f : Nat} {fn : AFun} {args args0 : List AV} {s : St} {Q : AV → Prop} {R : Res → St → Prop} (hR : ∀ v, Q v → R (.ret v) s) (hp : pureVs args = true) (hd : deadens args = args0) (hf : F.get f = some fn)
    (h : RC (SV ρ) fn.mutDst fn.body (Tr.ofList (enumA args0 0)) ⟨YtmbkcjnjjlkidaaGreatDoor.heap0, 6, .nil, 0⟩ (bodyQ (SV ρ) fn fun r _ => ∃ v, r = .ret v ∧ pureV v = true ∧ Q (deaden v))) : CallsTo (SV ρ) f args s R :=
  (CallsTo.fnP sok hp hd hf (EvC.forget h.h (init_sub _))).mono (by rintro r s' ⟨rfl, v, rfl, hv⟩; exact hR v hv)

def sgn (b : Bool) : Int := if b then -1 else 1

theorem sign_c (b : Bool) (hR : R (.ret (.int .i64 (sgn b))) s) : CallsTo (SV ρ) 46 [.bool b] s R := by
  refine fnP (Q := fun v => v = .int .i64 (sgn b)) (fun _ h => h ▸ hR) rfl rfl rfl ?_
  repeat' (first
    | refine RC.seq ?_
    | (refine RC.region sok ?_; repeat' (first
        | refine RO.nil ?_
        | (refine RO.gs rfl ?_; first
            | (refine RO.gd isCmpO rfl ?_; first | refine RO.cmp true rfl rfl rfl ?_ | refine RO.cmp false rfl rfl rfl ?_ | refine RO.cmpB rfl rfl rfl (fun hb => ?_) (fun hb => ?_))
            | refine RO.st rfl rfl rfl (by first | rfl | (refine or_r ?_; repeat first | exact okR_nil | refine okR_bit rfl ?_ | refine okR_ld rfl ?_ | refine okR_rd ?_)) ?_
            | refine RO.len rfl rfl rfl rfl (by first | assumption | exact SlA.sl _ | exact LiveS.sla (by assumption)) rfl rfl rfl ?_
            | refine RO.idx rfl rfl rfl rfl (by first | assumption | exact SlA.sl _ | exact LiveS.sla (by assumption)) (by first | assumption | (simp only [Int.toNat_natCast]; assumption)) (by omega) rfl rfl rfl rfl ?_
            | refine RO.ldA rfl rfl rfl (by first | assumption | (simp only [Int.toNat_natCast]; assumption)) rfl rfl rfl (by first | rfl | (refine or_r ?_; repeat first | exact okR_nil | refine okR_bit rfl ?_ | refine okR_ld rfl ?_ | refine okR_rd ?_)) ?_
            | refine RO.ldF rfl rfl rfl (by first | assumption | (simp only [Int.toNat_natCast]; assumption)) rfl rfl rfl (by first | rfl | (refine or_r ?_; repeat first | exact okR_nil | refine okR_bit rfl ?_ | refine okR_ld rfl ?_ | refine okR_rd ?_)) ?_)
        | (refine RO.loud rfl rfl rfl (by first | rfl | (refine or_r ?_; repeat first | exact okL_nil | refine okL_ld ?_ | refine okL_bit rfl ?_ | refine okL_rd rfl ?_)) ?_; (try dsimp only [St.alloc, Sys.s0, Sys.s1, S0, Nat.reduceAdd]))
        | refine RO.skip rfl ?_))
    | refine RC.skip ?_
    | refine RC.block ?_
    | refine RC.exit ?_
    | refine RC.condT rfl ?_
    | refine RC.condF rfl ?_
    | refine RC.cond _ rfl (fun hb => ?_) (fun hb => ?_)
    | refine RC.ret ⟨_, rfl, ?_⟩)
  all_goals subst hb; exact ⟨_, rfl, rfl, rfl⟩

theorem nan_c (n : Int) (hR : R (.ret (.bool false)) s) : CallsTo (SV ρ) 75 [.int .i64 n] s R := by
  refine fnP (Q := fun v => v = .bool false) (fun _ h => h ▸ hR) rfl rfl rfl ?_
  repeat' (first
    | refine RC.seq ?_
    | (refine RC.region sok ?_; repeat' (first
        | refine RO.nil ?_
        | (refine RO.gs rfl ?_; first
            | (refine RO.gd isCmpO rfl ?_; first | refine RO.cmp true rfl rfl rfl ?_ | refine RO.cmp false rfl rfl rfl ?_ | refine RO.cmpB rfl rfl rfl (fun hb => ?_) (fun hb => ?_))
            | refine RO.st rfl rfl rfl (by first | rfl | (refine or_r ?_; repeat first | exact okR_nil | refine okR_bit rfl ?_ | refine okR_ld rfl ?_ | refine okR_rd ?_)) ?_
            | refine RO.len rfl rfl rfl rfl (by first | assumption | exact SlA.sl _ | exact LiveS.sla (by assumption)) rfl rfl rfl ?_
            | refine RO.idx rfl rfl rfl rfl (by first | assumption | exact SlA.sl _ | exact LiveS.sla (by assumption)) (by first | assumption | (simp only [Int.toNat_natCast]; assumption)) (by omega) rfl rfl rfl rfl ?_
            | refine RO.ldA rfl rfl rfl (by first | assumption | (simp only [Int.toNat_natCast]; assumption)) rfl rfl rfl (by first | rfl | (refine or_r ?_; repeat first | exact okR_nil | refine okR_bit rfl ?_ | refine okR_ld rfl ?_ | refine okR_rd ?_)) ?_
            | refine RO.ldF rfl rfl rfl (by first | assumption | (simp only [Int.toNat_natCast]; assumption)) rfl rfl rfl (by first | rfl | (refine or_r ?_; repeat first | exact okR_nil | refine okR_bit rfl ?_ | refine okR_ld rfl ?_ | refine okR_rd ?_)) ?_)
        | (refine RO.loud rfl rfl rfl (by first | rfl | (refine or_r ?_; repeat first | exact okL_nil | refine okL_ld ?_ | refine okL_bit rfl ?_ | refine okL_rd rfl ?_)) ?_; (try dsimp only [St.alloc, Sys.s0, Sys.s1, S0, Nat.reduceAdd]))
        | refine RO.skip rfl ?_))
    | refine RC.skip ?_
    | refine RC.block ?_
    | refine RC.exit ?_
    | refine RC.condT rfl ?_
    | refine RC.condF rfl ?_
    | refine RC.cond _ rfl (fun hb => ?_) (fun hb => ?_)
    | refine RC.ret ⟨_, rfl, ?_⟩)
  · exact absurd hb (by simp)
  · exact ⟨_, rfl, rfl, rfl⟩

theorem cmpI_c (n m : Int) (hR : R (.ret (.int .i64 (cmpI n m))) s) : CallsTo (SV ρ) 43 [.int .i64 n, .int .i64 m] s R := by
  refine fnP (Q := fun v => v = .int .i64 (cmpI n m)) (fun _ h => h ▸ hR) rfl rfl rfl ?_
  repeat' (first
    | refine RC.seq ?_
    | (refine RC.region sok ?_; repeat' (first
        | refine RO.nil ?_
        | (refine RO.gs rfl ?_; first
            | (refine RO.gd isCmpO rfl ?_; first | refine RO.cmp true rfl rfl rfl ?_ | refine RO.cmp false rfl rfl rfl ?_ | refine RO.cmpB rfl rfl rfl (fun hb => ?_) (fun hb => ?_))
            | refine RO.st rfl rfl rfl (by first | rfl | (refine or_r ?_; repeat first | exact okR_nil | refine okR_bit rfl ?_ | refine okR_ld rfl ?_ | refine okR_rd ?_)) ?_
            | refine RO.len rfl rfl rfl rfl (by first | assumption | exact SlA.sl _ | exact LiveS.sla (by assumption)) rfl rfl rfl ?_
            | refine RO.idx rfl rfl rfl rfl (by first | assumption | exact SlA.sl _ | exact LiveS.sla (by assumption)) (by first | assumption | (simp only [Int.toNat_natCast]; assumption)) (by omega) rfl rfl rfl rfl ?_
            | refine RO.ldA rfl rfl rfl (by first | assumption | (simp only [Int.toNat_natCast]; assumption)) rfl rfl rfl (by first | rfl | (refine or_r ?_; repeat first | exact okR_nil | refine okR_bit rfl ?_ | refine okR_ld rfl ?_ | refine okR_rd ?_)) ?_
            | refine RO.ldF rfl rfl rfl (by first | assumption | (simp only [Int.toNat_natCast]; assumption)) rfl rfl rfl (by first | rfl | (refine or_r ?_; repeat first | exact okR_nil | refine okR_bit rfl ?_ | refine okR_ld rfl ?_ | refine okR_rd ?_)) ?_)
        | (refine RO.gd isCallF rfl ?_; first
            | refine RO.call rfl rfl rfl rfl rfl (nan_c _ ⟨(by first | rfl | (refine or_r ?_; repeat first | exact okL_nil | refine okL_ld ?_ | refine okL_bit rfl ?_ | refine okL_rd rfl ?_)), ?_⟩))
        | (refine RO.loud rfl rfl rfl (by first | rfl | (refine or_r ?_; repeat first | exact okL_nil | refine okL_ld ?_ | refine okL_bit rfl ?_ | refine okL_rd rfl ?_)) ?_; (try dsimp only [St.alloc, Sys.s0, Sys.s1, S0, Nat.reduceAdd]))
        | refine RO.skip rfl ?_))
    | refine RC.skip ?_
    | refine RC.block ?_
    | refine RC.exit ?_
    | refine RC.condT rfl ?_
    | refine RC.condF rfl ?_
    | refine RC.cond _ rfl (fun hb => ?_) (fun hb => ?_)
    | refine RC.ret ⟨_, rfl, ?_⟩)
  · exact ⟨_, rfl, rfl, by rw [cmpI, if_pos (by simpa using hb)]; rfl⟩
  · rename_i hb1
    exact ⟨_, rfl, rfl, by rw [cmpI, if_neg (by simpa using hb1), if_pos (by simpa using hb)]; rfl⟩
  · rename_i hb1
    exact ⟨_, rfl, rfl, by rw [cmpI, if_neg (by simpa using hb1), if_neg (by simpa using hb)]; rfl⟩

theorem ext_c (a b : ByteArray) (hR : R (.ret (.int .i64 (cmpB a b))) s) : CallsTo (SV ρ) 108 [.str a, .str b] s R :=
  CallsTo.ext (x := .cmpString) (fun _ _ => xe108) rfl hR

theorem cmpStr_c (a b : ByteArray) (hR : R (.ret (.int .i64 (cmpB a b))) s) : CallsTo (SV ρ) 76 [.str a, .str b] s R := by
  refine fnP (Q := fun v => v = .int .i64 (cmpB a b)) (fun _ h => h ▸ hR) rfl rfl rfl ?_
  repeat' (first
    | refine RC.seq ?_
    | (refine RC.region sok ?_; repeat' (first
        | refine RO.nil ?_
        | (refine RO.gs rfl ?_; first
            | (refine RO.gd isCmpO rfl ?_; first | refine RO.cmp true rfl rfl rfl ?_ | refine RO.cmp false rfl rfl rfl ?_ | refine RO.cmpB rfl rfl rfl (fun hb => ?_) (fun hb => ?_))
            | refine RO.st rfl rfl rfl (by first | rfl | (refine or_r ?_; repeat first | exact okR_nil | refine okR_bit rfl ?_ | refine okR_ld rfl ?_ | refine okR_rd ?_)) ?_
            | refine RO.len rfl rfl rfl rfl (by first | assumption | exact SlA.sl _ | exact LiveS.sla (by assumption)) rfl rfl rfl ?_
            | refine RO.idx rfl rfl rfl rfl (by first | assumption | exact SlA.sl _ | exact LiveS.sla (by assumption)) (by first | assumption | (simp only [Int.toNat_natCast]; assumption)) (by omega) rfl rfl rfl rfl ?_
            | refine RO.ldA rfl rfl rfl (by first | assumption | (simp only [Int.toNat_natCast]; assumption)) rfl rfl rfl (by first | rfl | (refine or_r ?_; repeat first | exact okR_nil | refine okR_bit rfl ?_ | refine okR_ld rfl ?_ | refine okR_rd ?_)) ?_
            | refine RO.ldF rfl rfl rfl (by first | assumption | (simp only [Int.toNat_natCast]; assumption)) rfl rfl rfl (by first | rfl | (refine or_r ?_; repeat first | exact okR_nil | refine okR_bit rfl ?_ | refine okR_ld rfl ?_ | refine okR_rd ?_)) ?_)
        | (refine RO.gd isCallF rfl ?_; first
            | refine RO.call rfl rfl rfl rfl rfl (ext_c _ _ ⟨(by first | rfl | (refine or_r ?_; repeat first | exact okL_nil | refine okL_ld ?_ | refine okL_bit rfl ?_ | refine okL_rd rfl ?_)), ?_⟩))
        | (refine RO.loud rfl rfl rfl (by first | rfl | (refine or_r ?_; repeat first | exact okL_nil | refine okL_ld ?_ | refine okL_bit rfl ?_ | refine okL_rd rfl ?_)) ?_; (try dsimp only [St.alloc, Sys.s0, Sys.s1, S0, Nat.reduceAdd]))
        | refine RO.skip rfl ?_))
    | refine RC.skip ?_
    | refine RC.block ?_
    | refine RC.exit ?_
    | refine RC.condT rfl ?_
    | refine RC.condF rfl ?_
    | refine RC.cond _ rfl (fun hb => ?_) (fun hb => ?_)
    | refine RC.ret ⟨_, rfl, ?_⟩)
  exact ⟨_, rfl, rfl, rfl⟩

theorem strCompare_c (a b : ByteArray) (hR : R (.ret (.int .i64 (cmpB a b))) s) : CallsTo (SV ρ) 44 [.str a, .str b] s R := by
  refine fnP (Q := fun v => v = .int .i64 (cmpB a b)) (fun _ h => h ▸ hR) rfl rfl rfl ?_
  repeat' (first
    | refine RC.seq ?_
    | (refine RC.region sok ?_; repeat' (first
        | refine RO.nil ?_
        | (refine RO.gs rfl ?_; first
            | (refine RO.gd isCmpO rfl ?_; first | refine RO.cmp true rfl rfl rfl ?_ | refine RO.cmp false rfl rfl rfl ?_ | refine RO.cmpB rfl rfl rfl (fun hb => ?_) (fun hb => ?_))
            | refine RO.st rfl rfl rfl (by first | rfl | (refine or_r ?_; repeat first | exact okR_nil | refine okR_bit rfl ?_ | refine okR_ld rfl ?_ | refine okR_rd ?_)) ?_
            | refine RO.len rfl rfl rfl rfl (by first | assumption | exact SlA.sl _ | exact LiveS.sla (by assumption)) rfl rfl rfl ?_
            | refine RO.idx rfl rfl rfl rfl (by first | assumption | exact SlA.sl _ | exact LiveS.sla (by assumption)) (by first | assumption | (simp only [Int.toNat_natCast]; assumption)) (by omega) rfl rfl rfl rfl ?_
            | refine RO.ldA rfl rfl rfl (by first | assumption | (simp only [Int.toNat_natCast]; assumption)) rfl rfl rfl (by first | rfl | (refine or_r ?_; repeat first | exact okR_nil | refine okR_bit rfl ?_ | refine okR_ld rfl ?_ | refine okR_rd ?_)) ?_
            | refine RO.ldF rfl rfl rfl (by first | assumption | (simp only [Int.toNat_natCast]; assumption)) rfl rfl rfl (by first | rfl | (refine or_r ?_; repeat first | exact okR_nil | refine okR_bit rfl ?_ | refine okR_ld rfl ?_ | refine okR_rd ?_)) ?_)
        | (refine RO.gd isCallF rfl ?_; first
            | refine RO.call rfl rfl rfl rfl rfl (cmpStr_c _ _ ⟨(by first | rfl | (refine or_r ?_; repeat first | exact okL_nil | refine okL_ld ?_ | refine okL_bit rfl ?_ | refine okL_rd rfl ?_)), ?_⟩))
        | (refine RO.loud rfl rfl rfl (by first | rfl | (refine or_r ?_; repeat first | exact okL_nil | refine okL_ld ?_ | refine okL_bit rfl ?_ | refine okL_rd rfl ?_)) ?_; (try dsimp only [St.alloc, Sys.s0, Sys.s1, S0, Nat.reduceAdd]))
        | refine RO.skip rfl ?_))
    | refine RC.skip ?_
    | refine RC.block ?_
    | refine RC.exit ?_
    | refine RC.condT rfl ?_
    | refine RC.condF rfl ?_
    | refine RC.cond _ rfl (fun hb => ?_) (fun hb => ?_)
    | refine RC.ret ⟨_, rfl, ?_⟩)
  exact ⟨_, rfl, rfl, rfl⟩

/-- The first number of a list that is not 0. -/
def orL : List Int → Int
  | [] => 0
  | x :: l => if x ≠ 0 then x else orL l

theorem or_c (l : List Int) (k : SK) (hl : l.length < 2 ^ 40) (hR : R (.ret (.int .i64 (orL l))) s) : CallsTo (SV ρ) 42 [.sl (l.map (.int .i64)) k] s R := by
  have hd : deadens [.sl (l.map (AV.int .i64)) k] = [.sl (l.map (.int .i64)) k.deaden] := by
    simp only [deadens, deaden]
    congr 2
    clear hl hR
    induction l with
    | nil => rfl
    | cons x l ih => simp [deadens, deaden, ih]
  have hp : pureVs [.sl (l.map (AV.int .i64)) k] = true := by
    clear hl hR hd
    simp only [pureVs, pureV, Bool.and_true]
    induction l with
    | nil => rfl
    | cons x l ih => simp [pureVs, pureV, ih]
  refine fnP (Q := fun v => v = .int .i64 (orL l)) (fun _ h => h ▸ hR) hp hd rfl ?_
  repeat' (first
    | refine RC.seq ?_
    | (refine RC.region sok ?_; repeat' (first
        | refine RO.nil ?_
        | (refine RO.gs rfl ?_; first
            | (refine RO.gd isCmpO rfl ?_; first | refine RO.cmp true rfl rfl rfl ?_ | refine RO.cmp false rfl rfl rfl ?_ | refine RO.cmpB rfl rfl rfl (fun hb => ?_) (fun hb => ?_))
            | refine RO.st rfl rfl rfl (by first | rfl | (refine or_r ?_; repeat first | exact okR_nil | refine okR_bit rfl ?_ | refine okR_ld rfl ?_ | refine okR_rd ?_)) ?_
            | refine RO.len rfl rfl rfl rfl (by first | assumption | exact SlA.sl _ | exact LiveS.sla (by assumption)) rfl rfl rfl ?_
            | refine RO.idx rfl rfl rfl rfl (by first | assumption | exact SlA.sl _ | exact LiveS.sla (by assumption)) (by first | assumption | (simp only [Int.toNat_natCast]; assumption)) (by omega) rfl rfl rfl rfl ?_
            | refine RO.ldA rfl rfl rfl (by first | assumption | (simp only [Int.toNat_natCast]; assumption)) rfl rfl rfl (by first | rfl | (refine or_r ?_; repeat first | exact okR_nil | refine okR_bit rfl ?_ | refine okR_ld rfl ?_ | refine okR_rd ?_)) ?_
            | refine RO.ldF rfl rfl rfl (by first | assumption | (simp only [Int.toNat_natCast]; assumption)) rfl rfl rfl (by first | rfl | (refine or_r ?_; repeat first | exact okR_nil | refine okR_bit rfl ?_ | refine okR_ld rfl ?_ | refine okR_rd ?_)) ?_)
        | (refine RO.loud rfl rfl rfl (by first | rfl | (refine or_r ?_; repeat first | exact okL_nil | refine okL_ld ?_ | refine okL_bit rfl ?_ | refine okL_rd rfl ?_)) ?_; (try dsimp only [St.alloc, Sys.s0, Sys.s1, S0, Nat.reduceAdd]))
        | refine RO.skip rfl ?_))
    | refine RC.skip ?_
    | refine RC.block ?_
    | refine RC.exit ?_
    | refine RC.condT rfl ?_
    | refine RC.condF rfl ?_
    | refine RC.cond _ rfl (fun hb => ?_) (fun hb => ?_)
    | refine RC.ret ⟨_, rfl, ?_⟩)
  refine RC.loop (fun q e st => st = _ ∧ ∃ i : Nat, q = l.length - i ∧ i ≤ l.length ∧ orL l = orL (l.drop i) ∧
    e = Tr.ofList [(3, .int .i64 0), (6, .sl (l.map (.int .i64)) k.deaden), (7, .int .i64 ((l.map (AV.int .i64)).length : Nat)), (8, .int .i64 i)]) ?_ l.length _ ⟨rfl, 0, rfl, Nat.zero_le _, rfl, rfl⟩ (sub_of ⟨rfl, rfl, rfl, rfl, trivial⟩)
  rintro q e st ⟨rfl, i, rfl, hi, ho, rfl⟩
  by_cases hlt : i < l.length
  · have hx : (l.map (AV.int .i64))[(i : Int).toNat]? = some (.int .i64 l[i]) := by simp [hlt]
    repeat' (first
      | refine RC.seq ?_
      | (refine RC.region sok ?_; repeat' (first
          | refine RO.nil ?_
          | (refine RO.gs rfl ?_; first
              | (refine RO.gd isCmpO rfl ?_; first | refine RO.cmp true rfl rfl rfl ?_ | refine RO.cmp false rfl rfl rfl ?_ | refine RO.cmpB rfl rfl rfl (fun hb => ?_) (fun hb => ?_))
              | refine RO.st rfl rfl rfl (by first | rfl | (refine or_r ?_; repeat first | exact okR_nil | refine okR_bit rfl ?_ | refine okR_ld rfl ?_ | refine okR_rd ?_)) ?_
              | refine RO.len rfl rfl rfl rfl (by first | assumption | exact SlA.sl _ | exact LiveS.sla (by assumption)) rfl rfl rfl ?_
              | refine RO.idx rfl rfl rfl rfl (by first | assumption | exact SlA.sl _ | exact LiveS.sla (by assumption)) (by first | assumption | (simp only [Int.toNat_natCast]; assumption)) (by omega) rfl rfl rfl rfl ?_
              | refine RO.ldA rfl rfl rfl (by first | assumption | (simp only [Int.toNat_natCast]; assumption)) rfl rfl rfl (by first | rfl | (refine or_r ?_; repeat first | exact okR_nil | refine okR_bit rfl ?_ | refine okR_ld rfl ?_ | refine okR_rd ?_)) ?_
              | refine RO.ldF rfl rfl rfl (by first | assumption | (simp only [Int.toNat_natCast]; assumption)) rfl rfl rfl (by first | rfl | (refine or_r ?_; repeat first | exact okR_nil | refine okR_bit rfl ?_ | refine okR_ld rfl ?_ | refine okR_rd ?_)) ?_)
          | (refine RO.loud rfl rfl rfl (by first | rfl | (refine or_r ?_; repeat first | exact okL_nil | refine okL_ld ?_ | refine okL_bit rfl ?_ | refine okL_rd rfl ?_)) ?_; (try dsimp only [St.alloc, Sys.s0, Sys.s1, S0, Nat.reduceAdd]))
          | refine RO.skip rfl ?_))
      | refine RC.skip ?_
      | refine RC.block ?_
      | refine RC.exit ?_
      | refine RC.condT rfl ?_
      | refine RC.condF rfl ?_
      | refine RC.cond _ rfl (fun hb => ?_) (fun hb => ?_)
      | refine RC.ret ⟨_, rfl, ?_⟩)
    · refine ⟨_, rfl, rfl, ?_⟩
      rename_i hb1
      rw [ho, List.drop_eq_getElem_cons hlt, orL, if_pos (by simpa using hb)]
      rfl
    · have hw : IntKind.i64.wrap ((i : Int) + 1) = ((i + 1 : Nat) : Int) := by rw [wrap_ok (by omega) (by omega)]; rfl
      refine ⟨l.length - (i + 1), by omega, Tr.ofList [(3, .int .i64 0), (6, .sl (l.map (.int .i64)) k.deaden), (7, .int .i64 ((l.map (AV.int .i64)).length : Nat)), (8, .int .i64 (i + 1 : Nat))], _, .forget (sub_of ⟨rfl, rfl, rfl, hw ▸ rfl, trivial⟩), rfl, i + 1, rfl, hlt, ?_, rfl⟩
      rw [ho, List.drop_eq_getElem_cons hlt, orL, if_neg (by simpa using hb)]
    · exact absurd hb (by simpa using hlt)
  · repeat' (first
      | refine RC.seq ?_
      | (refine RC.region sok ?_; repeat' (first
          | refine RO.nil ?_
          | (refine RO.gs rfl ?_; first
              | (refine RO.gd isCmpO rfl ?_; first | refine RO.cmp true rfl rfl rfl ?_ | refine RO.cmp false rfl rfl rfl ?_ | refine RO.cmpB rfl rfl rfl (fun hb => ?_) (fun hb => ?_))
              | refine RO.st rfl rfl rfl (by first | rfl | (refine or_r ?_; repeat first | exact okR_nil | refine okR_bit rfl ?_ | refine okR_ld rfl ?_ | refine okR_rd ?_)) ?_
              | refine RO.len rfl rfl rfl rfl (by first | assumption | exact SlA.sl _ | exact LiveS.sla (by assumption)) rfl rfl rfl ?_
              | refine RO.idx rfl rfl rfl rfl (by first | assumption | exact SlA.sl _ | exact LiveS.sla (by assumption)) (by first | assumption | (simp only [Int.toNat_natCast]; assumption)) (by omega) rfl rfl rfl rfl ?_
              | refine RO.ldA rfl rfl rfl (by first | assumption | (simp only [Int.toNat_natCast]; assumption)) rfl rfl rfl (by first | rfl | (refine or_r ?_; repeat first | exact okR_nil | refine okR_bit rfl ?_ | refine okR_ld rfl ?_ | refine okR_rd ?_)) ?_
              | refine RO.ldF rfl rfl rfl (by first | assumption | (simp only [Int.toNat_natCast]; assumption)) rfl rfl rfl (by first | rfl | (refine or_r ?_; repeat first | exact okR_nil | refine okR_bit rfl ?_ | refine okR_ld rfl ?_ | refine okR_rd ?_)) ?_)
          | (refine RO.loud rfl rfl rfl (by first | rfl | (refine or_r ?_; repeat first | exact okL_nil | refine okL_ld ?_ | refine okL_bit rfl ?_ | refine okL_rd rfl ?_)) ?_; (try dsimp only [St.alloc, Sys.s0, Sys.s1, S0, Nat.reduceAdd]))
          | refine RO.skip rfl ?_))
      | refine RC.skip ?_
      | refine RC.block ?_
      | refine RC.exit ?_
      | refine RC.condT rfl ?_
      | refine RC.condF rfl ?_
      | refine RC.cond _ rfl (fun hb => ?_) (fun hb => ?_)
      | refine RC.ret ⟨_, rfl, ?_⟩)
    · exact absurd hb (by simpa using hlt)
    · refine ⟨_, rfl, rfl, ?_⟩
      rw [ho, List.drop_eq_nil_of_le (by omega)]
      rfl
end Go.Am.Tryz
