/- The values seat: what is told of functions without a body, and the closed run of lives(). -/
import Derived.Test.YtmbkcjnjjlkidaaGreatDoorK6
import Derived.Test.YtmbkcjnjjlkidaaGreatDoorVStart
import Derived.Shelf.Strings.OnBuilder
set_option linter.all false
namespace Go.Am.Tryz
open Go.Proofs Go.Am
set_option maxRecDepth 100000

/-- Join's functions and types asq they are numbered here. -/
def joinRen : Go.Shelf.Ren where
  f := fun x => match x with
    | 156 => 81
    | 165 => 110
    | 166 => 111
    | 169 => 112
    | 240 => 137
    | 241 => 138
    | 276 => 156
    | 277 => 157
    | n => n
  t := fun x => match x with
    | 31 => 45
    | 9 => 9
    | 3 => 3
    | 4 => 4
    | 0 => 0
    | 20 => 20
    | 72 => 138
    | 76 => 114
    | 70 => 136
    | 37 => 40
    | 75 => 113
    | 127 => 156
    | 164 => 173
    | 5 => 5
    | 80 => 130
    | n => n
  g := fun x => x

theorem joinLays : Go.Proofs.Lays.n156 Tryz.prog joinRen where
  mixed := Tryz.checked.mixed
  f156 := by kernel_rfl
  f165 := by kernel_rfl
  f166 := by kernel_rfl
  f169 := by kernel_rfl
  f240 := by kernel_rfl
  f241 := by kernel_rfl
  f276 := by kernel_rfl
  f277 := by kernel_rfl
  t0 := by kernel_rfl
  a0 := fun w => by kernel_rfl
  z0 := fun w => by kernel_rfl
  v0 := fun w => by kernel_rfl
  t3 := by kernel_rfl
  a3 := fun w => by kernel_rfl
  z3 := fun w => by kernel_rfl
  v3 := fun w => by kernel_rfl
  t4 := by kernel_rfl
  a4 := fun w => by kernel_rfl
  z4 := fun w => by kernel_rfl
  v4 := fun w => by kernel_rfl
  t9 := by kernel_rfl
  a9 := fun w => by kernel_rfl
  z9 := fun w => by kernel_rfl
  v9 := fun w => by kernel_rfl
  t20 := by kernel_rfl
  a20 := fun w => by kernel_rfl
  z20 := fun w => by kernel_rfl
  v20 := fun w => by kernel_rfl
  t31 := by kernel_rfl
  a31 := fun w => by kernel_rfl
  z31 := fun w => by kernel_rfl
  v31 := fun w => by kernel_rfl
  t37 := by kernel_rfl
  a37 := fun w => by kernel_rfl
  z37 := fun w => by kernel_rfl
  v37 := fun w => by kernel_rfl
  t70 := by kernel_rfl
  a70 := fun w => by kernel_rfl
  z70 := fun w => by kernel_rfl
  v70 := fun w => by kernel_rfl
  t72 := by kernel_rfl
  a72 := fun w => by kernel_rfl
  z72 := fun w => by kernel_rfl
  v72 := fun w => by kernel_rfl
  t75 := by kernel_rfl
  a75 := fun w => by kernel_rfl
  z75 := fun w => by kernel_rfl
  v75 := fun w => by kernel_rfl
  t76 := by kernel_rfl
  a76 := fun w => by kernel_rfl
  z76 := fun w => by kernel_rfl
  v76 := fun w => by kernel_rfl
  t127 := by kernel_rfl
  a127 := fun w => by kernel_rfl
  z127 := fun w => by kernel_rfl
  v127 := fun w => by kernel_rfl
  t164 := by kernel_rfl
  a164 := fun w => by kernel_rfl
  z164 := fun w => by kernel_rfl
  v164 := fun w => by kernel_rfl
theorem joinExtra : Builder.Extra Tryz.prog joinRen where
  sizeBuilder := by kernel_rfl
  liesBuilder := by kernel_rfl
  t5 := by kernel_rfl
  a5 := fun w => by kernel_rfl
  z5 := fun w => by kernel_rfl
  v5 := fun w => by kernel_rfl
  infoByte := by kernel_rfl
  cellsByte := by kernel_rfl
  sizeByte := by kernel_rfl
  neB5 := by decide

theorem xe81 {B : Nat → Prop} {w0 : World} : XE Tryz.prog 6 B w0 81 .join := fun _ _ _ _ _ _ _ hx hw _ hvs => x_join joinLays joinExtra (by kernel_rfl) (by kernel_rfl) hx hw hvs
theorem xe108 {B : Nat → Prop} {w0 : World} : XE Tryz.prog 6 B w0 108 .cmpString := fun _ _ _ _ _ _ _ hx hw _ hvs => x_cmpString Tryz.func108 (by kernel_rfl) (by kernel_rfl) (by kernel_rfl) (by kernel_rfl) hx hw hvs
theorem xe171 {B : Nat → Prop} {w0 : World} : XE Tryz.prog 6 B w0 171 .indexByteString := fun _ _ _ _ _ _ _ hx hw _ hvs => x_indexByteString Tryz.func171 (by kernel_rfl) (by kernel_rfl) (by kernel_rfl) (by kernel_rfl) hx hw hvs
theorem xe156 {B : Nat → Prop} {w0 : World} : XE Tryz.prog 6 B w0 156 .noEscape := fun _ _ _ _ _ _ _ hx hw _ hvs => x_noEscape Tryz.func156 (by kernel_rfl) (by kernel_rfl) (by kernel_rfl) (by kernel_rfl) hx hw hvs
theorem xe144 {B : Nat → Prop} {w0 : World} : XE Tryz.prog 6 B w0 144 .indexString := x_none fun _ _ => rfl
theorem xe157 {B : Nat → Prop} {w0 : World} : XE Tryz.prog 6 B w0 157 .makeNoZero := x_none fun _ _ => rfl

theorem xall {B : Nat → Prop} {w0 : World} : TrAll (XE Tryz.prog 6 B w0) (fun k => k) X := ⟨trivial, ⟨trivial, ⟨trivial, trivial, ⟨trivial, trivial, ⟨trivial, ⟨trivial, trivial, ⟨trivial, ⟨xe171, trivial, trivial⟩, trivial⟩⟩, trivial⟩⟩⟩, ⟨trivial, ⟨trivial, ⟨trivial, trivial, ⟨trivial, ⟨xe81, trivial, trivial⟩, trivial⟩⟩, trivial⟩, ⟨trivial, trivial, ⟨trivial, trivial, ⟨trivial, ⟨trivial, ⟨xe157, trivial, trivial⟩, trivial⟩, trivial⟩⟩⟩⟩⟩, ⟨trivial, ⟨trivial, ⟨trivial, ⟨trivial, trivial, ⟨trivial, ⟨trivial, ⟨xe144, trivial, trivial⟩, trivial⟩, trivial⟩⟩, trivial⟩, ⟨trivial, trivial, ⟨trivial, ⟨trivial, trivial, ⟨xe108, trivial, trivial⟩⟩, ⟨trivial, ⟨trivial, ⟨xe156, trivial, trivial⟩, trivial⟩, trivial⟩⟩⟩⟩, trivial⟩⟩


/-- The seat's program and tables. -/
noncomputable def SV (ρ : Nat → Option (Nat × Nat)) : Sys := ⟨Tryz.prog, 6, YtmbkcjnjjlkidaaGreatDoor.heap0, 6, ρ, T, F⟩

theorem sok {ρ : Nat → Option (Nat × Nat)} : (SV ρ).Ok where
  T := tok
  F := fok
  mixed := Tryz.checked.mixed
  dom := fun b blk hb => by
    have hb : YtmbkcjnjjlkidaaGreatDoor.heap0.get b = some blk := hb
    simp only [YtmbkcjnjjlkidaaGreatDoor.heap0, Tr.get_set, Tr.get_nil] at hb
    show b < 6
    split at hb
    · omega
    · split at hb
      · omega
      · cases hb

def isTrue : Option (Res × St) → Bool
  | some (.ret (.bool b), _) => b
  | _ => false
theorem isTrue_eq {x : Option (Res × St)} (h : isTrue x = true) : ∃ s, x = some (.ret (.bool true), s) := by
  unfold isTrue at h
  split at h
  · subst h; exact ⟨_, rfl⟩
  · cases h

/-- The closed run. -/
theorem lives_true : isTrue (callA C 10000 14 [] ⟨YtmbkcjnjjlkidaaGreatDoor.heap0, 6, .nil, 0⟩) = true := by kernel_rfl

theorem lives {ρ : Nat → Option (Nat × Nat)} (s : St) : CallsTo (SV ρ) 14 [] s fun r s' => s' = s ∧ r = .ret (.bool true) := by
  obtain ⟨s1, hs⟩ := isTrue_eq lives_true
  refine (CallsTo.pure sok (Q := fun v => v = .bool true) rfl (CallsTo.eval (X := X) sok (fun _ _ => xall) hs ⟨_, rfl, rfl, rfl⟩)).mono ?_
  rintro r s' ⟨rfl, v, rfl, rfl⟩
  exact ⟨rfl, rfl⟩
end Go.Am.Tryz
