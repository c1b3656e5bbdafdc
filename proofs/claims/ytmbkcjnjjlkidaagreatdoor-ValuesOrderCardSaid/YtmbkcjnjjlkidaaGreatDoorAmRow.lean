/- The abstract machine: an argument of a row, read. -/
import Derived.Test.YtmbkcjnjjlkidaaGreatDoorAmTab
namespace Go.Am
set_option linter.unusedVariables false
set_option linter.unusedSimpArgs false
open Go.RowKit

/-- A slice of numbers that comes in. -/
def IntsA (k : IntKind) (y : AV) (l : List Int) : Prop := ((y = .nils ∧ l = []) ∨ y = .sl (l.map (.int k)) .dead) ∧ ∀ n ∈ l, (Lit.int k n).wf = true

theorem ints_cells (k : IntKind) (l : List Int) : (l.map (AV.int k)).flatMap cellsOf = l.map (.int k) := by
  induction l with
  | nil => rfl
  | cons x l ih => simp [cellsOf, ih]

theorem spot_none {P : Program} {W : World} {b t e : Nat} {x : Addr} {len cap : Nat} (ht : P.underlying t = some (.slice e)) (h : Value.okWide P W .any b t (.slice (some x) len cap)) : x.spot = none := by
  unfold Value.okWide at h
  simp only [ht] at h
  unfold Cell.okWide at h
  simp only [ht] at h
  unfold Cell.ok at h
  simp only [ht] at h
  exact h.2.2.2.1

theorem ints_VRs {G : Gh} (k : IntKind) : ∀ l : List Int, VRs G (l.map (.int k)) (l.map (Value.int k))
  | [] => .nil
  | x :: l => .cons _ _ _ _ (.int _ _) (ints_VRs k l)

theorem ints_VR {k : IntKind} {W : World} {ρ : Nat → Option (Nat × Nat)} {x : Addr} {len cap : Nat} {zs : List Int} (hx : x.spot = none) (hl : len ≤ cap) (hz : zs.length = cap)
    (hcell : ∀ i, i < zs.length → W.cell? (x.add i) = some (.int k (zs.getD i 0))) (hwz : ∀ n ∈ zs, (Lit.int k n).wf = true) :
    ∃ y l, IntsA k y l ∧ VR (Gh.start ρ fun c o => W.cell? ⟨c, o, none⟩) y (.slice (some x) len cap) := by
  obtain ⟨b, off, spot⟩ := x
  simp only at hx
  subst hx
  refine ⟨.sl ((zs.take len).map (.int k)) .dead, zs.take len, ⟨.inr rfl, fun n hn => hwz n (List.mem_of_mem_take hn)⟩, ?_⟩
  refine .sl _ _ b off 1 len cap ((zs.take len).map (Value.int k)) (fun y hy => ?_) ?_ (fun j hj => ?_) (by simp; omega) hl trivial
  · obtain ⟨m, _, rfl⟩ := List.mem_map.1 hy; rfl
  · rw [ints_cells]; exact ints_VRs k _
  · simp only [List.length_map, List.length_take] at hj
    have := hcell j (by omega)
    rw [Addr.add_lit] at this
    simp only [Gh.start]
    rw [this, List.getElem?_map, List.getElem?_take, if_pos (by omega)]
    have hjz : j < zs.length := by omega
    simp [List.getElem?_eq_getElem hjz]

end Go.Am
