/- The values seat: what the listed variables read as when the call begins is the abstract machine's start. -/
import Derived.Test.YtmbkcjnjjlkidaaGreatDoorVTab2
import Derived.Test.YtmbkcjnjjlkidaaGreatDoorK6
import Derived.Test.YtmbkcjnjjlkidaaGreatDoorRows
import Derived.ProofKit
import Derived.LaidMore
import Derived.OpenShut
import Derived.Stop.Joined
import Derived.Stop.ErrReads
import Derived.SizedLaws
set_option linter.all false
namespace Go.Proofs.YtmbkcjnjjlkidaaGreatDoor
open Go.ChangeShapes Go.WideShapes Go.ChangeAt Go.RowKit Go.Am

set_option maxRecDepth 100000

noncomputable def laid5 : List (String × DataW Unit) := [("math/bits.deBruijn32tab", Rows.laid_math_bits_deBruijn32tab), ("math/bits.deBruijn64tab", Rows.laid_math_bits_deBruijn64tab), ("internal/strconv.uint64pow10", Rows.laid_internal_strconv_uint64pow10), ("strconv.ErrRange", Rows.laid_strconv_ErrRange), ("strconv.ErrSyntax", Rows.laid_strconv_ErrSyntax)]

theorem own : ownKnob Tryz.prog.godebug = none := by kernel_rfl
theorem laidOut : laidOutB Tryz.prog = true := by kernel_rfl
theorem gTab32 : Tryz.prog.globalNamed "math/bits.deBruijn32tab" = some 4 := by kernel_rfl
theorem gTab64 : Tryz.prog.globalNamed "math/bits.deBruijn64tab" = some 5 := by kernel_rfl
theorem gPow : Tryz.prog.globalNamed "internal/strconv.uint64pow10" = some 3 := by kernel_rfl
theorem gRange : Tryz.prog.globalNamed "strconv.ErrRange" = some 2 := by kernel_rfl
theorem gSyntax : Tryz.prog.globalNamed "strconv.ErrSyntax" = some 1 := by kernel_rfl
theorem tRange : (Tryz.prog.globals[2]?).map (·.type) = some 113 := by kernel_rfl
theorem tSyntax : (Tryz.prog.globals[1]?).map (·.type) = some 113 := by kernel_rfl
theorem cells193 : Tryz.prog.cellsOf 193 = 1 := by kernel_rfl
theorem cells9 : Tryz.prog.cellsOf 9 = 1 := by kernel_rfl
theorem star : "*" ++ "errors.errorString" = "*errors.errorString" := by decide
theorem row191 (u : TypeId) (h : Tryz.prog.typeName? 3 u = some "*errors.errorString") : u = 191 :=
  typeName_ptr_named (nm := "errors.errorString") (by rw [star]; kernel_rfl) (by kernel_rfl) (by decide) u (by rw [star]; exact h)

/-- The door's own heap meets the condition. -/
theorem door_met (os : Os) (args : Array Value) : laidMetH Tryz.prog laid5 ((World.doorLaid Tryz.prog 400 os).forCall (fun _ _ => 0) ⟨#[], args, []⟩).memory :=
  laidMetH_of_parts3 (fuel := 8) (laidMet_of_run' 8 (by kernel_rfl) (by kernel_rfl)) (by kernel_rfl) (by kernel_rfl)

theorem of_laid {W : World} (h : laidMetH Tryz.prog laid5 W) : ∃ a1 a2 : Addr, ∃ s1 s2 : ByteArray, ∃ cs5 : Array Value,
    W.var? Tryz.prog "strconv.ErrSyntax" = some #[.iface 191 (.pointer (some a1))] ∧ W.var? Tryz.prog "strconv.ErrRange" = some #[.iface 191 (.pointer (some a2))] ∧
    W.cell? a1 = some (.string s1) ∧ W.cell? a2 = some (.string s2) ∧ W.var? Tryz.prog "math/bits.deBruijn64tab" = some cs5 := by
  rw [MakeChecks.laidMetH_plain _ _ _ (by kernel_rfl)] at h
  obtain ⟨ps, ⟨g4, t4, cs4, f4, p4, q4, hg4, ht4, hv4, hd4, ⟨g5, t5, cs5, f5, p5, q5, hg5, ht5, hv5, hd5, ⟨g3, t3, cs3, f3, p3, q3, hg3, ht3, hv3, hd3, ⟨g2, t2, cs2, f2, p2, q2, hg2, ht2, hv2, hd2,
    ⟨g1, t1, cs1, f1, p1, q1, hg1, ht1, hv1, hd1, hq1, e1⟩, e2⟩, e3⟩, e5⟩, e4⟩, hnd, hrows⟩ := h
  obtain rfl := Option.some.inj (gRange.symm.trans hg2)
  obtain rfl := Option.some.inj (gSyntax.symm.trans hg1)
  obtain rfl := Option.some.inj (tRange.symm.trans ht2)
  obtain rfl := Option.some.inj (tSyntax.symm.trans ht1)
  subst e1 e2 e3 e5 e4
  obtain ⟨l1⟩ := cs1
  obtain ⟨l2⟩ := cs2
  have ok1 : ∀ u v, l1 = [.iface u v] → Value.okWide Tryz.prog W .any 0 u v := fun u v e => by
    subst e
    exact (hrows 1 0 (by simp [MemPlace.row])).2 u v (by simpa using World.var?_cell hg1 hv1 0)
  have ok2 : ∀ u v, l2 = [.iface u v] → Value.okWide Tryz.prog W .any 0 u v := fun u v e => by
    subst e
    exact (hrows 2 0 (by simp [MemPlace.row])).2 u v (by simpa using World.var?_cell hg2 hv2 0)
  obtain ⟨a1, s1, rfl, hc1, hs1, hz1, rfl⟩ := errorString_of_trod Tryz.underlying113 row191 Tryz.underlying191 Tryz.underlying193 rfl rfl Tryz.underlying9 cells193 cells9 hd1 ok1
  obtain ⟨a2, s2, rfl, hc2, hs2, hz2, rfl⟩ := errorString_of_trod Tryz.underlying113 row191 Tryz.underlying191 Tryz.underlying193 rfl rfl Tryz.underlying9 cells193 cells9 hd2 ok2
  exact ⟨a1, a2, s1, s2, cs5, hv1, hv2, hc1, hc2, hv5⟩

/-- The variables that are read. -/
def heap0 : Tr Blk := (Tr.nil.set 1 (.cells [.ifc 191 (.elem [] 0 0)] true)).set 2 (.cells [.ifc 191 (.elem [] 0 0)] true)

def sizeAt (w : World) (b : Nat) : Nat := match w.heap[b]? with
  | some (.cells arr _ _) => arr.size
  | _ => 0

def rho0 (w : World) : Nat → Option (Nat × Nat) := fun b => if b < 6 then some (b, sizeAt w b) else none

theorem var_block {w : World} {nm : String} {g : Nat} {cs : Array Value} (hg : Tryz.prog.globalNamed nm = some g) (hv : w.var? Tryz.prog nm = some cs) : ∃ T fr, w.heap[g]? = some (.cells cs T fr) := by
  unfold World.var? at hv
  rw [hg] at hv
  simp only [Option.bind_some] at hv
  split at hv
  · rename_i cs' T fr e
    cases hv
    exact ⟨T, fr, e⟩
  · cases hv

theorem cell_block {w : World} {a : Addr} {v : Value} (h : w.cell? a = some v) : a.block < w.heap.size ∧ a.spot = none := by
  unfold World.cell? at h
  split at h
  · rename_i c T fr e
    split at h
    · cases h
    · rename_i hs
      exact ⟨(Array.getElem?_eq_some_iff.1 e).1, by simpa using hs⟩
  · cases h

theorem start_of_laid {W : World} (h : laidMetH Tryz.prog laid5 W) : Go.Am.Start 6 heap0 6 (rho0 W) W := by
  obtain ⟨a1, a2, s1, s2, cs5, hv1, hv2, hc1, hc2, hv5⟩ := of_laid h
  obtain ⟨T1, fr1, e1⟩ := var_block gSyntax hv1
  obtain ⟨T2, fr2, e2⟩ := var_block gRange hv2
  obtain ⟨T5, fr5, e5⟩ := var_block gTab64 hv5
  have h5 : 5 < W.heap.size := (Array.getElem?_eq_some_iff.1 e5).1
  obtain ⟨b1, p1⟩ := cell_block hc1
  obtain ⟨b2, p2⟩ := cell_block hc2
  have hget : ∀ b blk, heap0.get b = some blk → (b = 2 ∧ blk = .cells [.ifc 191 (.elem [] 0 0)] true) ∨ (b = 1 ∧ blk = .cells [.ifc 191 (.elem [] 0 0)] true) := fun b blk hb => by
    simp only [heap0, Tr.get_set, Tr.get_nil] at hb
    split at hb
    · exact .inl ⟨by assumption, by cases hb; rfl⟩
    · split at hb
      · exact .inr ⟨by assumption, by cases hb; rfl⟩
      · cases hb
  have hptr : ∀ (G : Gh) (a : Addr), a.spot = none → VR G (.elem [] 0 0) (.pointer (some a)) := fun G a ha => by
    obtain ⟨bl, off, spot⟩ := a
    simp only at ha
    subst ha
    have := VR.elem (G := G) [] 0 0 bl off 0 [] (by simp) .nil (by simp)
    simpa using this
  constructor
  · intro g hg
    exact ⟨sizeAt W g, by simp [rho0, hg]⟩
  · intro b blk hb
    rcases hget b blk hb with ⟨rfl, rfl⟩ | ⟨rfl, rfl⟩
    · exact ⟨by omega, _, rfl⟩
    · exact ⟨by omega, _, rfl⟩
  · intro b cs c n hb hr
    rcases hget b _ hb with ⟨rfl, e⟩ | ⟨rfl, e⟩
    · cases e
      simp only [rho0, sizeAt, e2] at hr
      cases hr
      exact ⟨_, T2, fr2, e2, rfl, by simp, fun G hG => .cons _ _ _ _ (.ifc _ _ _ (hptr G a2 p2)) .nil⟩
    · cases e
      simp only [rho0, sizeAt, e1] at hr
      cases hr
      exact ⟨_, T1, fr1, e1, rfl, by simp, fun G hG => .cons _ _ _ _ (.ifc _ _ _ (hptr G a1 p1)) .nil⟩
  · intro b c n hr
    simp only [rho0] at hr
    split at hr
    · cases hr; omega
    · cases hr
  · intro b blk hb
    rcases hget b blk hb with ⟨rfl, _⟩ | ⟨rfl, _⟩ <;> exact ⟨_, if_pos (by omega)⟩

end Go.Proofs.YtmbkcjnjjlkidaaGreatDoor
