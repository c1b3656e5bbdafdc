/- The abstract machine: loud operations that call no function, against the model's. -/
import Derived.Test.YtmbkcjnjjlkidaaGreatDoorAmLoud1
namespace Go.Am
open Go.RowKit

section
variable {P : Program} {T : Tr TI} {B : Nat → Prop} {NG : Nat} {w0 : World} {G : Gh} {s : St} {w : World} {e : Env} {a : Act} {t : Nat} {te : TI}

theorem LoudOk.val {s' : St} {x : AV} {run : Result Next} {G' : Gh} {w' : World} {v : Value} (h1 : G.Le G') (h2 : WR B w0 G' s' w') (h3 : VR G' x v) (h4 : run = .ok (.value v) w') : LoudOk B w0 G s' (.ret x) run :=
  ⟨G', w', h1, h2, v, h3, .inl h4⟩
theorem LoudOk.skip {s' : St} {run : Result Next} {G' : Gh} {w' : World} (h1 : G.Le G') (h2 : WR B w0 G' s' w') (h4 : run = .ok .skip w') : LoudOk B w0 G s' (.ret undefA) run :=
  ⟨G', w', h1, h2, undef, .tup [] [] .nil, .inr ⟨h4, rfl⟩⟩

/-- A row of one's own is written: what the stores come to. -/
theorem write_sim (hw : WR B w0 G s w) {b off c n : Nat} {cs vs : List AV} {us : List Value} (hb : s.heap.get b = some (.cells cs false)) (hr : G.ρ b = some (c, n)) (hfit : off + vs.length ≤ cs.length) (hv : VRs G vs us) (hf : vs.all isFlat = true) :
    ∃ w', (storeCells ⟨c, off, none⟩ us).run P w = .ok () w' ∧ WR B w0 G { s with heap := s.heap.set b (.cells (splice cs off vs) false) } w' := by
  obtain ⟨arr, T', fr, g1, g2, g3, g4, g5⟩ := hw.cells b cs false c n hb hr
  obtain ⟨q1, q2, q3⟩ := g5 rfl
  subst q1
  have hul : us.length = vs.length := hv.length.symm
  have hst := run_storeCells_fr P c off T' 0 0 us 0 arr w g1 (by omega) (fun j _ _ => by omega) (hv.allFlat hf)
  rw [Nat.add_zero] at hst
  refine ⟨_, hst, ?_⟩
  have hcl : (arr.toList.take cs.length).length = cs.length := by simp; omega
  have hsl : (splice cs off vs).length = cs.length := by simp [splice]; omega
  refine hw.write hb hr g1 hsl ?_ (by simp; omega)
  rw [hsl]
  have hsp := g4.splice off hv
  have : (arr.toList.take off ++ us ++ arr.toList.drop (off + us.length)).take cs.length = (arr.toList.take cs.length).take off ++ us ++ (arr.toList.take cs.length).drop (off + us.length) := by
    rw [List.take_take, Nat.min_eq_left (by omega), List.drop_take]
    have e1 : (arr.toList.take off ++ us).length = off + us.length := by simp; omega
    rw [List.take_append, e1, List.take_of_length_le (by rw [e1]; omega)]
  rw [this]
  exact hsp

theorem storeA_sim (hT : TOk P T) (hw : WR B w0 G s w) {p v : AV} {pv vv : Value} {s' : St} (h : storeA T s t p v = some s') (hp : VR G p pv) (hv : VR G v vv) :
    ∃ w', (Instr.storeAt t pv vv).run P w = .ok () w' ∧ WR B w0 G s' w' := by
  unfold storeA at h
  split at h
  · rename_i ti b off hti
    cases hp
    rename_i c n hr
    split at h
    · rename_i cs hb
      split at h
      · rename_i hc
        cases h
        simp only [Bool.and_eq_true, decide_eq_true_eq, beq_iff_eq] at hc
        have hcells := hv.cells
        obtain ⟨w', h1, h2⟩ := write_sim (P := P) hw hb hr (off := off) (vs := cellsOf v) (by omega) hcells hc.2
        refine ⟨w', ?_, h2⟩
        have hsz : vv.cells.size = ti.size := by
          have := hcells.length
          rw [hc.1.1] at this
          simpa [cellsV] using this.symm
        simp only [Instr.storeAt, Instr.sureAddr, Sem.run_bind, Sem.run_pure, Result.andThen_ok, storeVar, r_sizeOf hT hti]
        rw [if_neg (by simpa using hsz)]
        exact h1
      · cases h
    · cases h
  · cases h

theorem builtinLoud_sim (hT : TOk P T) (hw : WR B w0 G s w) {b : Builtin} {m : Bool} {ts : List Nat} {args : List AV} {r : Res} {s' : St} {us : List Value} (h : builtinLoud T b m ts args s = some (r, s')) (hx : VRs G args us) (ty : Nat) (cs : Array Bool) :
    LoudOk B w0 G s' r ((builtin b ts.toArray ty cs us.toArray).run P w) := by
  unfold builtinLoud at h
  split at h
  · -- append
    split at h
    · rename_i t u ts x y as
      split at h
      · rename_i te hte
        split at h
        · rename_i ys hc hsrc
          simp only [Bool.and_eq_true, decide_eq_true_eq] at hc
          split at h
          · rename_i v s2 happ
            cases h
            cases hx
            rename_i v1 vs1 h1 hs
            cases hs
            rename_i v2 vs2 h2 hs
            obtain ⟨G', w', v', p1, p2, p3, p4⟩ := append_sim hT hw hte hc.1 hsrc happ h1 h2 ts vs2 ty
            exact .val p1 p2 p3 (lift_v p4)
          · cases h
        · cases h
      · cases h
    · cases h
  · -- copy
    split at h
    · rename_i t ts b off n z y as
      split at h
      · rename_i te hte
        split at h
        · rename_i ys cs hc hsrc hb
          simp only [Bool.and_eq_true, decide_eq_true_eq, beq_iff_eq] at hc
          simp only [] at h
          split at h
          · rename_i hc2
            cases h
            simp only [Bool.and_eq_true, decide_eq_true_eq] at hc2
            cases hx
            rename_i v1 vs1 h1 hs
            cases hs
            rename_i v2 vs2 h2 hs
            cases h1
            rename_i c m cap hr hlc hcc
            obtain ⟨e, ht, hge⟩ := elemTI_sim hT hte
            obtain ⟨us, s1, s2, s3, s4⟩ := src_sim hT hw hge hsrc h2
            have hf := s4 w (fun _ => rfl) (min ys.length n) (Nat.min_le_left _ _)
            have hun : ∀ x ∈ ys.take n, (cellsOf x).length = te.size := fun x hx => s2 x (List.mem_of_mem_take hx)
            have hvr : VRs G ((ys.take n).flatMap cellsOf) (us.take (min ys.length n * te.size)) := by
              have := s1.take (n * te.size)
              rw [flat_take n s2] at this
              have hul : us.length = ys.length * te.size := by rw [← s1.length, flat_length s2]
              have e : us.take (n * te.size) = us.take (min ys.length n * te.size) := by
                by_cases hyn : ys.length ≤ n
                · rw [Nat.min_eq_left hyn, List.take_of_length_le (by rw [hul]; exact Nat.mul_le_mul_right _ hyn), List.take_of_length_le (by omega)]
                · rw [Nat.min_eq_right (by omega)]
              rw [← e]; exact this
            obtain ⟨w', q1, q2⟩ := write_sim (P := P) hw hb hr hc2.1 hvr hc2.2
            refine .val (.refl G) q2 (.int .i64 _) (lift_v (m := Builtin.copy_ (t :: ts).toArray ty (.slice (some ⟨c, off, none⟩) n cap :: v2 :: vs2).toArray) ?_)
            have hmin : Nat.min ys.length n = min ys.length n := rfl
            simp only [Builtin.copy_, Sem.run_bind, run_underlying ht, List.getElem?_toArray, List.getElem?_cons_zero, List.getElem?_cons_succ, Result.andThen_ok, s3, r_sizeOf hT hge, hmin, hf, Sem.run_pure, q1]
            rfl
          · cases h
        · cases h
      · cases h
    · cases h
  · -- clear
    split at h
    · rename_i t ts b off n z as
      split at h
      · rename_i te hte
        split at h
        · rename_i cs hb
          simp only [] at h
          split at h
          · rename_i hc2
            cases h
            simp only [Bool.and_eq_true, decide_eq_true_eq] at hc2
            cases hx
            rename_i v1 vs1 h1 hs
            cases h1
            rename_i c m cap hr hlc hcc
            obtain ⟨e, ht, hge⟩ := elemTI_sim hT hte
            obtain ⟨zv, hz, hzv⟩ := r_zero hT hge w
            have hrep := rep_flat (hzv G) n
            obtain ⟨w', q1, q2⟩ := write_sim (P := P) hw hb hr hc2.1 hrep hc2.2
            refine .val (.refl G) q2 (v := .tuple #[]) (.tup [] [] .nil) (lift_v (m := Builtin.clear_ (t :: ts).toArray ty (.slice (some ⟨c, off, none⟩) n cap :: vs1).toArray) ?_)
            cases n with
            | zero =>
              simp only [List.replicate_zero, List.flatten_nil, storeCells, Sem.run_pure, Result.ok.injEq, true_and] at q1
              subst q1
              simp [Builtin.clear_, run_underlying ht]
            | succ n =>
              have hzc : (Builtin.zeroCells zv.cells (n + 1)).toList = (List.replicate (n + 1) (cellsV zv)).flatten := by
                unfold Builtin.zeroCells
                rw [zeros_array]; rfl
              simp only [Builtin.clear_, Sem.run_bind, run_underlying ht, List.getElem?_toArray, List.getElem?_cons_zero, Result.andThen_ok, hz, hzc, q1, Sem.run_pure]
          · cases h
        · cases h
      · cases h
    · rename_i t ts k as
      split at h
      · rename_i te hte
        cases h
        cases hx
        rename_i v1 vs1 h1 hs
        cases h1
        rename_i c base sz len cap vs hI hcap hsz hv hlen hkk
        have hl0 : len = 0 := by simpa using hlen
        subst hl0
        obtain ⟨e, ht, hge⟩ := elemTI_sim hT hte
        refine .val (.refl G) hw (v := .tuple #[]) (.tup [] [] .nil) (lift_v (m := Builtin.clear_ (t :: ts).toArray ty (.slice (some ⟨c, base, none⟩) 0 cap :: vs1).toArray) ?_)
        simp [Builtin.clear_, run_underlying ht]
      · cases h
    · rename_i t ts as
      split at h
      · rename_i te hte
        cases h
        cases hx
        rename_i v1 vs1 h1 hs
        cases h1
        obtain ⟨e, ht, hge⟩ := elemTI_sim hT hte
        refine .val (.refl G) hw (v := .tuple #[]) (.tup [] [] .nil) (lift_v (m := Builtin.clear_ (t :: ts).toArray ty (.slice none 0 0 :: vs1).toArray) ?_)
        simp [Builtin.clear_, run_underlying ht]
      · cases h
    · cases h
  · -- panic
    split at h
    · cases h
      cases hx
      rename_i v1 vs1 h1 hs
      cases hs
      have h1' := h1
      cases h1
      rename_i u hu
      refine ⟨G, w, .refl G, hw, _, h1', ?_⟩
      simp [builtin, Instr.panic]
    · cases h
  · -- String at nil
    split at h
    · split at h
      · rename_i hn
        cases h
        have hn' := beq_iff_eq.1 hn
        subst hn'
        cases hx
        rename_i v1 vs1 h1 hs
        cases hs
        rename_i v2 vs2 h2 hs
        cases hs
        cases h1; cases h2
        rename_i t ts k _
        refine .val (.refl G) hw (.str _) (lift_v (m := Builtin.unsafeString_ (t :: ts).toArray ty #[.pointer none, .int k 0]) ?_)
        rfl
      · cases h
    · cases h
  · cases h

end
end Go.Am
