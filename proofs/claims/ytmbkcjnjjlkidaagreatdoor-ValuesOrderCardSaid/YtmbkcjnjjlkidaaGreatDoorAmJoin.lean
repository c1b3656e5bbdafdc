/- The abstract machine: strings.Join, by the library's own contract. -/
import Derived.Test.YtmbkcjnjjlkidaaGreatDoorAmTab
import Derived.Shelf.Strings.OnBuilder
namespace Go.Am
open Go.RowKit Go.Shelf Go.Proofs

section
variable {P : Program} {NG : Nat} {B : Nat → Prop} {w0 w : World} {G : Gh} {s s' : St} {args : List AV} {vs : List Value} {r : Res} {ρ : Ren}

/-- What is done behind the last block alone leaves all as it was. -/
theorem WR.behind (hw : WR B w0 G s w) {w2 : World} (hb : Below w.heap.size w w2) : WR B w0 G s w2 :=
  have hheap : ∀ c, c < w.heap.size → w2.heap[c]? = w.heap[c]? := fun c hc => hb.block c hc
  have hcell : ∀ c o, c < w.heap.size → w2.cell? ⟨c, o, none⟩ = w.cell? ⟨c, o, none⟩ := fun c o hc => World.cell?_of_block (hheap c hc)
  { below := hw.below.trans (Kept.of_below hb hw.hB)
    hB := fun c hc => Nat.lt_of_lt_of_le (hw.hB c hc) hb.size
    cells := fun b cs fz c n hb hr => by
      obtain ⟨arr, T, fr, h1, h2⟩ := hw.cells b cs fz c n hb hr
      exact ⟨arr, T, fr, (hheap c (hw.lt b c n hr).2).trans h1, h2⟩
    siter := fun b str pos c n hb hr => by
      obtain ⟨h1, h2⟩ := hw.siter b str pos c n hb hr
      exact ⟨(hheap c (hw.lt b c n hr).2).trans h1, h2⟩
    inj := hw.inj
    lt := fun b c n hr => ⟨(hw.lt b c n hr).1, Nat.lt_of_lt_of_le (hw.lt b c n hr).2 hb.size⟩
    imm := fun c o u e => by rw [hcell c o (hw.imm_lt e)]; exact hw.imm c o u e
    tags := fun t c e ce ht hτ => by
      obtain ⟨q1, q2, ⟨arr, T, lo, hi, q3, q4⟩, q5⟩ := hw.tags t c e ce ht hτ
      exact ⟨q1, q2, ⟨arr, T, lo, hi, (hheap c (Array.getElem?_eq_some_iff.1 q3).1).trans q3, q4⟩, q5⟩
    tdist := hw.tdist
    tlt := hw.tlt
    hlt := hw.hlt
    old := hw.old
    hmap := hw.hmap
    oldρ := hw.oldρ
    tdef := hw.tdef
    tlow := hw.tlow }

theorem CallDoes.of_calls {f : Nat} {fn : Func} {xs : Array Value} (hf : P.funcs[f]? = some fn) (hname : (fn.name == "runtime.NumGoroutine") = false) (hb : fn.body.isSome = true) {R : Ending → World → Prop} (h : Calls P f xs w R) : CallDoes P f xs w R := by
  have hname' : ¬ fn.name = "runtime.NumGoroutine" := by simpa using hname
  obtain ⟨b, hb⟩ := Option.isSome_iff_exists.1 hb
  have e : (callFunc f xs).run P w = .ok (.enter f xs) w := by
    unfold callFunc
    simp [hf, hname', hb]
  unfold CallDoes
  rw [e]
  exact h

theorem joinL_eq (sep : List UInt8) : ∀ l : List (List UInt8), joinL sep l = Lib.join l sep
  | [] => rfl
  | [x] => (Lib.join_one x sep).symm
  | x :: y :: r => by
    have := joinL_eq sep (y :: r)
    simp only [joinL, this, Lib.join]
    simp [List.intercalate, List.intersperse]

theorem strs_VRs : ∀ {xs : List AV} {us : List Value} {l : List ByteArray}, strsOf xs = some l → VRs G (xs.flatMap cellsOf) us → us = l.map Value.string ∧ xs.length = l.length
  | [], us, l, h, hv => by
    simp only [strsOf, Option.some.injEq] at h
    subst h
    simp only [List.flatMap_nil] at hv
    cases hv
    exact ⟨rfl, rfl⟩
  | x :: xs, us, l, h, hv => by
    cases x <;> simp only [strsOf, reduceCtorEq] at h
    split at h <;> simp only [reduceCtorEq, Option.some.injEq] at h
    rename_i l' hl'
    subst h
    simp only [List.flatMap_cons, cellsOf, List.cons_append, List.nil_append] at hv
    cases hv with
    | cons _ v _ us' h1 h2 =>
      cases h1
      obtain ⟨rfl, hl⟩ := strs_VRs hl' h2
      exact ⟨rfl, by simp [hl]⟩

theorem x_join (L : Lays.n156 P ρ) (X : Builder.Extra P ρ) (hname : ((Body.n156 ρ).name == "runtime.NumGoroutine") = false) (hbody : (Body.n156 ρ).body.isSome = true)
    (hx : extA .join args s = some (r, s')) (hw : WR B w0 G s w) (hvs : VRs G args vs) : CallDoes P (ρ.f 156) vs.toArray w (CallPost B w0 G s' r) := by
  match args, hx with
  | [.nils, .str sep], hx =>
    simp only [extA, Option.some.injEq, Prod.mk.injEq] at hx
    obtain ⟨rfl, rfl⟩ := hx
    cases hvs with
    | cons _ u _ us h hs => cases hs with
      | cons _ u' _ us' h' hs' =>
        cases hs'; cases h; cases h'
        refine CallDoes.of_calls L.f156 hname hbody ((Any.strings_Join_none L X none 0 sep w).mono ?_)
        rintro e w2 ⟨rfl, rfl⟩
        exact ⟨G, .refl G, hw, _, rfl, .str _⟩
  | [.sl xs k, .str sep], hx =>
    simp only [extA] at hx
    split at hx
    · rename_i l hl
      split at hx
      · rename_i hdec
        simp only [Bool.and_eq_true, decide_eq_true_eq] at hdec
        cases hx
        cases hvs with
        | cons _ u _ us h hs => cases hs with
          | cons _ u' _ us' h' hs' =>
            cases hs'; cases h; cases h'
            rename_i c base sz len cap vs hI hcap hsz hv hlen hkk
            obtain ⟨rfl, hlx⟩ := strs_VRs hl hv
            subst hlen
            rw [hlx]
            cases l with
            | nil =>
              refine CallDoes.of_calls L.f156 hname hbody ((Any.strings_Join_none L X (some ⟨c, base, none⟩) cap sep w).mono ?_)
              rintro e w2 ⟨rfl, rfl⟩
              exact ⟨G, .refl G, hw, _, rfl, .str _⟩
            | cons x0 lr =>
              have hcells : ∀ (j : Nat) x, (x0 :: lr)[j]? = some x → w.cell? ⟨c, base + j, none⟩ = some (.string x) := fun j x hj => by
                have hjl : j < ((x0 :: lr).map Value.string).length := by
                  have := (List.getElem?_eq_some_iff.1 hj).1
                  simpa using this
                have e := hI j hjl
                rw [List.getElem?_map, hj] at e
                exact hw.imm _ _ _ e
              have hc : c < w.heap.size := by
                have e := hI 0 (by simp)
                simp only [List.map_cons, List.getElem?_cons_zero] at e
                exact hw.imm_lt e
              have hj := joinL_eq sep.data.toList ((x0 :: lr).map (·.data.toList))
              refine CallDoes.of_calls L.f156 hname hbody ((Any.strings_Join L X c base cap (x0 :: lr) sep w hcells hc (by simpa using hdec.2) (by rw [← hlx]; exact hcap) (by rw [← hj]; exact hdec.1)).mono ?_)
              rintro e w2 ⟨rfl, hb⟩
              refine ⟨G, .refl G, hw.behind hb, _, rfl, ?_⟩
              rw [hj]
              exact .str _
      · cases hx
    · cases hx

end

/-- What stands for a function does what it does. -/
def XE (P : Program) (NG : Nat) (B : Nat → Prop) (w0 : World) (f : Nat) (x : Ext) : Prop := ∀ G s w args vs r s', extA x args s = some (r, s') → WR B w0 G s w → GOk NG G → VRs G args vs → CallDoes P f vs.toArray w (CallPost B w0 G s' r)

theorem x_none {P : Program} {NG : Nat} {B : Nat → Prop} {w0 : World} {f : Nat} {x : Ext} (h : ∀ args s, extA x args s = none) : XE P NG B w0 f x := fun _ s _ args _ _ _ hx => by rw [h args s] at hx; cases hx


theorem CallsTo.ext {S : Sys} {f : Nat} {x : Ext} (h : ∀ K w0, XE S.P S.NG K w0 f x) {args : List AV} {s : St} {r : Res} {s' : St} (he : extA x args s = some (r, s')) {R : Res → St → Prop} (hR : R r s') : CallsTo S f args s R :=
  ⟨r, s', fun K w0 _ G w vs hw hg hv => h K w0 G s w args vs r s' he hw hg hv, hR⟩

/-- A closed run. -/
theorem CallsTo.eval {S : Sys} (hS : S.Ok) {X : Tr Ext} (hX : ∀ K w0, TrAll (XE S.P S.NG K w0) (fun k => k) X) {n f : Nat} {args : List AV} {s : St} {r : Res} {s' : St} (h : callA ⟨S.T, S.F, X⟩ n f args s = some (r, s')) {R : Res → St → Prop} (hR : R r s') : CallsTo S f args s R :=
  ⟨r, s', (eval_det hS (C := ⟨S.T, S.F, X⟩) rfl (fun _ _ h => h) (fun f x hx args s r s' he K w0 _ G w vs hw hg hv => TrAll.get f (fun k => k) X x (hX K w0) hx G s w args vs r s' he hw hg hv) n).1 f args s r s' h, hR⟩

end Go.Am
