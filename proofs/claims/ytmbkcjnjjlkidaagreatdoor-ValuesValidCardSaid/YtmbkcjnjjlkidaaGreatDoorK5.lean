/- The typed machine: operations that change the state, but calls. -/
import Derived.Test.YtmbkcjnjjlkidaaGreatDoorK4
import Derived.Test.YtmbkcjnjjlkidaaGreatDoorK3
set_option linter.all false
namespace Go.Am

section
variable {P : XP} {h0 : Tr Blk} {X : XSt P.W.U} {θ : Nat → Option Nat} {s : St} {e : XEnv P.W.U} {env : Env} {ρ : Type} {y : ρ}

/-- What an operation has left. -/
structure XStep (P : XP) (h0 : Tr Blk) (θ : Nat → Option Nat) (s : St) (X' : XSt P.W.U) (ws dm : List Nat) (θ' : Nat → Option Nat) (s2 : St) : Prop where
  sr : XSR P h0 X' θ' s2
  keep : ∀ t u, dropT dm θ t = some u → θ' t = some u
  same : ∀ b, hasN ws b = false → s2.heap.get b = s.heap.get b

theorem dropT_nil : dropT [] θ = θ := by funext t; simp [dropT]

theorem xget_map (dm : List Nat) : ∀ (e : XEnv P.W.U) (t : Nat), xget (e.map fun p => (p.1, demV (W := P.W) dm p.2)) t = (xget e t).map (demV (W := P.W) dm)
  | [], t => rfl
  | (k, x) :: r, t => by
    simp only [List.map_cons, xget]
    cases Nat.beq t k with
    | true => rfl
    | false => exact xget_map dm r t

theorem EnvX.dem (he : EnvX P.W θ e env) {dm : List Nat} {θ' : Nat → Option Nat} (h : ∀ t u, dropT dm θ t = some u → θ' t = some u) : EnvX P.W θ' (demE dm e) env := by
  cases dm with
  | nil =>
    rw [dropT_nil] at h
    intro t v hv
    obtain ⟨a, h1, h2⟩ := he t v hv
    exact ⟨a, h1, h2.weaken h⟩
  | cons d dm =>
    intro t v hv
    rw [show demE (W := P.W) (d :: dm) e = e.map (fun p => (p.1, demV (W := P.W) (d :: dm) p.2)) from rfl, xget_map] at hv
    cases hx : xget e t with
    | none => rw [hx] at hv; cases hv
    | some w =>
      rw [hx] at hv
      cases hv
      obtain ⟨a, h1, h2⟩ := he t w hx
      exact ⟨a, h1, (h2.dem (d :: dm)).weaken h⟩

theorem demH_get {dm : List Nat} {h : List (XB P.W.U)} {j : Nat} {cs : XB P.W.U} (hj : (demH (W := P.W) dm h)[j]? = some cs) : ∃ cs0, h[j]? = some cs0 ∧ (dm = [] ∧ cs = cs0 ∨ cs = demB (W := P.W) dm cs0) := by
  cases dm with
  | nil => exact ⟨cs, hj, .inl ⟨rfl, rfl⟩⟩
  | cons d dm =>
    rw [show demH (W := P.W) (d :: dm) h = h.map (fun cs => demB (W := P.W) (d :: dm) cs) from rfl, List.getElem?_map] at hj
    cases hx : h[j]? with
    | none => rw [hx] at hj; cases hj
    | some c => rw [hx] at hj; cases hj; exact ⟨c, rfl, .inr rfl⟩

theorem demH_length {dm : List Nat} {h : List (XB P.W.U)} : (demH (W := P.W) dm h).length = h.length := by
  cases dm with
  | nil => rfl
  | cons d dm => exact List.length_map _

/-- The own blocks behind other tags. -/
theorem XSR.own_dem (hX : XSR P h0 X θ s) {dm : List Nat} {θ' : Nat → Option Nat} (h : ∀ t u, dropT dm θ t = some u → θ' t = some u) {j : Nat} {cs : XB P.W.U} (hj : (demH (W := P.W) dm X.heap)[j]? = some cs) :
    ∃ asq, s.heap.get (P.nx + j) = some (.cells asq false) ∧ BlkR P.W θ' cs asq := by
  obtain ⟨c0, h1, h2⟩ := demH_get hj
  obtain ⟨asq, h3, h4⟩ := hX.own j c0 h1
  refine ⟨asq, h3, ?_⟩
  rcases h2 with ⟨rfl, rfl⟩ | rfl
  · rw [dropT_nil] at h; exact h4.weaken h
  · exact (h4.dem dm).weaken h

theorem XSR.alloc (hX : XSR P h0 X θ s) {cs : XB P.W.U} {asq : List AV} (h : BlkR P.W θ cs asq) :
    XStep P h0 θ s ⟨X.heap ++ [cs], X.nt⟩ [P.nx + X.heap.length] [] θ (s.alloc (.cells asq false)) where
  sr := {
    next := by simp only [St.alloc, hX.next, List.length_append, List.length_singleton]; omega
    low := fun b hb => by
      simp only [St.alloc]
      rw [Tr.get_set_ne _ _ _ _ (by rw [hX.next]; omega)]
      exact hX.low b hb
    own := fun j c hj => by
      simp only [St.alloc]
      by_cases h1 : j < X.heap.length
      · simp only [List.getElem?_append_left h1] at hj
        obtain ⟨bs, h2, h3⟩ := hX.own j c hj
        exact ⟨bs, by rw [Tr.get_set_ne _ _ _ _ (by rw [hX.next]; omega)]; exact h2, h3⟩
      · simp only [List.getElem?_append_right (Nat.le_of_not_lt h1)] at hj
        have : j = X.heap.length := by
          cases hh : j - X.heap.length with
          | zero => omega
          | succ n => rw [hh] at hj; simp at hj
        subst this
        simp at hj
        subst hj
        exact ⟨asq, by rw [hX.next, Tr.get_set_same], h⟩
    high := fun b hb => by
      simp only [St.alloc] at hb ⊢
      rw [Tr.get_set_ne _ _ _ _ (by omega)]
      exact hX.high b (by omega)
    tag := hX.tag
    inj := hX.inj }
  keep := fun t u h => by rwa [dropT_nil] at h
  same := fun b hb => by
    simp only [hasN, List.any_cons, List.any_nil, Bool.or_false] at hb
    simp only [St.alloc]
    rw [Tr.get_set_ne _ _ _ _ (by rw [hX.next]; intro hh; subst hh; rw [Nat.beq_refl] at hb; cases hb)]

theorem XSR.store (hX : XSR P h0 X θ s) {b : Nat} {cs cs' : XB P.W.U} {asq' : List AV} (hb : P.nx ≤ b) (hc : X.heap[b - P.nx]? = some cs) (h : BlkR P.W θ cs' asq') :
    XStep P h0 θ s ⟨X.heap.set (b - P.nx) cs', X.nt⟩ [b] [] θ { s with heap := s.heap.set b (.cells asq' false) } where
  sr := {
    next := by simp only [hX.next, List.length_set]
    low := fun c hc => by
      simp only []
      rw [Tr.get_set_ne _ _ _ _ (by omega)]
      exact hX.low c hc
    own := fun j c hj => by
      simp only [] at hj ⊢
      by_cases h1 : j = b - P.nx
      · subst h1
        have hlt := (List.getElem?_eq_some_iff.1 hc).1
        rw [List.getElem?_set_self (by simpa using hlt)] at hj
        cases hj
        exact ⟨asq', by rw [show P.nx + (b - P.nx) = b by omega, Tr.get_set_same], h⟩
      · rw [List.getElem?_set_ne (fun hh => h1 hh.symm)] at hj
        obtain ⟨bs, h2, h3⟩ := hX.own j c hj
        exact ⟨bs, by rw [Tr.get_set_ne _ _ _ _ (by omega)]; exact h2, h3⟩
    high := fun c hc' => by
      simp only [] at hc' ⊢
      have hlt := (List.getElem?_eq_some_iff.1 hc).1
      rw [Tr.get_set_ne _ _ _ _ (by rw [hX.next] at hc'; omega)]
      exact hX.high c hc'
    tag := hX.tag
    inj := hX.inj }
  keep := fun t u h => by rwa [dropT_nil] at h
  same := fun c hc => by
    simp only [hasN, List.any_cons, List.any_nil, Bool.or_false] at hc
    simp only []
    rw [Tr.get_set_ne _ _ _ _ (by intro hh; subst hh; rw [Nat.beq_refl] at hc; cases hc)]

/-- A tag takes the place of another one. -/
theorem XSR.retag (hX : XSR P h0 X θ s) {dm : List Nat} {s2 : St} {new : Option Nat} (hheap : s2.heap = s.heap) (hnext : s2.next = s.next) (hnt : s.nt ≤ s2.nt)
    (hlive : ∀ t u, dropT dm θ t = some u → s2.live.get u = some true) (hnew : ∀ u, new = some u → s2.live.get u = some true ∧ u < s2.nt ∧ ∀ t, dropT dm θ t ≠ some u) (h1 : X.nt ≠ 0) :
    XStep P h0 θ s ⟨demH dm X.heap, X.nt + 1⟩ [] dm (fun t => if t = X.nt then new else dropT dm θ t) s2 := by
  have hd : ∀ t u, dropT dm θ t = some u → θ t = some u := fun t u h => by
    unfold dropT at h; split at h
    · cases h
    · exact h
  have hne : ∀ t u, dropT dm θ t = some u → t ≠ X.nt := fun t u h => by
    have := (hX.tag t u (hd t u h)).2.2.2; omega
  have hkeep : ∀ t u, dropT dm θ t = some u → (if t = X.nt then new else dropT dm θ t) = some u := fun t u h => by
    rw [if_neg (hne t u h)]; exact h
  exact {
    sr := {
      next := by simp only [hnext, hX.next, demH_length]
      low := fun b hb => by rw [hheap]; exact hX.low b hb
      own := fun j cs hj => by rw [hheap]; exact hX.own_dem hkeep hj
      high := fun b hb => by rw [hheap]; exact hX.high b (by rw [← hnext]; exact hb)
      tag := fun t u h => by
        by_cases ht : t = X.nt
        · rw [if_pos ht] at h
          obtain ⟨h2, h3, _⟩ := hnew u h
          exact ⟨h2, h3, by rw [ht]; exact h1, by rw [ht]; exact Nat.lt_succ_self _⟩
        · rw [if_neg ht] at h
          have := hX.tag t u (hd t u h)
          exact ⟨hlive t u h, by omega, this.2.2.1, by simp only []; omega⟩
      inj := fun t t' u h h' => by
        by_cases ht : t = X.nt
        · by_cases ht' : t' = X.nt
          · rw [ht, ht']
          · rw [if_pos ht] at h
            rw [if_neg ht'] at h'
            exact absurd h' ((hnew u h).2.2 t')
        · rw [if_neg ht] at h
          by_cases ht' : t' = X.nt
          · rw [if_pos ht'] at h'
            exact absurd h ((hnew u h').2.2 t)
          · rw [if_neg ht'] at h'
            exact hX.inj t t' u (hd _ _ h) (hd _ _ h') }
    keep := hkeep
    same := fun b _ => by rw [hheap] }

theorem room_ok {bytes n : Nat} (te : TI) (h : room bytes n = true) (hb : te.bytes = bytes) : roomA te n = true := by
  subst hb; exact h

theorem dds_headIs (hW : P.W.Ok) {c : SC} {zs : List AV} {xs : List (c.D P.W.U)} {n : Nat} (h : dds zs = xs.map (encD P.W c)) (hn : n = scSize P.W c) : headIs n zs = true := by
  subst hn; exact headIs_ok hW h

theorem elems_flat (hW : P.W.Ok) {c : SC} : ∀ {zs : List AV} {xs : List (c.D P.W.U)}, dds zs = xs.map (encD P.W c) → (zs.flatMap cellsOf).all isFlat = true
  | [], _, _ => rfl
  | z :: zs, xs, h => by
    cases xs with
    | nil => simp [dds] at h
    | cons x xs =>
      simp only [dds, List.map_cons, List.cons.injEq] at h
      simp only [List.flatMap_cons, List.all_append, Bool.and_eq_true]
      exact ⟨cells_flat hW h.1, elems_flat hW h.2⟩

theorem chunk_row (hW : P.W.Ok) {c : SC} : ∀ {ys : List AV} {xs : List (c.D P.W.U)}, dds ys = xs.map (encD P.W c) → chunk (scSize P.W c) (scAgg c) ys.length (ys.flatMap cellsOf) = ys
  | [], _, _ => rfl
  | y :: ys, xs, h => by
    cases xs with
    | nil => simp [dds] at h
    | cons x xs =>
      simp only [dds, List.map_cons, List.cons.injEq] at h
      have hl := cells_len hW h.1
      simp only [List.length_cons, chunk, List.flatMap_cons]
      rw [List.drop_append, hl, Nat.sub_self, List.drop_zero, List.drop_eq_nil_of_le (by rw [hl]; exact Nat.le_refl _), List.nil_append, chunk_row hW h.2]
      congr 1
      cases c with
      | st n =>
        obtain ⟨asq, rfl, _⟩ := XR.st_cells hW (θ := fun _ => none) (x := x) h.1
        simp only [chunkHead, scAgg]
        rw [List.take_append, hl, Nat.sub_self, List.take_zero, List.append_nil, List.take_of_length_le (by rw [hl]; exact Nat.le_refl _)]
        rfl
      | _ =>
        have h0 : XR P.W (fun _ => none) (.v _ x) y := by simpa only [XR] using h.1
        have h1 := XR.flat hW h0 rfl
        have h2 : cellsOf y = [y] := by cases y <;> simp [isFlat] at h1 <;> rfl
        simp only [chunkHead, scAgg, h2, List.cons_append, List.headD_cons]

/-- The elements that are appended. -/
theorem xsrc_ok (hW : P.W.Ok) (hX : XSR P h0 X θ s) {te : TI} {c : SC} {x : XV P.W.U} {a : AV} {K : List (c.D P.W.U) → Option ρ} (hsz : te.size = scSize P.W c) (hag : te.agg = scAgg c) (h : xsrc P X te c x K = some y) (hx : XR P.W θ x a) :
    ∃ ys zs, srcElems s te a = some zs ∧ dds zs = ys.map (encD P.W c) ∧ K ys = some y := by
  unfold xsrc at h
  split at h
  · rename_i b c' lo n
    split at h
    · rename_i hcc
      have hcc : c' = c := of_decide_eq_true hcc
      subst hcc
      simp only [XR] at hx
      subst hx
      split at h
      · rename_i xs hxs
        obtain ⟨ys, h1, h2, _, _⟩ := xarr_ok hX hxs
        obtain ⟨hle, h⟩ := chk_some h
        have hle : lo + n ≤ List.length xs := of_decide_eq_true hle
        have hl : ys.length = List.length xs := by rw [← dds_length ys, h2, List.length_map]
        have hc := dds_cells hW h2
        have h3 : dds ((ys.drop lo).take n) = List.map (encD P.W c') (cutL xs lo n) := by
          rw [dds_map, List.map_take, List.map_drop, ← dds_map, h2, cutL, List.map_take, List.map_drop]
        refine ⟨_, (ys.drop lo).take n, ?_, h3, h⟩
        have h4 : msCells s.heap b (lo * scSize P.W c') (n * scSize P.W c') = some (((ys.drop lo).take n).flatMap cellsOf) := by
          simp only [msCells, h1]
          rw [show decide (lo * scSize P.W c' + n * scSize P.W c' ≤ (ys.flatMap cellsOf).length) = true by
            rw [fl_length' hc, ← Nat.add_mul]; exact decide_eq_true (Nat.mul_le_mul_right _ (by omega))]
          simp only []
          rw [fl_drop' lo hc, fl_take' n (fun w hw => hc w (List.mem_of_mem_drop hw))]
        have h5 := elems_flat hW h3
        have h6 := chunk_row hW h3
        rw [List.length_take, List.length_drop, show min n (ys.length - lo) = n by omega] at h6
        simp only [srcElems, hsz, h4, beq_self_eq_true, h5, Bool.and_self, hag, h6]
      · cases h
    · cases h
  · split at h
    · rename_i b hb
      have := xasS_ok hb hx
      subst this
      split at h
      · rename_i hk
        have hk : te.kd = .int .u8 := by
          revert hk
          unfold isU8
          split <;> simp_all
        split at h
        · rename_i ys hcast
          obtain ⟨e, h2⟩ := castD_some hcast
          cases e
          have h2 : bytesL b = ys := h2
          subst h2
          exact ⟨_, ofBytes b, by simp only [srcElems, hk], by rw [dds_ofBytes]; exact (bytes_enc (P := P) b).symm, h⟩
        · cases h
      · cases h
    · split at h
      · rename_i ys hys
        rcases asList_ok hW hys hx with ⟨rfl, rfl⟩ | ⟨zs, k, rfl, h1⟩
        · exact ⟨_, [], rfl, rfl, h⟩
        · cases zs with
          | nil => exact ⟨_, [], rfl, h1, h⟩
          | cons z zs =>
            refine ⟨_, z :: zs, ?_, h1, h⟩
            cases ys with
            | nil => simp [dds] at h1
            | cons u us =>
              simp only [dds, List.map_cons, List.cons.injEq] at h1
              simp only [srcElems, cells_len hW h1.1, hsz, beq_self_eq_true]
      · cases h

variable {K : XV P.W.U → XSt P.W.U → List Nat → List Nat → Option ρ}

theorem append_ok (hW : P.W.Ok) (hX : XSR P h0 X θ s) (h1 : X.nt ≠ 0) {te : TI} {c : SC} {xs ys : List (c.D P.W.U)} {tg : Nat} {base : AV} {us : List AV} (hsz : te.size = scSize P.W c)
    (hroom : room te.bytes (lenN xs + lenN ys) = true) (hb : ∃ zs, dds zs = xs.map (encD P.W c) ∧ ((base = .nils ∧ zs = []) ∨ base = .sl zs .full ∨ ∃ u, θ tg = some u ∧ base = .sl zs (.tag u))) (hu : dds us = ys.map (encD P.W c)) :
    ∃ a s2 θ', appendA te false s base us = some (a, s2) ∧ XR P.W θ' (.lin c (catL xs ys) X.nt) a ∧
      XStep P h0 θ s ⟨demH (xdm tg) X.heap, X.nt + 1⟩ [] (xdm tg) θ' s2 := by
  obtain ⟨zs, hz, hform⟩ := hb
  have t0 : θ 0 = none := by
    cases h1 : θ 0 with
    | none => rfl
    | some u => exact absurd rfl (hX.tag _ _ h1).2.2.1
  have hlz : zs.length = xs.length := by rw [← dds_length zs, hz, List.length_map]
  have hlu : us.length = ys.length := by rw [← dds_length us, hu, List.length_map]
  generalize hdm : xdm tg = dm
  unfold xdm at hdm
  have hdrop : ∀ t u, dropT dm θ t = some u → θ t = some u ∧ t ≠ tg := fun t u h => by
    unfold dropT at h
    split at h
    · cases h
    · rename_i hn
      refine ⟨h, fun hh => ?_⟩
      subst hh
      cases hb : Nat.beq t 0 with
      | true => rw [natbeq hb] at h; rw [t0] at h; cases h
      | false =>
        rw [hb] at hdm
        simp only [] at hdm
        subst hdm
        simp at hn
  have hcat : dds (zs ++ us) = (catL xs ys).map (encD P.W c) := by rw [dds_append, hz, hu, catL, List.map_append]
  have self : ∀ {new a}, (a = AV.nils ∧ zs ++ us = []) ∨ a = .sl (zs ++ us) .full ∨ (∃ u, new = some u ∧ a = .sl (zs ++ us) (.tag u)) →
      XR P.W (fun t => if t = X.nt then new else dropT dm θ t) (.lin c (catL xs ys) X.nt) a := fun {new a} h => by
    simp only [XR]
    refine ⟨zs ++ us, hcat, ?_⟩
    rcases h with h | h | ⟨u, h, h'⟩
    · exact .inl h
    · exact .inr (.inl h)
    · exact .inr (.inr ⟨u, by simpa using h, h'⟩)
  have keepLive : ∀ t u, dropT dm θ t = some u → s.live.get u = some true := fun t u h => (hX.tag t u (hdrop t u h).1).1
  -- the state asq it was
  have same : ∀ (new : Option Nat), (∀ u, new = some u → s.live.get u = some true ∧ u < s.nt ∧ ∀ t, dropT dm θ t ≠ some u) →
      XStep P h0 θ s ⟨demH dm X.heap, X.nt + 1⟩ [] dm (fun t => if t = X.nt then new else dropT dm θ t) s := fun new hnew =>
    hX.retag rfl rfl (Nat.le_refl _) keepLive hnew h1
  -- a new tag
  have fresh : ∀ (lv : Tr Bool), (∀ t u, dropT dm θ t = some u → lv.get u = some true) →
      XStep P h0 θ s ⟨demH dm X.heap, X.nt + 1⟩ [] dm (fun t => if t = X.nt then some s.nt else dropT dm θ t) { s with live := lv.set s.nt true, nt := s.nt + 1 } := fun lv hlv =>
    hX.retag rfl rfl (Nat.le_succ _) (fun t u h => by
      simp only []
      rw [Tr.get_set_ne _ _ _ _ (by have := (hX.tag t u (hdrop t u h).1).2.1; omega)]
      exact hlv t u h) (fun u h => by
      cases h
      refine ⟨by simp only []; rw [Tr.get_set_same], Nat.lt_succ_self _, fun t ht => ?_⟩
      have := (hX.tag t _ (hdrop t _ ht).1).2.1
      omega) h1
  cases us with
  | nil =>
    have hnil : ys = [] := by
      cases ys with
      | nil => rfl
      | cons => simp [dds] at hu
    rcases hform with ⟨rfl, hzs⟩ | rfl | ⟨u, hu', rfl⟩
    · exact ⟨.nils, s, _, rfl, self (new := none) (.inl ⟨rfl, by rw [hzs]; rfl⟩), same none (fun u h => by cases h)⟩
    · exact ⟨_, s, _, rfl, self (new := none) (.inr (.inl (by rw [List.append_nil]))), same none (fun u h => by cases h)⟩
    · refine ⟨_, s, _, rfl, self (new := some u) (.inr (.inr ⟨u, rfl, by rw [List.append_nil]⟩)), same (some u) (fun v h => ?_)⟩
      cases h
      have := hX.tag tg u hu'
      exact ⟨this.1, this.2.1, fun t ht => (hdrop t u ht).2 (hX.inj t tg u (hdrop t u ht).1 hu')⟩
  | cons w ws =>
    have hr : roomA te (zs.length + (w :: ws).length) = true := by rw [hlz, hlu]; exact hroom
    rcases hform with ⟨rfl, rfl⟩ | rfl | ⟨u, hu', rfl⟩
    · simp only [List.length_nil, Nat.zero_add] at hr
      refine ⟨.sl (w :: ws) (.tag s.nt), _, _, by simp only [appendA, hr, newTag], self (new := some s.nt) (.inr (.inr ⟨_, rfl, rfl⟩)), fresh s.live keepLive⟩
    · refine ⟨.sl (zs ++ w :: ws) (.tag s.nt), _, _, by simp only [appendA, hr, newTag, dds_headIs hW hz hsz, Bool.and_self], self (new := some s.nt) (.inr (.inr ⟨_, rfl, rfl⟩)), fresh s.live keepLive⟩
    · have hl := (hX.tag tg u hu').1
      refine ⟨.sl (zs ++ w :: ws) (.tag s.nt), _, _, by simp only [appendA, hr, newTag, dds_headIs hW hz hsz, Bool.and_self, hl, elems_flat hW hu], self (new := some s.nt) (.inr (.inr ⟨_, rfl, rfl⟩)), fresh (s.live.set u false) fun t v ht => ?_⟩
      rw [Tr.get_set_ne _ _ _ _ (fun hh => by subst hh; exact (hdrop t v ht).2 (hX.inj t tg v (hdrop t v ht).1 hu'))]
      exact keepLive t v ht

theorem BlkR.row {c : SC} {ys : List AV} {xs : List (c.D P.W.U)} (h : dds ys = xs.map (encD P.W c)) : BlkR P.W θ (.arr c xs) (ys.flatMap cellsOf) := ⟨ys, rfl, h⟩

theorem xbase_ok {c : SC} {x : XV P.W.U} {a : AV} {xs : List (c.D P.W.U)} {tg : Nat} (h : xbase (W := P.W) c x = some (xs, tg)) (hx : XR P.W θ x a) :
    ∃ zs, dds zs = xs.map (encD P.W c) ∧ ((a = .nils ∧ zs = []) ∨ a = .sl zs .full ∨ ∃ u, θ tg = some u ∧ a = .sl zs (.tag u)) := by
  cases x with
  | lin c' xs' tg' =>
    simp only [xbase] at h
    split at h
    · rename_i xs2 hcast
      cases h
      obtain ⟨e, h5⟩ := castD_some hcast
      cases e
      have h5 : xs' = xs := h5
      subst h5
      simpa only [XR] using hx
    · cases h
  | raw r =>
    simp only [XR] at hx
    obtain ⟨rfl, _⟩ := hx
    cases a <;> first
      | (have h2 : (none : Option (List (c.D P.W.U) × Nat)) = some (xs, tg) := h; cases h2)
      | (have h2 : some (([] : List (c.D P.W.U)), 0) = some (xs, tg) := h
         cases h2
         exact ⟨[], rfl, .inl ⟨rfl, rfl⟩⟩)
  | _ => cases (show none = some (xs, tg) from h)

theorem xappend_ok (hW : P.W.Ok) (hX : XSR P h0 X θ s) (h1 : X.nt ≠ 0) {mut_ : Bool} {t u : Nat} {x z : XV P.W.U} {a b : AV} (h : xappend P mut_ X t u x z K = some y) (hx : XR P.W θ x a) (hz : XR P.W θ z b) (ts : List Nat) (r : List AV) :
    ∃ v X' ws dm c s2 θ', builtinLoud P.T .append mut_ (t :: u :: ts) (a :: b :: r) s = some (.ret c, s2) ∧ XR P.W θ' v c ∧ XStep P h0 θ s X' ws dm θ' s2 ∧ X'.nt ≠ 0 ∧ K v X' ws dm = some y := by
  unfold xappend at h
  cases ht : P.T.get t with
  | none => rw [ht] at h; cases h
  | some ti =>
    rw [ht] at h
    simp only [] at h
    split at h
    · rename_i el hkd
      split at h
      · rename_i te c hte hc
        split at h
        · rename_i hok
          simp only [Bool.and_eq_true] at hok
          obtain ⟨⟨⟨hn, hpos⟩, hsz⟩, hag⟩ := hok
          have hag : te.agg = scAgg c := by revert hag; cases te.agg <;> cases scAgg c <;> simp
          have hsz := natbeq hsz
          split at h
          · rename_i xs tg hbase
            obtain ⟨ys, us, h2, h3, hk⟩ := xsrc_ok hW hX hsz hag h hz
            clear h
            revert hk
            intro h
            have hb := xbase_ok hbase hx
            have e1 : elemTI P.T t = some te := by simp only [elemTI, ht, hkd, hte]
            have hlu : us.length = ys.length := by rw [← dds_length us, h3, List.length_map]
            split at h
            · obtain ⟨hroom, h⟩ := chk_some h
              obtain ⟨v, s2, θ', h5, h6, h7⟩ := append_ok hW hX h1 hsz hroom hb h3
              refine ⟨_, _, _, _, v, s2, θ', ?_, h6, h7, Nat.succ_ne_zero _, h⟩
              simp only [builtinLoud, e1, hn, hpos, h2, h5, Bool.and_self]
            · split at h
              · rename_i htg
                have htg := natbeq htg
                subst htg
                have t0 : θ 0 = none := by
                  cases h1 : θ 0 with
                  | none => rfl
                  | some u => exact absurd rfl (hX.tag _ _ h1).2.2.1
                obtain ⟨zs, hzs, hform⟩ := hb
                have hlz : zs.length = xs.length := by rw [← dds_length zs, hzs, List.length_map]
                have hform : (a = .nils ∧ zs = []) ∨ a = .sl zs .full := by
                  rcases hform with h | h | ⟨u, h, _⟩
                  · exact .inl h
                  · exact .inr h
                  · rw [t0] at h; cases h
                rcases brB_some h with ⟨e2, h⟩ | ⟨e2, h⟩
                · have : ys = [] := by simpa [nilL] using e2
                  subst this
                  have : us = [] := List.eq_nil_of_length_eq_zero hlu
                  subst this
                  refine ⟨x, X, [], [], a, s, θ, ?_, hx, ⟨hX, fun t u h => by rwa [dropT_nil] at h, fun _ _ => rfl⟩, h1, h⟩
                  simp only [builtinLoud, e1, hn, hpos, h2, Bool.and_self]
                  rcases hform with ⟨rfl, _⟩ | rfl <;> rfl
                · obtain ⟨hroom, h⟩ := chk_some h
                  have hne : us ≠ [] := fun hh => by
                    subst hh
                    have : ys = [] := List.eq_nil_of_length_eq_zero hlu.symm
                    subst this
                    simp [nilL] at e2
                  have hcat : dds (zs ++ us) = (catL xs ys).map (encD P.W c) := by rw [dds_append, hzs, h3, catL, List.map_append]
                  have hr : roomA te (zs.length + us.length) = true := by rw [hlz, hlu]; exact hroom
                  refine ⟨_, _, _, _, .ms s.next 0 (zs ++ us).length te.size, _, θ, ?_, ?_, hX.alloc (BlkR.row hcat), h1, h⟩
                  · simp only [builtinLoud, e1, hn, hpos, h2, Bool.and_self]
                    cases us with
                    | nil => exact absurd rfl hne
                    | cons w ws =>
                      rcases hform with ⟨rfl, rfl⟩ | rfl
                      · simp only [List.length_nil, Nat.zero_add] at hr
                        simp only [appendA, hr, newMs, List.nil_append]
                      · simp only [appendA, hr, dds_headIs hW hzs hsz, Bool.and_self, newMs]
                  · simp only [XR, hX.next, hsz, Nat.zero_mul, lenN]
                    rw [← dds_length (zs ++ us), hcat, List.length_map]
              · cases h
          · cases h
        · cases h
      · cases h
    · cases h

theorem row_splice {z i off : Nat} {ys vs : List AV} {w w' : AV} (h : ∀ y ∈ ys, (cellsOf y).length = z) (hw : ys[i]? = some w) (hoff : off + vs.length ≤ z) (hw' : cellsOf w' = Go.Am.splice (cellsOf w) off vs) :
    Go.Am.splice (ys.flatMap cellsOf) (i * z + off) vs = (ys.set i w').flatMap cellsOf := by
  obtain ⟨hi, rfl⟩ := List.getElem?_eq_some_iff.1 hw
  have hwz := h _ (List.getElem_mem hi)
  unfold Go.Am.splice at hw' ⊢
  rw [List.set_eq_take_append_cons_drop, if_pos hi, List.flatMap_append, List.flatMap_cons, hw']
  have e1 : (ys.flatMap cellsOf).take (i * z + off) = (ys.take i).flatMap cellsOf ++ (cellsOf ys[i]).take off := by
    rw [List.take_add, fl_take' i h, fl_drop' i h, List.drop_eq_getElem_cons hi, List.flatMap_cons, List.take_append, hwz, show off - z = 0 by omega, List.take_zero, List.append_nil]
  have e2 : (ys.flatMap cellsOf).drop (i * z + off + vs.length) = (cellsOf ys[i]).drop (off + vs.length) ++ (ys.drop (i + 1)).flatMap cellsOf := by
    rw [Nat.add_assoc]
    exact row_drop h hw (off + vs.length) hoff
  rw [e1, e2]
  simp only [List.append_assoc]

theorem xelset_ok (hW : P.W.Ok) {ti : TI} {c : SC} {x0 x1 : c.D P.W.U} {off : Nat} {v : XV P.W.U} {a z : AV} (h : xelset ti c x0 off v = some x1) (hv : XR P.W θ v a) (hz : dd z = encD P.W c x0) :
    ∃ w, cellsOf w = Go.Am.splice (cellsOf z) off (cellsOf a) ∧ dd w = encD P.W c x1 ∧ (cellsOf a).length = ti.size ∧ off + ti.size ≤ scSize P.W c ∧ (cellsOf a).all isFlat = true := by
  have hlz := cells_len hW hz
  have hz' : XR P.W θ (.v c x0) z := by simpa only [XR] using hz
  unfold xelset at h
  split at h
  · rename_i hok
    rw [Bool.and_eq_true] at hok
    have h1 := natbeq hok.1
    have h2 := natbeq hok.2
    subst h1
    have hd := asD_ok hW h hv
    have hla := cells_len hW hd
    refine ⟨a, ?_, hd, by rw [hla, h2], by omega, cells_flat hW hd⟩
    unfold Go.Am.splice
    rw [List.take_zero, List.nil_append, Nat.zero_add, hla, List.drop_eq_nil_of_le (by rw [hlz]; exact Nat.le_refl _), List.append_nil]
  · split at h
    · rename_i hok
      simp only [Bool.and_eq_true, decide_eq_true_eq] at hok
      obtain ⟨⟨o1, o2⟩, o3⟩ := hok
      have hcv := XR.cells hW hv
      have hcz := XR.cells hW hz'
      have hspl := hcz.splice_ hcv off
      cases c with
      | st n =>
        have h1 : P.W.of n _ = some x1 := h
        refine ⟨.agg (Go.Am.splice (cellsOf z) off (cellsOf a)), rfl, ?_, by rw [XRs.length hcv, natbeq o1], ?_, XRs.flat hW hcv o3⟩
        · simp only [dd, encD]
          exact hW.of _ _ _ h1 θ _ hspl
        · rw [← hlz, XRs.length hcz]; exact o2
      | _ => cases h
    · cases h

theorem xmake_ok (hW : P.W.Ok) (hX : XSR P h0 X θ s) (h1 : X.nt ≠ 0) {t : Nat} {n m : Int} {j k : IntKind} (h : xmake P X t n m K = some y) :
    ∃ te v X' ws dm c s2 θ', elemTI P.T t = some te ∧ (match decide (0 ≤ n) && decide (n ≤ m) && decide (m < 2 ^ 46) && decide (m.toNat * te.bytes ≤ 2 ^ 47) && decide (0 < te.size) with
      | true => match m == 0 with
        | true => some (Res.ret (.sl [] .full), s)
        | false => some (.ret (.ms s.next 0 n.toNat te.size), s.alloc (.cells ((List.replicate m.toNat te.zero).flatMap cellsOf) false))
      | false => none) = some (.ret c, s2) ∧ XR P.W θ' v c ∧ XStep P h0 θ s X' ws dm θ' s2 ∧ X'.nt ≠ 0 ∧ K v X' ws dm = some y := by
  unfold xmake at h
  cases ht : P.T.get t with
  | none => rw [ht] at h; cases h
  | some ti =>
    rw [ht] at h
    simp only [] at h
    split at h
    · rename_i el hkd
      split at h
      · rename_i te c hte hc
        split at h
        · rename_i z hok hz
          simp only [Bool.and_eq_true] at hok
          obtain ⟨⟨hpos, hsz⟩, hag⟩ := hok
          have hsz := natbeq hsz
          split at h
          · rename_i zx hzx
            obtain ⟨hmk, h⟩ := chk_some h
            have e1 : elemTI P.T t = some te := by simp only [elemTI, ht, hkd, hte]
            have e2 : (decide (0 ≤ n) && decide (n ≤ m) && decide (m < 2 ^ 46) && decide (m.toNat * te.bytes ≤ 2 ^ 47) && decide (0 < te.size)) = true := by
              rw [Bool.and_eq_true]; exact ⟨hmk, hpos⟩
            have hz' := asD_ok hW hzx (xofV_ok (θ := θ) hz)
            rcases brB_some h with ⟨e3, h⟩ | ⟨e3, h⟩
            · refine ⟨te, _, X, [], [], .sl [] .full, s, θ, e1, ?_, ?_, ⟨hX, fun t u h => by rwa [dropT_nil] at h, fun _ _ => rfl⟩, h1, h⟩
              · rw [e2]
                have e4 : (m == 0) = true := e3
                simp only [e4]
              · simp only [XR]; exact ⟨[], rfl, .inr (.inl rfl)⟩
            · have hd : dds (List.replicate m.toNat te.zero) = (repL (posN m) zx).map (encD P.W c) := by
                rw [dds_map, List.map_replicate, hz', repL, posN, List.map_replicate]
              refine ⟨te, _, _, _, _, .ms s.next 0 n.toNat te.size, _, θ, e1, ?_, ?_, hX.alloc (BlkR.row hd), h1, h⟩
              · rw [e2]
                have e4 : (m == 0) = false := e3
                simp only [e4]
              · simp only [XR, hX.next, hsz, Nat.zero_mul, posN]
          · cases h
        · cases h
      · cases h
    · cases h
end
end Go.Am
namespace Go.Am
open Go.RowKit

def fsBeq : List (Nat × Nat × Bool) → List (Nat × Nat × Bool) → Bool
  | [], [] => true
  | (a, b, c) :: xs, (d, e, f) :: ys => a == d && b == e && c == f && fsBeq xs ys
  | _, _ => false
theorem fs_of_beq : ∀ {a b : List (Nat × Nat × Bool)}, fsBeq a b = true → a = b
  | [], [], _ => rfl
  | [], _ :: _, h => by simp [fsBeq] at h
  | _ :: _, [], h => by simp [fsBeq] at h
  | (a, b, c) :: xs, (d, e, f) :: ys, h => by
    simp only [fsBeq, Bool.and_eq_true, beq_iff_eq] at h
    rw [h.1.1.1, h.1.1.2, h.1.2, fs_of_beq h.2]

def TK.beq : TK → TK → Bool
  | .bool, .bool => true
  | .int k, .int j => decide (k = j)
  | .str, .str => true
  | .ptr a, .ptr b => a == b
  | .slice a, .slice b => a == b
  | .arr a b, .arr c d => a == c && b == d
  | .map a b, .map c d => a == c && b == d
  | .struct a, .struct b => fsBeq a b
  | .func, .func => true
  | .iface, .iface => true
  | .other, .other => true
  | _, _ => false
theorem TK.eq_of_beq {a b : TK} (h : TK.beq a b = true) : a = b := by
  cases a <;> cases b <;> simp_all [TK.beq]
  exact fs_of_beq h

def tokB (P : Program) (t : Nat) (ti : TI) : Bool :=
  match P.info? t, P.underlying t with
  | some i, some d => TK.beq ti.kd (tkOf d) && i.size == ti.size && i.bytes == ti.bytes &&
      (match i.zero with
        | some z => (match ofV 8 z with
          | some a => AV.beq a ti.zero
          | none => false)
        | none => false) &&
      (cellsOf ti.zero).length == ti.size && ((!isFlat ti.zero) == ti.agg) && (cellsOf ti.zero).all isFlat &&
      (!ti.plain || (i.comparable && !P.stoodInHeld t && !P.eqGuardType P.depth t))
  | _, _ => false

theorem tok_of {P : Program} {t : Nat} {ti : TI} (h : tokB P t ti = true) : TOk1 P t ti := by
  unfold tokB at h
  split at h
  · rename_i i d hi hd
    simp only [Bool.and_eq_true, beq_iff_eq, Bool.or_eq_true, Bool.not_eq_true'] at h
    obtain ⟨⟨⟨⟨⟨⟨⟨h1, h2⟩, h3⟩, h4⟩, h5⟩, h6⟩, h7⟩, h8⟩ := h
    split at h4
    · rename_i z hz
      split at h4
      · rename_i a ha
        refine ⟨i, d, z, hi, hd, TK.eq_of_beq h1, h2, h3, hz, ?_, h5, h6, h7, fun hp => ?_⟩
        · rw [ha, AV.eq_of_beq _ _ h4]
        · rcases h8 with h8 | h8
          · rw [hp] at h8; cases h8
          · exact ⟨h8.1.1, h8.1.2, h8.2⟩
      · cases h4
    · cases h4
  · cases h

def TrAllB {α : Type} (p : Nat → α → Bool) : (Nat → Nat) → Tr α → Bool
  | _, .nil => true
  | f, .node v l r => (match v with
      | some x => p (f 0) x
      | none => true) && TrAllB p (fun k => f (2 * k + 1)) l && TrAllB p (fun k => f (2 * k + 2)) r
  | _, .cnil => true
  | _, .cons _ _ _ => false

theorem TrAllB.get {α : Type} {p : Nat → α → Bool} : ∀ (k : Nat) (f : Nat → Nat) (t : Tr α) (x : α), TrAllB p f t = true → t.get k = some x → p (f k) x = true := by
  intro k
  induction k using Nat.strongRecOn with
  | _ k ih =>
    intro f t x h hg
    cases t with
    | nil => rw [Tr.get_nil] at hg; cases hg
    | node v l r =>
      simp only [TrAllB, Bool.and_eq_true] at h
      cases k with
      | zero =>
        simp only [Tr.get] at hg
        subst hg
        exact h.1.1
      | succ k =>
        simp only [Tr.get] at hg
        split at hg
        · rename_i hk
          have := ih (k / 2) (by omega) _ l x h.1.2 hg
          rwa [show 2 * (k / 2) + 1 = k + 1 by omega] at this
        · rename_i hk
          have hk : k % 2 ≠ 0 := hk
          have := ih (k / 2) (by omega) _ r x h.2 hg
          rwa [show 2 * (k / 2) + 2 = k + 1 by omega] at this
    | cnil => cases hg
    | cons a b t => simp [TrAllB] at h

theorem tok_all {P : Program} {T : Tr TI} (h : TrAllB (tokB P) (fun k => k) T = true) : TOk P T := fun t ti hg => tok_of (TrAllB.get t (fun k => k) T ti h hg)

def TrAll {α : Type} (p : Nat → α → Prop) : (Nat → Nat) → Tr α → Prop
  | _, .nil => True
  | f, .node v l r => (match v with
      | some x => p (f 0) x
      | none => True) ∧ TrAll p (fun k => f (2 * k + 1)) l ∧ TrAll p (fun k => f (2 * k + 2)) r
  | _, .cnil => True
  | _, .cons _ _ _ => False

theorem TrAll.get {α : Type} {p : Nat → α → Prop} : ∀ (k : Nat) (f : Nat → Nat) (t : Tr α) (x : α), TrAll p f t → t.get k = some x → p (f k) x := by
  intro k
  induction k using Nat.strongRecOn with
  | _ k ih =>
    intro f t x h hg
    cases t with
    | nil => rw [Tr.get_nil] at hg; cases hg
    | node v l r =>
      simp only [TrAll] at h
      cases k with
      | zero =>
        simp only [Tr.get] at hg
        subst hg
        exact h.1
      | succ k =>
        simp only [Tr.get] at hg
        split at hg
        · rename_i hk
          have := ih (k / 2) (by omega) _ l x h.2.1 hg
          rwa [show 2 * (k / 2) + 1 = k + 1 by omega] at this
        · rename_i hk
          have hk : k % 2 ≠ 0 := hk
          have := ih (k / 2) (by omega) _ r x h.2.2 hg
          rwa [show 2 * (k / 2) + 2 = k + 1 by omega] at this
    | cnil => cases hg
    | cons a b t => simp [TrAll] at h

/-- A function asq the abstract machine bears it. -/
def mkF (f : Func) (mutDst : List Nat) (frz : Option Nat) : AFun := { body := f.body.getD .skip, results := f.results.toList, mutDst, frz }

def FE (P : Program) (NG : Nat) (f : Nat) (afn : AFun) : Prop :=
  ∃ fn, P.funcs[f]? = some fn ∧ (fn.name == "runtime.NumGoroutine") = false ∧ fn.body = some afn.body ∧ fn.results.toList = afn.results ∧ codeOk NG fn.ntmps afn.mutDst afn.body = true

theorem fe_of {P : Program} {NG f : Nat} {fn : Func} {m : List Nat} {z : Option Nat} (hf : P.funcs[f]? = some fn)
    (hb : (!(fn.name == "runtime.NumGoroutine") && fn.body.isSome && codeOk NG fn.ntmps m (fn.body.getD .skip)) = true) : FE P NG f (mkF fn m z) := by
  simp only [Bool.and_eq_true, Bool.not_eq_true'] at hb
  obtain ⟨⟨h1, h2⟩, h3⟩ := hb
  refine ⟨fn, hf, h1, ?_, rfl, h3⟩
  obtain ⟨b, hb⟩ := Option.isSome_iff_exists.1 h2
  simp [mkF, hb]

theorem fok_all {P : Program} {NG : Nat} {F : Tr AFun} (h : TrAll (FE P NG) (fun k => k) F) (f : Nat) (afn : AFun) (hg : F.get f = some afn) : FE P NG f afn := TrAll.get f (fun k => k) F afn h hg

/-- What a function without a body answers, out of the model's own row. -/
theorem row_does {P : Program} {f : Nat} {fn : Func} {g : Array Value → Sem Value} (hf : P.funcs[f]? = some fn) (hname : (fn.name == "runtime.NumGoroutine") = false) (hb : fn.body.isNone = true)
    (hn : (Extern.findNext fn).isNone = true) (hg : Extern.find fn = some g) {args : Array Value} {w : World} {v : Value} (hr : (g args).run P w = .ok v w) {R : Ending → World → Prop} (hR : R (.returned v) w) :
    CallDoes P f args w R := by
  have hn' : Extern.findNext fn = none := by simpa using hn
  have hb' : fn.body = none := by simpa using hb
  have hname' : ¬ fn.name = "runtime.NumGoroutine" := by simpa using hname
  unfold CallDoes
  have e : (callFunc f args).run P w = .ok (.value v) w := by
    unfold callFunc
    simp [hf, hname', hb', hn', hg, hr]
  rw [e]
  exact hR

section
variable {P : Program} {NG : Nat} {B : Nat → Prop} {w0 w : World} {G : Gh} {s s' : St} {f : Nat} {fn : Func} {args : List AV} {vs : List Value} {r : Res}

theorem x_noEscape (hf : P.funcs[f]? = some fn) (hname : (fn.name == "runtime.NumGoroutine") = false) (hb : fn.body.isNone = true) (hn : (Extern.findNext fn).isNone = true) (hg : Extern.find fn = some Extern.AbiNoEscape.same)
    (hx : extA .noEscape args s = some (r, s')) (hw : WR B w0 G s w) (hvs : VRs G args vs) : CallDoes P f vs.toArray w (CallPost B w0 G s' r) := by
  match args, hx with
  | [v], hx =>
    simp only [extA, Option.some.injEq, Prod.mk.injEq] at hx
    obtain ⟨rfl, rfl⟩ := hx
    cases hvs with
    | cons _ u _ us h hs =>
      cases hs
      exact row_does hf hname hb hn hg (v := u) rfl ⟨G, .refl G, hw, u, rfl, h⟩

theorem x_cmpString (hf : P.funcs[f]? = some fn) (hname : (fn.name == "runtime.NumGoroutine") = false) (hb : fn.body.isNone = true) (hn : (Extern.findNext fn).isNone = true) (hg : Extern.find fn = some Extern.BytealgCompare.compare)
    (hx : extA .cmpString args s = some (r, s')) (hw : WR B w0 G s w) (hvs : VRs G args vs) : CallDoes P f vs.toArray w (CallPost B w0 G s' r) := by
  match args, hx with
  | [.str a, .str b], hx =>
    simp only [extA, Option.some.injEq, Prod.mk.injEq] at hx
    obtain ⟨rfl, rfl⟩ := hx
    cases hvs with
    | cons _ u _ us h hs => cases hs with
      | cons _ u' _ us' h' hs' =>
        cases hs'; cases h; cases h'
        exact row_does hf hname hb hn hg (v := .int .i64 (Extern.BytealgCompare.cmp a b)) rfl ⟨G, .refl G, hw, _, rfl, .int _ _⟩

theorem x_indexByteString (hf : P.funcs[f]? = some fn) (hname : (fn.name == "runtime.NumGoroutine") = false) (hb : fn.body.isNone = true) (hn : (Extern.findNext fn).isNone = true) (hg : Extern.find fn = some Extern.BytealgIndexByte.indexByte)
    (hx : extA .indexByteString args s = some (r, s')) (hw : WR B w0 G s w) (hvs : VRs G args vs) : CallDoes P f vs.toArray w (CallPost B w0 G s' r) := by
  match args, hx with
  | [.str a, .int .u8 c], hx =>
    simp only [extA] at hx
    cases hvs with
    | cons _ u _ us h hs => cases hs with
      | cons _ u' _ us' h' hs' =>
        cases hs'; cases h; cases h'
        have hrun : (Extern.BytealgIndexByte.indexByte [Value.string a, Value.int .u8 c].toArray).run P w =
            .ok (match (List.range a.size).find? fun i => a[i]! == c.toNat.toUInt8 with
              | some i => .int .i64 i
              | none => .int .i64 (-1)) w := by
          change Sem.run P (match (List.range a.size).find? fun i => a[i]! == c.toNat.toUInt8 with
            | some i => pure (goInt i)
            | none => pure (goInt (-1))) w = _
          split <;> rfl
        refine row_does hf hname hb hn hg hrun ?_
        have hc : UInt8.ofNat c.toNat = c.toNat.toUInt8 := rfl
        rw [hc] at hx
        split at hx <;> rename_i hfind <;> rw [hfind] <;> cases hx <;> exact ⟨G, .refl G, hw, _, rfl, .int _ _⟩

end
end Go.Am
namespace Go.Am
set_option linter.unusedVariables false
set_option linter.unusedSimpArgs false
open Go.RowKit

/-- What a frame must know. -/
def AllIn : List (Nat × AV) → Env → Prop
  | [], _ => True
  | (t, v) :: l, e => e.get t = some v ∧ AllIn l e

theorem sub_of : ∀ {l : List (Nat × AV)} {e : Env}, AllIn l e → Sub (Tr.ofList l) e
  | [], _, _ => fun t v h => by cases h
  | (k, x) :: l, e, h => fun t v ht => by
    rw [Tr.ofList, Tr.get_cons] at ht
    split at ht
    · rename_i hk; subst hk; cases ht; exact h.1
    · exact sub_of h.2 t v ht

/-- The frame that a function begins with. -/
def enumA : List AV → Nat → List (Nat × AV)
  | [], _ => []
  | v :: vs, i => (i, v) :: enumA vs (i + 1)

theorem enum_get : ∀ (args : List AV) (i t : Nat) (v : AV), (Tr.ofList (enumA args i)).get t = some v → i ≤ t ∧ args[t - i]? = some v
  | [], i, t, v, h => by cases h
  | a :: args, i, t, v, h => by
    simp only [enumA, Tr.ofList, Tr.get_cons] at h
    split at h
    · rename_i e; subst e; cases h; simp
    · obtain ⟨h1, h2⟩ := enum_get args (i + 1) t v h
      refine ⟨by omega, ?_⟩
      rw [show t - i = (t - (i + 1)) + 1 by omega]
      simpa using h2

theorem init_sub (args : List AV) : Sub (Tr.ofList (enumA args 0)) (initEnv args 0 .nil) := fun t v h => by
  obtain ⟨_, h2⟩ := enum_get args 0 t v h
  rw [init_get]
  have := (List.getElem?_eq_some_iff.1 h2).1
  rw [if_pos (by omega)]
  exact h2

/-- A slice that is read. -/
def SlA (y : AV) (xs : List AV) : Prop := (y = .nils ∧ xs = []) ∨ ∃ k, y = .sl xs k

section
variable {T : Tr TI} {h : Tr Blk} {y x : AV} {xs : List AV}

theorem SlA.nil : SlA .nils [] := .inl ⟨rfl, rfl⟩
theorem SlA.sl (k : SK) : SlA (.sl xs k) xs := .inr ⟨k, rfl⟩

theorem len_sl {t e : Nat} {ti : TI} {ts : List Nat} (ht : T.get t = some ti) (hk : ti.kd = .slice e) (hy : SlA y xs) : builtinStill T .len (t :: ts) [y] = some (.int .i64 xs.length) := by
  rcases hy with ⟨rfl, rfl⟩ | ⟨k, rfl⟩ <;> simp [builtinStill, lenA, ht, hk]

theorem idx_sl {t : Nat} {ti te : TI} {e : Nat} {i : Int} {kk : IntKind} (ht : T.get t = some ti) (hk : ti.kd = .slice e) (he : T.get e = some te) (hy : SlA y xs) (h0 : 0 ≤ i) (hx : xs[i.toNat]? = some x) (hs : (cellsOf x).length = te.size) :
    indexAddrA T t y (.int kk i) = some (.elem xs i.toNat 0) := by
  rcases hy with ⟨rfl, rfl⟩ | ⟨k, rfl⟩
  · simp at hx
  · simp only [indexAddrA, ht, asIdx, hk, he, h0, hx, hs, decide_true, beq_self_eq_true]

theorem load_agg {t : Nat} {ti : TI} {i : Nat} {cs : List AV} (ht : T.get t = some ti) (ha : ti.agg = true) (hx : xs[i]? = some (.agg cs)) (hs : cs.length = ti.size) : loadA T h t (.elem xs i 0) = some (.agg cs) := by
  simp only [loadA, ht, hx, loadCellsA, ha, cellsOf, Nat.zero_add]
  simp [hs.symm]

theorem load_flat {t : Nat} {ti : TI} {i : Nat} (ht : T.get t = some ti) (ha : ti.agg = false) (hx : xs[i]? = some x) (hf : cellsOf x = [x]) : loadA T h t (.elem xs i 0) = some x := by
  simp only [loadA, ht, hx, loadCellsA, ha, hf]
  rfl
end

/-- A slice that may be appended to. -/
def LiveS (s : St) (y : AV) (xs : List AV) : Prop := (y = .nils ∧ xs = []) ∨ y = .sl xs .full ∨ ∃ t, y = .sl xs (.tag t) ∧ s.live.get t = some true ∧ t < s.nt

theorem LiveS.sla {s : St} {y : AV} {xs : List AV} (h : LiveS s y xs) : SlA y xs := by
  rcases h with h | h | ⟨t, h, _⟩
  · exact .inl h
  · exact .inr ⟨_, h⟩
  · exact .inr ⟨_, h⟩
theorem LiveS.nil {s : St} : LiveS s .nils [] := .inl ⟨rfl, rfl⟩
theorem LiveS.heap {s s' : St} {y : AV} {xs : List AV} (h : LiveS s y xs) (hl : s'.live = s.live) (hn : s'.nt = s.nt) : LiveS s' y xs := by
  rcases h with h | h | ⟨t, h1, h2, h3⟩
  · exact .inl h
  · exact .inr (.inl h)
  · exact .inr (.inr ⟨t, h1, by rw [hl]; exact h2, by rw [hn]; exact h3⟩)

/-- Tags that live on. -/
def TagIn (y : AV) (t : Nat) : Prop := ∃ xs, y = .sl xs (.tag t)
def Keeps (s s' : St) (y : AV) : Prop := s.nt ≤ s'.nt ∧ ∀ t, t < s.nt → ¬ TagIn y t → s'.live.get t = s.live.get t

theorem LiveS.keep {s s' : St} {y z : AV} {xs : List AV} (h : LiveS s z xs) (hk : Keeps s s' y) (hd : ∀ t, TagIn z t → ¬ TagIn y t) : LiveS s' z xs := by
  rcases h with h | h | ⟨t, h1, h2, h3⟩
  · exact .inl h
  · exact .inr (.inl h)
  · exact .inr (.inr ⟨t, h1, by rw [hk.2 t h3 (hd t ⟨xs, h1⟩)]; exact h2, Nat.lt_of_lt_of_le h3 hk.1⟩)

theorem srcElems_sl {s : St} {te : TI} {xs : List AV} {k : SK} (h : ∀ x ∈ xs, (cellsOf x).length = te.size) : srcElems s te (.sl xs k) = some xs := by
  cases xs with
  | nil => rfl
  | cons x r => simp only [srcElems, h x (by simp), beq_self_eq_true]

theorem headIs_of {sz : Nat} {xs : List AV} (h : ∀ x ∈ xs, (cellsOf x).length = sz) : headIs sz xs = true := by
  cases xs with
  | nil => rfl
  | cons x r => simp [headIs, h x (by simp)]

theorem room_of {te : TI} {n : Nat} (hb : te.bytes ≤ 2 ^ 10) (hn : n ≤ 2 ^ 32) : roomA te n = true := by
  have h1 : n * te.bytes ≤ 2 ^ 47 := by
    have := Nat.mul_le_mul hn hb
    omega
  simp only [roomA, Bool.and_eq_true, decide_eq_true_eq]
  omega

/-- Elements are appended. -/
theorem push {s : St} {te : TI} {y : AV} {xs ys : List AV} (hy : LiveS s y xs) (hxs : ∀ x ∈ xs, (cellsOf x).length = te.size) (hne : ys ≠ []) (hf : (ys.flatMap cellsOf).all isFlat = true) (hb : te.bytes ≤ 2 ^ 10) (hl : xs.length + ys.length ≤ 2 ^ 32) :
    ∃ L, appendA te false s y ys = some (.sl (xs ++ ys) (.tag s.nt), { s with live := L, nt := s.nt + 1 }) ∧ L.get s.nt = some true ∧ ∀ t, t ≠ s.nt → ¬ TagIn y t → L.get t = s.live.get t := by
  cases ys with
  | nil => exact absurd rfl hne
  | cons z ys =>
    rcases hy with ⟨rfl, rfl⟩ | rfl | ⟨t, rfl, h1, h2⟩
    · refine ⟨s.live.set s.nt true, ?_, Tr.get_set_same _ _ _, fun t ht _ => Tr.get_set_ne _ _ _ _ ht⟩
      have hr : roomA te (z :: ys).length = true := room_of hb (by simp at hl ⊢; omega)
      simp only [appendA, hr, newTag, List.nil_append]
    · refine ⟨s.live.set s.nt true, ?_, Tr.get_set_same _ _ _, fun t ht _ => Tr.get_set_ne _ _ _ _ ht⟩
      simp only [appendA, room_of hb hl, headIs_of hxs, newTag, Bool.and_self]
    · refine ⟨(s.live.set t false).set s.nt true, ?_, Tr.get_set_same _ _ _, fun u hu hn => ?_⟩
      · simp only [appendA, room_of hb hl, headIs_of hxs, h1, hf, newTag, Bool.and_self]
      · rw [Tr.get_set_ne _ _ _ _ hu, Tr.get_set_ne _ _ _ _ (fun e => hn ⟨xs, by rw [e]⟩)]

theorem live_new {s : St} {xs : List AV} {L : Tr Bool} (h : L.get s.nt = some true) : LiveS { s with live := L, nt := s.nt + 1 } (.sl xs (.tag s.nt)) xs := .inr (.inr ⟨_, rfl, h, Nat.lt_succ_self _⟩)
theorem keeps_new {s : St} {y : AV} {L : Tr Bool} (h : ∀ t, t ≠ s.nt → ¬ TagIn y t → L.get t = s.live.get t) : Keeps s { s with live := L, nt := s.nt + 1 } y :=
  ⟨Nat.le_succ _, fun t ht hn => h t (Nat.ne_of_lt ht) hn⟩

/-- An append, asq an operation carries it out. -/
theorem append_loud {T : Tr TI} {s : St} {te : TI} {t u e : Nat} {ti : TI} {y : AV} {z : AV} {xs ys : List AV} {ts : List Nat} (ht : T.get t = some ti) (hk : ti.kd = .slice e) (he : T.get e = some te) (hu : notInt T u = true) (h0 : 0 < te.size) (hz : srcElems s te z = some ys) {v : AV} {s' : St}
    (ha : appendA te false s y ys = some (v, s')) : builtinLoud T .append false (t :: u :: ts) [y, z] s = some (.ret v, s') := by
  simp only [builtinLoud, elemTI, ht, hk, he, hu, h0, hz, ha, decide_true, Bool.and_self]

theorem loud_builtin {C : Ctx} {m : List Nat} {call : Nat → List AV → St → Option (Res × St)} {e : Env} {s : St} {o : Oper} {c : Call} {b : Builtin} {args : List AV} {x : Res × St} (hop : o.op = .call c) (hc : c.callee = .builtin b) (ha : evs e c.args.toList = some args)
    (hb : builtinLoud C.T b (match o.dst with | some d => m.contains d | none => false) c.argTypes.toList args s = some x) : loudOp C m call e s o = some x := by
  simp only [loudOp, hop, hc, ha]
  exact hb

theorem loud_store {C : Ctx} {m : List Nat} {call : Nat → List AV → St → Option (Res × St)} {e : Env} {s s2 : St} {o : Oper} {t : Nat} {a x : Operand} {p v : AV} (hop : o.op = .store t a x) (ha : ev e a = some p) (hx : ev e x = some v)
    (hs : storeA C.T s t p v = some s2) : loudOp C m call e s o = some (.ret undefA, s2) := by
  simp only [loudOp, hop, ha, hx, hs]

theorem wrap_ok {n : Int} (h0 : -9223372036854775808 ≤ n) (h1 : n ≤ 9223372036854775807) : IntKind.i64.wrap n = n := IntWalk.i64_in n (by omega)
end Go.Am
namespace Go.Am
open Go.RowKit

def isCmp : Op → Bool
  | .binOp .eql _ _ _ _ => true
  | .binOp .neq _ _ _ _ => true
  | .binOp .lss _ _ _ _ => true
  | .binOp .leq _ _ _ _ => true
  | .binOp .gtr _ _ _ _ => true
  | .binOp .geq _ _ _ _ => true
  | _ => false

section
variable {S : Sys} {m : List Nat} {e : Env} {s : St} {Q : Ex → Env → St → Prop} {all : List Oper} {draw : Bool} {masks : List Nat} {rest : List Oper} {o : Oper} {i : Nat} {met : List Met}

theorem EvO.cmp (v : Bool) (hc : isCmp o.op = true) (hw : wantedA all e o = some true) (hv : stillOp S.T s.heap e o.op = some (.bool v))
    (h : EvO S m all draw Q masks.tail rest (i + 1) met (putA e o.dst (.bool v)) s) : EvO S m all draw Q masks (o :: rest) i met e s := by
  have hs : isStill m o = true ∧ readsHeap o.op = false := by
    obtain ⟨dst, op, type, pos, after, guard⟩ := o
    cases op <;> simp_all [isCmp, isStill, readsHeap]
  exact EvO.still hw hs.1 hv (by rw [hs.2]; simp) h

theorem EvO.cmpB {v : Bool} (hc : isCmp o.op = true) (hw : wantedA all e o = some true) (hv : stillOp S.T s.heap e o.op = some (.bool v))
    (ht : v = true → EvO S m all draw Q masks.tail rest (i + 1) met (putA e o.dst (.bool true)) s) (hf : v = false → EvO S m all draw Q masks.tail rest (i + 1) met (putA e o.dst (.bool false)) s) : EvO S m all draw Q masks (o :: rest) i met e s := by
  cases v with
  | true => exact EvO.cmp true hc hw hv (ht rfl)
  | false => exact EvO.cmp false hc hw hv (hf rfl)

theorem EvC.condT {x : Operand} {a b : Code} (hv : ev e x = some (.bool true)) (h : EvC S m a e s Q) : EvC S m (.cond x a b) e s Q := EvC.cond true hv (fun _ => h) (fun h => by cases h)
theorem EvC.condF {x : Operand} {a b : Code} (hv : ev e x = some (.bool false)) (h : EvC S m b e s Q) : EvC S m (.cond x a b) e s Q := EvC.cond false hv (fun h => by cases h) (fun _ => h)
end

section
variable {T : Tr TI} {h : Tr Blk} {env : Env} {y x : AV} {xs : List AV}

theorem idx_op {t : Nat} {a b : Operand} {ti te : TI} {e : Nat} {i : Int} {kk : IntKind} (hx : xs[i.toNat]? = some x) (hy : SlA y xs) (ha : ev env a = some y) (hb : ev env b = some (.int kk i)) (h0 : 0 ≤ i) (ht : T.get t = some ti) (hk : ti.kd = .slice e) (he : T.get e = some te) (hs : (cellsOf x).length = te.size) :
    stillOp T h env (.indexAddr t a b) = some (.elem xs i.toNat 0) := by
  simp only [stillOp, ha, hb]
  exact idx_sl ht hk he hy h0 hx hs

theorem load_agg_op {t : Nat} {a : Operand} {ti : TI} {i : Nat} {cs : List AV} (hx : xs[i]? = some (.agg cs)) (ha : ev env a = some (.elem xs i 0)) (ht : T.get t = some ti) (hg : ti.agg = true) (hs : cs.length = ti.size) : stillOp T h env (.load t a) = some (.agg cs) := by
  simp only [stillOp, ha]
  exact load_agg ht hg hx hs

theorem load_flat_op {t : Nat} {a : Operand} {ti : TI} {i : Nat} (hx : xs[i]? = some x) (ha : ev env a = some (.elem xs i 0)) (ht : T.get t = some ti) (hg : ti.agg = false) (hf : cellsOf x = [x]) : stillOp T h env (.load t a) = some x := by
  simp only [stillOp, ha]
  exact load_flat ht hg hx hf

theorem len_op {c : Call} {t e : Nat} {ti : TI} {ts : List Nat} (hy : SlA y xs) (ha : evs env c.args.toList = some [y]) (hc : c.callee = .builtin .len) (hts : c.argTypes.toList = t :: ts) (ht : T.get t = some ti) (hk : ti.kd = .slice e) : stillOp T h env (.call c) = some (.int .i64 xs.length) := by
  simp only [stillOp, ha, hc, hts]
  exact len_sl ht hk hy
end
theorem SlA.flat {y : AV} {xs : List AV} (h : SlA y xs) : isFlat y = true := by
  rcases h with ⟨rfl, _⟩ | ⟨k, rfl⟩ <;> rfl
theorem SlA.flat4 {y a b c : AV} {xs : List AV} (h : SlA y xs) (ha : isFlat a = true) (hb : isFlat b = true) (hc : isFlat c = true) : (cellsOf (.agg [a, b, c, y])).all isFlat = true := by
  simp [cellsOf, h.flat, ha, hb, hc]
theorem loud_box {C : Ctx} {m : List Nat} {call : Nat → List AV → St → Option (Res × St)} {e : Env} {s : St} {o : Oper} {t : Nat} {x : Operand} {v : AV} (hf : (cellsOf v).all isFlat = true) (hop : o.op = .box t x) (hx : ev e x = some v) :
    loudOp C m call e s o = some (.ret (.ptr s.next 0), s.alloc (.cells (cellsOf v) false)) := by
  simp only [loudOp, hop, hx, hf]
end Go.Am
namespace Go.Am
open Go.RowKit

/-- A run of some code. -/
structure RC (S : Sys) (m : List Nat) (c : Code) (e : Env) (s : St) (Q : Ex → Env → St → Prop) : Prop where
  h : EvC S m c e s Q

/-- A run of the rest of a region. -/
structure RO (S : Sys) (m : List Nat) (all : List Oper) (draw : Bool) (Q : Ex → Env → St → Prop) (masks : List Nat) (ops : List Oper) (i : Nat) (met : List Met) (e : Env) (s : St) : Prop where
  h : EvO S m all draw Q masks ops i met e s

section
variable {S : Sys} {m : List Nat} {e : Env} {s : St} {Q : Ex → Env → St → Prop}

theorem RC.mono {c : Code} {Q' : Ex → Env → St → Prop} (h : RC S m c e s Q) (hq : ∀ ex e' s', Q ex e' s' → Q' ex e' s') : RC S m c e s Q' := ⟨h.h.mono hq⟩
theorem RC.forget {c : Code} {e0 : Env} (h : RC S m c e0 s Q) (hs : Sub e0 e) : RC S m c e s Q := ⟨h.h.forget hs⟩
theorem RC.skip (h : Q .normal e s) : RC S m .skip e s Q := ⟨.skip h⟩
theorem RC.label {l : Nat} (h : Q .normal e s) : RC S m (.label l) e s Q := ⟨.label h⟩
theorem RC.exit {id : Nat} (h : Q (.exit id) e s) : RC S m (.exit id) e s Q := ⟨.exit h⟩
theorem RC.goto {l : Nat} (h : Q (.goto l) e s) : RC S m (.goto l) e s Q := ⟨.goto h⟩
theorem RC.ret (h : Q .ret e s) : RC S m .ret e s Q := ⟨.ret h⟩

def seqR (S : Sys) (m : List Nat) (b : Code) (Q : Ex → Env → St → Prop) : Ex → Env → St → Prop
  | .normal, e, s => RC S m b e s Q
  | ex, e, s => Q ex e s

theorem RC.seq {a b : Code} (h : RC S m a e s (seqR S m b Q)) : RC S m (.seq a b) e s Q :=
  ⟨.seq (h.h.mono fun ex e' s' h => by cases ex <;> first | exact RC.h h | exact h)⟩
theorem RC.condT {x : Operand} {a b : Code} (hv : ev e x = some (.bool true)) (h : RC S m a e s Q) : RC S m (.cond x a b) e s Q := ⟨.condT hv h.h⟩
theorem RC.condF {x : Operand} {a b : Code} (hv : ev e x = some (.bool false)) (h : RC S m b e s Q) : RC S m (.cond x a b) e s Q := ⟨.condF hv h.h⟩
theorem RC.cond {x : Operand} {a b : Code} (v : Bool) (hv : ev e x = some (.bool v)) (ht : v = true → RC S m a e s Q) (hf : v = false → RC S m b e s Q) : RC S m (.cond x a b) e s Q :=
  ⟨.cond v hv (fun h => (ht h).h) (fun h => (hf h).h)⟩
theorem RC.block {id : Nat} {a : Code} (h : RC S m a e s (blockQ id Q)) : RC S m (.block id a) e s Q := ⟨.block h.h⟩
theorem RC.region (hS : S.Ok) {id : Nat} {ops : Array Oper} {draw : Bool} (h : RO S m ops.toList draw Q (masksL [] ops.toList) ops.toList 0 [] e s) : RC S m (.region id ops draw) e s Q := ⟨.region hS h.h⟩

/-- A loop, by what holds ahead of each round and a number that falls. -/
theorem RC.loop {a : Code} (I : Nat → Env → St → Prop) (hround : ∀ k e s, I k e s → RC S m a e s (roundQ S s I k Q)) (k : Nat) (e0 : Env) (hI : I k e0 s) (hsub : Sub e0 e) : RC S m (.loop a) e s Q :=
  ⟨.loop_inv I (fun k e s h => (hround k e s h).h) k e0 hI hsub⟩

variable {all : List Oper} {draw : Bool} {masks : List Nat} {rest : List Oper} {o : Oper} {i : Nat} {met : List Met}

theorem RO.nil (h : Q .normal e s) : RO S m all draw Q masks [] i met e s := ⟨.nil h⟩
theorem RO.skip (hw : wantedA all e o = some false) (h : RO S m all draw Q masks.tail rest (i + 1) met (putA e o.dst undefA) s) : RO S m all draw Q masks (o :: rest) i met e s := ⟨.skip hw h.h⟩
theorem RO.still {v : AV} (hw : wantedA all e o = some true) (hs : isStill m o = true) (hv : stillOp S.T s.heap e o.op = some v) (hd : (draw && readsHeap o.op) = false)
    (h : RO S m all draw Q masks.tail rest (i + 1) met (putA e o.dst v) s) : RO S m all draw Q masks (o :: rest) i met e s := ⟨.still hw hs hv hd h.h⟩
theorem RO.read {v : AV} (hw : wantedA all e o = some true) (hs : isStill m o = true) (hv : stillOp S.T s.heap e o.op = some v) (hd : (draw && readsHeap o.op) = true) (hok : okRead S.C (masks.headD 0) e o.op v met = true)
    (h : RO S m all draw Q masks.tail rest (i + 1) (.rd i o.op e v :: met) (putA e o.dst v) s) : RO S m all draw Q masks (o :: rest) i met e s := ⟨.read hw hs hv hd hok h.h⟩
theorem RO.loud {v : AV} {s2 : St} (hw : wantedA all e o = some true) (hs : isStill m o = false) (hl : loudOp S.C m (fun _ _ _ => none) e s o = some (.ret v, s2)) (hok : (!draw || okLoud S.C (masks.headD 0) s2 met) = true)
    (h : RO S m all draw Q masks.tail rest (i + 1) (metL draw i s met) (putA e o.dst v) s2) : RO S m all draw Q masks (o :: rest) i met e s := ⟨.loud hw hs hl hok h.h⟩
theorem RO.pan {v : AV} {s2 : St} (hw : wantedA all e o = some true) (hs : isStill m o = false) (hl : loudOp S.C m (fun _ _ _ => none) e s o = some (.pan v, s2)) (hok : (!draw || okLoud S.C (masks.headD 0) s2 met) = true) (hb : (!draw || allBehind i masks.tail) = true)
    (h : Q (.pan v) e s2) : RO S m all draw Q masks (o :: rest) i met e s := ⟨.pan hw hs hl hok hb h⟩
theorem RO.call {c : Call} {f : Operand} {fid : Nat} {first cap args : List AV} (hop : o.op = .call c) (hcal : c.callee = .value f) (hw : wantedA all e o = some true) (hargs : evs e c.args.toList = some args) (hf : ev e f = some (.fn (.func fid) first cap))
    (h : CallsTo S fid (first ++ args ++ cap) s fun r s2 => (!draw || okLoud S.C (masks.headD 0) s2 met) = true ∧ match r with
      | .ret v => RO S m all draw Q masks.tail rest (i + 1) (metL draw i s met) (putA e o.dst v) s2
      | .pan v => (!draw || allBehind i masks.tail) = true ∧ Q (.pan v) e s2) : RO S m all draw Q masks (o :: rest) i met e s :=
  ⟨.call hop hcal hw hargs hf (h.mono fun r s' h => ⟨h.1, by cases r <;> first | exact RO.h h.2 | exact h.2⟩)⟩
theorem RO.cmp (v : Bool) (hc : isCmp o.op = true) (hw : wantedA all e o = some true) (hv : stillOp S.T s.heap e o.op = some (.bool v))
    (h : RO S m all draw Q masks.tail rest (i + 1) met (putA e o.dst (.bool v)) s) : RO S m all draw Q masks (o :: rest) i met e s := ⟨.cmp v hc hw hv h.h⟩
theorem RO.cmpB {v : Bool} (hc : isCmp o.op = true) (hw : wantedA all e o = some true) (hv : stillOp S.T s.heap e o.op = some (.bool v))
    (ht : v = true → RO S m all draw Q masks.tail rest (i + 1) met (putA e o.dst (.bool true)) s) (hf : v = false → RO S m all draw Q masks.tail rest (i + 1) met (putA e o.dst (.bool false)) s) : RO S m all draw Q masks (o :: rest) i met e s :=
  ⟨.cmpB hc hw hv (fun h => (ht h).h) (fun h => (hf h).h)⟩

theorem RO.gd (p : Oper → Bool) (_ : p o = true) (h : RO S m all draw Q masks (o :: rest) i met e s) : RO S m all draw Q masks (o :: rest) i met e s := h

theorem RO.gs (_ : isStill m o = true) (h : RO S m all draw Q masks (o :: rest) i met e s) : RO S m all draw Q masks (o :: rest) i met e s := h

def isCmpO (o : Oper) : Bool := isCmp o.op
def isCallF (o : Oper) : Bool := match o.op with
  | .call c => match c.callee with
    | .value _ => true
    | _ => false
  | _ => false
def isLen (o : Oper) : Bool := match o.op with
  | .call c => match c.callee with
    | .builtin .len => true
    | _ => false
  | _ => false
def isIdx (o : Oper) : Bool := match o.op with
  | .indexAddr .. => true
  | _ => false
def isLoad (o : Oper) : Bool := match o.op with
  | .load .. => true
  | _ => false

/-- What has been met behind an operation that only looks. -/
def metS (draw : Bool) (o : Oper) (i : Nat) (e : Env) (v : AV) (met : List Met) : List Met := match draw && readsHeap o.op with
  | true => .rd i o.op e v :: met
  | false => met

theorem RO.st {v : AV} (hw : wantedA all e o = some true) (hs : isStill m o = true) (hv : stillOp S.T s.heap e o.op = some v) (hok : (!(draw && readsHeap o.op) || okRead S.C (masks.headD 0) e o.op v met) = true)
    (h : RO S m all draw Q masks.tail rest (i + 1) (metS draw o i e v met) (putA e o.dst v) s) : RO S m all draw Q masks (o :: rest) i met e s := by
  cases hd : draw && readsHeap o.op with
  | false => exact RO.still hw hs hv hd (by simpa only [metS, hd] using h)
  | true => rw [hd] at hok; exact RO.read hw hs hv hd (by simpa using hok) (by simpa only [metS, hd] using h)

theorem RO.len {c : Call} {t k : Nat} {ti : TI} {ts : List Nat} {y : AV} {xs : List AV} (hop : o.op = .call c) (hc : c.callee = .builtin .len) (hw : wantedA all e o = some true) (ha : evs e c.args.toList = some [y]) (hy : SlA y xs) (hts : c.argTypes.toList = t :: ts) (ht : S.T.get t = some ti) (hk : ti.kd = .slice k)
    (h : RO S m all draw Q masks.tail rest (i + 1) met (putA e o.dst (.int .i64 xs.length)) s) : RO S m all draw Q masks (o :: rest) i met e s :=
  RO.still hw (by simp only [isStill, hop, hc]) (by rw [hop]; exact len_op hy ha hc hts ht hk) (by simp [readsHeap, hop]) h

theorem RO.idx {t k : Nat} {a b : Operand} {ti te : TI} {y x : AV} {xs : List AV} {n : Int} {kk : IntKind} (hop : o.op = .indexAddr t a b) (hw : wantedA all e o = some true) (ha : ev e a = some y) (hb : ev e b = some (.int kk n)) (hy : SlA y xs) (hx : xs[n.toNat]? = some x) (h0 : 0 ≤ n) (ht : S.T.get t = some ti) (hk : ti.kd = .slice k) (he : S.T.get k = some te) (hs : (cellsOf x).length = te.size)
    (h : RO S m all draw Q masks.tail rest (i + 1) met (putA e o.dst (.elem xs n.toNat 0)) s) : RO S m all draw Q masks (o :: rest) i met e s :=
  RO.still hw (by simp only [isStill, hop]) (by rw [hop]; exact idx_op hx hy ha hb h0 ht hk he hs) (by simp [readsHeap, hop]) h

theorem RO.ldA {t : Nat} {a : Operand} {ti : TI} {xs cs : List AV} {n : Nat} (hop : o.op = .load t a) (hw : wantedA all e o = some true) (ha : ev e a = some (.elem xs n 0)) (hx : xs[n]? = some (.agg cs)) (ht : S.T.get t = some ti) (hg : ti.agg = true) (hs : cs.length = ti.size)
    (hok : (!(draw && readsHeap o.op) || okRead S.C (masks.headD 0) e o.op (.agg cs) met) = true) (h : RO S m all draw Q masks.tail rest (i + 1) (metS draw o i e (.agg cs) met) (putA e o.dst (.agg cs)) s) : RO S m all draw Q masks (o :: rest) i met e s :=
  RO.st hw (by simp only [isStill, hop]) (by rw [hop]; exact load_agg_op hx ha ht hg hs) hok h

theorem RO.ldF {t : Nat} {a : Operand} {ti : TI} {xs : List AV} {x : AV} {n : Nat} (hop : o.op = .load t a) (hw : wantedA all e o = some true) (ha : ev e a = some (.elem xs n 0)) (hx : xs[n]? = some x) (ht : S.T.get t = some ti) (hg : ti.agg = false) (hs : cellsOf x = [x])
    (hok : (!(draw && readsHeap o.op) || okRead S.C (masks.headD 0) e o.op x met) = true) (h : RO S m all draw Q masks.tail rest (i + 1) (metS draw o i e x met) (putA e o.dst x) s) : RO S m all draw Q masks (o :: rest) i met e s :=
  RO.st hw (by simp only [isStill, hop]) (by rw [hop]; exact load_flat_op hx ha ht hg hs) hok h

/-- A function's run, from its arguments. -/
theorem CallsTo.run (hS : S.Ok) {f : Nat} {fn : AFun} (hf : S.F.get f = some fn) {args : List AV} {R : Res → St → Prop} (h : RC S fn.mutDst fn.body (Tr.ofList (enumA args 0)) s (bodyQ S fn R)) : CallsTo S f args s R :=
  CallsTo.fn_ hS hf (EvC.forget h.h (init_sub _))
end
end Go.Am
namespace Go.Am
/-- A struct is stored whole. -/
theorem store_agg {T : Tr TI} {s : St} {t b : Nat} {ti : TI} {cs0 cs : List AV} (hb : s.heap.get b = some (.cells cs0 false)) (ht : T.get t = some ti) (h4 : cs.length = ti.size) (h0 : cs0.length = ti.size) (hf : cs.all isFlat = true) :
    storeA T s t (.ptr b 0) (.agg cs) = some { s with heap := s.heap.set b (.cells cs false) } := by
  simp only [storeA, ht, hb, cellsOf, h4, h0, hf, splice, Nat.zero_add, beq_self_eq_true, Nat.le_refl, decide_true, Bool.and_self, List.take_zero, List.nil_append]
  rw [List.drop_eq_nil_of_le (by omega), List.append_nil]
end Go.Am
namespace Go.Am
set_option linter.unusedVariables false
set_option linter.unusedSimpArgs false
open Go.RowKit

/-- Nothing from k on is named. -/
def lowB (k : Nat) : Nat → Nat → Prop := fun x y => x = y ∧ x < k
def sameT : Nat → Nat → Prop := fun x y => x = y
def Low (k : Nat) (v : AV) : Prop := RV (lowB k) sameT v v
def Lows (k : Nat) (v : List AV) : Prop := RVs (lowB k) sameT v v

theorem RK_same (k : SK) : RK sameT k k := by
  cases k <;> simp [RK, sameT]

mutual
theorem pure_Low {k : Nat} : ∀ {a : AV}, pureV a = true → Low k a
  | .bool a, _ => rfl
  | .int k n, _ => rfl
  | .str s, _ => rfl
  | .nilp, _ => rfl
  | .ptr b o, h => by simp [pureV] at h
  | .elem xs i o, h => ⟨_, pure_Lows (by simpa [pureV] using h), rfl⟩
  | .nils, _ => rfl
  | .sl xs k, h => ⟨_, _, pure_Lows (by simpa [pureV] using h), RK_same k, rfl⟩
  | .ms b o l z, h => by simp [pureV] at h
  | .nilm, _ => rfl
  | .map b, h => by simp [pureV] at h
  | .nilf, _ => rfl
  | .fn f a b, h => by
    simp only [pureV, Bool.and_eq_true] at h
    exact ⟨_, _, pure_Lows h.1, pure_Lows h.2, rfl⟩
  | .nili, _ => rfl
  | .ifc t v, h => ⟨_, pure_Low (by simpa [pureV] using h), rfl⟩
  | .agg cs, h => ⟨_, pure_Lows (by simpa [pureV] using h), rfl⟩
  | .tup cs, h => ⟨_, pure_Lows (by simpa [pureV] using h), rfl⟩
theorem pure_Lows {k : Nat} : ∀ {a : List AV}, pureVs a = true → Lows k a
  | [], _ => rfl
  | x :: xs, h => by
    simp only [pureVs, Bool.and_eq_true] at h
    exact ⟨_, _, pure_Low h.1, pure_Lows h.2, rfl⟩
end
theorem ptr_Low {k b o : Nat} (h : b < k) : Low k (.ptr b o) := ⟨b, ⟨rfl, h⟩, rfl⟩
theorem ms_Low {k b o l z : Nat} (h : b < k) : Low k (.ms b o l z) := ⟨b, ⟨rfl, h⟩, rfl⟩

theorem Lows_split {k : Nat} : ∀ {a b : List AV}, Lows k (a ++ b) → Lows k a ∧ Lows k b
  | [], b, h => ⟨rfl, h⟩
  | x :: a, b, h => by
    obtain ⟨y, ys, h1, h2, e⟩ := h
    simp only [List.cons_append, List.cons.injEq] at e
    obtain ⟨rfl, rfl⟩ := e
    obtain ⟨h3, h4⟩ := Lows_split (a := a) (b := b) h2
    exact ⟨⟨x, a, h1, h3, rfl⟩, h4⟩
theorem Low_cells {k : Nat} {x : AV} (h : Lows k (cellsOf x)) : Low k x := by
  cases x with
  | agg cs => exact ⟨cs, h, rfl⟩
  | _ =>
    obtain ⟨y, ys, h1, h2, e⟩ := h
    cases e
    exact h1
theorem Lows_unflat {k : Nat} : ∀ {xs : List AV}, Lows k (xs.flatMap cellsOf) → Lows k xs
  | [], _ => rfl
  | x :: xs, h => by
    simp only [List.flatMap_cons] at h
    obtain ⟨h1, h2⟩ := Lows_split h
    exact ⟨x, xs, Low_cells h1, Lows_unflat h2, rfl⟩

mutual
theorem VR.low {G : Gh} {k : Nat} (hk : ∀ b c n, G.ρ b = some (c, n) → b < k) : ∀ {a : AV} {v : Value}, VR G a v → Low k a
  | _, _, .bool b => rfl
  | _, _, .int k n => rfl
  | _, _, .str s => rfl
  | _, _, .nilp => rfl
  | _, _, .ptr b off c n e => ⟨b, ⟨rfl, hk _ _ _ e⟩, rfl⟩
  | _, _, .elem xs i off c base sz vs hsz hv hc => ⟨xs, Lows_unflat (VRs.low hk hv), rfl⟩
  | _, _, .nils => rfl
  | _, _, .sl xs k c base sz len cap vs hsz hv hc hl hcap hkk => ⟨xs, k, Lows_unflat (VRs.low hk hv), RK_same k, rfl⟩
  | _, _, .ms b off len sz c n cap e hl hc => ⟨b, ⟨rfl, hk _ _ _ e⟩, rfl⟩
  | _, _, .nilm => rfl
  | _, _, .map b c n e => ⟨b, ⟨rfl, hk _ _ _ e⟩, rfl⟩
  | _, _, .nilf => rfl
  | _, _, .fn f a b asq bs ha hb => ⟨a, b, VRs.low hk ha, VRs.low hk hb, rfl⟩
  | _, _, .nili => rfl
  | _, _, .ifc t a v e => ⟨a, VR.low hk e, rfl⟩
  | _, _, .agg cs vs e => ⟨cs, VRs.low hk e, rfl⟩
  | _, _, .tup cs vs e => ⟨cs, VRs.low hk e, rfl⟩
theorem VRs.low {G : Gh} {k : Nat} (hk : ∀ b c n, G.ρ b = some (c, n) → b < k) : ∀ {a : List AV} {v : List Value}, VRs G a v → Lows k a
  | _, _, .nil => rfl
  | _, _, .cons a v asq vs e es => ⟨a, asq, VR.low hk e, VRs.low hk es, rfl⟩
end

/-- The blocks of a round are forgotten. -/
theorem Wk.gc {S : Sys} {s s1 : St} {e1 e2 : Env} (h2 : Tr Blk) (hsub : Sub e2 e1) (hn : s.next ≤ s1.next) (hlow : ∀ b, b < s.next → h2.get b = s1.heap.get b) (hhigh : ∀ b, s.next ≤ b → s.heap.get b = none → h2.get b = none)
    (he : ∀ t v, e2.get t = some v → Low s.next v) (hh : ∀ b cs f, h2.get b = some (.cells cs f) → s.heap.get b = some (.cells cs f) ∨ Lows s.next cs) : Wk S s e1 s1 e2 ⟨h2, s.next, s1.live, s1.nt⟩ := by
  intro K w0 hK G w hw G1 a1 w1 hle hw1 he1
  let G2 : Gh := { G1 with ρ := fun b => if b < s.next then G1.ρ b else none }
  have hρ : ∀ b x, G2.ρ b = some x → b < s.next ∧ G1.ρ b = some x := fun b x hb => by
    have hb : (if b < s.next then G1.ρ b else none) = some x := hb
    split at hb
    · exact ⟨by assumption, hb⟩
    · cases hb
  have hβ : ∀ x y, lowB s.next x y → ∀ c n, G1.ρ x = some (c, n) → G2.ρ y = some (c, n) := by
    rintro x y ⟨rfl, hx⟩ c n e
    show (if x < s.next then G1.ρ x else none) = _
    rw [if_pos hx]; exact e
  have hθ : ∀ x y, sameT x y → ∀ e, G1.τ x = some e → G2.τ y = some e := by
    rintro x y rfl e h; exact h
  have hlive : ∀ b, h2.get b ≠ none → b < s.next := fun b hb => by
    rcases Nat.lt_or_ge b s.next with h | h
    · exact h
    · refine absurd (hhigh b h ?_) hb
      cases hg : s.heap.get b with
      | none => rfl
      | some blk => have := hw.hlt b blk hg; omega
  refine ⟨G2, ⟨fun b x hb => ?_, hle.I, hle.τ, hle.J⟩, ?_, fun t v ht => RV.vr hβ hθ (fun _ _ _ e => e) (he1 t v (hsub t v ht)) (he t v ht)⟩
  · show (if b < s.next then G1.ρ b else none) = some x
    rw [if_pos (hw.lt b x.1 x.2 hb).1]
    exact hle.ρ _ _ hb
  · exact
      { below := hw1.below
        hB := hw1.hB
        cells := fun b cs f c n hb hr => by
          obtain ⟨h1, h3⟩ := hρ b _ hr
          have hb' := hb
          rw [hlow b h1] at hb'
          obtain ⟨arr, T, fr, p1, p2, p3, p4, p5⟩ := hw1.cells b cs f c n hb' h3
          refine ⟨arr, T, fr, p1, p2, p3, RVs.vr hβ hθ (fun _ _ _ e => e) p4 ?_, p5⟩
          rcases hh b cs f hb with hs | hl
          · obtain ⟨⟨c0, n0⟩, hr0⟩ := hw.hmap b _ hs
            obtain ⟨_, _, _, _, _, _, q4, _⟩ := hw.cells b cs f c0 n0 hs hr0
            exact VRs.low (fun b c n hb => (hw.lt b c n hb).1) q4
          · exact hl
        siter := fun b str pos c n hb hr => by
          obtain ⟨h1, h3⟩ := hρ b _ hr
          rw [hlow b h1] at hb
          exact hw1.siter b str pos c n hb h3
        inj := fun b b' c n n' hc hb hb' => hw1.inj b b' c n n' hc (hρ b _ hb).2 (hρ b' _ hb').2
        lt := fun b c n hb => ⟨(hρ b _ hb).1, (hw1.lt b c n (hρ b _ hb).2).2⟩
        imm := hw1.imm
        tags := fun t c e ce ht hτ => by
          obtain ⟨q1, q2, q3, q4⟩ := hw1.tags t c e ce ht hτ
          refine ⟨q1, q2, q3, fun b n hb => ?_⟩
          obtain ⟨h1, h3⟩ := hρ b _ hb
          obtain ⟨cs, hcs, hl⟩ := q4 b n h3
          exact ⟨cs, (hlow b h1).trans hcs, hl⟩
        tdist := hw1.tdist
        tlt := hw1.tlt
        hlt := fun b blk hb => hlive b (by rw [hb]; simp)
        old := hw1.old
        hmap := fun b blk hb => by
          have h1 := hlive b (by rw [hb]; simp)
          rw [hlow b h1] at hb
          obtain ⟨x, hx⟩ := hw1.hmap b blk hb
          exact ⟨x, by show (if b < s.next then G1.ρ b else none) = some x; rw [if_pos h1]; exact hx⟩
        oldρ := fun b c n hc hb => hw1.oldρ b c n hc (hρ b _ hb).2
        tdef := hw1.tdef
        tlow := hw1.tlow }
end Go.Am
namespace Go.Am
def AllLow (k : Nat) : List (Nat × AV) → Prop
  | [] => True
  | (_, v) :: l => Low k v ∧ AllLow k l
theorem low_of {k : Nat} : ∀ {l : List (Nat × AV)}, AllLow k l → ∀ t v, (Tr.ofList l).get t = some v → Low k v
  | [], _, t, v, ht => by cases ht
  | (a, x) :: l, h, t, v, ht => by
    rw [Tr.ofList, Tr.get_cons] at ht
    split at ht
    · cases ht; exact h.1
    · exact low_of h.2 t v ht

theorem Wk.gc0 {S : Sys} {s s1 : St} {e1 : Env} {l : List (Nat × AV)} (h1 : AllIn l e1) (h2 : AllLow s.next l) (h3 : ∀ b, b < s.next → s.heap.get b = s1.heap.get b) (h4 : s.next ≤ s1.next) :
    Wk S s e1 s1 (Tr.ofList l) ⟨s.heap, s.next, s1.live, s1.nt⟩ := .gc s.heap (sub_of h1) h4 h3 (fun _ _ h => h) (low_of h2) (fun _ _ _ h => .inl h)

theorem SlA.pure {y : AV} {xs : List AV} (h : SlA y xs) (hp : pureVs xs = true) : pureV y = true := by
  rcases h with ⟨rfl, _⟩ | ⟨k, rfl⟩
  · rfl
  · exact hp
theorem SlA.deaden {y : AV} {xs : List AV} (h : SlA y xs) : SlA (deaden y) (deadens xs) := by
  rcases h with ⟨rfl, rfl⟩ | ⟨k, rfl⟩
  · exact .inl ⟨rfl, rfl⟩
  · exact .inr ⟨_, rfl⟩
end Go.Am
namespace Go.Am
/-- A loop, round by round. -/
structure RL (S : Sys) (m : List Nat) (a : Code) (e : Env) (s : St) (Q : Ex → Env → St → Prop) : Prop where
  h : ∃ n ex e' s', DetR S m a n e s ex e' s' ∧ Q ex e' s'

def roundL (S : Sys) (m : List Nat) (a : Code) (Q : Ex → Env → St → Prop) : Ex → Env → St → Prop
  | .normal, e, s => RL S m a e s Q
  | ex, e, s => Q ex e s

theorem RL.round {S : Sys} {m : List Nat} {a : Code} {e : Env} {s : St} {Q : Ex → Env → St → Prop} (h : RC S m a e s (roundL S m a Q)) : RL S m a e s Q := by
  obtain ⟨ex, e', s', h1, h2⟩ := h.h
  cases ex with
  | normal =>
    obtain ⟨n, ex2, e2, s2, h3, h4⟩ := RL.h h2
    exact ⟨n + 1, ex2, e2, s2, DetR.succ h1 .refl h3, h4⟩
  | _ => exact ⟨1, _, e', s', DetR.zero h1 (fun h => by cases h), h2⟩
theorem RC.unroll {S : Sys} {m : List Nat} {a : Code} {e : Env} {s : St} {Q : Ex → Env → St → Prop} (h : RL S m a e s Q) : RC S m (.loop a) e s Q := by
  obtain ⟨n, ex, e', s', h1, h2⟩ := h.h
  exact ⟨ex, e', s', DetR.loop h1, h2⟩
end Go.Am
namespace Go.Am
section
variable {C : Ctx} {mask : Nat} {e : Env} {o : Op} {v : AV} {s : St} {l : List Met}
theorem okR_bit {j : Nat} {s' : St} (hb : bit mask j = true) (h : okRead C mask e o v l = true) : okRead C mask e o v (.ld j s' :: l) = true := by
  simp only [okRead, hb, h, Bool.true_or, Bool.and_self]
theorem okR_ld {j : Nat} {s' : St} (hv : stillOp C.T s'.heap e o = some v) (h : okRead C mask e o v l = true) : okRead C mask e o v (.ld j s' :: l) = true := by
  simp only [okRead, hv, optBeq, AV.beq_refl, h, Bool.or_true, Bool.and_self]
theorem okR_rd {i : Nat} {o' : Op} {e' : Env} {v' : AV} (h : okRead C mask e o v l = true) : okRead C mask e o v (.rd i o' e' v' :: l) = true := h
theorem okR_nil : okRead C mask e o v [] = true := rfl
theorem okL_bit {i : Nat} {o' : Op} {e' : Env} {v' : AV} (hb : bit mask i = true) (h : okLoud C mask s l = true) : okLoud C mask s (.rd i o' e' v' :: l) = true := by
  simp only [okLoud, hb, h, Bool.true_or, Bool.and_self]
theorem okL_rd {i : Nat} {o' : Op} {e' : Env} {v' : AV} (hv : stillOp C.T s.heap e' o' = some v') (h : okLoud C mask s l = true) : okLoud C mask s (.rd i o' e' v' :: l) = true := by
  simp only [okLoud, hv, optBeq, AV.beq_refl, h, Bool.or_true, Bool.and_self]
theorem okL_ld {j : Nat} {s' : St} (h : okLoud C mask s l = true) : okLoud C mask s (.ld j s' :: l) = true := h
theorem okL_nil : okLoud C mask s [] = true := rfl
theorem or_r {a b : Bool} (h : b = true) : (a || b) = true := by rw [h, Bool.or_true]
end
end Go.Am
namespace Go.Am

variable {W : Univ}

theorem pair_some {α β : Type} {a : Option α} {b : Option β} {z : α × β} (h : pair? a b = some z) : a = some z.1 ∧ b = some z.2 := by
  cases a with
  | none => cases b <;> cases h
  | some a => cases b with
    | none => cases h
    | some b => cases h; exact ⟨rfl, rfl⟩
theorem unit_some {b : Bool} {z : Unit} (h : unit? b = some z) : b = true := by
  cases b with
  | true => rfl
  | false => cases h

section
variable (hW : W.Ok) {θ θ1 : Nat → Option Nat} (t0 : θ 0 = none)
include hW t0

mutual
/-- What fits a pattern is what the pattern says. -/
theorem Pat.dec_ok : ∀ (p : Pat) {x : XV W.U} {z : p.T W.U} {a : AV}, Pat.dec p x = some z → XR W θ x a → (∀ q ∈ Pat.tags p x, ∀ u, θ q.2 = some u → θ1 q.1 = some u) → XR W θ1 (Pat.enc p z) a
  | .d c, x, z, a, h, hx, _ => by
    simp only [Pat.enc, XR]
    exact asD_ok hW h hx
  | .kb b, x, z, a, h, hx, _ => by
    cases x with
    | kb b' =>
      have h1 : unit? (b == b') = some z := h
      have := unit_some h1
      rw [beq_iff_eq] at this
      subst this
      exact hx
    | _ => cases (show none = some z from h)
  | .ln c t, x, z, a, h, hx, ht => by
    cases x with
    | lin c' xs t' =>
      have h1 : castD (U := W.U) (.sl c') (.sl c) xs = some z := h
      obtain ⟨e, h2⟩ := castD_some h1
      cases e
      have h2 : xs = z := h2
      subst h2
      simp only [Pat.enc, XR] at hx ⊢
      obtain ⟨ys, h3, h4⟩ := hx
      refine ⟨ys, h3, ?_⟩
      rcases h4 with h4 | h4 | ⟨u, h5, h6⟩
      · exact .inl h4
      · exact .inr (.inl h4)
      · exact .inr (.inr ⟨u, ht (t, t') (by simp [Pat.tags]) u h5, h6⟩)
    | raw r =>
      simp only [XR] at hx
      obtain ⟨rfl, _⟩ := hx
      cases a <;> first
        | (have h2 : (none : Option (List (c.D W.U))) = some z := h; cases h2)
        | skip
      have h2 : some ([] : List (c.D W.U)) = some z := h
      cases h2
      simp only [Pat.enc, XR]
      refine ⟨[], rfl, .inl ?_⟩
      simp
    | _ => cases (show none = some z from h)
  | .ptr b off, x, z, a, h, hx, _ => by
    cases x with
    | ptr b' off' =>
      have h1 : unit? (Nat.beq b b' && Nat.beq off off') = some z := h
      have := unit_some h1
      rw [Bool.and_eq_true] at this
      have e1 := natbeq this.1
      have e2 := natbeq this.2
      subst e1; subst e2
      exact hx
    | _ => cases (show none = some z from h)
  | .raw r, x, z, a, h, hx, _ => by
    cases x with
    | raw r' =>
      have h1 : unit? (AV.beq r r') = some z := h
      have := AV.eq_of_beq _ _ (unit_some h1)
      subst this
      exact hx
    | _ => cases (show none = some z from h)
  | .ms b c, x, z, a, h, hx, _ => by
    cases x with
    | ms b' c' lo n =>
      have h1 : (match Nat.beq b b' && decide (c = c') with
        | true => some (lo, n)
        | false => none) = some z := h
      split at h1
      · rename_i hok
        rw [Bool.and_eq_true] at hok
        have e1 := natbeq hok.1
        have e2 : c = c' := of_decide_eq_true hok.2
        subst e1; subst e2
        cases h1
        exact hx
      · cases h1
    | _ => cases (show none = some z from h)
  | .fn f a b, x, z, v, h, hx, ht => by
    cases x with
    | fn g xs ys =>
      have h1 : (match decide (f = g) with
        | true => pair? (Pat.decs a xs) (Pat.decs b ys)
        | false => none) = some z := h
      split at h1
      · rename_i hfg
        have e : f = g := by simpa using hfg
        subst e
        obtain ⟨h1, h2⟩ := pair_some h1
        simp only [XR] at hx
        obtain ⟨asq, bs, rfl, h3, h4⟩ := hx
        simp only [Pat.enc, XR]
        exact ⟨asq, bs, rfl, Pat.decs_ok a h1 h3 (fun q hq => ht q (by simp only [Pat.tags]; exact List.mem_append_left _ hq)), Pat.decs_ok b h2 h4 (fun q hq => ht q (by simp only [Pat.tags]; exact List.mem_append_right _ hq))⟩
      · cases h1
    | _ => cases (show none = some z from h)
  | .agg l, x, z, a, h, hx, ht => by
    cases x with
    | agg cs =>
      simp only [XR] at hx
      obtain ⟨asq, rfl, h1⟩ := hx
      simp only [Pat.enc, XR]
      exact ⟨asq, rfl, Pat.decs_ok l h h1 (fun q hq => ht q (by simp only [Pat.tags]; exact hq))⟩
    | v c y =>
      cases c with
      | st n =>
        have h1 : Pat.decs (W := W) l (xcells (.v (.st n) y)) = some z := h
        simp only [XR, encD] at hx
        obtain ⟨asq, rfl, h2⟩ := XR.st_cells hW (θ := θ) hx
        simp only [Pat.enc, XR]
        exact ⟨asq, rfl, Pat.decs_ok l h1 h2 (fun q hq => ht q (by simp only [Pat.tags]; exact hq))⟩
      | _ => cases (show none = some z from h)
    | _ => cases (show none = some z from h)
  | .tup l, x, z, a, h, hx, ht => by
    cases x with
    | tup cs =>
      simp only [XR] at hx
      obtain ⟨asq, rfl, h1⟩ := hx
      simp only [Pat.enc, XR]
      exact ⟨asq, rfl, Pat.decs_ok l h h1 (fun q hq => ht q (by simp only [Pat.tags]; exact hq))⟩
    | _ => cases (show none = some z from h)
theorem Pat.decs_ok : ∀ (ps : List Pat) {xs : List (XV W.U)} {z : Pat.Ts W.U ps} {asq : List AV}, Pat.decs ps xs = some z → XRs W θ xs asq → (∀ q ∈ Pat.tagss ps xs, ∀ u, θ q.2 = some u → θ1 q.1 = some u) → XRs W θ1 (Pat.encs ps z) asq
  | [], [], z, asq, h, hx, _ => by simp only [Pat.encs, XRs] at hx ⊢; exact hx
  | [], _ :: _, z, asq, h, hx, _ => by cases (show none = some z from h)
  | p :: ps, [], z, asq, h, hx, _ => by cases (show none = some z from h)
  | p :: ps, x :: xs, z, asq, h, hx, ht => by
    obtain ⟨h1, h2⟩ := pair_some (show pair? (Pat.dec p x) (Pat.decs ps xs) = some z from h)
    simp only [XRs] at hx
    obtain ⟨a, asq', rfl, h3, h4⟩ := hx
    simp only [Pat.encs, XRs]
    exact ⟨a, asq', rfl, Pat.dec_ok p h1 h3 (fun q hq => ht q (by simp only [Pat.tagss]; exact List.mem_append_left _ hq)), Pat.decs_ok ps h2 h4 (fun q hq => ht q (by simp only [Pat.tagss]; exact List.mem_append_right _ hq))⟩
end
end

mutual
theorem Pat.tags_low {a0 b0 n : Nat} : ∀ (p : Pat) (x : XV W.U), Pat.low a0 b0 n p = true → ∀ q ∈ Pat.tags p x, 1 ≤ q.1 ∧ q.1 ≤ n
  | .ln c t, x, h, q, hq => by
    simp only [Pat.low, Bool.and_eq_true] at h
    have h1 := Nat.le_of_ble_eq_true h.1
    have h2 := Nat.le_of_ble_eq_true h.2
    simp only [Pat.tags] at hq
    split at hq <;> (simp only [List.mem_singleton] at hq; subst hq; exact ⟨h1, h2⟩)
  | .fn f a b, x, h, q, hq => by
    simp only [Pat.low, Bool.and_eq_true] at h
    simp only [Pat.tags] at hq
    split at hq
    · rcases List.mem_append.1 hq with hq | hq
      · exact Pat.tagss_low a _ h.1 q hq
      · exact Pat.tagss_low b _ h.2 q hq
    · cases hq
  | .agg l, x, h, q, hq => by simp only [Pat.low] at h; simp only [Pat.tags] at hq; exact Pat.tagss_low l _ h q hq
  | .tup l, x, h, q, hq => by
    simp only [Pat.low] at h
    simp only [Pat.tags] at hq
    split at hq
    · exact Pat.tagss_low l _ h q hq
    · cases hq
  | .d _, _, _, q, hq => by simp [Pat.tags] at hq
  | .kb _, _, _, q, hq => by simp [Pat.tags] at hq
  | .ptr _ _, _, _, q, hq => by simp [Pat.tags] at hq
  | .raw _, _, _, q, hq => by simp [Pat.tags] at hq
  | .ms _ _, _, _, q, hq => by simp [Pat.tags] at hq
theorem Pat.tagss_low {a0 b0 n : Nat} : ∀ (p : List Pat) (x : List (XV W.U)), Pat.lows a0 b0 n p = true → ∀ q ∈ Pat.tagss p x, 1 ≤ q.1 ∧ q.1 ≤ n
  | [], _, _, q, hq => by simp [Pat.tagss] at hq
  | _ :: _, [], _, q, hq => by simp [Pat.tagss] at hq
  | p :: ps, x :: xs, h, q, hq => by
    simp only [Pat.lows, Bool.and_eq_true] at h
    simp only [Pat.tagss] at hq
    rcases List.mem_append.1 hq with hq | hq
    · exact Pat.tags_low p x h.1 q hq
    · exact Pat.tagss_low ps xs h.2 q hq
end

mutual
/-- The pointers of what a pattern says are its own. -/
theorem Pat.enc_ptrs {a0 b0 n : Nat} : ∀ (p : Pat) (z : p.T W.U), Pat.low a0 b0 n p = true → ∀ b ∈ ptrsOf (Pat.enc (W := W) p z), a0 ≤ b ∧ b < b0
  | .ptr b _, z, h, b', hb => by
    simp only [Pat.enc, ptrsOf, List.mem_singleton] at hb
    subst hb
    have : (Nat.ble a0 b' && Nat.ble (b' + 1) b0) = true := h
    rw [Bool.and_eq_true] at this
    exact ⟨Nat.le_of_ble_eq_true this.1, Nat.le_of_ble_eq_true this.2⟩
  | .fn f a b, z, h, b', hb => by
    simp only [Pat.low, Bool.and_eq_true] at h
    simp only [Pat.enc, ptrsOf] at hb
    rcases List.mem_append.1 hb with hb | hb
    · exact Pat.encs_ptrs a _ h.1 b' hb
    · exact Pat.encs_ptrs b _ h.2 b' hb
  | .agg l, z, h, b', hb => by simp only [Pat.low] at h; simp only [Pat.enc, ptrsOf] at hb; exact Pat.encs_ptrs l _ h b' hb
  | .tup l, z, h, b', hb => by simp only [Pat.low] at h; simp only [Pat.enc, ptrsOf] at hb; exact Pat.encs_ptrs l _ h b' hb
  | .d _, _, _, b', hb => by simp [Pat.enc, ptrsOf] at hb
  | .kb _, _, _, b', hb => by simp [Pat.enc, ptrsOf] at hb
  | .ln _ _, _, _, b', hb => by simp [Pat.enc, ptrsOf] at hb
  | .raw _, _, _, b', hb => by simp [Pat.enc, ptrsOf] at hb
  | .ms b _, z, h, b', hb => by
    simp only [Pat.enc, ptrsOf, List.mem_singleton] at hb
    subst hb
    have : (Nat.ble a0 b' && Nat.ble (b' + 1) b0) = true := h
    rw [Bool.and_eq_true] at this
    exact ⟨Nat.le_of_ble_eq_true this.1, Nat.le_of_ble_eq_true this.2⟩
theorem Pat.encs_ptrs {a0 b0 n : Nat} : ∀ (p : List Pat) (z : Pat.Ts W.U p), Pat.lows a0 b0 n p = true → ∀ b ∈ ptrsOfs (Pat.encs (W := W) p z), a0 ≤ b ∧ b < b0
  | [], _, _, b', hb => by simp [Pat.encs, ptrsOfs] at hb
  | p :: ps, z, h, b', hb => by
    simp only [Pat.lows, Bool.and_eq_true] at h
    simp only [Pat.encs, ptrsOfs] at hb
    rcases List.mem_append.1 hb with hb | hb
    · exact Pat.enc_ptrs p _ h.1 b' hb
    · exact Pat.encs_ptrs ps _ h.2 b' hb
end

theorem rawOk_pure : ∀ {a : AV}, rawOk a = true → pureV a = true
  | .nilp, _ => rfl
  | .nils, _ => rfl
  | .nilm, _ => rfl
  | .nilf, _ => rfl
  | .nili, _ => rfl
  | .tup [], _ => rfl

mutual
/-- Other names of blocks and of tags in abstract values. -/
def mapV (fb : Nat → Nat) (ft : Nat → Option Nat) : AV → AV
  | .ptr b off => .ptr (fb b) off
  | .ms b off l z => .ms (fb b) off l z
  | .map b => .map (fb b)
  | .elem xs i o => .elem (mapVs fb ft xs) i o
  | .sl xs k => .sl (mapVs fb ft xs) (match k with
    | .full => .full
    | .tag t => match ft t with
      | some u => .tag u
      | none => .dead
    | .dead => .dead)
  | .fn f a b => .fn f (mapVs fb ft a) (mapVs fb ft b)
  | .ifc t v => .ifc t (mapV fb ft v)
  | .agg cs => .agg (mapVs fb ft cs)
  | .tup cs => .tup (mapVs fb ft cs)
  | .bool b => .bool b
  | .int k n => .int k n
  | .str s => .str s
  | .nilp => .nilp
  | .nils => .nils
  | .nilm => .nilm
  | .nilf => .nilf
  | .nili => .nili
def mapVs (fb : Nat → Nat) (ft : Nat → Option Nat) : List AV → List AV
  | [] => []
  | x :: xs => mapV fb ft x :: mapVs fb ft xs
end

theorem mapVs_map (fb : Nat → Nat) (ft : Nat → Option Nat) (l : List AV) : mapVs fb ft l = l.map (mapV fb ft) := by induction l <;> simp_all [mapVs]

mutual
theorem mapV_dd {fb : Nat → Nat} {ft : Nat → Option Nat} : ∀ {a : AV}, pureV a = true → dd (mapV fb ft a) = dd a
  | .bool _, _ => rfl
  | .int _ _, _ => rfl
  | .str _, _ => rfl
  | .nilp, _ => rfl
  | .ptr _ _, h => by simp [pureV] at h
  | .elem xs i o, h => by simp only [mapV, dd]; rw [mapVs_dds (by simpa [pureV] using h)]
  | .nils, _ => rfl
  | .sl xs k, h => by simp only [mapV, dd]; rw [mapVs_dds (by simpa [pureV] using h)]
  | .ms _ _ _ _, h => by simp [pureV] at h
  | .nilm, _ => rfl
  | .map _, h => by simp [pureV] at h
  | .nilf, _ => rfl
  | .fn f a b, h => by simp only [pureV, Bool.and_eq_true] at h; simp only [mapV, dd]; rw [mapVs_dds h.1, mapVs_dds h.2]
  | .nili, _ => rfl
  | .ifc t v, h => by simp only [mapV, dd]; rw [mapV_dd (by simpa [pureV] using h)]
  | .agg cs, h => by simp only [mapV, dd]; rw [mapVs_dds (by simpa [pureV] using h)]
  | .tup cs, h => by simp only [mapV, dd]; rw [mapVs_dds (by simpa [pureV] using h)]
theorem mapVs_dds {fb : Nat → Nat} {ft : Nat → Option Nat} : ∀ {a : List AV}, pureVs a = true → dds (mapVs fb ft a) = dds a
  | [], _ => rfl
  | x :: xs, h => by simp only [pureVs, Bool.and_eq_true] at h; simp only [mapVs, dds, mapV_dd h.1, mapVs_dds h.2]
end

mutual
theorem mapV_map {f1 f2 : Nat → Nat} {t1 t2 : Nat → Option Nat} : ∀ (a : AV), mapV f2 t2 (mapV f1 t1 a) = mapV (fun b => f2 (f1 b)) (fun t => (t1 t).bind t2) a
  | .bool _ => rfl
  | .int _ _ => rfl
  | .str _ => rfl
  | .nilp => rfl
  | .ptr _ _ => rfl
  | .elem xs i o => by simp only [mapV, mapVs_map' xs]
  | .nils => rfl
  | .sl xs k => by
    simp only [mapV, mapVs_map' xs]
    cases k with
    | full => rfl
    | dead => rfl
    | tag t => cases h : t1 t <;> simp [h]
  | .ms _ _ _ _ => rfl
  | .nilm => rfl
  | .map _ => rfl
  | .nilf => rfl
  | .fn f a b => by simp only [mapV, mapVs_map' a, mapVs_map' b]
  | .nili => rfl
  | .ifc t v => by simp only [mapV, mapV_map v]
  | .agg cs => by simp only [mapV, mapVs_map' cs]
  | .tup cs => by simp only [mapV, mapVs_map' cs]
theorem mapVs_map' {f1 f2 : Nat → Nat} {t1 t2 : Nat → Option Nat} : ∀ (a : List AV), mapVs f2 t2 (mapVs f1 t1 a) = mapVs (fun b => f2 (f1 b)) (fun t => (t1 t).bind t2) a
  | [] => rfl
  | x :: xs => by simp only [mapVs, mapV_map x, mapVs_map' xs]
end

mutual
theorem pure_RVm {β τ : Nat → Nat → Prop} {fb : Nat → Nat} {ft : Nat → Option Nat} (hτ : ∀ t u, ft t = some u → τ t u) : ∀ {a : AV}, pureV a = true → RV β τ a (mapV fb ft a)
  | .bool _, _ => rfl
  | .int _ _, _ => rfl
  | .str _, _ => rfl
  | .nilp, _ => rfl
  | .ptr _ _, h => by simp [pureV] at h
  | .elem xs i o, h => ⟨_, pure_RVms hτ (by simpa [pureV] using h), rfl⟩
  | .nils, _ => rfl
  | .sl xs k, h => ⟨_, _, pure_RVms hτ (by simpa [pureV] using h), RK_map hτ k, rfl⟩
  | .ms _ _ _ _, h => by simp [pureV] at h
  | .nilm, _ => rfl
  | .map _, h => by simp [pureV] at h
  | .nilf, _ => rfl
  | .fn f a b, h => by simp only [pureV, Bool.and_eq_true] at h; exact ⟨_, _, pure_RVms hτ h.1, pure_RVms hτ h.2, rfl⟩
  | .nili, _ => rfl
  | .ifc t v, h => ⟨_, pure_RVm hτ (by simpa [pureV] using h), rfl⟩
  | .agg cs, h => ⟨_, pure_RVms hτ (by simpa [pureV] using h), rfl⟩
  | .tup cs, h => ⟨_, pure_RVms hτ (by simpa [pureV] using h), rfl⟩
theorem pure_RVms {β τ : Nat → Nat → Prop} {fb : Nat → Nat} {ft : Nat → Option Nat} (hτ : ∀ t u, ft t = some u → τ t u) : ∀ {a : List AV}, pureVs a = true → RVs β τ a (mapVs fb ft a)
  | [], _ => rfl
  | x :: xs, h => by simp only [pureVs, Bool.and_eq_true] at h; exact ⟨_, _, pure_RVm hτ h.1, pure_RVms hτ h.2, rfl⟩
theorem RK_map {τ : Nat → Nat → Prop} {ft : Nat → Option Nat} (hτ : ∀ t u, ft t = some u → τ t u) : ∀ k : SK, RK τ k (match k with
    | .full => .full
    | .tag t => match ft t with
      | some u => .tag u
      | none => .dead
    | .dead => .dead)
  | .full => .inl rfl
  | .dead => rfl
  | .tag t => by
    cases h : ft t with
    | none => simp only [h]; exact .inr rfl
    | some u => simp only [h]; exact .inl ⟨u, hτ t u h, rfl⟩
end

section
variable (hW : W.Ok) {θ θ2 : Nat → Option Nat} {fb : Nat → Nat} {ft : Nat → Option Nat} {g : Nat → Nat}
include hW

mutual
/-- A typed value under other names. -/
theorem XR.rn (hθ : ∀ t u, θ t = some u → ∃ u', ft u = some u' ∧ θ2 (g t) = some u') : ∀ {x : XV W.U} {a : AV}, XR W θ x a → XR W θ2 (rnV fb g x) (mapV fb ft a)
  | .v c y, a, h => by simp only [rnV, XR] at h ⊢; rw [mapV_dd (XR.v_pure hW h)]; exact h
  | .kb b, a, h => by simp only [rnV, XR] at h ⊢; subst h; rfl
  | .lin c xs t, a, h => by
    simp only [rnV, XR] at h ⊢
    obtain ⟨ys, h1, h2⟩ := h
    refine ⟨mapVs fb ft ys, by rw [mapVs_dds (pures_enc hW h1)]; exact h1, ?_⟩
    rcases h2 with ⟨rfl, rfl⟩ | rfl | ⟨u, h3, rfl⟩
    · exact .inl ⟨rfl, rfl⟩
    · exact .inr (.inl rfl)
    · obtain ⟨u', h4, h5⟩ := hθ t u h3
      exact .inr (.inr ⟨u', h5, by simp only [mapV, h4]⟩)
  | .el c y off, a, h => by
    simp only [rnV, XR] at h ⊢
    obtain ⟨ys, i, z, rfl, h1, h2, h3⟩ := h
    refine ⟨mapVs fb ft ys, i, mapV fb ft z, rfl, by rw [mapVs_map, List.getElem?_map, h1]; rfl, ?_, ?_⟩
    · rw [mapV_dd (XR.v_pure hW h2)]; exact h2
    · rw [← pures_dd, mapVs_dds h3, pures_dd]; exact h3
  | .ptr b off, a, h => by simp only [rnV, XR] at h ⊢; subst h; rfl
  | .ms b c lo n, a, h => by simp only [rnV, XR] at h ⊢; subst h; rfl
  | .mel b c i off, a, h => by simp only [rnV, XR] at h ⊢; subst h; rfl
  | .raw r, a, h => by
    simp only [rnV, XR] at h ⊢
    obtain ⟨rfl, h⟩ := h
    refine ⟨?_, h⟩
    cases a <;> simp [rawOk] at h <;> try rfl
    rename_i vs
    cases vs <;> simp at h
    rfl
  | .fn f xs ys, a, h => by
    simp only [rnV, XR] at h ⊢
    obtain ⟨asq, bs, rfl, h1, h2⟩ := h
    exact ⟨_, _, rfl, XRs.rn hθ h1, XRs.rn hθ h2⟩
  | .ifc t v, a, h => by simp only [rnV, XR] at h ⊢; obtain ⟨a', rfl, h1⟩ := h; exact ⟨_, rfl, XR.rn hθ h1⟩
  | .agg cs, a, h => by simp only [rnV, XR] at h ⊢; obtain ⟨a', rfl, h1⟩ := h; exact ⟨_, rfl, XRs.rn hθ h1⟩
  | .tup cs, a, h => by simp only [rnV, XR] at h ⊢; obtain ⟨a', rfl, h1⟩ := h; exact ⟨_, rfl, XRs.rn hθ h1⟩
theorem XRs.rn (hθ : ∀ t u, θ t = some u → ∃ u', ft u = some u' ∧ θ2 (g t) = some u') : ∀ {x : List (XV W.U)} {a : List AV}, XRs W θ x a → XRs W θ2 (rnVs fb g x) (mapVs fb ft a)
  | [], _, h => by simp only [rnVs, XRs] at h ⊢; subst h; rfl
  | x :: xs, _, h => by simp only [rnVs, XRs] at h ⊢; obtain ⟨a, asq, rfl, h1, h2⟩ := h; exact ⟨_, _, rfl, XR.rn hθ h1, XRs.rn hθ h2⟩
end

mutual
theorem XR.rv {β τ : Nat → Nat → Prop} (hτ : ∀ t u, ft t = some u → τ t u) : ∀ {x : XV W.U} {a : AV}, XR W θ x a → (∀ b ∈ ptrsOf x, β b (fb b)) → RV β τ a (mapV fb ft a)
  | .v c y, a, h, _ => by simp only [XR] at h; exact pure_RVm hτ (XR.v_pure hW h)
  | .kb b, a, h, _ => by simp only [XR] at h; subst h; rfl
  | .lin c xs t, a, h, _ => by
    simp only [XR] at h
    obtain ⟨ys, h1, h2⟩ := h
    refine pure_RVm hτ ?_
    rcases h2 with ⟨rfl, rfl⟩ | rfl | ⟨u, h3, rfl⟩
    · rfl
    · exact pures_enc hW h1
    · exact pures_enc hW h1
  | .el c y off, a, h, _ => by
    simp only [XR] at h
    obtain ⟨ys, i, z, rfl, h1, h2, h3⟩ := h
    exact pure_RVm hτ h3
  | .ptr b off, a, h, hb => by simp only [XR] at h; subst h; exact ⟨_, hb b (by simp [ptrsOf]), rfl⟩
  | .ms b c lo n, a, h, hb => by simp only [XR] at h; subst h; exact ⟨_, hb b (by simp [ptrsOf]), rfl⟩
  | .mel b c i off, a, h, hb => by simp only [XR] at h; subst h; exact ⟨_, hb b (by simp [ptrsOf]), rfl⟩
  | .raw r, a, h, _ => by
    simp only [XR] at h
    obtain ⟨rfl, h⟩ := h
    exact pure_RVm hτ (rawOk_pure h)
  | .fn f xs ys, a, h, hb => by
    simp only [XR] at h
    obtain ⟨asq, bs, rfl, h1, h2⟩ := h
    exact ⟨_, _, XRs.rv hτ h1 (fun b hb' => hb b (by simp only [ptrsOf]; exact List.mem_append_left _ hb')), XRs.rv hτ h2 (fun b hb' => hb b (by simp only [ptrsOf]; exact List.mem_append_right _ hb')), rfl⟩
  | .ifc t v, a, h, hb => by simp only [XR] at h; obtain ⟨a', rfl, h1⟩ := h; exact ⟨_, XR.rv hτ h1 (fun b hb' => hb b (by simp only [ptrsOf]; exact hb')), rfl⟩
  | .agg cs, a, h, hb => by simp only [XR] at h; obtain ⟨a', rfl, h1⟩ := h; exact ⟨_, XRs.rv hτ h1 (fun b hb' => hb b (by simp only [ptrsOf]; exact hb')), rfl⟩
  | .tup cs, a, h, hb => by simp only [XR] at h; obtain ⟨a', rfl, h1⟩ := h; exact ⟨_, XRs.rv hτ h1 (fun b hb' => hb b (by simp only [ptrsOf]; exact hb')), rfl⟩
theorem XRs.rv {β τ : Nat → Nat → Prop} (hτ : ∀ t u, ft t = some u → τ t u) : ∀ {x : List (XV W.U)} {a : List AV}, XRs W θ x a → (∀ b ∈ ptrsOfs x, β b (fb b)) → RVs β τ a (mapVs fb ft a)
  | [], _, h, _ => by simp only [XRs] at h; subst h; rfl
  | x :: xs, _, h, hb => by
    simp only [XRs] at h
    obtain ⟨a, asq, rfl, h1, h2⟩ := h
    exact ⟨_, _, XR.rv hτ h1 (fun b hb' => hb b (by simp only [ptrsOfs]; exact List.mem_append_left _ hb')), XRs.rv hτ h2 (fun b hb' => hb b (by simp only [ptrsOfs]; exact List.mem_append_right _ hb')), rfl⟩
end

mutual
theorem XR.low {k : Nat} : ∀ {x : XV W.U} {a : AV}, XR W θ x a → (∀ b ∈ ptrsOf x, b < k) → Low k a
  | .v c y, a, h, _ => by simp only [XR] at h; exact pure_Low (XR.v_pure hW h)
  | .kb b, a, h, _ => by simp only [XR] at h; subst h; rfl
  | .lin c xs t, a, h, _ => by
    simp only [XR] at h
    obtain ⟨ys, h1, h2⟩ := h
    refine pure_Low ?_
    rcases h2 with ⟨rfl, rfl⟩ | rfl | ⟨u, h3, rfl⟩
    · rfl
    · exact pures_enc hW h1
    · exact pures_enc hW h1
  | .el c y off, a, h, _ => by
    simp only [XR] at h
    obtain ⟨ys, i, z, rfl, h1, h2, h3⟩ := h
    exact pure_Low h3
  | .ptr b off, a, h, hb => by simp only [XR] at h; subst h; exact ptr_Low (hb b (by simp [ptrsOf]))
  | .ms b c lo n, a, h, hb => by simp only [XR] at h; subst h; exact ms_Low (hb b (by simp [ptrsOf]))
  | .mel b c i off, a, h, hb => by simp only [XR] at h; subst h; exact ptr_Low (hb b (by simp [ptrsOf]))
  | .raw r, a, h, _ => by
    simp only [XR] at h
    obtain ⟨rfl, h⟩ := h
    exact pure_Low (rawOk_pure h)
  | .fn f xs ys, a, h, hb => by
    simp only [XR] at h
    obtain ⟨asq, bs, rfl, h1, h2⟩ := h
    exact ⟨_, _, XRs.low h1 (fun b hb' => hb b (by simp only [ptrsOf]; exact List.mem_append_left _ hb')), XRs.low h2 (fun b hb' => hb b (by simp only [ptrsOf]; exact List.mem_append_right _ hb')), rfl⟩
  | .ifc t v, a, h, hb => by simp only [XR] at h; obtain ⟨a', rfl, h1⟩ := h; exact ⟨_, XR.low h1 (fun b hb' => hb b (by simp only [ptrsOf]; exact hb')), rfl⟩
  | .agg cs, a, h, hb => by simp only [XR] at h; obtain ⟨a', rfl, h1⟩ := h; exact ⟨_, XRs.low h1 (fun b hb' => hb b (by simp only [ptrsOf]; exact hb')), rfl⟩
  | .tup cs, a, h, hb => by simp only [XR] at h; obtain ⟨a', rfl, h1⟩ := h; exact ⟨_, XRs.low h1 (fun b hb' => hb b (by simp only [ptrsOf]; exact hb')), rfl⟩
theorem XRs.low {k : Nat} : ∀ {x : List (XV W.U)} {a : List AV}, XRs W θ x a → (∀ b ∈ ptrsOfs x, b < k) → Lows k a
  | [], _, h, _ => by simp only [XRs] at h; subst h; rfl
  | x :: xs, _, h, hb => by
    simp only [XRs] at h
    obtain ⟨a, asq, rfl, h1, h2⟩ := h
    exact ⟨_, _, XR.low h1 (fun b hb' => hb b (by simp only [ptrsOfs]; exact List.mem_append_left _ hb')), XRs.low h2 (fun b hb' => hb b (by simp only [ptrsOfs]; exact List.mem_append_right _ hb')), rfl⟩
end
end


theorem pures_flat : ∀ {ys : List AV}, pureVs ys = true → pureVs (ys.flatMap cellsOf) = true
  | [], _ => rfl
  | y :: ys, h => by
    simp only [pureVs, Bool.and_eq_true] at h
    have app : ∀ a b : List AV, pureVs (a ++ b) = (pureVs a && pureVs b) := by
      intro a b
      induction a with
      | nil => simp [pureVs]
      | cons x a ih => simp only [List.cons_append, pureVs, ih, Bool.and_assoc]
    simp only [List.flatMap_cons, app, Bool.and_eq_true]
    refine ⟨?_, pures_flat h.2⟩
    cases y <;> simp only [cellsOf, pureVs, Bool.and_true, Bool.and_eq_true] <;> first
      | exact h.1
      | exact ⟨h.1, trivial⟩

section
variable (hW : W.Ok) {θ θ1 θ2 : Nat → Option Nat} {fb : Nat → Nat} {ft : Nat → Option Nat} {g : Nat → Nat}
include hW

theorem BlkR.rn (hθ : ∀ t u, θ t = some u → ∃ u', ft u = some u' ∧ θ2 (g t) = some u') {x : XB W.U} {a : List AV} (h : BlkR W θ x a) : BlkR W θ2 (rnB fb g x) (mapVs fb ft a) := by
  cases x with
  | cells cs => exact XRs.rn hW hθ h
  | arr c xs =>
    obtain ⟨ys, rfl, h1⟩ := h
    refine ⟨mapVs fb ft ys, ?_, by rw [mapVs_dds (pures_enc hW h1)]; exact h1⟩
    clear h1
    induction ys with
    | nil => rfl
    | cons y ys ih =>
      have app : ∀ a b : List AV, mapVs fb ft (a ++ b) = mapVs fb ft a ++ mapVs fb ft b := fun a b => by simp [mapVs_map]
      simp only [List.flatMap_cons, app, ih, mapVs]
      congr 1
      cases y <;> simp only [cellsOf, mapVs, mapV]

theorem BlkR.rv {β τ : Nat → Nat → Prop} (hτ : ∀ t u, ft t = some u → τ t u) {x : XB W.U} {a : List AV} (h : BlkR W θ x a) (hb : ∀ b ∈ ptrsB x, β b (fb b)) : RVs β τ a (mapVs fb ft a) := by
  cases x with
  | cells cs => exact XRs.rv hW hτ h hb
  | arr c xs =>
    obtain ⟨ys, rfl, h1⟩ := h
    exact pure_RVms hτ (pures_flat (pures_enc hW h1))

theorem BlkR.low {k : Nat} {x : XB W.U} {a : List AV} (h : BlkR W θ x a) (hb : ∀ b ∈ ptrsB x, b < k) : Lows k a := by
  cases x with
  | cells cs => exact XRs.low hW h hb
  | arr c xs =>
    obtain ⟨ys, rfl, h1⟩ := h
    exact pure_Lows (pures_flat (pures_enc hW h1))

theorem BPat.dec_ok (t0 : θ 0 = none) {p : BPat} {x : XB W.U} {z : p.T W.U} {a : List AV} (h : BPat.dec p x = some z) (hx : BlkR W θ x a) (ht : ∀ q ∈ BPat.tags p x, ∀ u, θ q.2 = some u → θ1 q.1 = some u) : BlkR W θ1 (BPat.enc p z) a := by
  cases p with
  | one p =>
    cases x with
    | cells cs =>
      have h1 : Pat.dec (W := W) p (.agg cs) = some z := h
      have h2 : XR W θ (.agg cs) (.agg a) := XR.mkAgg hx
      exact XR.cells hW (Pat.dec_ok hW t0 p h1 h2 ht)
    | arr c xs => cases h
  | ar c =>
    cases x with
    | cells cs => cases h
    | arr c' xs =>
      have h1 : castD (U := W.U) (.sl c') (.sl c) xs = some z := h
      obtain ⟨e, h2⟩ := castD_some h1
      cases e
      have h2 : xs = z := h2
      subst h2
      exact hx
end

theorem BPat.tags_low {a0 b0 n : Nat} {p : BPat} {x : XB W.U} (h : BPat.low a0 b0 n p = true) : ∀ q ∈ BPat.tags p x, 1 ≤ q.1 ∧ q.1 ≤ n := by
  cases p with
  | one p =>
    cases x with
    | cells cs => exact Pat.tags_low p (.agg cs) h
    | arr c xs => intro q hq; cases hq
  | ar c => intro q hq; simp [BPat.tags] at hq
theorem tagsH_low {a0 b0 n : Nat} : ∀ (p : List BPat) (x : List (XB W.U)), Pat.lowH a0 b0 n p = true → ∀ q ∈ Pat.tagsH p x, 1 ≤ q.1 ∧ q.1 ≤ n
  | [], _, _, q, hq => by simp [Pat.tagsH] at hq
  | _ :: _, [], _, q, hq => by simp [Pat.tagsH] at hq
  | p :: ps, x :: xs, h, q, hq => by
    simp only [Pat.lowH, Bool.and_eq_true] at h
    simp only [Pat.tagsH] at hq
    rcases List.mem_append.1 hq with hq | hq
    · exact BPat.tags_low h.1 q hq
    · exact tagsH_low ps xs h.2 q hq

theorem ptrs_cells (hW : W.Ok) (x : XV W.U) : ∀ b ∈ ptrsOfs (xcells x), b ∈ ptrsOf x := by
  intro b hb
  cases x with
  | v c y =>
    cases c with
    | st n =>
      obtain ⟨asq, _, hlf⟩ := hW.cells n y
      have nop : ∀ (l : List (XV W.U)) (asq : List AV), Leafs W l asq → ptrsOfs l = [] := by
        intro l
        induction l with
        | nil => intros; rfl
        | cons x l ih =>
          intro asq h
          obtain ⟨c, y, bs, rfl, _, _, h2⟩ := h
          simp only [ptrsOfs, ptrsOf, ih _ h2, List.append_nil]
      rw [show xcells (W := W) (.v (.st n) y) = W.cells n y from rfl, nop _ _ hlf] at hb
      cases hb
    | _ => simpa [xcells, ptrsOfs] using hb
  | agg cs => simpa [xcells, ptrsOf] using hb
  | _ => simpa [xcells, ptrsOfs] using hb

theorem BPat.enc_ptrs (hW : W.Ok) {a0 b0 n : Nat} {p : BPat} {z : p.T W.U} (h : BPat.low a0 b0 n p = true) : ∀ b ∈ ptrsB (BPat.enc (W := W) p z), a0 ≤ b ∧ b < b0 := by
  cases p with
  | one p => exact fun b hb => Pat.enc_ptrs p z h b (ptrs_cells hW _ b hb)
  | ar c => intro b hb; cases hb
theorem encH_ptrs (hW : W.Ok) {a0 b0 n : Nat} : ∀ (ps : List BPat) (z : BPat.Ts W.U ps), Pat.lowH a0 b0 n ps = true → ∀ (j : Nat) (x : XB W.U), (Pat.encH (W := W) ps z)[j]? = some x → ∀ b ∈ ptrsB x, a0 ≤ b ∧ b < b0
  | [], _, _, j, x, hx => by simp [Pat.encH] at hx
  | p :: ps, z, h, j, x, hx => by
    simp only [Pat.lowH, Bool.and_eq_true] at h
    cases j with
    | zero => simp [Pat.encH] at hx; subst hx; exact BPat.enc_ptrs hW h.1
    | succ j => simp [Pat.encH] at hx; exact encH_ptrs hW ps z.2 h.2 j x hx

theorem encH_length : ∀ (ps : List BPat) (z : BPat.Ts W.U ps), (Pat.encH (W := W) ps z).length = ps.length
  | [], _ => rfl
  | p :: ps, z => by simp only [Pat.encH, List.length_cons, encH_length ps z.2]
theorem decH_length : ∀ (ps : List BPat) {xs : List (XB W.U)} {z : BPat.Ts W.U ps}, Pat.decH ps xs = some z → xs.length = ps.length
  | [], [], _, _ => rfl
  | [], _ :: _, z, h => by cases (show none = some z from h)
  | _ :: _, [], z, h => by cases (show none = some z from h)
  | p :: ps, x :: xs, z, h => by
    obtain ⟨_, h2⟩ := pair_some (show pair? (BPat.dec p x) (Pat.decH ps xs) = some z from h)
    simp [decH_length ps h2]

/-- Blocks that fit patterns, one by one. -/
theorem decH_get (hW : W.Ok) {θ θ1 : Nat → Option Nat} (t0 : θ 0 = none) : ∀ (ps : List BPat) {xs : List (XB W.U)} {z : BPat.Ts W.U ps}, Pat.decH ps xs = some z → (∀ q ∈ Pat.tagsH ps xs, ∀ u, θ q.2 = some u → θ1 q.1 = some u) →
    ∀ (j : Nat) (y : XB W.U), (Pat.encH (W := W) ps z)[j]? = some y → ∃ x, xs[j]? = some x ∧ ∀ a, BlkR W θ x a → BlkR W θ1 y a
  | [], xs, z, _, _, j, y, hy => by simp [Pat.encH] at hy
  | _ :: _, [], z, h, _, _, _, _ => by cases (show none = some z from h)
  | p :: ps, x :: xs, z, h, ht, j, y, hy => by
    obtain ⟨h1, h2⟩ := pair_some (show pair? (BPat.dec p x) (Pat.decH ps xs) = some z from h)
    cases j with
    | zero =>
      simp [Pat.encH] at hy
      subst hy
      exact ⟨x, rfl, fun a ha => BPat.dec_ok hW t0 h1 ha fun q hq => ht q (by simp only [Pat.tagsH]; exact List.mem_append_left _ hq)⟩
    | succ j =>
      simp [Pat.encH] at hy
      obtain ⟨x', h3, h4⟩ := decH_get hW t0 ps h2 (fun q hq => ht q (by simp only [Pat.tagsH]; exact List.mem_append_right _ hq)) j y hy
      exact ⟨x', by simpa using h3, h4⟩
end Go.Am
namespace Go.Am

/-! Maps with some entries set. -/
def setAllT {α : Type} (t : Tr α) : List Nat → List α → Tr α
  | b :: bs, x :: xs => setAllT (t.set b x) bs xs
  | _, _ => t

theorem setAllT_out {α : Type} : ∀ (bs : List Nat) (xs : List α) (t : Tr α) (b : Nat), b ∉ bs → (setAllT t bs xs).get b = t.get b
  | [], _, _, _, _ => rfl
  | _ :: _, [], _, _, _ => rfl
  | c :: bs, x :: xs, t, b, h => by
    simp only [List.mem_cons, not_or] at h
    simp only [setAllT]
    rw [setAllT_out bs xs _ b h.2, Tr.get_set_ne _ _ _ _ h.1]

theorem setAllT_in {α : Type} : ∀ (bs : List Nat) (xs : List α) (t : Tr α) (j b : Nat) (x : α), bs.Nodup → bs[j]? = some b → xs[j]? = some x → (setAllT t bs xs).get b = some x
  | [], _, _, j, b, x, _, h, _ => by simp at h
  | _ :: _, [], _, j, b, x, _, _, h => by simp at h
  | c :: bs, y :: xs, t, j, b, x, hn, h1, h2 => by
    simp only [List.nodup_cons] at hn
    simp only [setAllT]
    cases j with
    | zero =>
      simp only [List.getElem?_cons_zero, Option.some.injEq] at h1 h2
      subst h1; subst h2
      rw [setAllT_out bs xs _ _ hn.1, Tr.get_set_same]
    | succ j =>
      simp only [List.getElem?_cons_succ] at h1 h2
      exact setAllT_in bs xs _ j b x hn.2 h1 h2

theorem setAllT_some {α : Type} : ∀ (bs : List Nat) (xs : List α) (t : Tr α) (b : Nat) (x : α), bs.Nodup → (setAllT t bs xs).get b = some x → (∃ j : Nat, bs[j]? = some b ∧ xs[j]? = some x) ∨ t.get b = some x
  | [], _, _, _, _, _, h => .inr h
  | _ :: _, [], _, _, _, _, h => .inr h
  | c :: bs, y :: xs, t, b, x, hn, h => by
    simp only [List.nodup_cons] at hn
    simp only [setAllT] at h
    rcases setAllT_some bs xs _ b x hn.2 h with ⟨j, h1, h2⟩ | h1
    · exact .inl ⟨j + 1, by simpa using h1, by simpa using h2⟩
    · rw [Tr.get_set] at h1
      split at h1
      · rename_i e; subst e; cases h1; exact .inl ⟨0, rfl, rfl⟩
      · exact .inr h1

theorem idxOf_spec : ∀ {l : List Nat} {b : Nat}, hasN l b = true → l[idxOf b l]? = some b
  | [], b, h => by simp [hasN] at h
  | x :: xs, b, h => by
    simp only [idxOf]
    cases hb : Nat.beq b x with
    | true => simp only []; rw [natbeq hb]; rfl
    | false =>
      simp only [List.getElem?_cons_succ]
      exact idxOf_spec (by simpa [hasN, hb] using h)

theorem hasN_iff {l : List Nat} {b : Nat} : hasN l b = true ↔ b ∈ l := by
  simp only [hasN, List.any_eq_true]
  constructor
  · rintro ⟨x, hx, he⟩; rw [natbeq he]; exact hx
  · intro h; exact ⟨b, h, Nat.beq_refl b⟩

theorem ndup0_inj : ∀ {l : List Nat} {i j x : Nat}, ndup0 l = true → l[i]? = some x → l[j]? = some x → x ≠ 0 → i = j
  | [], i, j, x, _, h, _, _ => by simp at h
  | y :: l, i, j, x, h, hi, hj, hx => by
    simp only [ndup0, Bool.and_eq_true, Bool.or_eq_true, Bool.not_eq_true'] at h
    have no : y = x → ∀ k : Nat, l[k]? = some x → False := fun e k hk => by
      subst e
      rcases h.1 with h1 | h1
      · exact hx (natbeq h1)
      · have := List.any_eq_false.1 h1 y (List.mem_of_getElem? hk)
        exact this (Nat.beq_refl y)
    cases i with
    | zero =>
      cases j with
      | zero => rfl
      | succ j => simp at hi hj; exact (no hi j hj).elim
    | succ i =>
      cases j with
      | zero => simp at hi hj; exact (no hj i hi).elim
      | succ j => simp at hi hj; rw [ndup0_inj h.2 hi hj hx]

/-- The tag of a pattern among those of a value. -/
def findT (l : List (Nat × Nat)) (t : Nat) : Option Nat := match l.find? fun p => Nat.beq p.1 t with
  | some p => some p.2
  | none => none

theorem findT_mem {l : List (Nat × Nat)} {t t' : Nat} (h : findT l t = some t') : (t, t') ∈ l := by
  unfold findT at h
  split at h
  · rename_i p hp
    cases h
    have h1 := List.find?_some hp
    have h2 := List.mem_of_find?_eq_some hp
    rw [← natbeq h1]
    exact h2
  · cases h

theorem tagsOk_nz {l : List (Nat × Nat)} (h : tagsOk l = true) {q : Nat × Nat} (hq : q ∈ l) : q.1 ≠ 0 := by
  simp only [tagsOk, Bool.and_eq_true, List.all_eq_true] at h
  have := h.2 q hq
  intro hh
  rw [hh] at this
  cases this

theorem findT_of {l : List (Nat × Nat)} (h : tagsOk l = true) {q : Nat × Nat} (hq : q ∈ l) : findT l q.1 = some q.2 := by
  have hex : ∃ p, l.find? (fun p => Nat.beq p.1 q.1) = some p := by
    cases hf : l.find? (fun p => Nat.beq p.1 q.1) with
    | some p => exact ⟨p, rfl⟩
    | none =>
      have := List.find?_eq_none.1 hf q hq
      exact absurd (Nat.beq_refl q.1) this
  obtain ⟨p, hp⟩ := hex
  unfold findT
  rw [hp]
  have h1' := List.find?_some (p := fun p : Nat × Nat => Nat.beq p.1 q.1) hp
  have h1 : p.1 = q.1 := natbeq h1'
  simp only []
  have h2 := List.mem_of_find?_eq_some hp
  obtain ⟨i, hi⟩ := List.getElem?_of_mem h2
  obtain ⟨j, hj⟩ := List.getElem?_of_mem hq
  have hn := tagsOk_nz h hq
  simp only [tagsOk, Bool.and_eq_true] at h
  have : i = j := ndup0_inj h.1.1 (i := i) (j := j) (x := q.1) (by rw [List.getElem?_map, hi]; simp [h1]) (by rw [List.getElem?_map, hj]; rfl) hn
  subst this
  rw [hi] at hj
  cases hj
  rfl

theorem tagsOk_snd {l : List (Nat × Nat)} (h : tagsOk l = true) {p q : Nat × Nat} (hp : p ∈ l) (hq : q ∈ l) (e : p.2 = q.2) (hn : p.2 ≠ 0) : p = q := by
  obtain ⟨i, hi⟩ := List.getElem?_of_mem hp
  obtain ⟨j, hj⟩ := List.getElem?_of_mem hq
  simp only [tagsOk, Bool.and_eq_true] at h
  have : i = j := ndup0_inj h.1.2 (i := i) (j := j) (x := p.2) (by rw [List.getElem?_map, hi]; rfl) (by rw [List.getElem?_map, hj]; simp [e]) hn
  subst this
  rw [hi] at hj
  cases hj
  rfl

/-- A pattern's tags, where they are. -/
def θof (l : List (Nat × Nat)) (θ : Nat → Option Nat) : Nat → Option Nat := fun t => (findT l t).bind θ

theorem θof_mem {l : List (Nat × Nat)} {θ : Nat → Option Nat} {t u : Nat} (h : θof l θ t = some u) : ∃ t', (t, t') ∈ l ∧ θ t' = some u := by
  unfold θof at h
  cases hf : findT l t with
  | none => rw [hf] at h; cases h
  | some t' => rw [hf] at h; exact ⟨t', findT_mem hf, h⟩

theorem θof_of {l : List (Nat × Nat)} {θ : Nat → Option Nat} (h : tagsOk l = true) {q : Nat × Nat} (hq : q ∈ l) {u : Nat} (hu : θ q.2 = some u) : θof l θ q.1 = some u := by
  unfold θof
  rw [findT_of h hq]
  exact hu

theorem θof_inj {l : List (Nat × Nat)} {θ : Nat → Option Nat} (h : tagsOk l = true) (h0 : θ 0 = none) (hi : ∀ t t' u, θ t = some u → θ t' = some u → t = t') {t t' u : Nat} (h1 : θof l θ t = some u) (h2 : θof l θ t' = some u) : t = t' := by
  obtain ⟨a, h3, h4⟩ := θof_mem h1
  obtain ⟨b, h5, h6⟩ := θof_mem h2
  have e := hi _ _ _ h4 h6
  have hn : a ≠ 0 := fun hh => by subst hh; rw [h0] at h4; cases h4
  have := tagsOk_snd h h3 h5 e hn
  cases this
  rfl

/-- What a call has left. -/
structure XPost (P : XP) (E : ESpec P.W) (z : Pat.T P.W.U E.rout × BPat.Ts P.W.U E.cout) (θ' : Nat → Option Nat) (a : AV) (s' : St) : Prop where
  ret : XR P.W θ' (Pat.enc E.rout z.1) a
  own : ∀ (j : Nat) (cs : XB P.W.U), (Pat.encH E.cout z.2)[j]? = some cs → ∃ asq, s'.heap.get (P.nx + j) = some (.cells asq false) ∧ BlkR P.W θ' cs asq
  tag : ∀ t u, θ' t = some u → s'.live.get u = some true ∧ u < s'.nt ∧ t ≠ 0 ∧ t ≤ E.ntout
  inj : ∀ t t' u, θ' t = some u → θ' t' = some u → t = t'

/-- A function's calls come to what is said. -/
def SigOk (S : Sys) (P : XP) (E : ESpec P.W) (m : E.In → Option E.ρ) : Prop := ∀ x r, m x = some r → ∀ θ s args,
  XSR P S.h ⟨Pat.encH (W := P.W) E.cin x.1, E.ntin + 1⟩ θ s → XRs P.W θ (Pat.encs (W := P.W) E.ain x.2) args →
  CallsTo S E.fid args s fun rr s' => ∃ a θ', rr = .ret a ∧ XPost P E (E.upk r) θ' a s'

theorem XRs_get {W : Univ} {θ : Nat → Option Nat} {xs : List (XV W.U)} {asq : List AV} (h : XRs W θ xs asq) {i : Nat} {a : AV} (ha : asq[i]? = some a) : ∃ x, xs[i]? = some x ∧ XR W θ x a := by
  have hl := XRs.length h
  have hi : i < xs.length := by rw [← hl]; exact (List.getElem?_eq_some_iff.1 ha).1
  obtain ⟨b, h1, h2⟩ := h.get (List.getElem?_eq_getElem hi)
  rw [ha] at h1
  cases h1
  exact ⟨_, List.getElem?_eq_getElem hi, h2⟩

/-- Cells of blocks, asq the state has them. -/
def cellsAt (h : Tr Blk) (b : Nat) : List AV := match h.get b with
  | some (.cells asq _) => asq
  | _ => []

theorem xown_ok {P : XP} {h0 : Tr Blk} {X : XSt P.W.U} {θ : Nat → Option Nat} {s : St} (hX : XSR P h0 X θ s) {b : Nat} {x : XB P.W.U} (h : xown P X b = some x) : ∃ asq, s.heap.get b = some (.cells asq false) ∧ BlkR P.W θ x asq ∧ P.nx ≤ b ∧ X.heap[b - P.nx]? = some x := by
  unfold xown at h
  split at h
  · rename_i hb
    have hb' := Nat.le_of_ble_eq_true hb
    obtain ⟨asq, h1, h2⟩ := hX.own _ _ h
    rw [show P.nx + (b - P.nx) = b by omega] at h1
    exact ⟨asq, h1, h2, hb', h⟩
  · cases h

theorem blocksOf_ok {P : XP} {X : XSt P.W.U} : ∀ {bs : List Nat} {cs : List (XB P.W.U)}, blocksOf P X bs = some cs → cs.length = bs.length ∧ ∀ (j b : Nat), bs[j]? = some b → ∃ c, cs[j]? = some c ∧ xown P X b = some c
  | [], cs, h => by cases h; exact ⟨rfl, fun j b hb => by simp at hb⟩
  | b :: bs, cs, h => by
    simp only [blocksOf] at h
    split at h
    · rename_i c cs' h1 h2
      cases h
      obtain ⟨h3, h4⟩ := blocksOf_ok h2
      refine ⟨by simp [h3], fun j b' hb => ?_⟩
      cases j with
      | zero => simp at hb; subst hb; exact ⟨c, rfl, h1⟩
      | succ j => simp at hb; obtain ⟨c', h5, h6⟩ := h4 j b' hb; exact ⟨c', by simpa using h5, h6⟩
    · cases h

theorem reach_nodup {P : XP} {X : XSt P.W.U} : ∀ (f : Nat) (todo acc : List Nat), acc.Nodup → (reach P X f todo acc).Nodup
  | 0, todo, acc, h => h
  | f + 1, [], acc, h => h
  | f + 1, b :: todo, acc, h => by
    simp only [reach]
    split
    · exact reach_nodup f todo acc h
    · rename_i hb
      split
      · refine reach_nodup f _ _ ?_
        rw [List.nodup_append]
        refine ⟨h, by simp, ?_⟩
        intro x hx y hy
        simp only [List.mem_singleton] at hy
        subst hy
        intro e
        subst e
        rw [hasN_iff.2 hx] at hb
        cases hb
      · exact reach_nodup f todo acc h

theorem mem_ptrsOfs {W : Univ} : ∀ {xs : List (XV W.U)} {i : Nat} {x : XV W.U} {b : Nat}, xs[i]? = some x → b ∈ ptrsOf x → b ∈ ptrsOfs xs
  | [], i, x, b, h, _ => by simp at h
  | y :: xs, i, x, b, h, hb => by
    simp only [ptrsOfs]
    cases i with
    | zero => simp at h; subst h; exact List.mem_append_left _ hb
    | succ i => simp at h; exact List.mem_append_right _ (mem_ptrsOfs h hb)

end Go.Am
namespace Go.Am

theorem nodup_of_inj {l : List Nat} (h : ∀ i j x : Nat, l[i]? = some x → l[j]? = some x → i = j) : l.Nodup := by
  induction l with
  | nil => exact List.nodup_nil
  | cons a l ih =>
    rw [List.nodup_cons]
    refine ⟨fun hm => ?_, ih fun i j x hi hj => ?_⟩
    · obtain ⟨i, hi⟩ := List.getElem?_of_mem hm
      have := h 0 (i + 1) a rfl (by simpa using hi)
      omega
    · have := h (i + 1) (j + 1) x (by simpa using hi) (by simpa using hj)
      omega

def rangeFrom (k n : Nat) : List Nat := (List.range n).map fun j => k + j
theorem rangeFrom_length (k n : Nat) : (rangeFrom k n).length = n := by simp [rangeFrom]
theorem rangeFrom_get {k n j x : Nat} : (rangeFrom k n)[j]? = some x ↔ j < n ∧ x = k + j := by
  simp only [rangeFrom, List.getElem?_map, Option.map_eq_some_iff]
  constructor
  · rintro ⟨a, h, rfl⟩
    have h1 := List.getElem?_eq_some_iff.1 h
    obtain ⟨h2, h3⟩ := h1
    simp at h2 h3
    exact ⟨h2, by omega⟩
  · rintro ⟨h, rfl⟩
    exact ⟨j, by simp [h], rfl⟩
theorem rangeFrom_mem {k n x : Nat} : x ∈ rangeFrom k n ↔ k ≤ x ∧ x < k + n := by
  constructor
  · intro h
    obtain ⟨j, hj⟩ := List.getElem?_of_mem h
    have := rangeFrom_get.1 hj
    omega
  · intro h
    exact List.mem_of_getElem? (rangeFrom_get.2 ⟨show x - k < n by omega, by omega⟩)
theorem rangeFrom_nodup (k n : Nat) : (rangeFrom k n).Nodup := nodup_of_inj fun i j x hi hj => by
  have h1 := rangeFrom_get.1 hi
  have h2 := rangeFrom_get.1 hj
  omega

def uniq : List Nat → List Nat → List Nat
  | acc, [] => acc
  | acc, x :: xs => match hasN acc x with
    | true => uniq acc xs
    | false => uniq (acc ++ [x]) xs
theorem uniq_nodup : ∀ (l acc : List Nat), acc.Nodup → (uniq acc l).Nodup
  | [], acc, h => h
  | x :: l, acc, h => by
    simp only [uniq]
    split
    · exact uniq_nodup l acc h
    · rename_i hb
      refine uniq_nodup l _ ?_
      rw [List.nodup_append]
      refine ⟨h, by simp, ?_⟩
      intro z hz y hy
      simp only [List.mem_singleton] at hy
      subst hy
      intro e
      subst e
      rw [hasN_iff.2 hz] at hb
      cases hb
theorem uniq_mem : ∀ (l acc : List Nat) (x : Nat), x ∈ uniq acc l ↔ x ∈ acc ∨ x ∈ l
  | [], acc, x => by simp [uniq]
  | y :: l, acc, x => by
    simp only [uniq]
    split
    · rename_i hb
      rw [uniq_mem l acc x]
      have := hasN_iff.1 hb
      constructor
      · rintro (h | h)
        · exact .inl h
        · exact .inr (List.mem_cons_of_mem _ h)
      · rintro (h | h)
        · exact .inl h
        · rcases List.mem_cons.1 h with rfl | h
          · exact .inl this
          · exact .inr h
    · rw [uniq_mem l _ x]
      simp only [List.mem_append, List.mem_cons, List.not_mem_nil, or_false, or_assoc]

def liveAll : Nat → Tr Bool
  | 0 => .nil
  | n + 1 => (liveAll n).set n true
theorem liveAll_get : ∀ {n j : Nat}, (liveAll n).get j = some true ↔ j < n
  | 0, j => by simp [liveAll, Tr.get_nil]
  | n + 1, j => by
    simp only [liveAll, Tr.get_set]
    by_cases h : j = n
    · rw [if_pos h]; simp [h]
    · rw [if_neg h, liveAll_get]; omega

theorem setBs_length {α : Type} {nx : Nat} : ∀ {bs : List Nat} {h cs : List α}, bs.length ≤ cs.length → (setBs nx h bs cs).length = h.length + (cs.length - bs.length)
  | [], h, cs, _ => by simp [setBs]
  | b :: bs, h, [], hl => by simp at hl
  | b :: bs, h, c :: cs, hl => by
    simp only [List.length_cons] at hl
    simp only [setBs]
    rw [setBs_length (by omega)]
    simp
theorem setBs_get {α : Type} {nx : Nat} : ∀ {bs : List Nat} {h cs : List α} {j : Nat} {c : α}, (∀ b ∈ bs, nx ≤ b ∧ b < nx + h.length) → bs.length ≤ cs.length → (setBs nx h bs cs)[j]? = some c →
    (∃ i : Nat, bs[i]? = some (nx + j) ∧ cs[i]? = some c) ∨ (∃ i : Nat, j = h.length + i ∧ cs[bs.length + i]? = some c) ∨ (h[j]? = some c ∧ nx + j ∉ bs)
  | [], h, cs, j, c, _, _, hj => by
    simp only [setBs] at hj
    by_cases h1 : j < h.length
    · rw [List.getElem?_append_left h1] at hj
      exact .inr (.inr ⟨hj, by simp⟩)
    · rw [List.getElem?_append_right (by omega)] at hj
      exact .inr (.inl ⟨j - h.length, by omega, by simpa using hj⟩)
  | b :: bs, h, [], j, c, _, hl, _ => by simp at hl
  | b :: bs, h, x :: cs, j, c, hb, hl, hj => by
    simp only [List.length_cons] at hl
    simp only [setBs] at hj
    rcases setBs_get (bs := bs) (fun b' hb' => by simpa using hb b' (List.mem_cons_of_mem _ hb')) (by omega) hj with ⟨i, h1, h2⟩ | ⟨i, h1, h2⟩ | ⟨h1, h2⟩
    · exact .inl ⟨i + 1, by simpa using h1, by simpa using h2⟩
    · refine .inr (.inl ⟨i, by simpa using h1, ?_⟩)
      rw [List.length_cons, show bs.length + 1 + i = (bs.length + i) + 1 by omega, List.getElem?_cons_succ]
      exact h2
    · have hbn := hb b (List.mem_cons_self ..)
      by_cases h3 : b - nx = j
      · rw [h3, List.getElem?_set_self (by omega)] at h1
        exact .inl ⟨0, by simp; omega, by simpa using h1⟩
      · rw [List.getElem?_set_ne h3] at h1
        exact .inr (.inr ⟨h1, by simp only [List.mem_cons, not_or]; exact ⟨by omega, h2⟩⟩)

theorem patDecs_length {W : Univ} : ∀ (ps : List Pat) {xs : List (XV W.U)} {z : Pat.Ts W.U ps}, Pat.decs ps xs = some z → xs.length = ps.length
  | [], [], _, _ => rfl
  | [], _ :: _, z, h => by cases (show none = some z from h)
  | _ :: _, [], z, h => by cases (show none = some z from h)
  | p :: ps, x :: xs, z, h => by
    obtain ⟨_, h2⟩ := pair_some (show pair? (Pat.dec p x) (Pat.decs ps xs) = some z from h)
    simp [patDecs_length ps h2]

mutual
theorem rnV_id {W : Univ} : ∀ x : XV W.U, rnV id id x = x
  | .v _ _ => rfl
  | .kb _ => rfl
  | .lin _ _ _ => rfl
  | .el _ _ _ => rfl
  | .ptr _ _ => rfl
  | .ms _ _ _ _ => rfl
  | .mel _ _ _ _ => rfl
  | .raw _ => rfl
  | .fn _ a b => by simp only [rnV, rnVs_id a, rnVs_id b]
  | .ifc _ v => by simp only [rnV, rnV_id v]
  | .agg l => by simp only [rnV, rnVs_id l]
  | .tup l => by simp only [rnV, rnVs_id l]
theorem rnVs_id {W : Univ} : ∀ x : List (XV W.U), rnVs id id x = x
  | [] => rfl
  | x :: xs => by simp only [rnVs, rnV_id x, rnVs_id xs]
end

/-- What a call needs of the machine at large. -/
structure MOk (S : Sys) (M : XM) : Prop where
  ok : S.Ok
  T : S.T = M.P.T
  nx : S.nx = M.P.nx
  F : ∀ f fn, M.F.get f = some fn → S.F.get f = some fn
  W : M.P.W.Ok

section
variable {S : Sys} {M : XM} (hM : MOk S M) {X : XSt M.P.W.U} {θ : Nat → Option Nat} {s : St}
include hM

set_option maxHeartbeats 4000000 in
theorem enter_ok {E : ESpec M.P.W} {m : E.In → Option E.ρ} (hE : SigOk S M.P E m) (hok : E.ok M.P.nx = true) (hX : XSR M.P S.h X θ s) (hnt : X.nt ≠ 0) {xargs : List (XV M.P.W.U)} {args : List AV} (hargs : XRs M.P.W θ xargs args)
    {en : Entered E} (hen : xenter M.P X E xargs = some en) {r : E.ρ} (hr : m en.x = some r) :
    ∃ a s2 θ', CallDet S E.fid args s (.ret a) s2 ∧ XR M.P.W θ' (xleave M.P X E en.bs en.ts r).1 a ∧
      XStep M.P S.h θ s (xleave M.P X E en.bs en.ts r).2.1 (xleave M.P X E en.bs en.ts r).2.2 en.ts θ' s2 ∧ (xleave M.P X E en.bs en.ts r).2.1.nt ≠ 0 := by
  have t0 : θ 0 = none := by
    cases h1 : θ 0 with
    | none => rfl
    | some u => exact absurd rfl (hX.tag _ _ h1).2.2.1
  have hnx := hM.nx
  have hW := hM.W
  simp only [ESpec.ok, Bool.and_eq_true] at hok
  obtain ⟨⟨⟨⟨hl1, hl2⟩, hl3⟩, hl4⟩, hl5⟩ := hok
  have hcc := Nat.le_of_ble_eq_true hl3
  unfold xenter at hen
  simp only [] at hen
  generalize hbs : reach M.P X 30 (ptrsOfs xargs) [] = bs at hen
  have hnd : bs.Nodup := by rw [← hbs]; exact reach_nodup _ _ _ List.nodup_nil
  clear hbs
  split at hen
  · cases hen
  · rename_i cs hcs
    obtain ⟨hcl, hcg⟩ := blocksOf_ok hcs
    split at hen
    · rename_i xc xa hin hxc hxa
      generalize hPL : Pat.tagsH E.cin (cs.map (rnB (fun b => M.P.nx + idxOf b bs) id)) ++ Pat.tagss E.ain (rnVs (fun b => M.P.nx + idxOf b bs) id xargs) = PL at hen
      split at hen
      · rename_i htok
        cases hen
        simp only [Bool.and_eq_true, List.all_eq_true] at hin
        obtain ⟨hin1, hin2⟩ := hin
        generalize hf : (fun b => M.P.nx + idxOf b bs) = f at *
        have hfb : ∀ b, f b = M.P.nx + idxOf b bs := fun b => by rw [← hf]
        have hbl : bs.length = E.cin.length := by
          have := decH_length _ hxc
          simpa [hcl] using this
        -- the blocks
        have hblk : ∀ (j b : Nat), bs[j]? = some b → ∃ c, cs[j]? = some c ∧ s.heap.get b = some (.cells (cellsAt s.heap b) false) ∧ BlkR M.P.W θ c (cellsAt s.heap b) ∧ M.P.nx ≤ b ∧ b < M.P.nx + X.heap.length := fun j b hb => by
          obtain ⟨c, h1, h2⟩ := hcg j b hb
          obtain ⟨asq, h3, h4, h5, h6⟩ := xown_ok hX h2
          have : cellsAt s.heap b = asq := by simp only [cellsAt, h3]
          rw [this]
          exact ⟨c, h1, h3, h4, h5, by have := (List.getElem?_eq_some_iff.1 h6).1; omega⟩
        have hblt : ∀ b ∈ bs, M.P.nx ≤ b ∧ b < M.P.nx + X.heap.length := fun b hb => by
          obtain ⟨j, hj⟩ := List.getElem?_of_mem hb
          obtain ⟨_, _, _, _, h⟩ := hblk j b hj
          exact h
        -- the tags
        let θ1 := θof PL θ
        have htags : ∀ q ∈ PL, ∀ u, θ q.2 = some u → θ1 q.1 = some u := fun q hq u hu => θof_of htok hq hu
        let U := uniq [] (PL.filterMap fun p => θ p.2)
        have hU : ∀ u, u ∈ U ↔ ∃ p ∈ PL, θ p.2 = some u := fun u => by
          show u ∈ uniq [] _ ↔ _
          rw [uniq_mem]
          simp only [List.not_mem_nil, false_or, List.mem_filterMap]
        have hUn : U.Nodup := uniq_nodup _ _ List.nodup_nil
        let fi : Nat → Option Nat := fun u => if hasN U u = true then some (idxOf u U) else none
        have hfi : ∀ u j, fi u = some j → U[j]? = some u := fun u j h => by
          simp only [fi] at h
          split at h
          · rename_i hu; cases h; exact idxOf_spec hu
          · cases h
        have hfi' : ∀ u, u ∈ U → ∃ j, fi u = some j := fun u h => ⟨idxOf u U, by simp only [fi]; rw [if_pos (hasN_iff.2 h)]⟩
        let θ0 : Nat → Option Nat := fun t => (θ1 t).bind fi
        have hθ0 : ∀ t j, θ0 t = some j → ∃ u, θ1 t = some u ∧ fi u = some j := fun t j h => Option.bind_eq_some_iff.1 h
        have hθ1U : ∀ t u, θ1 t = some u → u ∈ U := fun t u h => by
          obtain ⟨t', h1, h2⟩ := θof_mem h
          exact (hU u).2 ⟨_, h1, h2⟩
        have toθ0 : ∀ t u, θ1 t = some u → ∃ u', fi u = some u' ∧ θ0 (id t) = some u' := fun t u h => by
          obtain ⟨j, hj⟩ := hfi' u (hθ1U t u h)
          exact ⟨j, hj, by show (θ1 t).bind fi = _; rw [h]; exact hj⟩
        have comp : ∀ l : List AV, mapVs id fi (mapVs f some l) = mapVs f fi l := fun l => by rw [mapVs_map']; rfl
        -- the arguments inside
        have hargs0 : XRs M.P.W θ0 (Pat.encs (W := M.P.W) E.ain xa) (mapVs f fi args) := by
          have h1 : XRs M.P.W θ (rnVs f id xargs) (mapVs f some args) := XRs.rn hW (fun t u h => ⟨u, rfl, h⟩) hargs
          have h2 := Pat.decs_ok hW t0 (θ1 := θ1) E.ain hxa h1 (fun q hq => htags q (by rw [← hPL]; exact List.mem_append_right _ hq))
          have h3 := XRs.rn hW (fb := id) (g := id) toθ0 h2
          rw [rnVs_id, comp] at h3
          exact h3
        let as0 : List (List AV) := bs.map fun b => mapVs f fi (cellsAt s.heap b)
        have has0 : ∀ (j b : Nat), bs[j]? = some b → as0[j]? = some (mapVs f fi (cellsAt s.heap b)) := fun j b hb => by
          show (bs.map _)[j]? = _
          rw [List.getElem?_map, hb]
          rfl
        have hcells0 : ∀ (j : Nat) (y : XB M.P.W.U), (Pat.encH (W := M.P.W) E.cin xc)[j]? = some y → ∃ b, bs[j]? = some b ∧ BlkR M.P.W θ0 y (mapVs f fi (cellsAt s.heap b)) := fun j y hy => by
          obtain ⟨x1, h1, h2⟩ := decH_get hW t0 (θ1 := θ1) E.cin hxc (fun q hq => htags q (by rw [← hPL]; exact List.mem_append_left _ hq)) j y hy
          rw [List.getElem?_map] at h1
          cases hc1 : cs[j]? with
          | none => rw [hc1] at h1; cases h1
          | some c1 =>
            rw [hc1] at h1
            cases h1
            have hjl : j < bs.length := by rw [← hcl]; exact (List.getElem?_eq_some_iff.1 hc1).1
            obtain ⟨c2, h3, h4, h5, _⟩ := hblk j bs[j] (List.getElem?_eq_getElem hjl)
            rw [hc1] at h3
            cases h3
            refine ⟨bs[j], List.getElem?_eq_getElem hjl, ?_⟩
            have h6 := h2 _ (BlkR.rn hW (fb := f) (ft := some) (g := id) (θ2 := θ) (fun t u h => ⟨u, rfl, h⟩) h5)
            have h7 := BlkR.rn hW (fb := id) (g := id) toθ0 h6
            have rid : ∀ y : XB M.P.W.U, rnB id id y = y := fun y => by
              cases y with
              | cells cs => simp only [rnB, rnVs_id]
              | arr c xs => rfl
            rw [rid, comp] at h7
            exact h7
        -- the state inside
        let s0 : St := ⟨setAllT S.h (rangeFrom M.P.nx bs.length) (as0.map fun l => .cells l false), M.P.nx + bs.length, liveAll U.length, U.length⟩
        have hdom : ∀ b, M.P.nx ≤ b → S.h.get b = none := fun b hb => by
          cases hg : S.h.get b with
          | none => rfl
          | some blk => have := hM.ok.dom b blk hg; omega
        have hs0own : ∀ (j b : Nat), bs[j]? = some b → s0.heap.get (M.P.nx + j) = some (.cells (mapVs f fi (cellsAt s.heap b)) false) := fun j b hb =>
          setAllT_in _ _ _ j _ _ (rangeFrom_nodup _ _) (rangeFrom_get.2 ⟨(List.getElem?_eq_some_iff.1 hb).1, rfl⟩) (by rw [List.getElem?_map, has0 j b hb]; rfl)
        have hX0 : XSR M.P S.h ⟨Pat.encH (W := M.P.W) E.cin xc, E.ntin + 1⟩ θ0 s0 := {
          next := by show M.P.nx + bs.length = _; rw [encH_length, hbl]
          low := fun b hb => setAllT_out _ _ _ b (fun hm => by have := rangeFrom_mem.1 hm; omega)
          own := fun j c hc => by
            obtain ⟨b, h1, h2⟩ := hcells0 j c hc
            exact ⟨_, hs0own j b h1, h2⟩
          high := fun b hb => by
            have hb : M.P.nx + bs.length ≤ b := hb
            show (setAllT _ _ _).get b = none
            rw [setAllT_out _ _ _ b (fun hm => by have := rangeFrom_mem.1 hm; omega)]
            exact hdom b (by omega)
          tag := fun t j h => by
            obtain ⟨u, h1, h2⟩ := hθ0 t j h
            have h3 := hfi u j h2
            have hj := (List.getElem?_eq_some_iff.1 h3).1
            obtain ⟨t', h4, h5⟩ := θof_mem h1
            have h6 : 1 ≤ t ∧ t ≤ E.ntin := by
              rw [← hPL] at h4
              rcases List.mem_append.1 h4 with h4 | h4
              · exact tagsH_low _ _ hl2 _ h4
              · exact Pat.tagss_low _ _ hl1 _ h4
            exact ⟨liveAll_get.2 hj, hj, by omega, by show t < E.ntin + 1; omega⟩
          inj := fun t t' j h h' => by
            obtain ⟨u, h1, h2⟩ := hθ0 t j h
            obtain ⟨u', h1', h2'⟩ := hθ0 t' j h'
            have e := (hfi u j h2).symm.trans (hfi u' j h2')
            cases e
            exact θof_inj htok t0 hX.inj h1 h1' }
        obtain ⟨rr, s1, hdet, a1, θc, rfl, hpost⟩ := hE (xc, xa) r hr θ0 s0 _ hX0 hargs0
        have hin' : FrameIn S bs U s0 s := {
          next := by rw [hnx]
          nt := rfl
          bnd := hnd
          tnd := hUn
          heap := fun b blk hb => by
            rcases setAllT_some _ _ _ b blk (rangeFrom_nodup _ _) hb with ⟨j, h1, h2⟩ | h1
            · obtain ⟨hj, rfl⟩ := rangeFrom_get.1 h1
              have hbj := List.getElem?_eq_getElem hj
              rw [List.getElem?_map, has0 j _ hbj] at h2
              cases h2
              obtain ⟨c, h3, h4, h5, h6⟩ := hblk j _ hbj
              refine .inr ⟨j, bs[j], _, _, by rw [hnx], hbj, rfl, h4, ?_⟩
              refine BlkR.rv hW (fun t u h => hfi t u h) h5 fun b' hb' => ?_
              have hm : hasN bs b' = true := hin2 c (List.mem_of_getElem? h3) b' hb'
              exact ⟨idxOf b' bs, by rw [hfb, hnx], idxOf_spec hm⟩
            · refine .inl ⟨?_, h1⟩
              exact hM.ok.dom b blk h1
          own := fun b hb => by
            obtain ⟨j, hj⟩ := List.getElem?_of_mem hb
            obtain ⟨_, _, h, _⟩ := hblk j b hj
            exact ⟨_, h⟩
          live := fun j t ht _ => by
            obtain ⟨p, _, hp⟩ := (hU t).1 (List.mem_of_getElem? ht)
            exact (hX.tag _ _ hp).1
          liveIn := fun j hj => ⟨_, List.getElem?_eq_getElem (liveAll_get.1 hj)⟩
          tlt := fun t ht => by
            obtain ⟨p, _, hp⟩ := (hU t).1 ht
            exact (hX.tag _ _ hp).2.1 }
        -- what comes out
        generalize hz : E.upk r = z at hpost
        let k := E.cout.length - bs.length
        let B : List Nat := bs ++ rangeFrom s.next k
        let dn := s1.nt - U.length
        let U' : List Nat := U ++ rangeFrom s.nt dn
        have hnext := hX.next
        have hBn : B.Nodup := by
          show (bs ++ _).Nodup
          rw [List.nodup_append]
          refine ⟨hnd, rangeFrom_nodup _ _, fun x hx y hy => ?_⟩
          have h1 := hblt x hx
          have h2 := rangeFrom_mem.1 hy
          omega
        have hUlt : ∀ u ∈ U, u < s.nt := fun u hu => by
          obtain ⟨p, _, hp⟩ := (hU u).1 hu
          exact (hX.tag _ _ hp).2.1
        have hU'n : U'.Nodup := by
          show (U ++ _).Nodup
          rw [List.nodup_append]
          refine ⟨hUn, rangeFrom_nodup _ _, fun x hx y hy => ?_⟩
          have h1 := hUlt x hx
          have h2 := rangeFrom_mem.1 hy
          omega
        have hU'l : U'.length = U.length + dn := by simp [U', rangeFrom_length]
        have hBl : B.length = E.cout.length := by simp only [B, List.length_append, rangeFrom_length, k]; omega
        let fo := outB' M.P.nx bs (M.P.nx + X.heap.length)
        let fto : Nat → Option Nat := fun u => if s1.live.get u = some true then U'[u]? else none
        have hfo : ∀ b, M.P.nx ≤ b → b < M.P.nx + E.cout.length → B[b - M.P.nx]? = some (fo b) := fun b h1 h2 => by
          show (bs ++ _)[b - M.P.nx]? = some (outB' _ _ _ b)
          unfold outB'
          cases hle : Nat.ble (M.P.nx + bs.length) b with
          | true =>
            have := Nat.le_of_ble_eq_true hle
            rw [List.getElem?_append_right (by omega)]
            simp only []
            rw [rangeFrom_get]
            simp only [k]
            omega
          | false =>
            have : ¬ M.P.nx + bs.length ≤ b := fun h => by rw [Nat.ble_eq_true_of_le h] at hle; cases hle
            rw [List.getElem?_append_left (by omega)]
            simp only []
            have hg : ∀ (l : List Nat) (i : Nat), i < l.length → l[i]? = some (getN l i) := by
              intro l
              induction l with
              | nil => intro i hi; simp at hi
              | cons x l ih =>
                intro i hi
                cases i with
                | zero => rfl
                | succ i => simp only [getN, List.getElem?_cons_succ]; exact ih i (by simpa using hi)
            exact hg bs _ (by omega)
        have hbout : ∀ b, M.P.nx ≤ b → b < M.P.nx + E.cout.length → bOut S.nx bs s0.next s.next k b (fo b) := fun b h1 h2 => by
          have h3 := hfo b h1 h2
          by_cases h4 : b - M.P.nx < bs.length
          · rw [show B = bs ++ rangeFrom s.next k from rfl, List.getElem?_append_left h4] at h3
            exact .inl ⟨b - M.P.nx, by rw [hnx]; omega, h3⟩
          · rw [show B = bs ++ rangeFrom s.next k from rfl, List.getElem?_append_right (by omega)] at h3
            obtain ⟨h5, h6⟩ := rangeFrom_get.1 h3
            exact .inr ⟨b - M.P.nx - bs.length, h5, by show b = M.P.nx + bs.length + _; omega, h6⟩
        have hfto : ∀ u v, fto u = some v → s1.live.get u = some true ∧ U'[u]? = some v := fun u v h => by
          simp only [fto] at h
          split at h
          · rename_i hl; exact ⟨hl, h⟩
          · cases h
        have htout : ∀ u v, fto u = some v → tOut U s0.nt s.nt dn u v := fun u v h => by
          obtain ⟨_, h1⟩ := hfto u v h
          by_cases h2 : u < U.length
          · rw [show U' = U ++ rangeFrom s.nt dn from rfl, List.getElem?_append_left h2] at h1
            exact .inl h1
          · rw [show U' = U ++ rangeFrom s.nt dn from rfl, List.getElem?_append_right (by omega)] at h1
            obtain ⟨h5, h6⟩ := rangeFrom_get.1 h1
            exact .inr ⟨u - U.length, h5, by show u = U.length + _; omega, h6⟩
        let cs1 : List (List AV) := (List.range E.cout.length).map fun j => mapVs fo fto (cellsAt s1.heap (M.P.nx + j))
        have hcs1 : ∀ j, j < E.cout.length → cs1[j]? = some (mapVs fo fto (cellsAt s1.heap (M.P.nx + j))) := fun j hj => by
          show ((List.range _).map _)[j]? = _
          rw [List.getElem?_map, List.getElem?_range hj]
          rfl
        have howned : ∀ j, j < E.cout.length → ∃ c, (Pat.encH (W := M.P.W) E.cout z.2)[j]? = some c ∧ s1.heap.get (M.P.nx + j) = some (.cells (cellsAt s1.heap (M.P.nx + j)) false) ∧ BlkR M.P.W θc c (cellsAt s1.heap (M.P.nx + j)) := fun j hj => by
          have hl : j < (Pat.encH (W := M.P.W) E.cout z.2).length := by rw [encH_length]; exact hj
          obtain ⟨asq, h1, h2⟩ := hpost.own j _ (List.getElem?_eq_getElem hl)
          have : cellsAt s1.heap (M.P.nx + j) = asq := by simp only [cellsAt, h1]
          rw [this]
          exact ⟨_, List.getElem?_eq_getElem hl, h1, h2⟩
        let g := outT' X.nt
        let θ' : Nat → Option Nat := fun t => if t < X.nt then dropT ((PL.map (·.2)).filter fun t => !(Nat.beq t 0)) θ t else if t - X.nt < E.ntout then (θc (t - X.nt + 1)).bind fto else none
        have hnew : ∀ t u, θc t = some u → ∃ u', fto u = some u' ∧ θ' (g t) = some u' := fun t u h => by
          obtain ⟨h1, h2, h3, h4⟩ := hpost.tag t u h
          have h5 : U'[u]? = some (U'[u]'(by rw [hU'l]; omega)) := List.getElem?_eq_getElem _
          have h6 : fto u = some (U'[u]'(by rw [hU'l]; omega)) := by simp only [fto]; rw [if_pos h1]; exact h5
          refine ⟨_, h6, ?_⟩
          have hg : g t = X.nt + (t - 1) := by
            show outT' X.nt t = _
            unfold outT'
            cases hb : Nat.beq t 0 with
            | true => exact absurd (natbeq hb) h3
            | false => rfl
          rw [hg]
          show (if X.nt + (t - 1) < X.nt then _ else _) = _
          rw [if_neg (by omega), if_pos (by omega), show X.nt + (t - 1) - X.nt + 1 = t by omega, h]
          exact h6
        have hdrop : ∀ t u, dropT ((PL.map (·.2)).filter fun t => !(Nat.beq t 0)) θ t = some u → θ t = some u ∧ u ∉ U := fun t u h => by
          unfold dropT at h
          split at h
          · cases h
          · rename_i hn
            refine ⟨h, fun hu => ?_⟩
            obtain ⟨p, hp, hp2⟩ := (hU u).1 hu
            have e := hX.inj _ _ _ hp2 h
            apply hn
            rw [List.any_eq_true]
            refine ⟨t, List.mem_filter.2 ⟨List.mem_map.2 ⟨p, hp, e⟩, ?_⟩, Nat.beq_refl t⟩
            have := (hX.tag t u h).2.2.1
            cases hb : Nat.beq t 0 with
            | true => exact absurd (natbeq hb) this
            | false => rfl
        have hkeep : ∀ t u, dropT ((PL.map (·.2)).filter fun t => !(Nat.beq t 0)) θ t = some u → θ' t = some u := fun t u h => by
          have h1 := (hX.tag t u (hdrop t u h).1).2.2.2
          show (if t < X.nt then _ else _) = _
          rw [if_pos h1]; exact h
        let s2 : St := ⟨setAllT s.heap B (cs1.map fun l => .cells l false), s.next + k, setAllT s.live U' ((List.range U'.length).map fun j => s1.live.get j == some true), s.nt + dn⟩
        have hs2B : ∀ j b, B[j]? = some b → s2.heap.get b = some (.cells (mapVs fo fto (cellsAt s1.heap (M.P.nx + j))) false) := fun j b hb => by
          have hj : j < E.cout.length := by rw [← hBl]; exact (List.getElem?_eq_some_iff.1 hb).1
          exact setAllT_in _ _ _ j b _ hBn hb (by rw [List.getElem?_map, hcs1 j hj]; rfl)
        have hs2out : ∀ b, b ∉ B → s2.heap.get b = s.heap.get b := fun b hb => setAllT_out _ _ _ _ hb
        have hBmem : ∀ b, b ∈ B ↔ b ∈ bs ∨ (s.next ≤ b ∧ b < s.next + k) := fun b => by
          show b ∈ bs ++ _ ↔ _
          rw [List.mem_append, rangeFrom_mem]
        have hlive : ∀ j u, U'[j]? = some u → s2.live.get u = some (s1.live.get j == some true) := fun j u hu => by
          have hj := (List.getElem?_eq_some_iff.1 hu).1
          exact setAllT_in _ _ _ j u _ hU'n hu (by rw [List.getElem?_map, List.getElem?_range hj]; rfl)
        have hliveOut : ∀ u, u ∉ U' → s2.live.get u = s.live.get u := fun u hu => setAllT_out _ _ _ _ hu
        have hcellptr : ∀ j, j < E.cout.length → ∀ c, (Pat.encH (W := M.P.W) E.cout z.2)[j]? = some c → ∀ b ∈ ptrsB c, M.P.nx ≤ b ∧ b < M.P.nx + E.cout.length := fun j hj c hc b hb =>
          encH_ptrs hW E.cout z.2 hl5 j c hc b hb
        have hret := XR.rn hW (fb := fo) hnew hpost.ret
        have hretrv : RV (bOut S.nx bs s0.next s.next k) (tOut U s0.nt s.nt dn) a1 (mapV fo fto a1) := XR.rv hW htout hpost.ret fun b hb => by
          have := Pat.enc_ptrs (W := M.P.W) E.rout z.1 hl4 b hb
          exact hbout b this.1 this.2
        have hkk : s2.next - s.next = k := by show s.next + k - s.next = k; omega
        have hdd : s2.nt - s.nt = dn := by show s.nt + dn - s.nt = dn; omega
        have hcellrv : ∀ j, j < E.cout.length → RVs (bOut S.nx bs s0.next s.next k) (tOut U s0.nt s.nt dn) (cellsAt s1.heap (M.P.nx + j)) (mapVs fo fto (cellsAt s1.heap (M.P.nx + j))) := fun j hj => by
          obtain ⟨c, h1, h2, h3⟩ := howned j hj
          refine BlkR.rv hW htout h3 fun b hb => ?_
          have := hcellptr j hj c h1 b hb
          exact hbout b this.1 this.2
        have hBbs : ∀ (j y : Nat), bs[j]? = some y → B[j]? = some y := fun j y hj => by
          show (bs ++ _)[j]? = _
          rw [List.getElem?_append_left (List.getElem?_eq_some_iff.1 hj).1]; exact hj
        have hBnew : ∀ i, i < k → B[bs.length + i]? = some (s.next + i) := fun i hi => by
          show (bs ++ _)[_]? = _
          rw [List.getElem?_append_right (by omega), show bs.length + i - bs.length = i by omega]
          exact rangeFrom_get.2 ⟨hi, rfl⟩
        have hout : FrameOut S bs U s0 s s1 s2 := {
          next := by show s.next ≤ s.next + k; omega
          nt := by show s.nt ≤ s.nt + dn; omega
          same := fun b hb hn => hs2out b (fun hm => by
            rcases (hBmem b).1 hm with h | h
            · exact hn h
            · omega)
          own := fun j y hj => by
            rw [hkk, hdd]
            have hjl : j < E.cout.length := by have := (List.getElem?_eq_some_iff.1 hj).1; omega
            obtain ⟨c, h1, h2, h3⟩ := howned j hjl
            exact ⟨_, _, by rw [hnx]; exact h2, hs2B j y (hBbs j y hj), hcellrv j hjl⟩
          new := fun i blk hi hb => by
            rw [hkk] at hi
            rw [hkk, hdd]
            have hjl : bs.length + i < E.cout.length := by simp only [k] at hi; omega
            obtain ⟨c, h1, h2, h3⟩ := howned _ hjl
            have h4 := hs2B _ _ (hBnew i hi)
            rw [hb] at h4
            cases h4
            refine ⟨.cells (cellsAt s1.heap (M.P.nx + (bs.length + i))) false, ?_, ?_⟩
            · show s1.heap.get (M.P.nx + bs.length + i) = _
              rw [show M.P.nx + bs.length + i = M.P.nx + (bs.length + i) by omega]; exact h2
            · exact ⟨_, hcellrv _ hjl, rfl⟩
          frz := fun i cs' hi hb => by
            rw [hkk] at hi
            have hjl : bs.length + i < E.cout.length := by simp only [k] at hi; omega
            obtain ⟨c, h1, h2, h3⟩ := howned _ hjl
            have hb : s1.heap.get (M.P.nx + bs.length + i) = _ := hb
            rw [show M.P.nx + bs.length + i = M.P.nx + (bs.length + i) by omega, h2] at hb
            cases hb
          none := fun b hb hn => hs2out b (fun hm => by
            have hb : s.next + k ≤ b := hb
            rcases (hBmem b).1 hm with h | h
            · exact hn h
            · omega)
          live := fun t ht => by
            rw [hdd]
            by_cases hm : t ∈ U'
            · obtain ⟨j, hj⟩ := List.getElem?_of_mem hm
              rw [hlive j t hj] at ht
              have hl1 : s1.live.get j = some true := by simpa using ht
              by_cases h2 : j < U.length
              · rw [show U' = U ++ rangeFrom s.nt dn from rfl, List.getElem?_append_left h2] at hj
                exact .inr (.inl ⟨j, hj, liveAll_get.2 h2, hl1⟩)
              · rw [show U' = U ++ rangeFrom s.nt dn from rfl, List.getElem?_append_right (by omega)] at hj
                obtain ⟨h5, h6⟩ := rangeFrom_get.1 hj
                exact .inr (.inr ⟨j - U.length, h5, h6, by show s1.live.get (U.length + _) = _; rw [show U.length + (j - U.length) = j by omega]; exact hl1⟩)
            · rw [hliveOut t hm] at ht
              exact .inl ⟨fun hu => hm (List.mem_append_left _ hu), ht⟩ }
        have hargrv : RVs (swap (bIn S.nx bs)) (swap (tIn U)) args (mapVs f fi args) := XRs.rv hW (fun t u h => hfi t u h) hargs fun b hb => by
          have hm : hasN bs b = true := hin1 b hb
          exact ⟨idxOf b bs, by rw [hfb, hnx], idxOf_spec hm⟩
        have hcall := hdet.frame hin' hout hargrv (r := .ret (mapV fo fto a1)) (by rw [hkk, hdd]; exact ⟨_, hretrv, rfl⟩)
        have hcsl : ((Pat.encH (W := M.P.W) E.cout z.2).map (rnB fo g)).length = E.cout.length := by rw [List.length_map, encH_length]
        refine ⟨mapV fo fto a1, s2, θ', hcall, ?_, ?_, ?_⟩
        · simp only [xleave, hz]
          exact hret
        · simp only [xleave, hz]
          exact {
            sr := {
              next := by
                show s.next + k = M.P.nx + (setBs _ _ _ _).length
                rw [setBs_length (by rw [hcsl]; omega), demH_length, hcsl, hnext]
                omega
              low := fun b hb => by
                rw [hs2out b (fun hm => by
                  rcases (hBmem b).1 hm with h | h
                  · have := hblt b h; omega
                  · omega)]
                exact hX.low b hb
              own := fun j c hj => by
                rcases setBs_get (fun b hb => by rw [demH_length]; exact hblt b hb) (by rw [hcsl]; omega) hj with ⟨i, h1, h2⟩ | ⟨i, h1, h2⟩ | ⟨h1, h2⟩
                · rw [List.getElem?_map] at h2
                  have hil : i < E.cout.length := by have := (List.getElem?_eq_some_iff.1 h1).1; omega
                  obtain ⟨c', h3, h4, h5⟩ := howned i hil
                  rw [h3] at h2
                  cases h2
                  exact ⟨_, hs2B i _ (hBbs i _ h1), BlkR.rn hW hnew h5⟩
                · rw [List.getElem?_map] at h2
                  rw [demH_length] at h1
                  have hil : bs.length + i < E.cout.length := by
                    cases hh : (Pat.encH (W := M.P.W) E.cout z.2)[bs.length + i]? with
                    | none => rw [hh] at h2; cases h2
                    | some w => have := (List.getElem?_eq_some_iff.1 hh).1; rw [encH_length] at this; exact this
                  obtain ⟨c', h3, h4, h5⟩ := howned _ hil
                  rw [h3] at h2
                  cases h2
                  have h6 := hs2B _ _ (hBnew i (by simp only [k]; omega))
                  refine ⟨_, ?_, BlkR.rn hW hnew h5⟩
                  rw [show M.P.nx + j = s.next + i by omega]
                  exact h6
                · obtain ⟨asq, h3, h4⟩ := hX.own_dem hkeep h1
                  refine ⟨asq, ?_, h4⟩
                  rw [hs2out _ (fun hm => by
                    have hjl := (List.getElem?_eq_some_iff.1 h1).1
                    rw [demH_length] at hjl
                    rcases (hBmem _).1 hm with h | h
                    · exact h2 h
                    · omega)]
                  exact h3
              high := fun b hb => by
                have hb : s.next + k ≤ b := hb
                rw [hs2out b (fun hm => by
                  rcases (hBmem b).1 hm with h | h
                  · have := hblt b h; omega
                  · omega)]
                exact hX.high b (by omega)
              tag := fun t u h => by
                have h : (if t < X.nt then _ else _) = some u := h
                by_cases ht : t < X.nt
                · rw [if_pos ht] at h
                  obtain ⟨h1, h2⟩ := hdrop t u h
                  have h3 := hX.tag t u h1
                  refine ⟨?_, by show u < s.nt + dn; omega, h3.2.2.1, by show t < X.nt + E.ntout; omega⟩
                  rw [hliveOut u (fun hm => by
                    rcases List.mem_append.1 (show u ∈ U ++ _ from hm) with hm | hm
                    · exact h2 hm
                    · have := rangeFrom_mem.1 hm; omega)]
                  exact h3.1
                · rw [if_neg ht] at h
                  by_cases ht2 : t - X.nt < E.ntout
                  · rw [if_pos ht2] at h
                    obtain ⟨u1, h1, h2⟩ := Option.bind_eq_some_iff.1 h
                    obtain ⟨h3, h4⟩ := hfto u1 u h2
                    refine ⟨by rw [hlive u1 u h4, h3]; rfl, ?_, by omega, by show t < X.nt + E.ntout; omega⟩
                    show u < s.nt + dn
                    rcases List.mem_append.1 (show u ∈ U ++ _ from List.mem_of_getElem? h4) with hm | hm
                    · have := hUlt u hm; omega
                    · have := rangeFrom_mem.1 hm; omega
                  · rw [if_neg ht2] at h; cases h
              inj := fun t t' u h h' => by
                have h : (if t < X.nt then _ else _) = some u := h
                have h' : (if t' < X.nt then _ else _) = some u := h'
                have old : ∀ t, t < X.nt → dropT ((PL.map (·.2)).filter fun t => !(Nat.beq t 0)) θ t = some u → u ∉ U' := fun t _ hd hm => by
                  obtain ⟨h1, h2⟩ := hdrop t u hd
                  have h3 := hX.tag t u h1
                  rcases List.mem_append.1 (show u ∈ U ++ _ from hm) with hm | hm
                  · exact h2 hm
                  · have := rangeFrom_mem.1 hm; omega
                have newt : ∀ t, ¬ t < X.nt → (if t - X.nt < E.ntout then (θc (t - X.nt + 1)).bind fto else none) = some u → ∃ u1, θc (t - X.nt + 1) = some u1 ∧ U'[u1]? = some u := fun t _ hd => by
                  split at hd
                  · obtain ⟨u1, h1, h2⟩ := Option.bind_eq_some_iff.1 hd
                    exact ⟨u1, h1, (hfto u1 u h2).2⟩
                  · cases hd
                by_cases ht : t < X.nt
                · rw [if_pos ht] at h
                  by_cases ht' : t' < X.nt
                  · rw [if_pos ht'] at h'
                    exact hX.inj _ _ _ (hdrop t u h).1 (hdrop t' u h').1
                  · rw [if_neg ht'] at h'
                    obtain ⟨u1, _, h2⟩ := newt t' ht' h'
                    exact absurd (List.mem_of_getElem? h2) (old t ht h)
                · rw [if_neg ht] at h
                  obtain ⟨u1, h1, h2⟩ := newt t ht h
                  by_cases ht' : t' < X.nt
                  · rw [if_pos ht'] at h'
                    exact absurd (List.mem_of_getElem? h2) (old t' ht' h')
                  · rw [if_neg ht'] at h'
                    obtain ⟨u2, h3, h4⟩ := newt t' ht' h'
                    have e := nodup_idx hU'n h2 h4
                    subst e
                    have := hpost.inj _ _ _ h1 h3
                    omega }
            keep := hkeep
            same := fun b hb => by
              refine hs2out b fun hm => ?_
              have hnb : ¬ b ∈ bs ++ (List.range (((Pat.encH (W := M.P.W) E.cout z.2).map (rnB fo g)).length - bs.length)).map (fun j => M.P.nx + X.heap.length + j) := fun hh => by
                rw [hasN_iff.2 hh] at hb; cases hb
              apply hnb
              rw [hcsl]
              rw [List.mem_append]
              rcases (hBmem b).1 hm with h | h
              · exact .inl h
              · exact .inr (rangeFrom_mem.2 (by rw [← hnext]; exact h)) }
        · simp only [xleave]
          omega
      · cases hen
    · cases hen
end
end Go.Am
