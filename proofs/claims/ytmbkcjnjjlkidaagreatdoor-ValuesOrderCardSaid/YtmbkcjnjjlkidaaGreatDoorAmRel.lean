/- The abstract machine: how abstract values, states and tables stand to the model's. -/
import Derived.Test.YtmbkcjnjjlkidaaGreatDoorAmEval
import Derived.Below
namespace Go.Am
open Go.RowKit

/-- Nothing turned in the blocks of K. -/
structure Kept (K : Nat → Prop) (w w' : World) : Prop where
  os : w'.os = w.os
  tape : w'.tape = w.tape
  output : w'.output = w.output
  size : w.heap.size ≤ w'.heap.size
  block : ∀ k, K k → w'.heap[k]? = w.heap[k]?
  shape : ∀ (k : Nat) arr T fr, w.heap[k]? = some (.cells arr T fr) → ∃ arr' T' fr', w'.heap[k]? = some (.cells arr' T' fr') ∧ arr'.size = arr.size

theorem Kept.refl (K : Nat → Prop) (w : World) : Kept K w w := ⟨rfl, rfl, rfl, Nat.le_refl _, fun _ _ => rfl, fun _ arr T fr h => ⟨arr, T, fr, h, rfl⟩⟩
theorem Kept.trans {K : Nat → Prop} {a b c : World} (h : Kept K a b) (k : Kept K b c) : Kept K a c :=
  ⟨k.os.trans h.os, k.tape.trans h.tape, k.output.trans h.output, Nat.le_trans h.size k.size, fun i hi => (k.block i hi).trans (h.block i hi), fun i arr T fr hi =>
    let ⟨arr1, T1, fr1, h1, h2⟩ := h.shape i arr T fr hi
    let ⟨arr2, T2, fr2, h3, h4⟩ := k.shape i arr1 T1 fr1 h1
    ⟨arr2, T2, fr2, h3, h4.trans h2⟩⟩
theorem Kept.mono {K L : Nat → Prop} {w w' : World} (h : Kept K w w') (hL : ∀ c, L c → K c) : Kept L w w' := ⟨h.os, h.tape, h.output, h.size, fun k hk => h.block k (hL k hk), h.shape⟩
theorem Kept.drew {K : Nat → Prop} {a w : World} (h : Kept K a w) : Kept K a w.drew := ⟨h.os, h.tape, h.output, h.size, h.block, h.shape⟩
theorem Kept.alloc {K : Nat → Prop} {a w : World} (h : Kept K a w) (hK : ∀ c, K c → c < w.heap.size) (o : Obj) : Kept K a (w.alloc o) :=
  h.trans ⟨rfl, rfl, rfl, by simp, fun k hk => Below.heap_alloc _ _ _ (hK k hk), fun k arr T fr hk => ⟨arr, T, fr, by rw [Below.heap_alloc _ _ _ (Array.getElem?_eq_some_iff.1 hk).1]; exact hk, rfl⟩⟩
theorem Kept.of_below {K : Nat → Prop} {w w' : World} (h : Below w.heap.size w w') (hK : ∀ c, K c → c < w.heap.size) : Kept K w w' :=
  ⟨h.os, h.tape, h.output, h.size, fun k hk => h.block k (hK k hk), fun k arr T fr hk => ⟨arr, T, fr, (h.block k (Array.getElem?_eq_some_iff.1 hk).1).trans hk, rfl⟩⟩
theorem Kept.below {K : Nat → Prop} {n : Nat} {w w' : World} (h : Kept K w w') (hK : ∀ c, c < n → K c) : Below n w w' := ⟨h.os, h.tape, h.output, h.size, fun k hk => h.block k (hK k hk)⟩

/-- Where the abstract things lie: ρ: an abstract block's block and its cells; I: cells that nobody will write any more; τ: a tag's block, its first free cell, its end; J: what I knew of the first world. -/
structure Gh where
  ρ : Nat → Option (Nat × Nat)
  I : Nat → Nat → Option Value
  τ : Nat → Option (Nat × Nat × Nat)
  J : (Nat → Nat → Option Value) × (Nat → Option (Nat × Nat))

structure Gh.Le (G H : Gh) : Prop where
  ρ : ∀ b x, G.ρ b = some x → H.ρ b = some x
  I : ∀ c o v, G.I c o = some v → H.I c o = some v
  τ : ∀ t x, G.τ t = some x → H.τ t = some x
  J : H.J = G.J

theorem Gh.Le.refl (G : Gh) : G.Le G := ⟨fun _ _ h => h, fun _ _ _ h => h, fun _ _ h => h, rfl⟩
theorem Gh.Le.trans {G H K : Gh} (a : G.Le H) (b : H.Le K) : G.Le K :=
  ⟨fun _ _ h => b.ρ _ _ (a.ρ _ _ h), fun _ _ _ h => b.I _ _ _ (a.I _ _ _ h), fun _ _ h => b.τ _ _ (a.τ _ _ h), b.J.trans a.J⟩

def KOk (G : Gh) (k : SK) (c base sz len cap : Nat) : Prop := match k with
  | .full => cap = len
  | .tag t => 0 < len ∧ G.τ t = some (c, base + len * sz, base + cap * sz)
  | .dead => True

theorem KOk.mono {G H : Gh} (h : G.Le H) {k : SK} {c base sz len cap : Nat} (hk : KOk G k c base sz len cap) : KOk H k c base sz len cap := by
  cases k with
  | full => exact hk
  | tag t => exact ⟨hk.1, h.τ _ _ hk.2⟩
  | dead => trivial

mutual
inductive VR (G : Gh) : AV → Value → Prop
  | bool (b : Bool) : VR G (.bool b) (.bool b)
  | int (k : IntKind) (n : Int) : VR G (.int k n) (.int k n)
  | str (s : ByteArray) : VR G (.str s) (.string s)
  | nilp : VR G .nilp (.pointer none)
  | ptr (b off c n : Nat) (h : G.ρ b = some (c, n)) : VR G (.ptr b off) (.pointer (some ⟨c, off, none⟩))
  | elem (xs : List AV) (i off c base sz : Nat) (vs : List Value) (hsz : ∀ x ∈ xs, (cellsOf x).length = sz) (hv : VRs G (xs.flatMap cellsOf) vs)
      (hI : ∀ j, j < vs.length → G.I c (base + j) = vs[j]?) : VR G (.elem xs i off) (.pointer (some ⟨c, base + i * sz + off, none⟩))
  | nils : VR G .nils (.slice none 0 0)
  | sl (xs : List AV) (k : SK) (c base sz len cap : Nat) (vs : List Value) (hsz : ∀ x ∈ xs, (cellsOf x).length = sz) (hv : VRs G (xs.flatMap cellsOf) vs)
      (hI : ∀ j, j < vs.length → G.I c (base + j) = vs[j]?) (hlen : len = xs.length) (hcap : len ≤ cap) (hk : KOk G k c base sz xs.length cap) : VR G (.sl xs k) (.slice (some ⟨c, base, none⟩) len cap)
  | ms (b off len sz c n cap : Nat) (h : G.ρ b = some (c, n)) (hl : len ≤ cap) (hc : off + cap * sz ≤ n) : VR G (.ms b off len sz) (.slice (some ⟨c, off, none⟩) len cap)
  | nilm : VR G .nilm (.map none)
  | map (b c n : Nat) (h : G.ρ b = some (c, n)) : VR G (.map b) (.map (some c))
  | nilf : VR G .nilf .nilFunc
  | fn (f : Fn) (a b : List AV) (as bs : List Value) (ha : VRs G a as) (hb : VRs G b bs) : VR G (.fn f a b) (.func f as.toArray bs.toArray)
  | nili : VR G .nili .nilIface
  | ifc (t : Nat) (a : AV) (v : Value) (h : VR G a v) : VR G (.ifc t a) (.iface t v)
  | agg (cs : List AV) (vs : List Value) (h : VRs G cs vs) : VR G (.agg cs) (.agg vs.toArray)
  | tup (cs : List AV) (vs : List Value) (h : VRs G cs vs) : VR G (.tup cs) (.tuple vs.toArray)
inductive VRs (G : Gh) : List AV → List Value → Prop
  | nil : VRs G [] []
  | cons (a : AV) (v : Value) (as : List AV) (vs : List Value) (h : VR G a v) (hs : VRs G as vs) : VRs G (a :: as) (v :: vs)
end

mutual
theorem VR.mono {G H : Gh} (h : G.Le H) : ∀ {a : AV} {v : Value}, VR G a v → VR H a v
  | _, _, .bool b => .bool b
  | _, _, .int k n => .int k n
  | _, _, .str s => .str s
  | _, _, .nilp => .nilp
  | _, _, .ptr b off c n e => .ptr b off c n (h.ρ _ _ e)
  | _, _, .elem xs i off c base sz vs hsz hv hI => .elem xs i off c base sz vs hsz (VRs.mono h hv) (fun j hj => by
      have e := hI j hj
      rw [List.getElem?_eq_getElem hj] at e ⊢
      exact h.I _ _ _ e)
  | _, _, .nils => .nils
  | _, _, .sl xs k c base sz len cap vs hsz hv hI hl hc hk => .sl xs k c base sz len cap vs hsz (VRs.mono h hv) (fun j hj => by
      have e := hI j hj
      rw [List.getElem?_eq_getElem hj] at e ⊢
      exact h.I _ _ _ e) hl hc (KOk.mono h hk)
  | _, _, .ms b off len sz c n cap e hl hc => .ms b off len sz c n cap (h.ρ _ _ e) hl hc
  | _, _, .nilm => .nilm
  | _, _, .map b c n e => .map b c n (h.ρ _ _ e)
  | _, _, .nilf => .nilf
  | _, _, .fn f a b as bs ha hb => .fn f a b as bs (VRs.mono h ha) (VRs.mono h hb)
  | _, _, .nili => .nili
  | _, _, .ifc t a v e => .ifc t a v (VR.mono h e)
  | _, _, .agg cs vs e => .agg cs vs (VRs.mono h e)
  | _, _, .tup cs vs e => .tup cs vs (VRs.mono h e)
theorem VRs.mono {G H : Gh} (h : G.Le H) : ∀ {a : List AV} {v : List Value}, VRs G a v → VRs H a v
  | _, _, .nil => .nil
  | _, _, .cons a v as vs e es => .cons a v as vs (VR.mono h e) (VRs.mono h es)
end

section lists
variable {G : Gh}
theorem VRs.length : ∀ {as : List AV} {vs : List Value}, VRs G as vs → as.length = vs.length
  | _, _, .nil => rfl
  | _, _, .cons _ _ _ _ _ hs => by simp [hs.length]
theorem VRs.append : ∀ {as : List AV} {vs : List Value} {bs : List AV} {us : List Value}, VRs G as vs → VRs G bs us → VRs G (as ++ bs) (vs ++ us)
  | _, _, _, _, .nil, h => h
  | _, _, _, _, .cons a v as vs h hs, h' => .cons a v _ _ h (hs.append h')
theorem VRs.drop : ∀ (n : Nat) {as : List AV} {vs : List Value}, VRs G as vs → VRs G (as.drop n) (vs.drop n)
  | 0, _, _, h => by simpa using h
  | n + 1, _, _, .nil => by simpa using VRs.nil
  | n + 1, _, _, .cons _ _ _ _ _ hs => by simpa using hs.drop n
theorem VRs.take : ∀ (n : Nat) {as : List AV} {vs : List Value}, VRs G as vs → VRs G (as.take n) (vs.take n)
  | 0, _, _, _ => by simpa using VRs.nil
  | n + 1, _, _, .nil => by simpa using VRs.nil
  | n + 1, _, _, .cons a v as vs h hs => by simpa using VRs.cons a v _ _ h (hs.take n)
theorem VRs.get : ∀ {as : List AV} {vs : List Value} {i : Nat} {a : AV}, VRs G as vs → as[i]? = some a → ∃ v, vs[i]? = some v ∧ VR G a v
  | _, _, i, _, .nil, h => by simp at h
  | _, _, 0, _, .cons a v as vs h hs, e => by simp at e; subst e; exact ⟨v, by simp, h⟩
  | _, _, i + 1, _, .cons a v as vs h hs, e => by simp at e; obtain ⟨u, hu, hr⟩ := hs.get e; exact ⟨u, by simpa using hu, hr⟩
theorem VRs.get' : ∀ {as : List AV} {vs : List Value} {i : Nat} {v : Value}, VRs G as vs → vs[i]? = some v → ∃ a, as[i]? = some a ∧ VR G a v
  | _, _, i, _, .nil, h => by simp at h
  | _, _, 0, _, .cons a v as vs h hs, e => by simp at e; subst e; exact ⟨a, by simp, h⟩
  | _, _, i + 1, _, .cons a v as vs h hs, e => by simp at e; obtain ⟨u, hu, hr⟩ := hs.get' e; exact ⟨u, by simpa using hu, hr⟩
theorem VRs.set : ∀ {as : List AV} {vs : List Value} (i : Nat) {a : AV} {v : Value}, VRs G as vs → VR G a v → VRs G (as.set i a) (vs.set i v)
  | _, _, i, _, _, .nil, _ => by simpa using VRs.nil
  | _, _, 0, _, _, .cons a v as vs h hs, e => by simpa using VRs.cons _ _ _ _ e hs
  | _, _, i + 1, _, _, .cons a v as vs h hs, e => by simpa using VRs.cons _ _ _ _ h (hs.set i e)
theorem VRs.splice {as : List AV} {vs : List Value} {bs : List AV} {us : List Value} (off : Nat) (h : VRs G as vs) (h' : VRs G bs us) :
    VRs G (splice as off bs) (vs.take off ++ us ++ vs.drop (off + us.length)) := by
  unfold Am.splice
  rw [h'.length]
  exact ((h.take off).append h').append (h.drop _)
theorem VRs.replicate (n : Nat) {a : AV} {v : Value} (h : VR G a v) : VRs G (List.replicate n a) (List.replicate n v) := by
  induction n with
  | zero => exact .nil
  | succ n ih => simpa [List.replicate_succ] using VRs.cons _ _ _ _ h ih

/-- The model's cells of a value, as a list. -/
def cellsV (v : Value) : List Value := v.cells.toList

theorem VR.cells : ∀ {a : AV} {v : Value}, VR G a v → VRs G (cellsOf a) (cellsV v) := by
  intro a v h
  cases h <;> simp only [cellsOf, cellsV, Value.cells] <;> first
    | assumption
    | (refine .cons _ _ _ _ ?_ .nil; first | constructor | (constructor <;> assumption))
  all_goals first | assumption | skip

theorem VR.flat {a : AV} {v : Value} (h : VR G a v) : isFlat a = v.oneCell' := by cases h <;> rfl
end lists

theorem VRs.allFlat {G : Gh} : ∀ {as : List AV} {vs : List Value}, VRs G as vs → as.all isFlat = true → ∀ v ∈ vs, v.oneCell' = true
  | _, _, .nil, _ => by simp
  | _, _, .cons a v as vs h hs, e => by
    simp only [List.all_cons, Bool.and_eq_true] at e
    intro u hu
    rcases List.mem_cons.1 hu with rfl | hu
    · rw [← h.flat]; exact e.1
    · exact hs.allFlat e.2 u hu

theorem optMap_VRs {G : Gh} {f : Value → Option AV} (hf : ∀ v a, f v = some a → VR G a v) : ∀ (l : List Value) (as : List AV), optMap f l = some as → VRs G as l
  | [], as, h => by simp [optMap] at h; subst h; exact .nil
  | v :: l, as, h => by
    simp only [optMap] at h
    split at h
    · rename_i y ys hy hys
      cases h
      exact .cons _ _ _ _ (hf _ _ hy) (optMap_VRs hf l ys hys)
    · cases h

theorem ofV_VR (G : Gh) : ∀ (n : Nat) (v : Value) (a : AV), ofV n v = some a → VR G a v := by
  intro n
  induction n with
  | zero => intro v a h; simp [ofV] at h
  | succ n ih =>
    intro v a h
    cases v <;> unfold ofV at h <;> (try simp only [] at h) <;> (try cases h) <;> (try constructor)
    case pointer p => cases p <;> simp at h; subst h; exact .nilp
    case slice p l c =>
      cases p with
      | some x => simp at h
      | none =>
        cases l with
        | succ l => simp at h
        | zero =>
          cases c with
          | succ c => simp at h
          | zero => simp at h; subst h; exact .nils
    case map r => cases r <;> simp at h; subst h; exact .nilm
    case iface t v =>
      split at h <;> simp at h
      subst h; rename_i a' ha; exact .ifc _ _ _ (ih _ _ ha)
    case agg cs =>
      split at h <;> simp at h
      subst h; rename_i l hl
      have := optMap_VRs ih _ _ hl
      have e := VR.agg l cs.toList this
      simpa using e
    case tuple cs =>
      split at h <;> simp at h
      subst h; rename_i l hl
      have := optMap_VRs ih _ _ hl
      have e := VR.tup l cs.toList this
      simpa using e

end Go.Am
