/- Printed by a program of ours (xp.py): what the functions of the seat come to. -/
import Derived.Test.YtmbkcjnjjlkidaaGreatDoorXSeat
import Derived.KernelRfl
set_option linter.all false
namespace Go.Am.Tryz
open Go.Proofs Go.Am
noncomputable section
set_option maxRecDepth 100000
def xlives (n : Nat) : Option Bool := run MV n 32 ((), ())
def sign (n : Nat) (b : Bool) : Option Int := run MV n 0 ((), (b, ()))
def Lrcmp_250 (n : Nat) (k : Nat) (v0 : V) (v1 : V) (v2 : Int) : Option Int := loopAt MV n 1 ⟨250, [(2, .ptr 6 0), (3, .ptr 7 0), (5, .d (.int .i64))], [.one (.d (.st 0)), .one (.d (.st 0))], 0⟩ [true, true, true, true, false, true, false] [] k ((v0, (v1, ())), ((), ((), (v2, ()))))
def rcmp (n : Nat) (a : V) (b : V) : Option Int := run MV n 1 ((), (a, (b, ())))
def next (n : Nat) (l : (List Int)) (at_ : Int) (most : Int) : Option (Int × ((List Int) × Int)) := run MV n 2 (((l, (at_, ())), ()), ((), (most, ())))
def Lvalue_2042 (n : Nat) (k : Nat) (v0 : (List Int)) (v1 : Int) (v2 : Int) (v3 : Int) (v4 : ByteArray) (v5 : Int) (v6 : Int) (v7 : ByteArray) (v8 : (List V)) (v9 : Int) (v10 : Int) (v11 : Int) : Option (V × ((List Int) × Int)) := loopAt MV n 3 ⟨2042, [(0, .ptr 6 0), (1, .d (.int .i64)), (4, .ptr 7 0), (6, .ptr 8 0), (7, .d (.int .i64)), (8, .d (.int .i64))], [.one (.agg [.d (.sl (.int .i64)), .d (.int .i64)]), .one (.agg [.d (.int .i64), .d (.int .i64), .d .str, .raw .nils]), .one (.agg [.d (.int .i64), .d (.int .i64), .d .str, .ln (.st 0) 1])], 1⟩ [true, true, true, true, true, true, true, false, true, false] [] k (((v0, (v1, ())), ((v2, (v3, (v4, ((), ())))), ((v5, (v6, (v7, (v8, ())))), ()))), ((), (v9, ((), ((), (v10, (v11, ())))))))
def value (n : Nat) (l : (List Int)) (at_ : Int) (deep : Int) : Option (V × ((List Int) × Int)) := run MV n 3 (((l, (at_, ())), ()), ((), (deep, ())))
def Lmany_58 (n : Nat) (k : Nat) (v0 : Int) (v1 : (List V)) (v2 : Int) : Option (List V) := loopAt MV n 4 ⟨58, [(0, .d (.int .i64)), (3, .ln (.st 0) 1), (4, .d (.int .i64))], [], 1⟩ [true, true, false, true, false] [] k ((), (v0, (v1, (v2, ()))))
def many (n : Nat) (m : Int) : Option (List V) := run MV n 4 ((), (m, ()))
def bent (n : Nat) (v : V) (which : Int) (by_ : Int) : Option V := run MV n 5 ((), (v, (which, (by_, ()))))
def some_ (n : Nat) (l : (List Int)) (bt : Int) (by_ : Int) : Option V := run MV n 6 ((), (l, (bt, (by_, ()))))
def Lrsize_58 (n : Nat) (k : Nat) (v0 : V) (v1 : Int) (v2 : Int) : Option Int := loopAt MV n 7 ⟨58, [(1, .ptr 6 0), (3, .d (.int .i64)), (4, .d (.int .i64))], [.one (.d (.st 0))], 0⟩ [true, true, false, true, false] [] k ((v0, ()), ((), (v1, (v2, ()))))
def rsize (n : Nat) (v : V) : Option Int := run MV n 7 ((), (v, ()))
def Lrdepth_58 (n : Nat) (k : Nat) (v0 : V) (v1 : Int) (v2 : Int) : Option Int := loopAt MV n 8 ⟨58, [(1, .ptr 6 0), (3, .d (.int .i64)), (4, .d (.int .i64))], [.one (.d (.st 0))], 0⟩ [true, true, false, true, false] [] k ((v0, ()), ((), (v1, (v2, ()))))
def rdepth (n : Nat) (v : V) : Option Int := run MV n 8 ((), (v, ()))
def Ldepth_58 (n : Nat) (k : Nat) (v0 : V) (v1 : Int) (v2 : (List V)) (v3 : Int) (v4 : Int) : Option Int := loopAt MV n 9 ⟨58, [(3, .d (.int .i64)), (7, .d (.sl (.st 0))), (8, .d (.int .i64)), (9, .d (.int .i64))], [.one (.d (.st 0))], 0⟩ [true, true, false, true, false] [] k ((v0, ()), (v1, (v2, (v3, (v4, ())))))
def depth (n : Nat) (v : V) : Option Int := run MV n 9 ((), (v, ()))
def Lrcapital_58 (n : Nat) (k : Nat) (v0 : ByteArray) (v1 : Int) : Option Bool := loopAt MV n 10 ⟨58, [(0, .d .str), (3, .d (.int .i64))], [], 0⟩ [true, true, false, true, false] [] k ((), (v0, (v1, ())))
def rcapital (n : Nat) (s : ByteArray) : Option Bool := run MV n 10 ((), (s, ()))
def Lrformed_2042 (n : Nat) (k : Nat) (v0 : V) (v1 : Int) : Option Bool := loopAt MV n 11 ⟨2042, [(1, .ptr 6 0), (4, .d (.int .i64))], [.one (.d (.st 0))], 0⟩ [true, true, true, true, true, true, true, false, true, false] [] k ((v0, ()), ((), (v1, ())))
def rformed (n : Nat) (v : V) : Option Bool := run MV n 11 ((), (v, ()))
def Lrwide_58 (n : Nat) (k : Nat) (v0 : V) (v1 : Int) : Option Bool := loopAt MV n 12 ⟨58, [(1, .ptr 6 0), (3, .d (.int .i64))], [.one (.d (.st 0))], 0⟩ [true, true, false, true, false] [] k ((v0, ()), ((), (v1, ())))
def rwide (n : Nat) (v : V) : Option Bool := run MV n 12 ((), (v, ()))
def rvalid (n : Nat) (v : V) : Option Int := run MV n 13 ((), (v, ()))
def Lcapital_58 (n : Nat) (k : Nat) (v0 : ByteArray) (v1 : Int) (v2 : Int) : Option Bool := loopAt MV n 14 ⟨58, [(0, .d .str), (24, .d (.int .i64)), (25, .d (.int .i64))], [], 0⟩ [true, true, false, true, false] [] k ((), (v0, (v1, (v2, ()))))
def capital (n : Nat) (s : ByteArray) : Option Bool := run MV n 14 ((), (s, ()))
def formed (n : Nat) (v : V) : Option Bool := run MV n 15 ((), (v, ()))
def narrow (n : Nat) (v : V) : Option Bool := run MV n 16 ((), (v, ()))
def allF (n : Nat) (v : V) : Option Bool := run MV n 17 ((), (v, (((), ()), ())))
def hasF (n : Nat) (l : (List V)) : Option (Bool × (((Unit × Unit) × Unit) × Unit)) := run MV n 18 (((((), ()), ()), ()), (l, (((), ((), ())), ())))
def LindexF_26 (n : Nat) (k : Nat) (v0 : (List V)) (v1 : Int) (v2 : Int) : Option (Int × (((Unit × Unit) × Unit) × Unit)) := loopAt MV n 19 ⟨26, [(0, .d (.sl (.st 0))), (1, .fn (.func 78) [] [.ptr 6 0]), (7, .d (.int .i64)), (8, .d (.int .i64))], [.one (.agg [.fn (.func 49) [] []])], 0⟩ [true, false, true, false] [] k (((((), ()), ()), ()), (v0, (((), ((), ())), (v1, (v2, ())))))
def indexF (n : Nat) (l : (List V)) : Option (Int × (((Unit × Unit) × Unit) × Unit)) := run MV n 19 (((((), ()), ()), ()), (l, (((), ((), ())), ())))
def allfF (n : Nat) (v : V) : Option (Bool × (((Unit × Unit) × Unit) × Unit)) := run MV n 20 (((((), ()), ()), ()), (v, ((), ())))
def allN (n : Nat) (v : V) : Option Bool := run MV n 21 ((), (v, (((), ()), ())))
def hasN (n : Nat) (l : (List V)) : Option (Bool × (((Unit × Unit) × Unit) × Unit)) := run MV n 22 (((((), ()), ()), ()), (l, (((), ((), ())), ())))
def LindexN_26 (n : Nat) (k : Nat) (v0 : (List V)) (v1 : Int) (v2 : Int) : Option (Int × (((Unit × Unit) × Unit) × Unit)) := loopAt MV n 23 ⟨26, [(0, .d (.sl (.st 0))), (1, .fn (.func 78) [] [.ptr 6 0]), (7, .d (.int .i64)), (8, .d (.int .i64))], [.one (.agg [.fn (.func 50) [] []])], 0⟩ [true, false, true, false] [] k (((((), ()), ()), ()), (v0, (((), ((), ())), (v1, (v2, ())))))
def indexN (n : Nat) (l : (List V)) : Option (Int × (((Unit × Unit) × Unit) × Unit)) := run MV n 23 (((((), ()), ()), ()), (l, (((), ((), ())), ())))
def allfN (n : Nat) (v : V) : Option (Bool × (((Unit × Unit) × Unit) × Unit)) := run MV n 24 (((((), ()), ()), ()), (v, ((), ())))
def size (n : Nat) (v : V) : Option Int := run MV n 25 ((), (v, ()))
def count (n : Nat) (m : Int) (v : V) : Option (Bool × Int) := run MV n 26 (((m, ()), ()), (v, ((), ())))
def allS (n : Nat) (m : Int) (v : V) : Option (Bool × Int) := run MV n 27 (((m, ()), ()), (v, (((), ((), ())), ())))
def hasS (n : Nat) (m : Int) (l : (List V)) : Option (Bool × Int) := run MV n 28 (((((), ((), ())), ()), ((m, ()), ())), (l, (((), ((), ())), ())))
def LindexS_26 (n : Nat) (k : Nat) (v0 : Int) (v1 : (List V)) (v2 : Int) (v3 : Int) : Option (Int × Int) := loopAt MV n 29 ⟨26, [(0, .d (.sl (.st 0))), (1, .fn (.func 78) [] [.ptr 6 0]), (7, .d (.int .i64)), (8, .d (.int .i64))], [.one (.agg [.fn (.func 53) [] [.ptr 7 0]]), .one (.agg [.d (.int .i64)])], 0⟩ [true, false, true, false] [] k (((((), ((), ())), ()), ((v0, ()), ())), (v1, (((), ((), ())), (v2, (v3, ())))))
def indexS (n : Nat) (m : Int) (l : (List V)) : Option (Int × Int) := run MV n 29 (((((), ((), ())), ()), ((m, ()), ())), (l, (((), ((), ())), ())))
def allfS (n : Nat) (m : Int) (v : V) : Option (Bool × Int) := run MV n 30 (((((), ((), ())), ()), ((m, ()), ())), (v, ((), ())))
def valid (n : Nat) (v : V) : Option Int := run MV n 31 ((), (v, ()))
def LlawValid_58 (n : Nat) (k : Nat) (v0 : (List V)) (v1 : Int) : Option Bool := loopAt MV n 33 ⟨58, [(9, .ln (.st 0) 1), (10, .d (.int .i64))], [], 1⟩ [true, true, false, true, false] [] k ((), (v0, (v1, ())))
def lawValid (n : Nat) (l : (List Int)) (bt : Int) (by_ : Int) (twice : Int) : Option Bool := run MV n 33 ((), (l, (bt, (by_, (twice, ())))))
theorem sign_eq (n : Nat) (b : Bool) : sign (n + 1) b =
  brB b
    (some (-1))
    (some 1) := by kernel_rfl
theorem rcmp_eq (n : Nat) (a : V) (b : V) : rcmp (n + 1) a b =
  brB (neI (V.kind a) (V.kind b))
    (bindO (sign n (ltI (V.kind a) (V.kind b))) fun r =>
    some r)
    (brB (neI (V.n a) (V.n b))
      (bindO (sign n (ltI (V.n a) (V.n b))) fun r =>
      some r)
      (brB (neS (V.s a) (V.s b))
        (bindO (sign n (ltS (V.s a) (V.s b))) fun r =>
        some r)
        (Lrcmp_250 n n (V.re a) (V.re b) 0))) := by kernel_rfl
theorem Lrcmp_250_zero (n : Nat) (v0 : V) (v1 : V) (v2 : Int) : Lrcmp_250 n 0 v0 v1 v2 = none := by kernel_rfl
theorem Lrcmp_250_eq (n : Nat) (k : Nat) (v0 : V) (v1 : V) (v2 : Int) : Lrcmp_250 n (k + 1) v0 v1 v2 =
  brB (pickB (ltI v2 (lenL (V.kids v0))) (ltI v2 (lenL (V.kids v1))) false)
    (bindO (atL (V.kids v0) v2) fun r =>
    bindO (atL (V.kids v1) v2) fun r_1 =>
    bindO (rcmp n r r_1) fun r_2 =>
    brB (neI r_2 0)
      (some r_2)
      (Lrcmp_250 n k (V.re v0) (V.re v1) (addI IntKind.i64 v2 1)))
    (brB (eqI (lenL (V.kids v0)) (lenL (V.kids v1)))
      (some 0)
      (bindO (sign n (ltI (lenL (V.kids v0)) (lenL (V.kids v1)))) fun r =>
      some r)) := by kernel_rfl
theorem next_eq (n : Nat) (l : (List Int)) (at_ : Int) (most : Int) : next (n + 1) l at_ most =
  brB (geI at_ (lenL l))
    (some (0, (l, (addI IntKind.i64 at_ 1))))
    (brB (ltI most 2)
      (some (0, (l, (addI IntKind.i64 at_ 1))))
      (bindO (atL l at_) fun r =>
      chk (neI most 0)
        (brB (ltI (remI r most) 0)
          (some ((addI IntKind.i64 (remI r most) most), (l, (addI IntKind.i64 at_ 1))))
          (some ((remI r most), (l, (addI IntKind.i64 at_ 1))))))) := by kernel_rfl
theorem value_eq (n : Nat) (l : (List Int)) (at_ : Int) (deep : Int) : value (n + 1) l at_ deep =
  bindO (next n l at_ 7) fun r =>
  brB (eqI deep 0)
    (chk (neI 4 0)
      (brB (eqI (remI (r.1) 4) 0)
        (brB (eqI (remI (r.1) 4) 0)
          (bindO (next n ((r.2).1) ((r.2).2) 5) fun r_1 =>
          bindO (next n ((r_1.2).1) ((r_1.2).2) 100) fun r_2 =>
          bindO (next n ((r_2.2).1) ((r_2.2).2) 7) fun r_3 =>
          bindO (atL [0, 0, 0, 1, 1, 2, 3] (r_3.1)) fun r_4 =>
          bindO (atL [(r_1.1), (subI IntKind.i64 (r_2.1) 50), 9223372036854775807, (-9223372036854775808)] r_4) fun r_5 =>
          some ((V.mk 0 r_5 (nmB []) ([] : List V)), (((r_3.2).1), ((r_3.2).2))))
          (brB (eqI (remI (r.1) 4) 2)
            (bindO (next n ((r.2).1) ((r.2).2) 2) fun r_1 =>
            some ((V.mk 1 (r_1.1) (nmB []) ([] : List V)), (((r_1.2).1), ((r_1.2).2))))
            (brB (eqI (remI (r.1) 4) 3)
              (bindO (next n ((r.2).1) ((r.2).2) 4) fun r_1 =>
              bindO (atL [(nmB [76, 101, 97, 102]), (nmB [65]), (nmB [69, 109, 112, 116, 121]), (nmB [66, 95, 50])] (r_1.1)) fun r_2 =>
              some ((V.mk 3 0 r_2 ([] : List V)), (((r_1.2).1), ((r_1.2).2))))
              (brB (eqI (remI (r.1) 4) 6)
                (bindO (next n ((r.2).1) ((r.2).2) 3) fun r_1 =>
                bindO (atL [(nmB [70, 111, 114, 107]), (nmB [65]), (nmB [90, 122])] (r_1.1)) fun r_2 =>
                bindO (next n ((r_1.2).1) ((r_1.2).2) 4) fun r_3 =>
                Lvalue_2042 n n ((r_3.2).1) ((r_3.2).2) 0 0 (nmB []) 3 0 r_2 ([] : List V) deep (r_3.1) 0)
                (bindO (next n ((r.2).1) ((r.2).2) 4) fun r_1 =>
                Lvalue_2042 n n ((r_1.2).1) ((r_1.2).2) 0 0 (nmB []) 2 0 (nmB []) ([] : List V) deep (r_1.1) 0)))))
        (brB (eqI (remI (r.1) 4) 1)
          (bindO (next n ((r.2).1) ((r.2).2) 5) fun r_1 =>
          bindO (next n ((r_1.2).1) ((r_1.2).2) 100) fun r_2 =>
          bindO (next n ((r_2.2).1) ((r_2.2).2) 7) fun r_3 =>
          bindO (atL [0, 0, 0, 1, 1, 2, 3] (r_3.1)) fun r_4 =>
          bindO (atL [(r_1.1), (subI IntKind.i64 (r_2.1) 50), 9223372036854775807, (-9223372036854775808)] r_4) fun r_5 =>
          some ((V.mk 0 r_5 (nmB []) ([] : List V)), (((r_3.2).1), ((r_3.2).2))))
          (brB (eqI (remI (r.1) 4) 2)
            (bindO (next n ((r.2).1) ((r.2).2) 2) fun r_1 =>
            some ((V.mk 1 (r_1.1) (nmB []) ([] : List V)), (((r_1.2).1), ((r_1.2).2))))
            (brB (eqI (remI (r.1) 4) 3)
              (bindO (next n ((r.2).1) ((r.2).2) 4) fun r_1 =>
              bindO (atL [(nmB [76, 101, 97, 102]), (nmB [65]), (nmB [69, 109, 112, 116, 121]), (nmB [66, 95, 50])] (r_1.1)) fun r_2 =>
              some ((V.mk 3 0 r_2 ([] : List V)), (((r_1.2).1), ((r_1.2).2))))
              (brB (eqI (remI (r.1) 4) 6)
                (bindO (next n ((r.2).1) ((r.2).2) 3) fun r_1 =>
                bindO (atL [(nmB [70, 111, 114, 107]), (nmB [65]), (nmB [90, 122])] (r_1.1)) fun r_2 =>
                bindO (next n ((r_1.2).1) ((r_1.2).2) 4) fun r_3 =>
                Lvalue_2042 n n ((r_3.2).1) ((r_3.2).2) 0 0 (nmB []) 3 0 r_2 ([] : List V) deep (r_3.1) 0)
                (bindO (next n ((r.2).1) ((r.2).2) 4) fun r_1 =>
                Lvalue_2042 n n ((r_1.2).1) ((r_1.2).2) 0 0 (nmB []) 2 0 (nmB []) ([] : List V) deep (r_1.1) 0)))))))
    (brB (eqI (r.1) 0)
      (brB (eqI (r.1) 0)
        (bindO (next n ((r.2).1) ((r.2).2) 5) fun r_1 =>
        bindO (next n ((r_1.2).1) ((r_1.2).2) 100) fun r_2 =>
        bindO (next n ((r_2.2).1) ((r_2.2).2) 7) fun r_3 =>
        bindO (atL [0, 0, 0, 1, 1, 2, 3] (r_3.1)) fun r_4 =>
        bindO (atL [(r_1.1), (subI IntKind.i64 (r_2.1) 50), 9223372036854775807, (-9223372036854775808)] r_4) fun r_5 =>
        some ((V.mk 0 r_5 (nmB []) ([] : List V)), (((r_3.2).1), ((r_3.2).2))))
        (brB (eqI (r.1) 2)
          (bindO (next n ((r.2).1) ((r.2).2) 2) fun r_1 =>
          some ((V.mk 1 (r_1.1) (nmB []) ([] : List V)), (((r_1.2).1), ((r_1.2).2))))
          (brB (eqI (r.1) 3)
            (bindO (next n ((r.2).1) ((r.2).2) 4) fun r_1 =>
            bindO (atL [(nmB [76, 101, 97, 102]), (nmB [65]), (nmB [69, 109, 112, 116, 121]), (nmB [66, 95, 50])] (r_1.1)) fun r_2 =>
            some ((V.mk 3 0 r_2 ([] : List V)), (((r_1.2).1), ((r_1.2).2))))
            (brB (eqI (r.1) 6)
              (bindO (next n ((r.2).1) ((r.2).2) 3) fun r_1 =>
              bindO (atL [(nmB [70, 111, 114, 107]), (nmB [65]), (nmB [90, 122])] (r_1.1)) fun r_2 =>
              bindO (next n ((r_1.2).1) ((r_1.2).2) 4) fun r_3 =>
              Lvalue_2042 n n ((r_3.2).1) ((r_3.2).2) 0 0 (nmB []) 3 0 r_2 ([] : List V) deep (r_3.1) 0)
              (bindO (next n ((r.2).1) ((r.2).2) 4) fun r_1 =>
              Lvalue_2042 n n ((r_1.2).1) ((r_1.2).2) 0 0 (nmB []) 2 0 (nmB []) ([] : List V) deep (r_1.1) 0)))))
      (brB (eqI (r.1) 1)
        (bindO (next n ((r.2).1) ((r.2).2) 5) fun r_1 =>
        bindO (next n ((r_1.2).1) ((r_1.2).2) 100) fun r_2 =>
        bindO (next n ((r_2.2).1) ((r_2.2).2) 7) fun r_3 =>
        bindO (atL [0, 0, 0, 1, 1, 2, 3] (r_3.1)) fun r_4 =>
        bindO (atL [(r_1.1), (subI IntKind.i64 (r_2.1) 50), 9223372036854775807, (-9223372036854775808)] r_4) fun r_5 =>
        some ((V.mk 0 r_5 (nmB []) ([] : List V)), (((r_3.2).1), ((r_3.2).2))))
        (brB (eqI (r.1) 2)
          (bindO (next n ((r.2).1) ((r.2).2) 2) fun r_1 =>
          some ((V.mk 1 (r_1.1) (nmB []) ([] : List V)), (((r_1.2).1), ((r_1.2).2))))
          (brB (eqI (r.1) 3)
            (bindO (next n ((r.2).1) ((r.2).2) 4) fun r_1 =>
            bindO (atL [(nmB [76, 101, 97, 102]), (nmB [65]), (nmB [69, 109, 112, 116, 121]), (nmB [66, 95, 50])] (r_1.1)) fun r_2 =>
            some ((V.mk 3 0 r_2 ([] : List V)), (((r_1.2).1), ((r_1.2).2))))
            (brB (eqI (r.1) 6)
              (bindO (next n ((r.2).1) ((r.2).2) 3) fun r_1 =>
              bindO (atL [(nmB [70, 111, 114, 107]), (nmB [65]), (nmB [90, 122])] (r_1.1)) fun r_2 =>
              bindO (next n ((r_1.2).1) ((r_1.2).2) 4) fun r_3 =>
              Lvalue_2042 n n ((r_3.2).1) ((r_3.2).2) 0 0 (nmB []) 3 0 r_2 ([] : List V) deep (r_3.1) 0)
              (bindO (next n ((r.2).1) ((r.2).2) 4) fun r_1 =>
              Lvalue_2042 n n ((r_1.2).1) ((r_1.2).2) 0 0 (nmB []) 2 0 (nmB []) ([] : List V) deep (r_1.1) 0)))))) := by kernel_rfl
theorem Lvalue_2042_zero (n : Nat) (v0 : (List Int)) (v1 : Int) (v2 : Int) (v3 : Int) (v4 : ByteArray) (v5 : Int) (v6 : Int) (v7 : ByteArray) (v8 : (List V)) (v9 : Int) (v10 : Int) (v11 : Int) : Lvalue_2042 n 0 v0 v1 v2 v3 v4 v5 v6 v7 v8 v9 v10 v11 = none := by kernel_rfl
theorem Lvalue_2042_eq (n : Nat) (k : Nat) (v0 : (List Int)) (v1 : Int) (v2 : Int) (v3 : Int) (v4 : ByteArray) (v5 : Int) (v6 : Int) (v7 : ByteArray) (v8 : (List V)) (v9 : Int) (v10 : Int) (v11 : Int) : Lvalue_2042 n (k + 1) v0 v1 v2 v3 v4 v5 v6 v7 v8 v9 v10 v11 =
  brB (ltI v11 v10)
    (bindO (value n v0 v1 (subI IntKind.i64 v9 1)) fun r =>
    chk (room 56 (Nat.add (lenN v8) (lenN [(r.1)])))
      (Lvalue_2042 n k ((r.2).1) ((r.2).2) v2 v3 v4 v5 v6 v7 (catL v8 [(r.1)]) v9 v10 (addI IntKind.i64 v11 1)))
    (some ((V.mk v5 v6 v7 v8), (v0, v1))) := by kernel_rfl
theorem many_eq (n : Nat) (m : Int) : many (n + 1) m =
  Lmany_58 n n m ([] : List V) 0 := by kernel_rfl
theorem Lmany_58_zero (n : Nat) (v0 : Int) (v1 : (List V)) (v2 : Int) : Lmany_58 n 0 v0 v1 v2 = none := by kernel_rfl
theorem Lmany_58_eq (n : Nat) (k : Nat) (v0 : Int) (v1 : (List V)) (v2 : Int) : Lmany_58 n (k + 1) v0 v1 v2 =
  brB (ltI v2 v0)
    (chk (neI 3 0)
      (chk (room 56 (Nat.add (lenN v1) (lenN [(V.mk 0 (remI v2 3) (nmB []) ([] : List V))])))
        (Lmany_58 n k v0 (catL v1 [(V.mk 0 (remI v2 3) (nmB []) ([] : List V))]) (addI IntKind.i64 v2 1))))
    (some v1) := by kernel_rfl
theorem bent_eq (n : Nat) (v : V) (which : Int) (by_ : Int) : bent (n + 1) v which by_ =
  chk (neI 7 0)
    (chk (neI 49 0)
      (brB (gtI (lenL (V.kids v)) 0)
        (bindO (next n [which, (quoI IntKind.i64 which 7), (quoI IntKind.i64 which 49)] 0 2) fun r =>
        brB (eqI (r.1) 0)
          (bindO (next n ((r.2).1) ((r.2).2) (lenL (V.kids v))) fun r_1 =>
          brB (nilL (V.kids v))
            (bindO (atL ([] : List V) (r_1.1)) fun r_2 =>
            chk (neI 4 0)
              (bindO (bent n r_2 (quoI IntKind.i64 which 4) by_) fun r_3 =>
              bindO (atL ([] : List V) (r_1.1)) fun r_4 =>
              none))
            (chk (room 56 (Nat.add (lenN ([] : List V)) (lenN (V.kids v))))
              (chk (inR (r_1.1) (lenN (catL ([] : List V) (V.kids v))))
                (bindO (atN (catL ([] : List V) (V.kids v)) (addN 0 (posN (r_1.1)))) fun r_2 =>
                chk (neI 4 0)
                  (bindO (bent n r_2 (quoI IntKind.i64 which 4) by_) fun r_3 =>
                  chk (inR (r_1.1) (lenN (catL ([] : List V) (V.kids v))))
                    (bindO (atN (catL ([] : List V) (V.kids v)) (addN 0 (posN (r_1.1)))) fun r_4 =>
                    chk (andB (eqN 0 0) (eqN (lenN (catL ([] : List V) (V.kids v))) (lenN (setL (catL ([] : List V) (V.kids v)) (addN 0 (posN (r_1.1))) r_3))))
                      (some (V.mk (V.kind v) (V.n v) (V.s v) (setL (catL ([] : List V) (V.kids v)) (addN 0 (posN (r_1.1))) r_3)))))))))
          (bindO (next n ((r.2).1) ((r.2).2) 7) fun r_1 =>
          brB (eqI (r_1.1) 0)
            (some (V.mk by_ (V.n v) (V.s v) (V.kids v)))
            (brB (eqI (r_1.1) 1)
              (some (V.mk (V.kind v) by_ (V.s v) (V.kids v)))
              (brB (eqI (r_1.1) 2)
                (bindO (next n [by_] 0 7) fun r_2 =>
                bindO (atL [(nmB []), (nmB [97]), (nmB [90]), (nmB [65, 66, 67, 68, 69, 70, 71, 72, 73, 74, 75, 76, 77, 78, 79, 80]), (nmB [65, 66, 67, 68, 69, 70, 71, 72, 73, 74, 75, 76, 77, 78, 79, 80, 81]), (nmB [65, 45]), (nmB [65, 98, 57, 95])] (r_2.1)) fun r_3 =>
                some (V.mk (V.kind v) (V.n v) r_3 (V.kids v)))
                (brB (eqI (r_1.1) 3)
                  (chk (room 56 (Nat.add (lenN [(V.mk 0 by_ (nmB []) ([] : List V))]) (lenN (V.kids v))))
                    (some (V.mk (V.kind v) (V.n v) (V.s v) (catL [(V.mk 0 by_ (nmB []) ([] : List V))] (V.kids v)))))
                  (brB (eqI (r_1.1) 4)
                    (bindO (next n [by_] 0 6) fun r_2 =>
                    bindO (many n (addI IntKind.i64 253 (r_2.1))) fun r_3 =>
                    some (V.mk 2 0 (nmB []) r_3))
                    (brB (eqI (r_1.1) 5)
                      (bindO (next n [by_] 0 5) fun r_2 =>
                      bindO (many n (addI IntKind.i64 14 (r_2.1))) fun r_3 =>
                      some (V.mk 3 0 (nmB [77]) r_3))
                      (bindO (many n 250) fun r_2 =>
                      bindO (many n 255) fun r_3 =>
                      bindO (many n 256) fun r_4 =>
                      bindO (next n [by_] 0 5) fun r_5 =>
                      bindO (many n (addI IntKind.i64 252 (r_5.1))) fun r_6 =>
                      some (V.mk 2 0 (nmB []) [(V.mk 2 0 (nmB []) r_2), (V.mk 2 0 (nmB []) r_3), (V.mk 2 0 (nmB []) r_4), (V.mk 2 0 (nmB []) r_6), (V.mk 0 by_ (nmB []) ([] : List V)), (V.mk 0 1 (nmB []) ([] : List V))])))))))))
        (bindO (next n [which, (quoI IntKind.i64 which 7), (quoI IntKind.i64 which 49)] 0 7) fun r =>
        brB (eqI (r.1) 0)
          (some (V.mk by_ (V.n v) (V.s v) (V.kids v)))
          (brB (eqI (r.1) 1)
            (some (V.mk (V.kind v) by_ (V.s v) (V.kids v)))
            (brB (eqI (r.1) 2)
              (bindO (next n [by_] 0 7) fun r_1 =>
              bindO (atL [(nmB []), (nmB [97]), (nmB [90]), (nmB [65, 66, 67, 68, 69, 70, 71, 72, 73, 74, 75, 76, 77, 78, 79, 80]), (nmB [65, 66, 67, 68, 69, 70, 71, 72, 73, 74, 75, 76, 77, 78, 79, 80, 81]), (nmB [65, 45]), (nmB [65, 98, 57, 95])] (r_1.1)) fun r_2 =>
              some (V.mk (V.kind v) (V.n v) r_2 (V.kids v)))
              (brB (eqI (r.1) 3)
                (chk (room 56 (Nat.add (lenN [(V.mk 0 by_ (nmB []) ([] : List V))]) (lenN (V.kids v))))
                  (some (V.mk (V.kind v) (V.n v) (V.s v) (catL [(V.mk 0 by_ (nmB []) ([] : List V))] (V.kids v)))))
                (brB (eqI (r.1) 4)
                  (bindO (next n [by_] 0 6) fun r_1 =>
                  bindO (many n (addI IntKind.i64 253 (r_1.1))) fun r_2 =>
                  some (V.mk 2 0 (nmB []) r_2))
                  (brB (eqI (r.1) 5)
                    (bindO (next n [by_] 0 5) fun r_1 =>
                    bindO (many n (addI IntKind.i64 14 (r_1.1))) fun r_2 =>
                    some (V.mk 3 0 (nmB [77]) r_2))
                    (bindO (many n 250) fun r_1 =>
                    bindO (many n 255) fun r_2 =>
                    bindO (many n 256) fun r_3 =>
                    bindO (next n [by_] 0 5) fun r_4 =>
                    bindO (many n (addI IntKind.i64 252 (r_4.1))) fun r_5 =>
                    some (V.mk 2 0 (nmB []) [(V.mk 2 0 (nmB []) r_1), (V.mk 2 0 (nmB []) r_2), (V.mk 2 0 (nmB []) r_3), (V.mk 2 0 (nmB []) r_5), (V.mk 0 by_ (nmB []) ([] : List V)), (V.mk 0 1 (nmB []) ([] : List V))])))))))))) := by kernel_rfl
theorem some__eq (n : Nat) (l : (List Int)) (bt : Int) (by_ : Int) : some_ (n + 1) l bt by_ =
  bindO (value n l 0 3) fun r =>
  brB (gtI bt 0)
    (bindO (bent n (V.re (r.1)) bt by_) fun r_1 =>
    some (V.re r_1))
    (some (V.re (r.1))) := by kernel_rfl
theorem rsize_eq (n : Nat) (v : V) : rsize (n + 1) v =
  Lrsize_58 n n (V.re v) 1 0 := by kernel_rfl
theorem Lrsize_58_zero (n : Nat) (v0 : V) (v1 : Int) (v2 : Int) : Lrsize_58 n 0 v0 v1 v2 = none := by kernel_rfl
theorem Lrsize_58_eq (n : Nat) (k : Nat) (v0 : V) (v1 : Int) (v2 : Int) : Lrsize_58 n (k + 1) v0 v1 v2 =
  brB (ltI v2 (lenL (V.kids v0)))
    (bindO (atL (V.kids v0) v2) fun r =>
    bindO (rsize n r) fun r_1 =>
    Lrsize_58 n k (V.re v0) (addI IntKind.i64 v1 r_1) (addI IntKind.i64 v2 1))
    (some v1) := by kernel_rfl
theorem rdepth_eq (n : Nat) (v : V) : rdepth (n + 1) v =
  Lrdepth_58 n n (V.re v) 0 0 := by kernel_rfl
theorem Lrdepth_58_zero (n : Nat) (v0 : V) (v1 : Int) (v2 : Int) : Lrdepth_58 n 0 v0 v1 v2 = none := by kernel_rfl
theorem Lrdepth_58_eq (n : Nat) (k : Nat) (v0 : V) (v1 : Int) (v2 : Int) : Lrdepth_58 n (k + 1) v0 v1 v2 =
  brB (ltI v2 (lenL (V.kids v0)))
    (bindO (atL (V.kids v0) v2) fun r =>
    bindO (rdepth n r) fun r_1 =>
    Lrdepth_58 n k (V.re v0) (maxI v1 r_1) (addI IntKind.i64 v2 1))
    (some (addI IntKind.i64 v1 1)) := by kernel_rfl
theorem depth_eq (n : Nat) (v : V) : depth (n + 1) v =
  Ldepth_58 n n (V.re v) 0 (V.kids v) (lenL (V.kids v)) 0 := by kernel_rfl
theorem Ldepth_58_zero (n : Nat) (v0 : V) (v1 : Int) (v2 : (List V)) (v3 : Int) (v4 : Int) : Ldepth_58 n 0 v0 v1 v2 v3 v4 = none := by kernel_rfl
theorem Ldepth_58_eq (n : Nat) (k : Nat) (v0 : V) (v1 : Int) (v2 : (List V)) (v3 : Int) (v4 : Int) : Ldepth_58 n (k + 1) v0 v1 v2 v3 v4 =
  brB (ltI v4 v3)
    (bindO (atL v2 v4) fun r =>
    bindO (depth n (V.re r)) fun r_1 =>
    Ldepth_58 n k (V.re v0) (maxI v1 r_1) v2 v3 (addI IntKind.i64 v4 1))
    (some (addI IntKind.i64 v1 1)) := by kernel_rfl
theorem rcapital_eq (n : Nat) (s : ByteArray) : rcapital (n + 1) s =
  brB (pickB (ltI (lenS s) 1) true (gtI (lenS s) 16))
    (some false)
    (bindO (atS s 0) fun r =>
    brB (ltI r 65)
      (some false)
      (bindO (atS s 0) fun r_1 =>
      brB (gtI r_1 90)
        (some false)
        (Lrcapital_58 n n s 0))) := by kernel_rfl
theorem Lrcapital_58_zero (n : Nat) (v0 : ByteArray) (v1 : Int) : Lrcapital_58 n 0 v0 v1 = none := by kernel_rfl
theorem Lrcapital_58_eq (n : Nat) (k : Nat) (v0 : ByteArray) (v1 : Int) : Lrcapital_58 n (k + 1) v0 v1 =
  brB (ltI v1 (lenS v0))
    (bindO (atS v0 v1) fun r =>
    brB (pickB (pickB (notB (pickB (pickB (geI r 97) (leI r 122) false) true (pickB (geI r 65) (leI r 90) false))) (notB (pickB (geI r 48) (leI r 57) false)) false) (neI r 95) false)
      (some false)
      (Lrcapital_58 n k v0 (addI IntKind.i64 v1 1)))
    (some true) := by kernel_rfl
theorem rformed_eq (n : Nat) (v : V) : rformed (n + 1) v =
  bindO (rcapital n (V.s v)) fun r =>
  brB (pickB (eqI (V.kind v) 0) (pickB (neS (V.s v) (nmB [])) true (gtI (lenL (V.kids v)) 0)) false)
    (some false)
    (brB (pickB (eqI (V.kind v) 1) (pickB (pickB (pickB (neS (V.s v) (nmB [])) true (gtI (lenL (V.kids v)) 0)) true (ltI (V.n v) 0)) true (gtI (V.n v) 1)) false)
      (some false)
      (brB (pickB (eqI (V.kind v) 2) (pickB (neS (V.s v) (nmB [])) true (neI (V.n v) 0)) false)
        (some false)
        (brB (pickB (eqI (V.kind v) 3) (pickB (notB r) true (neI (V.n v) 0)) false)
          (some false)
          (brB (pickB (ltI (V.kind v) 0) true (gtI (V.kind v) 3))
            (some false)
            (Lrformed_2042 n n (V.re v) 0))))) := by kernel_rfl
theorem Lrformed_2042_zero (n : Nat) (v0 : V) (v1 : Int) : Lrformed_2042 n 0 v0 v1 = none := by kernel_rfl
theorem Lrformed_2042_eq (n : Nat) (k : Nat) (v0 : V) (v1 : Int) : Lrformed_2042 n (k + 1) v0 v1 =
  brB (ltI v1 (lenL (V.kids v0)))
    (bindO (atL (V.kids v0) v1) fun r =>
    bindO (rformed n r) fun r_1 =>
    brB (notB r_1)
      (some false)
      (Lrformed_2042 n k (V.re v0) (addI IntKind.i64 v1 1)))
    (some true) := by kernel_rfl
theorem rwide_eq (n : Nat) (v : V) : rwide (n + 1) v =
  brB (pickB (pickB (eqI (V.kind v) 2) (gtI (lenL (V.kids v)) 256) false) true (pickB (eqI (V.kind v) 3) (gtI (lenL (V.kids v)) 16) false))
    (some true)
    (Lrwide_58 n n (V.re v) 0) := by kernel_rfl
theorem Lrwide_58_zero (n : Nat) (v0 : V) (v1 : Int) : Lrwide_58 n 0 v0 v1 = none := by kernel_rfl
theorem Lrwide_58_eq (n : Nat) (k : Nat) (v0 : V) (v1 : Int) : Lrwide_58 n (k + 1) v0 v1 =
  brB (ltI v1 (lenL (V.kids v0)))
    (bindO (atL (V.kids v0) v1) fun r =>
    bindO (rwide n r) fun r_1 =>
    brB r_1
      (some true)
      (Lrwide_58 n k (V.re v0) (addI IntKind.i64 v1 1)))
    (some false) := by kernel_rfl
theorem rvalid_eq (n : Nat) (v : V) : rvalid (n + 1) v =
  bindO (rformed n (V.re v)) fun r =>
  brB (notB r)
    (some 1)
    (bindO (rwide n (V.re v)) fun r_1 =>
    brB r_1
      (some 4)
      (bindO (rsize n (V.re v)) fun r_2 =>
      brB (gtI r_2 1024)
        (some 4)
        (some 0))) := by kernel_rfl
theorem capital_eq (n : Nat) (s : ByteArray) : capital (n + 1) s =
  brB (pickB (ltI (lenS s) 1) true (gtI (lenS s) 16))
    (some false)
    (bindO (atS s 0) fun r =>
    brB (ltI r 65)
      (some false)
      (bindO (atS s 0) fun r_1 =>
      brB (gtI r_1 90)
        (some false)
        (Lcapital_58 n n s (lenS s) 0))) := by kernel_rfl
theorem Lcapital_58_zero (n : Nat) (v0 : ByteArray) (v1 : Int) (v2 : Int) : Lcapital_58 n 0 v0 v1 v2 = none := by kernel_rfl
theorem Lcapital_58_eq (n : Nat) (k : Nat) (v0 : ByteArray) (v1 : Int) (v2 : Int) : Lcapital_58 n (k + 1) v0 v1 v2 =
  brB (ltI v2 v1)
    (bindO (atS v0 v2) fun r =>
    brB (pickB (pickB (pickB (neI r 95) (pickB (ltI r 48) true (gtI r 57)) false) (pickB (ltI r 97) true (gtI r 122)) false) (pickB (ltI r 65) true (gtI r 90)) false)
      (some false)
      (Lcapital_58 n k v0 v1 (addI IntKind.i64 v2 1)))
    (some true) := by kernel_rfl
theorem formed_eq (n : Nat) (v : V) : formed (n + 1) v =
  brB (eqI (V.kind v) 0)
    (some (pickB (eqS (V.s v) (nmB [])) (eqI (lenL (V.kids v)) 0) false))
    (brB (eqI (V.kind v) 1)
      (some (pickB (pickB (eqS (V.s v) (nmB [])) (eqI (lenL (V.kids v)) 0) false) (pickB (eqI (V.n v) 0) true (eqI (V.n v) 1)) false))
      (brB (eqI (V.kind v) 2)
        (some (pickB (eqS (V.s v) (nmB [])) (eqI (V.n v) 0) false))
        (brB (pickB (eqI (V.kind v) 3) (eqI (V.n v) 0) false)
          (bindO (capital n (V.s v)) fun r =>
          some r)
          (some false)))) := by kernel_rfl
theorem narrow_eq (n : Nat) (v : V) : narrow (n + 1) v =
  some (pickB (leI (lenL (V.kids v)) 16) true (pickB (eqI (V.kind v) 2) (leI (lenL (V.kids v)) 256) false)) := by kernel_rfl
theorem allF_eq (n : Nat) (v : V) : allF (n + 1) v =
  bindO (formed n (V.re v)) fun r =>
  brB r
    (bindO (hasF n (V.kids v)) fun r_1 =>
    some (notB (r_1.1)))
    (some false) := by kernel_rfl
theorem hasF_eq (n : Nat) (l : (List V)) : hasF (n + 1) l =
  bindO (indexF n l) fun r =>
  some ((geI (r.1) 0), ((((), ()), ()), ())) := by kernel_rfl
theorem indexF_eq (n : Nat) (l : (List V)) : indexF (n + 1) l =
  LindexF_26 n n l (lenL l) 0 := by kernel_rfl
theorem LindexF_26_zero (n : Nat) (v0 : (List V)) (v1 : Int) (v2 : Int) : LindexF_26 n 0 v0 v1 v2 = none := by kernel_rfl
theorem LindexF_26_eq (n : Nat) (k : Nat) (v0 : (List V)) (v1 : Int) (v2 : Int) : LindexF_26 n (k + 1) v0 v1 v2 =
  brB (ltI v2 v1)
    (bindO (atL v0 v2) fun r =>
    bindO (allfF n r) fun r_1 =>
    brB (r_1.1)
      (some (v2, ((((), ()), ()), ())))
      (LindexF_26 n k v0 v1 (addI IntKind.i64 v2 1)))
    (some ((-1), ((((), ()), ()), ()))) := by kernel_rfl
theorem allfF_eq (n : Nat) (v : V) : allfF (n + 1) v =
  bindO (allF n (V.re v)) fun r =>
  some ((notB r), ((((), ()), ()), ())) := by kernel_rfl
theorem allN_eq (n : Nat) (v : V) : allN (n + 1) v =
  bindO (narrow n (V.re v)) fun r =>
  brB r
    (bindO (hasN n (V.kids v)) fun r_1 =>
    some (notB (r_1.1)))
    (some false) := by kernel_rfl
theorem hasN_eq (n : Nat) (l : (List V)) : hasN (n + 1) l =
  bindO (indexN n l) fun r =>
  some ((geI (r.1) 0), ((((), ()), ()), ())) := by kernel_rfl
theorem indexN_eq (n : Nat) (l : (List V)) : indexN (n + 1) l =
  LindexN_26 n n l (lenL l) 0 := by kernel_rfl
theorem LindexN_26_zero (n : Nat) (v0 : (List V)) (v1 : Int) (v2 : Int) : LindexN_26 n 0 v0 v1 v2 = none := by kernel_rfl
theorem LindexN_26_eq (n : Nat) (k : Nat) (v0 : (List V)) (v1 : Int) (v2 : Int) : LindexN_26 n (k + 1) v0 v1 v2 =
  brB (ltI v2 v1)
    (bindO (atL v0 v2) fun r =>
    bindO (allfN n r) fun r_1 =>
    brB (r_1.1)
      (some (v2, ((((), ()), ()), ())))
      (LindexN_26 n k v0 v1 (addI IntKind.i64 v2 1)))
    (some ((-1), ((((), ()), ()), ()))) := by kernel_rfl
theorem allfN_eq (n : Nat) (v : V) : allfN (n + 1) v =
  bindO (allN n (V.re v)) fun r =>
  some ((notB r), ((((), ()), ()), ())) := by kernel_rfl
theorem size_eq (n : Nat) (v : V) : size (n + 1) v =
  bindO (allS n 0 (V.re v)) fun r =>
  some (r.2) := by kernel_rfl
theorem count_eq (n : Nat) (m : Int) (v : V) : count (n + 1) m v =
  some (true, (addI IntKind.i64 m 1)) := by kernel_rfl
theorem allS_eq (n : Nat) (m : Int) (v : V) : allS (n + 1) m v =
  bindO (count n m (V.re v)) fun r =>
  brB (r.1)
    (bindO (hasS n (r.2) (V.kids v)) fun r_1 =>
    some ((notB (r_1.1)), (r_1.2)))
    (some (false, (r.2))) := by kernel_rfl
theorem hasS_eq (n : Nat) (m : Int) (l : (List V)) : hasS (n + 1) m l =
  bindO (indexS n m l) fun r =>
  some ((geI (r.1) 0), (r.2)) := by kernel_rfl
theorem indexS_eq (n : Nat) (m : Int) (l : (List V)) : indexS (n + 1) m l =
  LindexS_26 n n m l (lenL l) 0 := by kernel_rfl
theorem LindexS_26_zero (n : Nat) (v0 : Int) (v1 : (List V)) (v2 : Int) (v3 : Int) : LindexS_26 n 0 v0 v1 v2 v3 = none := by kernel_rfl
theorem LindexS_26_eq (n : Nat) (k : Nat) (v0 : Int) (v1 : (List V)) (v2 : Int) (v3 : Int) : LindexS_26 n (k + 1) v0 v1 v2 v3 =
  brB (ltI v3 v2)
    (bindO (atL v1 v3) fun r =>
    bindO (allfS n v0 r) fun r_1 =>
    brB (r_1.1)
      (some (v3, (r_1.2)))
      (LindexS_26 n k (r_1.2) v1 v2 (addI IntKind.i64 v3 1)))
    (some ((-1), v0)) := by kernel_rfl
theorem allfS_eq (n : Nat) (m : Int) (v : V) : allfS (n + 1) m v =
  bindO (allS n m (V.re v)) fun r =>
  some ((notB (r.1)), (r.2)) := by kernel_rfl
theorem valid_eq (n : Nat) (v : V) : valid (n + 1) v =
  bindO (allF n (V.re v)) fun r =>
  brB (notB r)
    (some 1)
    (bindO (allN n (V.re v)) fun r_1 =>
    brB (notB r_1)
      (some 4)
      (bindO (size n (V.re v)) fun r_2 =>
      brB (gtI r_2 1024)
        (some 4)
        (some 0))) := by kernel_rfl
theorem lawValid_eq (n : Nat) (l : (List Int)) (bt : Int) (by_ : Int) (twice : Int) : lawValid (n + 1) l bt by_ twice =
  bindO (some_ n l 0 0) fun r =>
  bindO (some_ n l bt by_) fun r_1 =>
  bindO (some_ n l bt by_) fun r_2 =>
  chk (neI 3 0)
    (bindO (bent n r_2 twice (quoI IntKind.i64 by_ 3)) fun r_3 =>
    LlawValid_58 n n [r, r_1, r_3] 0) := by kernel_rfl
theorem LlawValid_58_zero (n : Nat) (v0 : (List V)) (v1 : Int) : LlawValid_58 n 0 v0 v1 = none := by kernel_rfl
theorem LlawValid_58_eq (n : Nat) (k : Nat) (v0 : (List V)) (v1 : Int) : LlawValid_58 n (k + 1) v0 v1 =
  brB (ltI v1 3)
    (bindO (atL v0 v1) fun r =>
    bindO (valid n r) fun r_1 =>
    bindO (atL v0 v1) fun r_2 =>
    bindO (rvalid n r_2) fun r_3 =>
    brB (neI r_1 r_3)
      (some false)
      (bindO (atL v0 v1) fun r_4 =>
      bindO (size n r_4) fun r_5 =>
      bindO (atL v0 v1) fun r_6 =>
      bindO (rsize n r_6) fun r_7 =>
      brB (neI r_5 r_7)
        (some false)
        (bindO (atL v0 v1) fun r_8 =>
        bindO (depth n r_8) fun r_9 =>
        bindO (atL v0 v1) fun r_10 =>
        bindO (rdepth n r_10) fun r_11 =>
        brB (neI r_9 r_11)
          (some false)
          (LlawValid_58 n k v0 (addI IntKind.i64 v1 1)))))
    (bindO (xlives n) fun r =>
    some r) := by kernel_rfl
end
end Go.Am.Tryz
