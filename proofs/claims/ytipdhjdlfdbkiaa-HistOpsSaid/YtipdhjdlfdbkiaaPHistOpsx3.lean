-- printed by a program of the session (wip/hyb/mkprint.py)
import Derived.Test.YtipdhjdlfdbkiaaPHistOpsx0
import Derived.Test.YtipdhjdlfdbkiaaPHistOpsx1
import Derived.Test.YtipdhjdlfdbkiaaPHistOpsx2
namespace Go.Proofs.Ytipdhjdlfdbkiaa.PHistOps
open Go.RowKit Go.Proofs.YtipdhjdlfdbkiaaW.PrintWords Go.Proofs.YtipdhjdlfdbkiaaW.PrintLast Go.Proofs.YtipdhjdlfdbkiaaW.PrintMore
attribute [local go_sem] max2_int min2_int max_two min_two max_three min_three max_four min_four   -- for this text's walks alone
set_option linter.unusedVariables false
set_option linter.unusedSimpArgs false

theorem eqA78 (d : Nat) (w : World) (x0 y0 : Int) (x1 y1 : Int) (x2 y2 : ByteArray) (x3 y3 : ByteArray) (x4 y4 : ByteArray) (x5 y5 : Int) (x6 y6 : Int) (x7 y7 : Bool) (x8 y8 : ByteArray) (x9 y9 : ByteArray) (x10 y10 : Int) (x11 y11 : Bool) (x12 y12 : Int) (x13 y13 : Int) :
    (Op.equalIn (d + 3) 78 (.agg #[.int .i64 x0, .int .i64 x1, .string x2, .string x3, .string x4, .int .i64 x5, .int .i64 x6, .bool x7, .string x8, .string x9, .int .i64 x10, .bool x11, .int .i64 x12, .int .i64 x13]) (.agg #[.int .i64 y0, .int .i64 y1, .string y2, .string y3, .string y4, .int .i64 y5, .int .i64 y6, .bool y7, .string y8, .string y9, .int .i64 y10, .bool y11, .int .i64 y12, .int .i64 y13])).run Try.prog w = .ok (x0 == y0 && ((x1 == y1 && (x2.toList == y2.toList && (x3.toList == y3.toList && (x4.toList == y4.toList && (x5 == y5))))) && ((x6 == y6 && (x7 == y7 && (x8.toList == y8.toList && (x9.toList == y9.toList && (x10 == y10))))) && (x11 == y11 && (x12 == y12 && (x13 == y13)))))) w := by
  refine eqA_of Try.underlying78 (by kernel_rfl) ?_
  refine eqf_cons (by rfl) (by go_simp; rfl) (by go_simp; rfl) (by go_simp) ?_
  refine eqf_cons (by rfl) (by go_simp) (by go_simp) (eqA74 (d + 0) w _ _ _ _ _ _ _ _ _ _) ?_
  refine eqf_cons (by rfl) (by go_simp) (by go_simp) (eqA76 (d + 0) w _ _ _ _ _ _ _ _ _ _) ?_
  refine eqf_cons (by rfl) (by go_simp; rfl) (by go_simp; rfl) (by go_simp) ?_
  refine eqf_cons (by rfl) (by go_simp; rfl) (by go_simp; rfl) (by go_simp) ?_
  exact eqf_last (by rfl) (by go_simp; rfl) (by go_simp; rfl) (by go_simp)
end Go.Proofs.Ytipdhjdlfdbkiaa.PHistOps
