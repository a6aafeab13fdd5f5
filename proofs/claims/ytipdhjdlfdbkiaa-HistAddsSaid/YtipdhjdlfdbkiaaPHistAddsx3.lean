-- printed by a program of the session (wip/hyb/mkprint.py)
import Derived.Test.YtipdhjdlfdbkiaaPHistAddsx0
import Derived.Test.YtipdhjdlfdbkiaaPHistAddsx1
import Derived.Test.YtipdhjdlfdbkiaaPHistAddsx2
namespace Go.Proofs.Ytipdhjdlfdbkiaa.PHistAdds
open Go.RowKit Go.Proofs.YtipdhjdlfdbkiaaW.PrintWords Go.Proofs.YtipdhjdlfdbkiaaW.PrintLast Go.Proofs.YtipdhjdlfdbkiaaW.PrintMore
attribute [local go_sem] max2_int min2_int max_two min_two max_three min_three max_four min_four   -- for this text's walks alone
set_option linter.unusedVariables false
set_option linter.unusedSimpArgs false

theorem eqA127 (d : Nat) (w : World) (x0 y0 : Bool) (x1 y1 : Int) (x2 y2 : Int) (x3 y3 : ByteArray) (x4 y4 : ByteArray) (x5 y5 : ByteArray) (x6 y6 : Int) (x7 y7 : Int) (x8 y8 : Bool) (x9 y9 : ByteArray) (x10 y10 : ByteArray) (x11 y11 : Int) :
    (Op.equalIn (d + 3) 127 (.agg #[.bool x0, .int .i64 x1, .int .i64 x2, .string x3, .string x4, .string x5, .int .i64 x6, .int .i64 x7, .bool x8, .string x9, .string x10, .int .i64 x11]) (.agg #[.bool y0, .int .i64 y1, .int .i64 y2, .string y3, .string y4, .string y5, .int .i64 y6, .int .i64 y7, .bool y8, .string y9, .string y10, .int .i64 y11])).run Try.prog w = .ok (x0 == y0 && (x1 == y1 && ((x2 == y2 && (x3.toList == y3.toList && (x4.toList == y4.toList && (x5.toList == y5.toList && (x6 == y6))))) && ((x7 == y7 && (x8 == y8 && (x9.toList == y9.toList && (x10.toList == y10.toList && (x11 == y11))))))))) w := by
  refine eqA_of Try.underlying127 (by kernel_rfl) ?_
  refine eqf_cons (by rfl) (by go_simp; rfl) (by go_simp; rfl) (by go_simp) ?_
  refine eqf_cons (by rfl) (by go_simp; rfl) (by go_simp; rfl) (by go_simp) ?_
  refine eqf_cons (by rfl) (by go_simp) (by go_simp) (eqA74 (d + 0) w _ _ _ _ _ _ _ _ _ _) ?_
  exact eqf_last (by rfl) (by go_simp) (by go_simp) (eqA76 (d + 0) w _ _ _ _ _ _ _ _ _ _)
end Go.Proofs.Ytipdhjdlfdbkiaa.PHistAdds
