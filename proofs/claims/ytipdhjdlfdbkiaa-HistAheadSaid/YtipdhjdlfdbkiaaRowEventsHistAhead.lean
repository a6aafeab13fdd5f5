/- How a history that came in is opened: a slice of events as a list. -/
import Derived.Test.YtipdhjdlfdbkiaaPHistAheadx0
import Derived.Test.YtipdhjdlfdbkiaaRowOpen
import Derived.WalkKit
import Derived.ProofKit
import Derived.OpenShut
import Derived.ShutString
import Derived.Deep.Slices
namespace Go.Proofs.Ytipdhjdlfdbkiaa.PHistAhead
open Go.ChangeShapes Go.WideShapes Go.ChangeAt Go.RowKit Go.Joins Go.Deep Go.Proofs.Ytipdhjdlfdbkiaa.RowKitOwn Go.Proofs.YtipdhjdlfdbkiaaW.PrintWords Go.Proofs.Ytipdhjdlfdbkiaa.RowOpen
section
variable {H : Type} {enc : TypeId × Value → H} {P : Program} {w : World}
theorem pk {α β : Type} {d : Kd α} {e : Kd β} {cs : List Value} {o s : Nat} (h1 : ∃ a, d.K w a ((cs.drop o).take s)) (h2 : ∃ b, e.K w b (cs.drop (o + s))) : ∃ x, (Kd.pair d e).K w x (cs.drop o) := by
  obtain ⟨a, ha⟩ := h1
  obtain ⟨b, hb⟩ := h2
  exact ⟨(a, b), (cs.drop o).take s, cs.drop (o + s), by rw [← List.drop_drop, List.take_append_drop], ha, hb⟩
theorem lk {α : Type} {d : Kd α} {cs : List Value} {o s : Nat} (hl : cs.length = o + s) (h1 : ∃ a, d.K w a ((cs.drop o).take s)) : ∃ a, d.K w a (cs.drop o) := by
  rw [List.take_of_length_le (by rw [List.length_drop]; omega)] at h1
  exact h1
theorem fk {α : Type} {d : Kd α} {t : TypeId} {cs : List Value} {o s : Nat} (he : Opens enc P w d t) (hc : P.cellsOf t = s) (h : ∃ m y, DataW.trod enc P w 0 (fun _ => true) true m t ((cs.drop o).take (P.cellsOf t)) = some y) : ∃ a, d.K w a ((cs.drop o).take s) := by
  obtain ⟨m, y, g⟩ := h
  rw [hc] at g
  exact he _ _ _ g
end
section
variable {H : Type} {enc : TypeId × Value → H} {w : World}
set_option maxRecDepth 100000 in
theorem opensCall : Opens enc Try.prog w k74 74 := by
  intro n cs x h
  obtain ⟨hl, hf⟩ := fields_of Try.underlying74 h
  have hl2 : cs.length = 5 := hl.trans (by kernel_rfl)
  obtain ⟨y, hy⟩ := pk (fk (t := 3) (o := 0) (s := 1) (opens_int Try.underlying3) (by kernel_rfl) (hf 0 _ rfl)) (pk (fk (t := 9) (o := 1) (s := 1) (opens_string Try.underlying9) (by kernel_rfl) (hf 1 _ rfl)) (pk (fk (t := 9) (o := 2) (s := 1) (opens_string Try.underlying9) (by kernel_rfl) (hf 2 _ rfl)) (pk (fk (t := 9) (o := 3) (s := 1) (opens_string Try.underlying9) (by kernel_rfl) (hf 3 _ rfl)) (lk (s := 1) hl2 (fk (t := 3) (o := 4) (s := 1) (opens_int Try.underlying3) (by kernel_rfl) (hf 4 _ rfl))))))
  rw [List.drop_zero] at hy
  exact ⟨⟨y.1, y.2.1, y.2.2.1, y.2.2.2.1, y.2.2.2.2⟩, hy⟩
set_option maxRecDepth 100000 in
theorem opensAnswer : Opens enc Try.prog w k76 76 := by
  intro n cs x h
  obtain ⟨hl, hf⟩ := fields_of Try.underlying76 h
  have hl2 : cs.length = 5 := hl.trans (by kernel_rfl)
  obtain ⟨y, hy⟩ := pk (fk (t := 31) (o := 0) (s := 1) (opens_int Try.underlying31) (by kernel_rfl) (hf 0 _ rfl)) (pk (fk (t := 4) (o := 1) (s := 1) (opens_bool Try.underlying4) (by kernel_rfl) (hf 1 _ rfl)) (pk (fk (t := 9) (o := 2) (s := 1) (opens_string Try.underlying9) (by kernel_rfl) (hf 2 _ rfl)) (pk (fk (t := 9) (o := 3) (s := 1) (opens_string Try.underlying9) (by kernel_rfl) (hf 3 _ rfl)) (lk (s := 1) hl2 (fk (t := 3) (o := 4) (s := 1) (opens_int Try.underlying3) (by kernel_rfl) (hf 4 _ rfl))))))
  rw [List.drop_zero] at hy
  exact ⟨⟨y.1, y.2.1, y.2.2.1, y.2.2.2.1, y.2.2.2.2⟩, hy⟩
set_option maxRecDepth 100000 in
theorem opensEvent : Opens enc Try.prog w k127 127 := by
  intro n cs x h
  obtain ⟨hl, hf⟩ := fields_of Try.underlying127 h
  have hl2 : cs.length = 12 := hl.trans (by kernel_rfl)
  obtain ⟨y, hy⟩ := pk (fk (t := 4) (o := 0) (s := 1) (opens_bool Try.underlying4) (by kernel_rfl) (hf 0 _ rfl)) (pk (fk (t := 3) (o := 1) (s := 1) (opens_int Try.underlying3) (by kernel_rfl) (hf 1 _ rfl)) (pk (fk (t := 74) (o := 2) (s := 5) opensCall (by kernel_rfl) (hf 2 _ rfl)) (lk (s := 5) hl2 (fk (t := 76) (o := 7) (s := 5) opensAnswer (by kernel_rfl) (hf 3 _ rfl)))))
  rw [List.drop_zero] at hy
  exact ⟨⟨y.1, y.2.1, y.2.2.1, y.2.2.2⟩, hy⟩
set_option maxRecDepth 100000 in
theorem openEvents {base : Nat} {d : DataW H} {p : List MemPlace} {W : World} {v : Value} (hv : Value.okWide Try.prog W .any base 63 v)
    (h : DataW.Trod enc Try.prog W 0 (fun _ => true) true 63 v d p) : ∃ (A : Option Addr) (c : Nat) (l : List S127), v = .slice A l.length c ∧ l.length ≤ c ∧ Kd.C k127 W A l.length l :=
  open_arg (d := k127) (e := 127) (t := 63) Try.underlying63 (by kernel_rfl) opensEvent h hv
set_option maxRecDepth 100000 in
theorem opensRefOp : Opens enc Try.prog w k78 80 := by
  intro n cs x h
  obtain ⟨hl, hf⟩ := fields_of Try.underlying80 h
  have hl2 : cs.length = 14 := hl.trans (by kernel_rfl)
  obtain ⟨y, hy⟩ := pk (fk (t := 3) (o := 0) (s := 1) (opens_int Try.underlying3) (by kernel_rfl) (hf 0 _ rfl)) (pk (fk (t := 74) (o := 1) (s := 5) opensCall (by kernel_rfl) (hf 1 _ rfl)) (pk (fk (t := 76) (o := 6) (s := 5) opensAnswer (by kernel_rfl) (hf 2 _ rfl)) (pk (fk (t := 4) (o := 11) (s := 1) (opens_bool Try.underlying4) (by kernel_rfl) (hf 3 _ rfl)) (pk (fk (t := 3) (o := 12) (s := 1) (opens_int Try.underlying3) (by kernel_rfl) (hf 4 _ rfl)) (lk (s := 1) hl2 (fk (t := 3) (o := 13) (s := 1) (opens_int Try.underlying3) (by kernel_rfl) (hf 5 _ rfl)))))))
  rw [List.drop_zero] at hy
  exact ⟨⟨y.1, y.2.1, y.2.2.1, y.2.2.2.1, y.2.2.2.2.1, y.2.2.2.2.2⟩, hy⟩
theorem open_struct {α : Type} {d : Kd α} {t : TypeId} {fs : Array Field} {P : Program} {W : World} (hs : P.underlying t = some (.struct fs)) (he : Opens enc P W d t) {r : Reach} {b0 : Nat} {v : Value} {x : DataW H} {p : List MemPlace} (hv : Value.okWide P W r b0 t v) (h : DataW.Trod enc P W 0 (fun _ => true) true t v x p) :
    ∃ (a : α) (cs : List Value), v = .agg cs.toArray ∧ d.K W a cs := by
  obtain ⟨cs, rfl, _⟩ := okWide_struct hs hv
  obtain ⟨n, hf⟩ := h
  obtain ⟨a, ha⟩ := he _ _ _ hf
  exact ⟨a, cs.toList, by simp, by simpa [Value.cells] using ha⟩
set_option maxRecDepth 100000 in
theorem openCallV {base : Nat} {d : DataW H} {p : List MemPlace} {W : World} {v : Value} (hv : Value.okWide Try.prog W .any base 74 v)
    (h : DataW.Trod enc Try.prog W 0 (fun _ => true) true 74 v d p) : ∃ x : S74, v = .agg #[.int .i64 x.f0, .string x.f1, .string x.f2, .string x.f3, .int .i64 x.f4] := by
  obtain ⟨a, cs, rfl, hK⟩ := open_struct Try.underlying74 opensCall hv h
  exact ⟨a, by rw [k74_open hK]⟩
set_option maxRecDepth 100000 in
theorem openAnswerV {base : Nat} {d : DataW H} {p : List MemPlace} {W : World} {v : Value} (hv : Value.okWide Try.prog W .any base 76 v)
    (h : DataW.Trod enc Try.prog W 0 (fun _ => true) true 76 v d p) : ∃ x : S76, v = .agg #[.int .i64 x.f0, .bool x.f1, .string x.f2, .string x.f3, .int .i64 x.f4] := by
  obtain ⟨a, cs, rfl, hK⟩ := open_struct Try.underlying76 opensAnswer hv h
  exact ⟨a, by rw [k76_open hK]⟩
set_option maxRecDepth 100000 in
theorem openRefOpV {base : Nat} {d : DataW H} {p : List MemPlace} {W : World} {v : Value} (hv : Value.okWide Try.prog W .any base 80 v)
    (h : DataW.Trod enc Try.prog W 0 (fun _ => true) true 80 v d p) : ∃ x : S78, v = .agg #[.int .i64 x.f0, .int .i64 x.f1.f0, .string x.f1.f1, .string x.f1.f2, .string x.f1.f3, .int .i64 x.f1.f4, .int .i64 x.f2.f0, .bool x.f2.f1, .string x.f2.f2, .string x.f2.f3, .int .i64 x.f2.f4, .bool x.f3, .int .i64 x.f4, .int .i64 x.f5] := by
  obtain ⟨a, cs, rfl, hK⟩ := open_struct Try.underlying80 opensRefOp hv h
  exact ⟨a, by rw [k78_open hK]⟩
end
end Go.Proofs.Ytipdhjdlfdbkiaa.PHistAhead
