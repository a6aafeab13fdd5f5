/- How a state that came in is opened: bindings, and what is held, as lists. -/
import Derived.Test.YthnococjdeafhaaDoorPModelKeepsx0
import Derived.Test.YthnococjdeafhaaDoorRowOpen
import Derived.WalkKit
import Derived.ProofKit
import Derived.OpenShut
import Derived.ShutString
import Derived.Deep.Slices
namespace Go.Proofs.YthnococjdeafhaaDoor.PModelKeeps
open Go.ChangeShapes Go.WideShapes Go.ChangeAt Go.RowKit Go.Joins Go.Deep Go.Proofs.YthnococjdeafhaaDoor.RowKitOwn Go.Proofs.YthnococjdeafhaaDoorW.PrintWords Go.Proofs.YthnococjdeafhaaDoor.RowOpen
section
variable {H : Type} {enc : TypeId × Value → H} {P : Program} {w : World}
theorem pk {α β : Type} {d : Kd α} {e : Kd β} {cs : List Value} {o s : Nat} (h1 : ∃ a, d.K w a ((cs.drop o).take s)) (h2 : ∃ b, e.K w b (cs.drop (o + s))) : ∃ x, (Kd.pair d e).K w x (cs.drop o) := by
  obtain ⟨a, ha⟩ := h1
  obtain ⟨b, hb⟩ := h2
  exact ⟨(a, b), (cs.drop o).take s, cs.drop (o + s), by rw [← List.drop_drop, List.take_append_drop], ha, hb⟩
theorem lke {α : Type} {d : Kd α} {cs : List Value} {o s : Nat} (hl : cs.length = o + s) (h1 : ∃ a, d.K w a ((cs.drop o).take s)) : ∃ a, d.K w a (cs.drop o) := by
  rw [List.take_of_length_le (by rw [List.length_drop]; omega)] at h1
  exact h1
theorem fk {α : Type} {d : Kd α} {t : TypeId} {cs : List Value} {o s : Nat} (he : Opens enc P w d t) (hc : P.cellsOf t = s) (h : ∃ m y, DataW.trod enc P w 0 (fun _ => true) true m t ((cs.drop o).take (P.cellsOf t)) = some y) : ∃ a, d.K w a ((cs.drop o).take s) := by
  obtain ⟨m, y, g⟩ := h
  rw [hc] at g
  exact he _ _ _ g
end
section
variable {H : Type} {enc : TypeId × Value → H} {w : World}
set_option maxRecDepth 100000 in
theorem opensCall : Opens enc Tryd.prog w k29 29 := by
  intro n cs x h
  obtain ⟨hl, hf⟩ := fields_of Tryd.underlying29 h
  have hl2 : cs.length = 5 := hl.trans (by kernel_rfl)
  obtain ⟨y, hy⟩ := pk (fk (t := 3) (o := 0) (s := 1) (opens_int Tryd.underlying3) (by kernel_rfl) (hf 0 _ rfl)) (pk (fk (t := 9) (o := 1) (s := 1) (opens_string Tryd.underlying9) (by kernel_rfl) (hf 1 _ rfl)) (pk (fk (t := 9) (o := 2) (s := 1) (opens_string Tryd.underlying9) (by kernel_rfl) (hf 2 _ rfl)) (pk (fk (t := 9) (o := 3) (s := 1) (opens_string Tryd.underlying9) (by kernel_rfl) (hf 3 _ rfl)) (lke (s := 1) hl2 (fk (t := 3) (o := 4) (s := 1) (opens_int Tryd.underlying3) (by kernel_rfl) (hf 4 _ rfl))))))
  rw [List.drop_zero] at hy
  exact ⟨⟨y.1, y.2.1, y.2.2.1, y.2.2.2.1, y.2.2.2.2⟩, hy⟩
set_option maxRecDepth 100000 in
theorem opensPair : Opens enc Tryd.prog w k65 65 := by
  intro n cs x h
  obtain ⟨hl, hf⟩ := fields_of Tryd.underlying65 h
  have hl2 : cs.length = 2 := hl.trans (by kernel_rfl)
  obtain ⟨y, hy⟩ := pk (fk (t := 9) (o := 0) (s := 1) (opens_string Tryd.underlying9) (by kernel_rfl) (hf 0 _ rfl)) (lke (s := 1) hl2 (fk (t := 9) (o := 1) (s := 1) (opens_string Tryd.underlying9) (by kernel_rfl) (hf 1 _ rfl)))
  rw [List.drop_zero] at hy
  exact ⟨⟨y.1, y.2⟩, hy⟩
set_option maxRecDepth 100000 in
theorem opensPairs : Opens enc Tryd.prog w (Kd.slice 65 k65) 24 := opens_slice Tryd.underlying24 (by kernel_rfl) opensPair
set_option maxRecDepth 100000 in
theorem opensHeld : Opens enc Tryd.prog w k61 61 := by
  intro n cs x h
  obtain ⟨hl, hf⟩ := fields_of Tryd.underlying61 h
  have hl2 : cs.length = 2 := hl.trans (by kernel_rfl)
  obtain ⟨y, hy⟩ := pk (fk (t := 3) (o := 0) (s := 1) (opens_int Tryd.underlying3) (by kernel_rfl) (hf 0 _ rfl)) (lke (s := 1) hl2 (fk (t := 24) (o := 1) (s := 1) opensPairs (by kernel_rfl) (hf 1 _ rfl)))
  rw [List.drop_zero] at hy
  exact ⟨⟨y.1, y.2⟩, hy⟩
set_option maxRecDepth 100000 in
theorem opensHelds : Opens enc Tryd.prog w (Kd.slice 61 k61) 25 := opens_slice Tryd.underlying25 (by kernel_rfl) opensHeld
set_option maxRecDepth 100000 in
theorem opensState : Opens enc Tryd.prog w (Kd.pair (Kd.slice 65 k65) (Kd.slice 61 k61)) 27 := by
  intro n cs x h
  obtain ⟨hl, hf⟩ := fields_of Tryd.underlying27 h
  have hl2 : cs.length = 2 := hl.trans (by kernel_rfl)
  obtain ⟨y, hy⟩ := pk (fk (t := 24) (o := 0) (s := 1) opensPairs (by kernel_rfl) (hf 0 _ rfl)) (lke (s := 1) hl2 (fk (t := 25) (o := 1) (s := 1) opensHelds (by kernel_rfl) (hf 1 _ rfl)))
  rw [List.drop_zero] at hy
  exact ⟨y, hy⟩
theorem open_struct {α : Type} {d : Kd α} {t : TypeId} {fs : Array Field} {P : Program} {W : World} (hs : P.underlying t = some (.struct fs)) (he : Opens enc P W d t) {r : Reach} {b0 : Nat} {v : Value} {x : DataW H} {p : List MemPlace} (hv : Value.okWide P W r b0 t v) (h : DataW.Trod enc P W 0 (fun _ => true) true t v x p) :
    ∃ (a : α) (cs : List Value), v = .agg cs.toArray ∧ d.K W a cs := by
  obtain ⟨cs, rfl, _⟩ := okWide_struct hs hv
  obtain ⟨n, hf⟩ := h
  obtain ⟨a, ha⟩ := he _ _ _ hf
  exact ⟨a, cs.toList, by simp, by simpa [Value.cells] using ha⟩
set_option maxRecDepth 100000 in
theorem openStateV {base : Nat} {d : DataW H} {p : List MemPlace} {W : World} {v : Value} (hv : Value.okWide Tryd.prog W .any base 27 v)
    (h : DataW.Trod enc Tryd.prog W 0 (fun _ => true) true 27 v d p) : ∃ (A0 : Option Addr) (c0 : Nat) (l0 : List S65) (A1 : Option Addr) (c1 : Nat) (l1 : List S61), v = .agg #[.slice A0 l0.length c0, .slice A1 l1.length c1] ∧ Kd.C k65 W A0 l0.length l0 ∧ l0.length ≤ c0 ∧ Kd.C k61 W A1 l1.length l1 ∧ l1.length ≤ c1 := by
  obtain ⟨a, cs, rfl, hK⟩ := open_struct Tryd.underlying27 opensState hv h
  obtain ⟨_, _, rfl, ⟨A0, c0, rfl, h1, h2⟩, ⟨A1, c1, rfl, h3, h4⟩⟩ := hK
  exact ⟨A0, c0, a.1, A1, c1, a.2, rfl, h2, h1, h4, h3⟩
set_option maxRecDepth 100000 in
theorem openCallV {base : Nat} {d : DataW H} {p : List MemPlace} {W : World} {v : Value} (hv : Value.okWide Tryd.prog W .any base 29 v)
    (h : DataW.Trod enc Tryd.prog W 0 (fun _ => true) true 29 v d p) : ∃ x : S29, v = .agg #[.int .i64 x.f0, .string x.f1, .string x.f2, .string x.f3, .int .i64 x.f4] := by
  obtain ⟨a, cs, rfl, hK⟩ := open_struct Tryd.underlying29 opensCall hv h
  exact ⟨a, by rw [k29_open hK]⟩
set_option maxRecDepth 100000 in
theorem openConfigV {base : Nat} {d : DataW H} {p : List MemPlace} {W : World} {v : Value} (hv : Value.okWide Tryd.prog W .any base 23 v)
    (h : DataW.Trod enc Tryd.prog W 0 (fun _ => true) true 23 v d p) : ∃ x0 x1 x2 x3 x4 : Int, v = .agg #[.int .i64 x0, .int .i64 x1, .int .i64 x2, .int .i64 x3, .int .i64 x4] := by
  obtain ⟨y, cs, rfl, hK⟩ := open_struct (d := Kd.pair (Kd.int .i64) (Kd.pair (Kd.int .i64) (Kd.pair (Kd.int .i64) (Kd.pair (Kd.int .i64) (Kd.int .i64))))) Tryd.underlying23 (fun n cs x h => by
    obtain ⟨hl, hf⟩ := fields_of Tryd.underlying23 h
    have hl2 : cs.length = 5 := hl.trans (by kernel_rfl)
    obtain ⟨y, hy⟩ := pk (fk (t := 3) (o := 0) (s := 1) (opens_int Tryd.underlying3) (by kernel_rfl) (hf 0 _ rfl)) (pk (fk (t := 3) (o := 1) (s := 1) (opens_int Tryd.underlying3) (by kernel_rfl) (hf 1 _ rfl)) (pk (fk (t := 3) (o := 2) (s := 1) (opens_int Tryd.underlying3) (by kernel_rfl) (hf 2 _ rfl)) (pk (fk (t := 3) (o := 3) (s := 1) (opens_int Tryd.underlying3) (by kernel_rfl) (hf 3 _ rfl)) (lke (s := 1) hl2 (fk (t := 3) (o := 4) (s := 1) (opens_int Tryd.underlying3) (by kernel_rfl) (hf 4 _ rfl))))))
    rw [List.drop_zero] at hy
    exact ⟨y, hy⟩) hv h
  obtain ⟨_, _, rfl, rfl, _, _, rfl, rfl, _, _, rfl, rfl, _, _, rfl, rfl, rfl⟩ := hK
  exact ⟨_, _, _, _, _, rfl⟩
end
end Go.Proofs.YthnococjdeafhaaDoor.PModelKeeps
