/- Layer 9: the chapter's example (works), and the laws ArenaNone and ArenaNew: their walks. -/
import Derived.Test.YtbbdhefipbepdaaArenaIntC
import Derived.Test.YtbbdhefipbepdaaArenaIntNone
namespace Go.Proofs.Ytbbdhefipbepdaa.Law09
set_option linter.unusedSimpArgs false
set_option linter.unusedVariables false
open Go.RowKit Go.Proofs Go.Proofs.Ytbbdhefipbepdaa.Heap Go.Proofs.Ytbbdhefipbepdaa.Refs Go.Proofs.Ytbbdhefipbepdaa.ArenaM Go.Proofs.Ytbbdhefipbepdaa.ArenaInt

/-- An arena in memory of the law's own, from block B on; nothing below B has changed since W. -/
structure Own (B : Nat) (W w : World) (p bs : Nat) (fv : Value) (A : AM Int) (M : Nat) : Prop where
  ar : Ar w p bs fv A
  ok : A.Ok M
  foot : ∀ k, Foot p bs fv k → B ≤ k
  below : Below B W w
  size : B ≤ w.heap.size

theorem Own.after {B : Nat} {W w w' : World} {p bs M M' : Nat} {fv : Value} {A A' : AM Int} (h : Own B W w p bs fv A M) (ha : After p bs fv A' w w') (ok : A'.Ok M') : ∃ fv', Own B W w' p bs fv' A' M' := by
  obtain ⟨fv', h1, h2, h3⟩ := ha
  refine ⟨fv', h1, ok, fun k hk => ?_, h.below.trans (h2.below h.foot h.size), Nat.le_trans h.size h2.size⟩
  rcases h3 k hk with h4 | h4
  · exact h.foot k h4
  · have := h.size; omega
theorem Own.drewN {B : Nat} {W w : World} {p bs M n : Nat} {fv : Value} {A : AM Int} (h : Own B W w p bs fv A M) : Own B W (w.drewN n) p bs fv A M := ⟨h.ar.drewN, h.ok, h.foot, below_drewN h.below n, h.size⟩

theorem own_new {w : World} (n : Nat) (hn : n ≤ 1000) :
    Calls Try.prog 36 #[.int .i64 n] w fun e w' => ∃ p bs fv, e = .returned (.tuple #[.pointer (some ⟨p, 0, none⟩), .int .i64 0]) ∧ Own w.heap.size w w' p bs fv (AM.init n 0) 0 := by
  refine (c_new n hn).mono ?_
  rintro e w' ⟨p, bs, he, ha, hb, h1, h2⟩
  refine ⟨p, bs, _, he, ha, AM.init_ok n 0 hn 0, ?_, hb, hb.size⟩
  intro k hk
  rcases hk with rfl | rfl | hk
  · exact h1
  · exact h2
  · cases hk

theorem own_take {B : Nat} {W w : World} {p bs M : Nat} {fv : Value} {A : AM Int} (h : Own B W w p bs fv A M) (hM : M < 4503599627370496) {i : Nat} {x v : Int} (hi : nextI A = some i) (hv : (taken A i x).ref i = v) :
    Calls Try.prog 38 #[.pointer (some ⟨p, 0, none⟩), .int .i64 x] w fun e w' => e = .returned (.tuple #[.int .i64 v, .int .i64 0]) ∧ ∃ fv', Own B W w' p bs fv' (taken A i x) (M + 1) := by
  subst hv
  exact (c_take h.ar h.ok hM hi).mono fun e w' ⟨he, ha⟩ => ⟨he, h.after ha (taken_ok h.ok x hi)⟩
theorem own_take_full {B : Nat} {W w : World} {p bs M : Nat} {fv : Value} {A : AM Int} (h : Own B W w p bs fv A M) {x : Int} (hi : nextI A = none) :
    Calls Try.prog 38 #[.pointer (some ⟨p, 0, none⟩), .int .i64 x] w fun e w' => e = .returned (.tuple #[.int .i64 0, .int .i64 7]) ∧ ∃ fv', Own B W w' p bs fv' A M :=
  (c_take_full h.ar h.ok hi).mono fun e w' ⟨he, ha⟩ => ⟨he, h.after ha h.ok⟩
theorem own_free {B : Nat} {W w : World} {p bs M : Nat} {fv : Value} {A : AM Int} (h : Own B W w p bs fv A M) {r : Int} (hw : -9223372036854775808 ≤ r ∧ r ≤ 9223372036854775807) {i : Nat} (hl : A.Live r i) :
    Calls Try.prog 41 #[.pointer (some ⟨p, 0, none⟩), .int .i64 r] w fun e w' => e = .returned (.int .i64 0) ∧ ∃ fv', Own B W w' p bs fv' (A.free i 0) M :=
  (c_free h.ar h.ok hw hl).mono fun e w' ⟨he, ha⟩ => ⟨he, h.after ha (AM.free_ok h.ok i 0 hl.us)⟩
theorem own_free_dead {B : Nat} {W w : World} {p bs M : Nat} {fv : Value} {A : AM Int} (h : Own B W w p bs fv A M) {r : Int} (hw : -9223372036854775808 ≤ r ∧ r ≤ 9223372036854775807) (hd : A.Dead r) :
    Calls Try.prog 41 #[.pointer (some ⟨p, 0, none⟩), .int .i64 r] w fun e w' => e = .returned (.int .i64 9) ∧ ∃ fv', Own B W w' p bs fv' A M :=
  (c_free_dead h.ar h.ok hw hd).mono fun e w' ⟨he, ha⟩ => ⟨he, h.after ha h.ok⟩

def m0 : AM Int := AM.init 2 0
def m1 : AM Int := taken m0 0 7
def m2 : AM Int := taken m1 1 8
def m3 : AM Int := m2.free 0 0
theorem m2_live : m2.Live 1025 0 := ⟨by decide +kernel, by decide +kernel, by decide +kernel, by decide +kernel⟩

set_option maxHeartbeats 2000000 in
theorem works_calls (w : World) : Calls Try.prog 37 #[] w fun e w' => e = .returned (.bool true) ∧ Below w.heap.size w w' := by
  go_enter Try.func37, Try.ntmps37
  go_wp2_with fail
  refine (own_new 2 (by omega)).mono ?_
  rintro e w1 ⟨p, bs, fv, rfl, h1⟩
  go_wp2_with fail
  refine (own_take (i := 0) (v := 1025) h1 (by omega) (by decide +kernel) (by decide +kernel)).mono ?_
  rintro e w2 ⟨rfl, fv2, h2⟩
  clear h1
  go_wp2_with fail
  refine (own_take (i := 1) (v := 1026) h2 (by omega) (by decide +kernel) (by decide +kernel)).mono ?_
  rintro e w3 ⟨rfl, fv3, h3⟩
  clear h2
  go_wp2_with fail
  refine (own_free (i := 0) h3 (by omega) m2_live).mono ?_
  rintro e w4 ⟨rfl, fv4, h4⟩
  clear h3
  go_wp2_with fail
  refine (own_take (i := 0) (v := 2049) h4 (by omega) (by decide +kernel) (by decide +kernel)).mono ?_
  rintro e w5 ⟨rfl, fv5, h5⟩
  clear h4
  go_wp2
  go_ret
  exact ⟨rfl, h5.below⟩

set_option maxHeartbeats 2000000 in
theorem none_walk (w : World) (n : Int) (hn : -9223372036854775808 ≤ n ∧ n ≤ 9223372036854775807) :
    Calls Try.prog 10 #[.int .i64 n] w fun e w' => e = .returned (.bool true) ∧ Below w.heap.size w w' := by
  go_enter Try.func10, Try.ntmps10
  go_wp2_with (first
    | (go_at_call 37; refine (works_calls _).mono ?_; rintro e w1 ⟨rfl, hb⟩)
    | (go_at_call 62; refine (slot_calls n _ hn).mono ?_; rintro e w' ⟨rfl, h⟩; obtain rfl := h)
    | go_in)

  go_ret
  exact ⟨rfl, ((Below.refl _ _).alloc (Nat.le_refl _) _).trans (hb.mono (by simp))⟩
end Go.Proofs.Ytbbdhefipbepdaa.Law09
