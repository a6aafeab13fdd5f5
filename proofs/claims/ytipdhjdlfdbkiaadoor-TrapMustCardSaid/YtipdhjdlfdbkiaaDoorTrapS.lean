/- Layer 10: the three arenas of 'made' in memory, and the steps that keep them. -/
import Derived.Test.YtipdhjdlfdbkiaaDoorTrapAll
import Derived.Test.YtipdhjdlfdbkiaaDoorArenaRefC
import Derived.Test.YtipdhjdlfdbkiaaDoorRefArenaC
namespace Go.Proofs.YtipdhjdlfdbkiaaDoor.TrapS
set_option linter.unusedSimpArgs false
set_option linter.unusedVariables false
open Go.RowKit Go.Proofs Go.Proofs.YtipdhjdlfdbkiaaDoor.Heap Go.Proofs.YtipdhjdlfdbkiaaDoor.Refs Go.Proofs.YtipdhjdlfdbkiaaDoor.ArenaM Go.Proofs.YtipdhjdlfdbkiaaDoor.ArenaInt Go.Proofs.YtipdhjdlfdbkiaaDoor.TOwn Go.Proofs.YtipdhjdlfdbkiaaDoor.RefArena Go.Proofs.YtipdhjdlfdbkiaaDoor.Trap

structure TSt (B : Nat) (W w : World) (p bs : Nat) (fv : Value) (A : AM Int) (M : Nat) (p2 bs2 : Nat) (fv2 : Value) (A2 : AM Int) (q bv bi bb : Nat) (rv : Value) (A3 : AM Int) : Prop where
  own : Own B W w p bs fv A M
  ar2 : ArenaRef.Ar w p2 bs2 fv2 A2
  foot2 : ∀ k, ArenaRef.Foot p2 bs2 fv2 k → B ≤ k
  br : Br w q bv bi bb rv A3
  rfoot : ∀ k, RFoot q bv bi bb rv k → B ≤ k
  d12 : ∀ k, Foot p bs fv k → ¬ ArenaRef.Foot p2 bs2 fv2 k
  d13 : ∀ k, Foot p bs fv k → ¬ RFoot q bv bi bb rv k
  d23 : ∀ k, ArenaRef.Foot p2 bs2 fv2 k → ¬ RFoot q bv bi bb rv k

section
variable {B M : Nat} {W w w1 : World} {p bs p2 bs2 q bv bi bb : Nat} {fv fv2 rv : Value} {A A2 A3 : AM Int}

theorem TSt.after1 {M' : Nat} {A' : AM Int} (h : TSt B W w p bs fv A M p2 bs2 fv2 A2 q bv bi bb rv A3) (ha : After p bs fv A' w w1) (ok : A'.Ok M') : ∃ fv', TSt B W w1 p bs fv' A' M' p2 bs2 fv2 A2 q bv bi bb rv A3 := by
  obtain ⟨fv', h1, h2, h3⟩ := ha
  refine ⟨fv', ⟨h1, ok, ?_, h.own.below.trans (h2.below h.own.foot h.own.size), Nat.le_trans h.own.size h2.size⟩, h.ar2.step h2 (fun k hk hf => h.d12 k hf hk), h.foot2, h.br.step h2 (fun k hk hf => h.d13 k hf hk), h.rfoot, ?_, ?_, h.d23⟩
  · intro k hk
    rcases h3 k hk with h4 | h4
    · exact h.own.foot k h4
    · have := h.own.size; omega
  · intro k hk hr
    rcases h3 k hk with h4 | h4
    · exact h.d12 k h4 hr
    · have := h.ar2.lt k hr; omega
  · intro k hk hr
    rcases h3 k hk with h4 | h4
    · exact h.d13 k h4 hr
    · have := h.br.lt k hr; omega
theorem TSt.after2 {A' : AM Int} (h : TSt B W w p bs fv A M p2 bs2 fv2 A2 q bv bi bb rv A3) (ha : ArenaRef.After p2 bs2 fv2 A' w w1) : ∃ fv', TSt B W w1 p bs fv A M p2 bs2 fv' A' q bv bi bb rv A3 := by
  obtain ⟨fv', h1, h2, h3⟩ := ha
  refine ⟨fv', Own.step h.own h2 (fun k hk hr => h.d12 k hk hr) h.foot2, h1, ?_, h.br.step h2 (fun k hk hf => h.d23 k hf hk), h.rfoot, ?_, h.d13, ?_⟩
  · intro k hk
    rcases h3 k hk with h4 | h4
    · exact h.foot2 k h4
    · have := h.own.size; omega
  · intro k hk hr
    rcases h3 k hr with h4 | h4
    · exact h.d12 k hk h4
    · have := h.own.ar.lt k hk; omega
  · intro k hk hr
    rcases h3 k hk with h4 | h4
    · exact h.d23 k h4 hr
    · have := h.br.lt k hr; omega
theorem TSt.after3 {A' : AM Int} (h : TSt B W w p bs fv A M p2 bs2 fv2 A2 q bv bi bb rv A3) (ha : RAfter q bv bi bb rv A' w w1) : ∃ rv', TSt B W w1 p bs fv A M p2 bs2 fv2 A2 q bv bi bb rv' A' := by
  obtain ⟨rv', h1, h2, h3⟩ := ha
  refine ⟨rv', Own.step h.own h2 (fun k hk hr => h.d13 k hk hr) h.rfoot, h.ar2.step h2 (fun k hk hr => h.d23 k hk hr), h.foot2, h1, ?_, h.d12, ?_, ?_⟩
  · intro k hk
    rcases h3 k hk with h4 | h4
    · exact h.rfoot k h4
    · have := h.own.size; omega
  · intro k hk hr
    rcases h3 k hr with h4 | h4
    · exact h.d13 k hk h4
    · have := h.own.ar.lt k hk; omega
  · intro k hk hr
    rcases h3 k hr with h4 | h4
    · exact h.d23 k hk h4
    · have := h.ar2.lt k hk; omega
theorem TSt.step (h : TSt B W w p bs fv A M p2 bs2 fv2 A2 q bv bi bb rv A3) (hs : Step (fun _ => False) w w1) : TSt B W w1 p bs fv A M p2 bs2 fv2 A2 q bv bi bb rv A3 :=
  ⟨Own.step h.own hs (fun _ _ hf => hf) (fun _ hf => hf.elim), h.ar2.step hs (fun _ _ hf => hf), h.foot2, h.br.step hs (fun _ _ hf => hf), h.rfoot, h.d12, h.d13, h.d23⟩
theorem TSt.fresh (h : TSt B W w p bs fv A M p2 bs2 fv2 A2 q bv bi bb rv A3) (hb : Below w.heap.size w w1) : TSt B W w1 p bs fv A M p2 bs2 fv2 A2 q bv bi bb rv A3 :=
  h.step (Step.ofBelow hb fun k hk hk2 => by omega)
theorem TSt.drewN {n : Nat} (h : TSt B W w p bs fv A M p2 bs2 fv2 A2 q bv bi bb rv A3) : TSt B W (w.drewN n) p bs fv A M p2 bs2 fv2 A2 q bv bi bb rv A3 := h.step ((Step.refl _ w).drewN n)

theorem t_take1 {i : Nat} {x : Int} (h : TSt B W w p bs fv A M p2 bs2 fv2 A2 q bv bi bb rv A3) (hM : M < 4503599627370496) (hi : nextI A = some i) :
    Calls Tryd.prog 13 #[.pointer (some ⟨p, 0, none⟩), .int .i64 x] w fun e w' => e = .returned (.tuple #[.int .i64 ((taken A i x).ref i), .int .i64 0]) ∧ ∃ fv', TSt B W w' p bs fv' (taken A i x) (M + 1) p2 bs2 fv2 A2 q bv bi bb rv A3 :=
  (c_take h.own.ar h.own.ok hM hi).mono fun e w' ⟨he, ha⟩ => ⟨he, h.after1 ha (taken_ok h.own.ok x hi)⟩
theorem t_take2 {i : Nat} {x : Int} (h : TSt B W w p bs fv A M p2 bs2 fv2 A2 q bv bi bb rv A3) {M2 : Nat} (ok : A2.Ok M2) (hM : M2 < 4503599627370496) (hi : nextI A2 = some i) :
    Calls Tryd.prog 14 #[.pointer (some ⟨p2, 0, none⟩), .int .i64 x] w fun e w' => e = .returned (.tuple #[.int .i64 ((taken A2 i x).ref i), .int .i64 0]) ∧ ∃ fv', TSt B W w' p bs fv A M p2 bs2 fv' (taken A2 i x) q bv bi bb rv A3 :=
  (ArenaRef.c_take h.ar2 ok hM hi).mono fun e w' ⟨he, ha⟩ => ⟨he, h.after2 ha⟩
theorem t_take3 {i : Nat} {x : Int} (h : TSt B W w p bs fv A M p2 bs2 fv2 A2 q bv bi bb rv A3) {M2 : Nat} (ok : A3.Ok M2) (hM : M2 < 4503599627370496) (hi : nextI A3 = some i) :
    Calls Tryd.prog 15 #[.pointer (some ⟨q, 0, none⟩), .int .i64 x] w fun e w' => e = .returned (.tuple #[.int .i64 ((taken A3 i x).ref i), .int .i64 0]) ∧ ∃ rv', TSt B W w' p bs fv A M p2 bs2 fv2 A2 q bv bi bb rv' (taken A3 i x) :=
  (r_take h.br ok hM hi).mono fun e w' ⟨he, ha⟩ => ⟨he, h.after3 ha⟩
theorem t_free1 {i : Nat} {r : Int} (h : TSt B W w p bs fv A M p2 bs2 fv2 A2 q bv bi bb rv A3) (hw : -9223372036854775808 ≤ r ∧ r ≤ 9223372036854775807) (hl : A.Live r i) :
    Calls Tryd.prog 16 #[.pointer (some ⟨p, 0, none⟩), .int .i64 r] w fun e w' => e = .returned (.int .i64 0) ∧ ∃ fv', TSt B W w' p bs fv' (A.free i 0) M p2 bs2 fv2 A2 q bv bi bb rv A3 :=
  (c_free h.own.ar h.own.ok hw hl).mono fun e w' ⟨he, ha⟩ => ⟨he, h.after1 ha (AM.free_ok h.own.ok i 0 hl.us)⟩
theorem t_dead1 {r : Int} (h : TSt B W w p bs fv A M p2 bs2 fv2 A2 q bv bi bb rv A3) (hw : -9223372036854775808 ≤ r ∧ r ≤ 9223372036854775807) (hd : A.Dead r) :
    Calls Tryd.prog 16 #[.pointer (some ⟨p, 0, none⟩), .int .i64 r] w fun e w' => e = .returned (.int .i64 9) ∧ ∃ fv', TSt B W w' p bs fv' A M p2 bs2 fv2 A2 q bv bi bb rv A3 :=
  (c_free_dead h.own.ar h.own.ok hw hd).mono fun e w' ⟨he, ha⟩ => ⟨he, h.after1 ha h.own.ok⟩
theorem t_free2 {i : Nat} {r : Int} (h : TSt B W w p bs fv A M p2 bs2 fv2 A2 q bv bi bb rv A3) {M2 : Nat} (ok : A2.Ok M2) (hw : -9223372036854775808 ≤ r ∧ r ≤ 9223372036854775807) (hl : A2.Live r i) :
    Calls Tryd.prog 17 #[.pointer (some ⟨p2, 0, none⟩), .int .i64 r] w fun e w' => e = .returned (.int .i64 0) ∧ ∃ fv', TSt B W w' p bs fv A M p2 bs2 fv' (A2.free i 0) q bv bi bb rv A3 :=
  (ArenaRef.c_free h.ar2 ok hw hl).mono fun e w' ⟨he, ha⟩ => ⟨he, h.after2 ha⟩
theorem t_dead2 {r : Int} (h : TSt B W w p bs fv A M p2 bs2 fv2 A2 q bv bi bb rv A3) {M2 : Nat} (ok : A2.Ok M2) (hw : -9223372036854775808 ≤ r ∧ r ≤ 9223372036854775807) (hd : A2.Dead r) :
    Calls Tryd.prog 17 #[.pointer (some ⟨p2, 0, none⟩), .int .i64 r] w fun e w' => e = .returned (.int .i64 9) ∧ ∃ fv', TSt B W w' p bs fv A M p2 bs2 fv' A2 q bv bi bb rv A3 :=
  (ArenaRef.c_free_dead h.ar2 ok hw hd).mono fun e w' ⟨he, ha⟩ => ⟨he, h.after2 ha⟩
theorem t_free3 {i : Nat} {r : Int} (h : TSt B W w p bs fv A M p2 bs2 fv2 A2 q bv bi bb rv A3) {M2 : Nat} (ok : A3.Ok M2) (hw : -9223372036854775808 ≤ r ∧ r ≤ 9223372036854775807) (hl : A3.Live r i) :
    Calls Tryd.prog 18 #[.pointer (some ⟨q, 0, none⟩), .int .i64 r] w fun e w' => e = .returned (.int .i64 0) ∧ ∃ rv', TSt B W w' p bs fv A M p2 bs2 fv2 A2 q bv bi bb rv' (A3.free i 0) :=
  (r_free h.br ok hw hl).mono fun e w' ⟨he, ha⟩ => ⟨he, h.after3 ha⟩
theorem t_dead3 {r : Int} (h : TSt B W w p bs fv A M p2 bs2 fv2 A2 q bv bi bb rv A3) {M2 : Nat} (ok : A3.Ok M2) (hw : -9223372036854775808 ≤ r ∧ r ≤ 9223372036854775807) (hd : A3.Dead r) :
    Calls Tryd.prog 18 #[.pointer (some ⟨q, 0, none⟩), .int .i64 r] w fun e w' => e = .returned (.int .i64 9) ∧ ∃ rv', TSt B W w' p bs fv A M p2 bs2 fv2 A2 q bv bi bb rv' A3 :=
  (r_free_dead h.br ok hw hd).mono fun e w' ⟨he, ha⟩ => ⟨he, h.after3 ha⟩
end
end Go.Proofs.YtipdhjdlfdbkiaaDoor.TrapS
