/- The law TrapChain: its walk. -/
import Derived.Test.YtipdhjdlfdbkiaaTrapCR
namespace Go.Proofs.Ytipdhjdlfdbkiaa.TrapS
set_option linter.unusedSimpArgs false
set_option linter.unusedVariables false
open Go.RowKit Go.Proofs Go.Proofs.Ytipdhjdlfdbkiaa.Heap Go.Proofs.Ytipdhjdlfdbkiaa.Refs Go.Proofs.Ytipdhjdlfdbkiaa.ArenaM Go.Proofs.Ytipdhjdlfdbkiaa.ArenaInt Go.Proofs.Ytipdhjdlfdbkiaa.TOwn Go.Proofs.Ytipdhjdlfdbkiaa.RefArena Go.Proofs.Ytipdhjdlfdbkiaa.Trap
open Go.Proofs.YtipdhjdlfdbkiaaW.PrintWords
theorem cellC {kk : IntKind} {w : World} {A : Option Addr} {n : Nat} {xs : List Int} (h : Kd.C (Kd.int kk) w A n xs) {j : Nat} {x : Int} (hx : xs[j]? = some x) : ∃ ad, A = some ad ∧ w.cell? (ad.add j) = some (.int kk x) := by
  obtain ⟨h1, h2, h3⟩ := h
  have hj := (List.getElem?_eq_some_iff.1 hx).1
  obtain ⟨ad, rfl, h4⟩ := h3 (by omega)
  obtain ⟨c, hc, hk, hu⟩ := h4 j x hx
  obtain rfl : c = [.int kk x] := hk
  have := hu 0 (.int kk x) rfl
  refine ⟨ad, rfl, ?_⟩
  have e : j * (Kd.int kk).sz + 0 = j := by show j * 1 + 0 = j; omega
  rw [e] at this
  exact this
/-- Both lists, and what is told beside each, are the same. -/
structure BothAre (w wc : World) (A1 A2 : Option Addr) (l : List Int) : Prop where
  len : l.length ≤ 30
  c1 : ∀ (j : Nat) (y : Int), l[j]? = some y → ∃ ad, A1 = some ad ∧ wc.cell? (ad.add j) = some (.int .i64 y)
  c2 : ∀ (j : Nat) (y : Int), l[j]? = some y → ∃ ad, A2 = some ad ∧ wc.cell? (ad.add j) = some (.int .i64 y)
  below : Below w.heap.size w wc
def BothIs (w wc : World) (s12 s13 s14 s15 : Value) : Prop := ∃ A1 k1 A2 k2 l x, s12 = .slice A1 l.length k1 ∧ s14 = .slice A2 l.length k2 ∧ s13 = .int .i64 x ∧ s15 = .int .i64 x ∧ BothAre w wc A1 A2 l
theorem row_list {w : World} {B e : Nat} {v : Value} {n : Nat} {l : List Int} (hn : l.length = n) (h : w.ownsRow B e 1 v n (vals l)) : ∃ A c, v = .slice A l.length c ∧ ∀ (j : Nat) (y : Int), l[j]? = some y → ∃ ad, A = some ad ∧ w.cell? (ad.add j) = some (.int .i64 y) := by
  subst hn
  rcases row_cases h with ⟨rfl, h0, _⟩ | ⟨g, cap, rfl, hg, hc, hm, hcell, _, _⟩
  · exact ⟨none, 0, by rw [h0], fun j y hj => by have := (List.getElem?_eq_some_iff.1 hj).1; omega⟩
  · refine ⟨_, cap, rfl, fun j y hj => ⟨_, rfl, ?_⟩⟩
    have := hcell j (List.getElem?_eq_some_iff.1 hj).1
    rw [Addr.add_lit, Nat.zero_add, this]
    simp [vals, hj]
theorem both_ok {w w1 w2 : World} {A : AM Int} {r : Int} {m d : Nat} {e1 e2 : Ending} (hb : Below w.heap.size w w1) (h1 : ChainSays w1 w2 A r m d e1) (hm : d ≤ m) (hm3 : m ≤ 30) :
    ∃ v1 x, e1 = .returned (.tuple #[v1, .int .i64 x]) ∧ Below w1.heap.size w1 w2 ∧ ∀ w3 e2, RChainSays w2 w3 A r m d e2 → ∃ v2, e2 = .returned (.tuple #[v2, .int .i64 x]) ∧ BothIs w w3 v1 (.int .i64 x) v2 (.int .i64 x) := by
  obtain ⟨hb1, h1⟩ := h1
  have hbw : Below w.heap.size w w2 := hb.trans (hb1.mono hb.size)
  have hnil : ∀ (w3 : World) (x : Int), Below w2.heap.size w2 w3 → BothIs w w3 (.slice none 0 0) (.int .i64 x) (.slice none 0 0) (.int .i64 x) := fun w3 x hb3 =>
    ⟨none, 0, none, 0, [], x, rfl, rfl, rfl, rfl, by simp, fun j y hj => by simp at hj, fun j y hj => by simp at hj, hbw.trans (hb3.mono hbw.size)⟩
  rcases h1 with ⟨hz, v, rfl, hr⟩ | ⟨hz, hd, rfl⟩ | ⟨hz, hd, rfl⟩
  · refine ⟨_, _, rfl, hb1, fun w3 e2 h2 => ?_⟩
    obtain ⟨hb3, h2⟩ := h2
    rcases h2 with ⟨_, v2, rfl, hr2⟩ | ⟨h, _⟩ | ⟨h, _⟩
    · refine ⟨_, rfl, ?_⟩
      obtain ⟨A1, k1, e1, g1⟩ := row_list (its_len A r d) ((Step.ofBelow (F := fun _ => False) hb3 fun k hk hk2 => by omega).row hr (fun _ _ f => f))
      obtain ⟨A2, k2, e2, g2⟩ := row_list (its_len A r d) hr2
      exact ⟨A1, k1, A2, k2, its A r d, 0, e1, e2, rfl, rfl, by rw [its_len]; omega, g1, g2, hbw.trans (hb3.mono hbw.size)⟩
    · exact absurd hz h
    · exact absurd hz h
  · refine ⟨_, _, rfl, hb1, fun w3 e2 h2 => ?_⟩
    obtain ⟨hb3, h2⟩ := h2
    rcases h2 with ⟨h, _⟩ | ⟨_, _, rfl⟩ | ⟨_, h, _⟩
    · exact absurd h hz
    · exact ⟨_, rfl, hnil w3 _ hb3⟩
    · omega
  · refine ⟨_, _, rfl, hb1, fun w3 e2 h2 => ?_⟩
    obtain ⟨hb3, h2⟩ := h2
    rcases h2 with ⟨h, _⟩ | ⟨_, h, _⟩ | ⟨_, _, rfl⟩
    · exact absurd h hz
    · omega
    · exact ⟨_, rfl, hnil w3 _ hb3⟩
/-- What the two calls of the law say, at a number of steps that is one. -/
def ChainAt (w w1 : World) (p2 q : Nat) (r mm : Int) : Prop :=
  Calls Try.prog 19 #[.pointer (some ⟨p2, 0, none⟩), .int .i64 r, .int .i64 mm] w1 fun e1 w2 => ∃ v1 x, e1 = .returned (.tuple #[v1, .int .i64 x]) ∧
    Calls Try.prog 20 #[.pointer (some ⟨q, 0, none⟩), .int .i64 r, .int .i64 mm] w2 fun e2 w3 => ∃ v2, e2 = .returned (.tuple #[v2, .int .i64 x]) ∧ BothIs w w3 v1 (.int .i64 x) v2 (.int .i64 x)
theorem chain_at {B M : Nat} {w w1 : World} {p bs p2 bs2 q bv bi bb : Nat} {fv fv2 rv : Value} {A : AM Int} (hT : TSt w.heap.size w w1 p bs fv A M p2 bs2 fv2 A q bv bi bb rv A) {r mm : Int} (hmm : mm ≤ 30) (hr : In64 r) (hv : ∀ i, In64 (A.v i)) : ChainAt w w1 p2 q r mm := by
  unfold ChainAt
  rcases Int.lt_or_le mm 0 with h0 | h0
  · refine (chain_bad w1 _ r mm h0).mono ?_
    rintro e1 w2 ⟨rfl, hb⟩
    refine ⟨_, _, rfl, (rchain_bad w2 _ r mm h0).mono ?_⟩
    rintro e2 w3 ⟨rfl, rfl⟩
    exact ⟨_, rfl, none, 0, none, 0, [], 2, rfl, rfl, rfl, rfl, by simp, fun j y hj => by simp at hj, fun j y hj => by simp at hj, hT.own.below.trans (hb.mono hT.own.size)⟩
  · obtain ⟨m, rfl⟩ : ∃ m : Nat, mm = (m : Int) := ⟨mm.toNat, by omega⟩
    obtain ⟨d, hway⟩ := way_ex A m r
    have hrng := it_in hr hv
    refine (chain_calls w1 p2 bs2 M fv2 A r m d hT.ar2 hT.own.ok hway (by omega) hrng).mono ?_
    intro e1 w2 h1
    have hT2 := hT.fresh h1.1
    obtain ⟨v1, x, he, hb2, hall⟩ := both_ok (e2 := e1) hT.own.below h1 hway.le (by omega)
    refine ⟨v1, x, he, (rchain_calls w2 q bv bi bb M rv A r m d hT2.br hT2.own.ok hway (by omega) hrng).mono ?_⟩
    intro e2 w3 h2
    exact hall w3 e2 h2
set_option maxRecDepth 100000 in
set_option maxHeartbeats 8000000 in
theorem trapchain_walk (w : World) (AV AF : Option Addr) (lv lf : List Int) (cv cf : Nat) (r most : Int) (hv : Kd.C (Kd.int .i64) w AV lv.length lv) (hf : Kd.C (Kd.int .u8) w AF lf.length lf)
    (hu8 : ∀ (j : Nat) (x : Int), lf[j]? = some x → 0 ≤ x ∧ x ≤ 255) (hi64 : ∀ (j : Nat) (x : Int), lv[j]? = some x → -9223372036854775808 ≤ x ∧ x ≤ 9223372036854775807) (hr : In64 r) (hm : In64 most) :
    Calls Try.prog 4 #[.slice AV lv.length cv, .slice AF lf.length cf, .int .i64 r, .int .i64 most] w fun e w' => e = .returned (.bool true) ∧ Below w.heap.size w w' := by
  have HM := Lib.hid (made_walk w AV AF lv lf cv cf (fun j x hx => cellC hv hx) (fun j x hx => by
      obtain ⟨ad, e1, e2⟩ := cellC hf hx
      exact ⟨ad, e1, e2, hu8 j x hx⟩) hv.2.1 hf.2.1)
  have HI := Lib.hid hi64
  clear hv hf hu8 hi64
  obtain ⟨mm, hmm, hmin⟩ : ∃ mm : Int, mm ≤ 30 ∧ (mm = most ∧ most ≤ 30 ∨ mm = 30 ∧ 30 < most) := by
    rcases Int.lt_or_le 30 most with h | h
    · exact ⟨30, by omega, .inr ⟨rfl, h⟩⟩
    · exact ⟨most, h, .inl ⟨rfl, h⟩⟩
  unfold In64 at hm
  rcases hmin with ⟨rfl, h30⟩ | ⟨rfl, h30⟩
  all_goals
    go_enter Try.func4, Try.ntmps4
    go_wp2_with fail
    refine HM.out.mono ?_
    rintro e w1 ⟨p, bs, fv, A, M, p2, bs2, fv2, q, bv, bi, bb, rv, rfl, hT, hM12, hvin⟩
    have HC := Lib.hid (chain_at (B := 0) hT hmm hr (fun i => by
      rcases hvin i with h | ⟨j, h⟩
      · rw [h]; exact ⟨by omega, by omega⟩
      · exact HI.out j _ h))
    clear hT hvin
    go_wp2_with fail
    refine HC.out.mono ?_
    rintro e1 w2 ⟨v1, x, rfl, hc2⟩
    have HC2 := Lib.hid hc2
    clear hc2
    go_wp2_with fail
    refine HC2.out.mono ?_
    rintro e2 w3 ⟨v2, rfl, A1, k1, A2, k2, l, x', rfl, rfl, hx1, hx2, hB⟩
    have HB := Lib.hid hB
    have hlen := hB.len
    clear hB HC HC2 HM hx1 hx2
    go_wp2
    go_loopw [16] (fun s16 wr => ∃ k : Nat, k ≤ l.length ∧ s16 = .int .i64 k ∧ Hid (Below w3.heap.size w3 wr)) (fun s16 _ => l.length - (intOf s16).toNat)
    case atStart => exact ⟨0, by omega, rfl, Lib.hid (Below.refl _ _)⟩
    case round =>
      obtain ⟨k, hk, rfl, HBR⟩ := hrel
      by_cases hkl : k < l.length
      · obtain ⟨y, hy⟩ : ∃ y, l[k]? = some y := ⟨_, List.getElem?_eq_getElem hkl⟩
        obtain ⟨a1, rfl, q1⟩ := HB.out.c1 k y hy
        obtain ⟨a2, rfl, q2⟩ := HB.out.c2 k y hy
        have z1 : wr.cell? (a1.add k) = some (.int .i64 y) := (HBR.out.cell (cell_lt q1)).trans q1
        have z2 : wr.cell? (a2.add k) = some (.int .i64 y) := (HBR.out.cell (cell_lt q2)).trans q2
        clear hy q1 q2
        have hk1 : (0 : Int) ≤ k := by omega
        have hk2 : (k : Int) < l.length := by omega
        go_wp2
        go_quiet (fail)
        go_wp2
        go_roundw
        case rel => exact ⟨k + 1, by omega, by go_num, Lib.hid (below_drewN HBR.out _)⟩
        case measure => simp [intOf]; omega
      · have HW := Lib.hid (works_calls wr)
        go_wp2_with fail
        refine HW.out.mono ?_
        rintro e w7 ⟨rfl, hb7⟩
        have HB7 := Lib.hid hb7
        clear hb7
        go_wp2
        go_ret
        exact ⟨rfl, (HB.out.below.trans (HBR.out.mono HB.out.below.size)).trans (HB7.out.mono (Nat.le_trans HB.out.below.size HBR.out.size))⟩
end Go.Proofs.Ytipdhjdlfdbkiaa.TrapS
