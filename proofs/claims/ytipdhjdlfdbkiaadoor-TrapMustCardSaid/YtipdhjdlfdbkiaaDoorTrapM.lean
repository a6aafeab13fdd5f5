/- Layer 10: 'made': the three arenas of the laws. -/
import Derived.Test.YtipdhjdlfdbkiaaDoorTrapS
import Derived.LoopTactic
import Derived.Deep.DeepCutAuto
import Derived.Deep.CutBlock
import Derived.OwnWalk
import Derived.IntWalk
namespace Go.Proofs.YtipdhjdlfdbkiaaDoor.TrapS
set_option linter.unusedSimpArgs false
set_option linter.unusedVariables false
open Go.RowKit Go.Proofs Go.Proofs.YtipdhjdlfdbkiaaDoor.Heap Go.Proofs.YtipdhjdlfdbkiaaDoor.Refs Go.Proofs.YtipdhjdlfdbkiaaDoor.ArenaM Go.Proofs.YtipdhjdlfdbkiaaDoor.ArenaInt Go.Proofs.YtipdhjdlfdbkiaaDoor.TOwn Go.Proofs.YtipdhjdlfdbkiaaDoor.RefArena Go.Proofs.YtipdhjdlfdbkiaaDoor.Trap
theorem next_fresh {A : AM Int} (hf : A.freed = []) (hb : A.begun < A.n) : nextI A = some A.begun := by simp [nextI, hf, hb]
theorem taken_fresh {A : AM Int} (hf : A.freed = []) (x : Int) : (taken A A.begun x).n = A.n ∧ (taken A A.begun x).freed = [] ∧ (taken A A.begun x).begun = A.begun + 1 := by simp [taken, hf, AM.put]
/-- The three arenas that made makes, anew. -/
theorem tst_new {w w1 w2 w3 : World} {n p bs p2 bs2 q bv bi bb : Nat} {fv : Value} (h1 : Own w.heap.size w w1 p bs fv (AM.init n 0) 0) (h2 : ArenaRef.Ar w2 p2 bs2 (.slice none 0 0) (AM.init n 0)) (b2 : Below w1.heap.size w1 w2) (g2 : w1.heap.size ≤ p2 ∧ w1.heap.size ≤ bs2)
    (h3 : Br w3 q bv bi bb (.slice none 0 0) (AM.init n 0)) (b3 : Below w2.heap.size w2 w3) (g3 : w2.heap.size ≤ q ∧ w2.heap.size ≤ bv ∧ w2.heap.size ≤ bi ∧ w2.heap.size ≤ bb) :
    TSt w.heap.size w w3 p bs fv (AM.init n 0) 0 p2 bs2 (.slice none 0 0) (AM.init n 0) q bv bi bb (.slice none 0 0) (AM.init n 0) := by
  have hs2 : Step (fun _ => False) w1 w2 := Step.ofBelow b2 fun k hk hk2 => by omega
  have hs3 : Step (fun _ => False) w2 w3 := Step.ofBelow b3 fun k hk hk2 => by omega
  have hz := h1.size
  have hz2 := b2.size
  have hlt := h1.ar.lt
  have hlt2 := h2.lt
  have f2 : ∀ k, ArenaRef.Foot p2 bs2 (.slice none 0 0) k → w1.heap.size ≤ k := by
    rintro k (rfl | rfl | hk)
    · exact g2.1
    · exact g2.2
    · cases hk
  have f3 : ∀ k, RFoot q bv bi bb (.slice none 0 0) k → w2.heap.size ≤ k := by
    intro k hk
    simp [RFoot, Value.ownBlock] at hk
    omega
  refine ⟨Own.step (Own.step h1 hs2 (fun _ _ f => f) (fun _ f => f.elim)) hs3 (fun _ _ f => f) (fun _ f => f.elim), h2.step hs3 (fun _ _ f => f), fun k hk => by have := f2 k hk; omega, h3, fun k hk => by have := f3 k hk; omega, ?_, ?_, ?_⟩
  · intro k h h'; have := hlt k h; have := f2 k h'; omega
  · intro k h h'; have := hlt k h; have := f3 k h'; omega
  · intro k h h'; have := hlt2 k h; have := f3 k h'; omega
/-- Each value is none, or one of those that were given. -/
def VIn (lv : List Int) (A : AM Int) : Prop := ∀ i, A.v i = 0 ∨ ∃ j : Nat, lv[j]? = some (A.v i)
theorem vin_init (lv : List Int) (n : Nat) : VIn lv (AM.init n 0) := fun i => .inl rfl
theorem vin_upd {lv : List Int} {A A' : AM Int} (h : VIn lv A) {i : Nat} {x : Int} (e : A'.v = upd A.v i x) (hx : x = 0 ∨ ∃ j : Nat, lv[j]? = some x) : VIn lv A' := by
  intro k
  rw [e]
  unfold upd
  split
  · exact hx
  · exact h k
theorem vin_taken {lv : List Int} {A : AM Int} (h : VIn lv A) {i j : Nat} {x : Int} (hx : lv[j]? = some x) : VIn lv (taken A i x) := by
  obtain ⟨l, b, e⟩ := taken_eq A i x
  rw [e]
  exact vin_upd h (i := i) (x := x) rfl (.inr ⟨j, hx⟩)
theorem vin_free {lv : List Int} {A : AM Int} (h : VIn lv A) (i : Nat) : VIn lv (A.free i 0) := vin_upd h (i := i) (x := 0) rfl (.inl rfl)
/-- What made hands back. -/
def MadeIs (lv : List Int) (w w' : World) (e : Ending) : Prop := ∃ p bs fv A M p2 bs2 fv2 q bv bi bb rv, e = .returned (.tuple #[.pointer (some ⟨p, 0, none⟩), .pointer (some ⟨p2, 0, none⟩), .pointer (some ⟨q, 0, none⟩)]) ∧ TSt w.heap.size w w' p bs fv A M p2 bs2 fv2 A q bv bi bb rv A ∧ M ≤ 12 ∧ VIn lv A
set_option maxRecDepth 100000 in
set_option maxHeartbeats 8000000 in
theorem made_walk (w : World) (AV AF : Option Addr) (lv lf : List Int) (cv cf : Nat) (hv : ∀ (j : Nat) (x : Int), lv[j]? = some x → ∃ ad, AV = some ad ∧ w.cell? (ad.add j) = some (.int .i64 x)) (hf : ∀ (j : Nat) (x : Int), lf[j]? = some x → ∃ ad, AF = some ad ∧ w.cell? (ad.add j) = some (.int .u8 x) ∧ 0 ≤ x ∧ x ≤ 255)
    (hlv : lv.length ≤ 9223372036854775807) (hlf : lf.length ≤ 9223372036854775807) :
    Calls Tryd.prog 4 #[.slice AV lv.length cv, .slice AF lf.length cf] w fun e w' => MadeIs lv w w' e := by
  have HV := Lib.hid hv
  have HF := Lib.hid hf
  clear hv hf
  obtain ⟨n, hn⟩ : ∃ n : Nat, n = min lv.length 12 := ⟨_, rfl⟩
  have hmin : min ((lv.length : Nat) : Int) 12 = (n : Int) := by omega
  have hn12 : n ≤ 12 := by omega
  have hnl : n ≤ lv.length := by omega
  have HMIN := Lib.hid hmin
  clear hmin hn
  go_enter Tryd.func4, Tryd.ntmps4
  go_upto_region 1 with (fail)
  go_cut [7] (fun s7 wc => s7 = .int .i64 n ∧ wc = w)
  case first =>
    go_wp2
    all_goals go_meet
    all_goals exact ⟨by have := HMIN.out; congr 1; omega, rfl⟩
  case rest =>
    obtain ⟨rfl, rfl⟩ := hcut
    go_wp2_with fail
    refine (own_new n (by omega)).mono ?_
    rintro e w1 ⟨p, bs, fv, rfl, h1⟩
    have H1 := Lib.hid h1
    clear h1
    go_wp2_with fail
    refine (ArenaRef.c_new n (by omega)).mono ?_
    rintro e w2 ⟨p2, bs2, rfl, h2, b2, g2, g3⟩
    have H2 := Lib.hid h2
    have B2 := Lib.hid b2
    clear h2 b2
    go_wp2_with fail
    refine (make_calls n (by omega)).mono ?_
    rintro e w3 ⟨q, bv, bi, bb, rfl, h3, b3, q1, q2, q3, q4⟩
    have HT := Lib.hid (tst_new H1.out H2.out B2.out ⟨g2, g3⟩ h3 b3 ⟨q1, q2, q3, q4⟩)
    clear h3 b3 q1 q2 q3 q4 g2 g3 H1 H2 B2
    go_wp2
    go_loopw [13] (fun s13 wr => ∃ k : Nat, k ≤ n ∧ s13 = .int .i64 k ∧ ∃ fv A fv2 rv, Hid (TSt wc.heap.size wc wr p bs fv A k p2 bs2 fv2 A q bv bi bb rv A) ∧ Hid (VIn lv A) ∧ A.n = n ∧ A.freed = [] ∧ A.begun = k) (fun s13 _ => n - (intOf s13).toNat)
    case atStart => exact ⟨0, by omega, rfl, _, _, _, _, HT, Lib.hid (vin_init lv n), rfl, rfl, rfl⟩
    case round =>
      obtain ⟨k, hk, rfl, fv1, A, fv2, rv, HS, HVI, hAn, hAf, hAb⟩ := hrel
      clear HT
      by_cases hkn : k < n
      · obtain ⟨x, hx⟩ : ∃ x, lv[k]? = some x := ⟨_, List.getElem?_eq_getElem (by omega)⟩
        obtain ⟨ad, rfl, hcell⟩ := HV.out k x hx
        have HNX := Lib.hid (next_fresh (A := A) hAf (by omega))
        have HTK := Lib.hid (taken_fresh (A := A) hAf x)
        have HOK := Lib.hid HS.out.own.ok
        have HAB := Lib.hid hAb
        have HAN := Lib.hid hAn
        have HVJ := Lib.hid (vin_taken (i := A.begun) HVI.out hx)
        clear hAf hAb hAn hx
        have z0 : wr.cell? (ad.add k) = some (.int .i64 x) := (HS.out.own.below.cell (cell_lt hcell)).trans hcell
        go_wp2_with fail
        refine (t_take1 (x := x) HS.out (by omega) HNX.out).mono ?_
        rintro e w4 ⟨rfl, fv4, h4⟩
        have z4 : w4.cell? (ad.add k) = some (.int .i64 x) := (h4.own.below.cell (cell_lt hcell)).trans hcell
        have H4 := Lib.hid h4
        clear h4 z0
        go_wp2_with fail
        refine (t_take2 (x := x) H4.out HOK.out (by omega) HNX.out).mono ?_
        rintro e w5 ⟨rfl, fv5, h5⟩
        have z5 : w5.cell? (ad.add k) = some (.int .i64 x) := (h5.own.below.cell (cell_lt hcell)).trans hcell
        have H5 := Lib.hid h5
        clear h5 z4 H4
        go_wp2_with fail
        refine (t_take3 (x := x) H5.out HOK.out (by omega) HNX.out).mono ?_
        rintro e w6 ⟨rfl, rv6, h6⟩
        have H6 := Lib.hid h6
        clear h6 z5 H5
        go_wp2
        go_roundw
        case rel => exact ⟨k + 1, by omega, by go_num, _, _, _, _, H6, by rw [HAB.out] at HVJ ⊢; exact HVJ, HTK.out.1.trans HAN.out, HTK.out.2.1, by rw [HTK.out.2.2, HAB.out]⟩
        case measure => simp [intOf]; omega
      · obtain rfl : k = n := by omega
        have hM : k ≤ 12 := hn12
        have HS0 := Lib.hid (show ∃ M fv A fv2 rv, TSt wc.heap.size wc wr p bs fv A M p2 bs2 fv2 A q bv bi bb rv A ∧ M ≤ 12 ∧ VIn lv A from ⟨_, _, _, _, _, HS.out, hn12, HVI.out⟩)
        clear HS hAn hAf hAb
        go_wp2
        go_loopw [14] (fun s14 wr2 => ∃ f : Nat, f ≤ lf.length ∧ f ≤ 12 ∧ s14 = .int .i64 f ∧ Hid (∃ M fv A fv2 rv, TSt wc.heap.size wc wr2 p bs fv A M p2 bs2 fv2 A q bv bi bb rv A ∧ M ≤ 12 ∧ VIn lv A)) (fun s14 _ => 12 - (intOf s14).toNat)
        case atStart => exact ⟨0, by omega, by omega, rfl, HS0⟩
        case round =>
          obtain ⟨f, hf1, hf2, rfl, HS⟩ := hrel
          clear HS0
          by_cases hc : f < lf.length ∧ f < 12 ∧ 0 < k
          · obtain ⟨c1, c2, c3⟩ := hc
            obtain ⟨y, hy⟩ : ∃ y, lf[f]? = some y := ⟨_, List.getElem?_eq_getElem (by omega)⟩
            obtain ⟨ad, rfl, hcell, y0, y1⟩ := HF.out f y hy
            obtain ⟨M, fv1, A, fv2, rv, hs, hM12, hvi⟩ := HS.out
            have HVI2 := Lib.hid hvi
            clear hvi
            have HT := Lib.hid hs
            clear hs hy HS
            have z0 : wr.cell? (ad.add f) = some (.int .u8 y) := (HT.out.own.below.cell (cell_lt hcell)).trans hcell
            have k0 : ¬ ((k : Int) = 0) := by omega
            go_wp2_with fail
            have hrr : -9223372036854775808 ≤ wrap64 (1025 + y % (k : Int)) ∧ wrap64 (1025 + y % (k : Int)) ≤ 9223372036854775807 := by unfold wrap64; omega
            have HOK := Lib.hid HT.out.own.ok
            generalize wrap64 (1025 + y % (k : Int)) = r at hrr ⊢
            rcases A.live_or r with ⟨j, hl⟩ | hd
            · refine (t_free1 HT.out hrr hl).mono ?_
              rintro e w4 ⟨rfl, fv4, h4⟩
              have H4 := Lib.hid h4
              clear h4 z0
              go_wp2_with fail
              refine (t_free2 H4.out HOK.out hrr hl).mono ?_
              rintro e w5 ⟨rfl, fv5, h5⟩
              have H5 := Lib.hid h5
              clear h5 H4
              go_wp2_with fail
              refine (t_free3 H5.out HOK.out hrr hl).mono ?_
              rintro e w6 ⟨rfl, rv6, h6⟩
              have H6 := Lib.hid h6
              clear h6 H5
              go_wp2
              go_roundw
              case rel => exact ⟨f + 1, by omega, by omega, by go_num, Lib.hid ⟨M, _, _, _, _, H6.out, hM12, vin_free HVI2.out j⟩⟩
              case measure => simp [intOf]; omega
            · refine (t_dead1 HT.out hrr hd).mono ?_
              rintro e w4 ⟨rfl, fv4, h4⟩
              have H4 := Lib.hid h4
              clear h4 z0
              go_wp2_with fail
              refine (t_dead2 H4.out HOK.out hrr hd).mono ?_
              rintro e w5 ⟨rfl, fv5, h5⟩
              have H5 := Lib.hid h5
              clear h5 H4
              go_wp2_with fail
              refine (t_dead3 H5.out HOK.out hrr hd).mono ?_
              rintro e w6 ⟨rfl, rv6, h6⟩
              have H6 := Lib.hid h6
              clear h6 H5
              go_wp2
              go_roundw
              case rel => exact ⟨f + 1, by omega, by omega, by go_num, Lib.hid ⟨M, _, _, _, _, H6.out, hM12, HVI2.out⟩⟩
              case measure => simp [intOf]; omega
          · by_cases e1 : f < lf.length
            · by_cases e2 : f < 12
              · obtain rfl : k = 0 := by omega
                go_wp2
                go_ret3
                obtain ⟨M, fv1, A, fv2, rv, hs, hM12, hvi⟩ := HS.out
                exact ⟨p, bs, fv1, A, M, p2, bs2, fv2, q, bv, bi, bb, rv, rfl, hs, hM12, hvi⟩
              · go_wp2
                go_ret3
                obtain ⟨M, fv1, A, fv2, rv, hs, hM12, hvi⟩ := HS.out
                exact ⟨p, bs, fv1, A, M, p2, bs2, fv2, q, bv, bi, bb, rv, rfl, hs, hM12, hvi⟩
            · go_wp2
              go_ret3
              obtain ⟨M, fv1, A, fv2, rv, hs, hM12, hvi⟩ := HS.out
              exact ⟨p, bs, fv1, A, M, p2, bs2, fv2, q, bv, bi, bb, rv, rfl, hs, hM12, hvi⟩
end Go.Proofs.YtipdhjdlfdbkiaaDoor.TrapS
