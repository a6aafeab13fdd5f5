/- The law TrapAll: its walk. -/
import Derived.Test.YtipdhjdlfdbkiaaTrapR
namespace Go.Proofs.Ytipdhjdlfdbkiaa.TrapS
set_option linter.unusedSimpArgs false
set_option linter.unusedVariables false
open Go.RowKit Go.Proofs Go.Proofs.Ytipdhjdlfdbkiaa.Heap Go.Proofs.Ytipdhjdlfdbkiaa.Refs Go.Proofs.Ytipdhjdlfdbkiaa.ArenaM Go.Proofs.Ytipdhjdlfdbkiaa.ArenaInt Go.Proofs.Ytipdhjdlfdbkiaa.TOwn Go.Proofs.Ytipdhjdlfdbkiaa.RefArena Go.Proofs.Ytipdhjdlfdbkiaa.Trap
open Go.Proofs.YtipdhjdlfdbkiaaW.PrintWords
theorem cellC {kk : IntKind} {w : World} {A : Option Addr} {n : Nat} {xs : List Int} (h : Kd.C (Kd.int kk) w A n xs) {j : Nat} {x : Int} (hx : xs[j]? = some x) : ∃ ad, A = some ad ∧ w.cell? (ad.add j) = some (.int kk x) := by
  obtain ⟨h1, h2, h3⟩ := h
  have hj := (List.getElem?_eq_some_iff.1 hx).1
  obtain ⟨ad, rfl, h4⟩ := h3 (by omega)
  obtain ⟨c, hc, hk, hu⟩ := h4 j x hx
  obtain rfl : c = [.int kk x] := hk
  have := hu 0 (.int kk x) rfl
  refine ⟨ad, rfl, ?_⟩
  have e : j * (Kd.int kk).sz + 0 = j := by show j * 1 + 0 = j; omega
  rw [e] at this
  exact this
theorem ints_take {w : World} {AL : Option Addr} {ll : List Int} {cl : Nat} (hl : Kd.C (Kd.int .i64) w AL ll.length ll) (hcl : ll.length ≤ cl) (m : Nat) (hm : m ≤ ll.length) (hm20 : m ≤ 20) :
    Calls Try.prog 12 #[.slice AL m cl] w fun e w' => ∃ v, e = .returned v ∧ Kd.R (Kd.int .i64) 3 w' w.heap.size (fun _ => True) v (ll.take m) ∧ Below w.heap.size w w' := by
  have ht : (ll.take m).length = m := by rw [List.length_take]; omega
  have hc := Kd.C_take hl hm
  have := PTrapAll.boscagebase_Ints.calls AL cl (ll.take m) (ll.take m) w hc (by omega) (by
    unfold PTrapAll.boscagebase_Ints.f
    rw [Option.bind_some, if_pos (by simp only [List.length_nil]; omega), List.nil_append])
  rw [ht] at this
  exact this
theorem refs_tells (l : List Int) (hl : l.length ≤ 20) : PTrapAll.boscagelaw10_refs.f 25 l = some l := by
  have hs : ∀ (d i k : Nat), l.length - i = d → i ≤ l.length → d < k → PTrapAll.boscagelaw10_refs.l0 k l (l.take i) (i : Int) = some l := by
    intro d
    induction d with
    | zero =>
      intro i k hd hi hk
      obtain ⟨k, rfl⟩ : ∃ m, k = m + 1 := ⟨k - 1, by omega⟩
      simp only [PTrapAll.boscagelaw10_refs.l0]
      rw [if_neg (by omega), List.take_of_length_le (by omega)]
    | succ d ih =>
      intro i k hd hi hk
      obtain ⟨k, rfl⟩ : ∃ m, k = m + 1 := ⟨k - 1, by omega⟩
      simp only [PTrapAll.boscagelaw10_refs.l0]
      have hil : i < l.length := by omega
      have hr : rd l (i : Int) = l[i] := by unfold rd; rw [Int.toNat_natCast, List.getD_eq_getElem?_getD, List.getElem?_eq_getElem hil]; rfl
      rw [if_pos (by omega), if_pos (by omega), if_pos (by omega), if_pos (by rw [List.length_take]; omega), hr, List.take_append_getElem hil, show wrap64 ((i : Int) + 1) = ((i + 1 : Nat) : Int) from by unfold wrap64; omega]
      exact ih (i + 1) k (by omega) (by omega) (by omega)
  exact hs l.length 0 25 (by omega) (by omega) (by omega)
set_option maxRecDepth 100000 in
set_option maxHeartbeats 8000000 in
theorem trapall_walk (w : World) (AV AF AL : Option Addr) (lv lf ll : List Int) (cv cf cl : Nat) (hv : Kd.C (Kd.int .i64) w AV lv.length lv) (hf : Kd.C (Kd.int .u8) w AF lf.length lf) (hl : Kd.C (Kd.int .i64) w AL ll.length ll) (hcl : ll.length ≤ cl)
    (hu8 : ∀ (j : Nat) (x : Int), lf[j]? = some x → 0 ≤ x ∧ x ≤ 255) (hi64 : ∀ (j : Nat) (x : Int), ll[j]? = some x → -9223372036854775808 ≤ x ∧ x ≤ 9223372036854775807) :
    Calls Try.prog 3 #[.slice AV lv.length cv, .slice AF lf.length cf, .slice AL ll.length cl] w fun e w' => e = .returned (.bool true) ∧ Below w.heap.size w w' := by
  obtain ⟨n, hn⟩ : ∃ n : Nat, n = min ll.length 20 := ⟨_, rfl⟩
  have hn20 : n ≤ 20 := by omega
  have hnl : n ≤ ll.length := by omega
  have hncl : n ≤ cl := by omega
  have HMIN := Lib.hid (show min ((ll.length : Nat) : Int) 20 = (n : Int) by omega)
  have HV := Lib.hid hv
  have HF := Lib.hid hf
  have HL := Lib.hid hl
  have HU := Lib.hid hu8
  have HI := Lib.hid hi64
  have hll : ll.length ≤ 9223372036854775807 := hl.2.1
  clear hn hv hf hl hu8 hi64
  go_enter Try.func3, Try.ntmps3
  go_upto_region 1 with (fail)
  have HIN := Lib.hid (fun m h1 h2 => ints_take HL.out hcl m h1 h2)
  go_cut [2] (fun s2 wc => Kd.R (Kd.int .i64) 3 wc w.heap.size (fun _ => True) s2 (ll.take n) ∧ Below w.heap.size w wc)
  case first =>
    by_cases h20 : ll.length ≤ 20
    · go_wp2_with (go_at_call 12; refine (HIN.out ll.length (Nat.le_refl _) h20).mono ?_; rintro e w1 ⟨v, rfl, hr, hb⟩)
      all_goals go_meet
      all_goals exact ⟨(by have := HMIN.out; obtain rfl : n = ll.length := (by omega); exact hr), hb⟩
    · go_wp2_with (go_at_call 12; refine (HIN.out 20 (by omega) (by omega)).mono ?_; rintro e w1 ⟨v, rfl, hr, hb⟩)
      all_goals go_meet
      all_goals exact ⟨(by have := HMIN.out; obtain rfl : n = 20 := (by omega); exact hr), hb⟩
  case rest =>
    obtain ⟨hr, hb⟩ := hcut
    obtain ⟨A1, c1, hs2, hlc, hC1⟩ := Kd.R_reads hr
    subst hs2
    obtain ⟨l1, hl1⟩ : ∃ l1, l1 = ll.take n := ⟨_, rfl⟩
    have hl20 : l1.length ≤ 20 := by rw [hl1, List.length_take]; omega
    have HI1 := Lib.hid (show ∀ (j : Nat) (x : Int), l1[j]? = some x → -9223372036854775808 ≤ x ∧ x ≤ 9223372036854775807 from fun j x hx => by
      rw [hl1, List.getElem?_take] at hx
      split at hx
      · exact HI.out j x hx
      · cases hx)
    rw [← hl1] at hlc hC1 ⊢
    have HB := Lib.hid hb
    have HC1 := Lib.hid hC1
    have hM := made_walk wc AV AF lv lf cv cf (fun j x hx => cellC (Kd.C_below HV.out hb) hx) (fun j x hx => by
      obtain ⟨ad, e1, e2⟩ := cellC (Kd.C_below HF.out hb) hx
      exact ⟨ad, e1, e2, HU.out j x hx⟩) HV.out.2.1 HF.out.2.1
    have HM := Lib.hid hM
    clear hM hr hb hC1 hl1 HV HF HL HU HI HIN HMIN
    go_wp2_with fail
    refine HM.out.mono ?_
    rintro e w2 ⟨p, bs, fv, A, M, p2, bs2, fv2, q, bv, bi, bb, rv, rfl, hT, hM12⟩
    have HT := Lib.hid hT
    clear hT HM
    have HC2 := Lib.hid (Kd.C_below HC1.out HT.out.own.below)
    have HRF := Lib.hid (PTrapAll.boscagelaw10_refs.calls 25 A1 c1 l1 l1 w2 HC2.out hlc (refs_tells l1 hl20))
    go_wp2_with fail
    refine HRF.out.mono ?_
    rintro e w3 ⟨v3, rfl, hr3, hb3⟩
    obtain ⟨A3, c3, hs3, hlc3, hC3⟩ := Kd.R_reads hr3
    subst hs3
    have HC3 := Lib.hid hC3
    have HT3 := Lib.hid (HT.out.fresh hb3)
    have HC3b := Lib.hid (Kd.C_below HC2.out hb3)
    clear hr3 hb3 hC3 HRF HC2 HC1 HT
    obtain ⟨d, vs, hd, hvs, hend⟩ := live_prefix A l1
    have HVS := Lib.hid hvs
    have HEND := Lib.hid hend
    clear hvs hend
    have HALL := Lib.hid (all_calls w3 p bs M fv A l1 vs d c3 A3 HT3.out.own.ar HT3.out.own.ok (fun j r hj => cellC HC3.out hj) (by omega) HI1.out hd HVS.out HEND.out)
    go_wp2_with fail
    refine HALL.out.mono ?_
    rintro e w4 ⟨hb4, hcase⟩
    have HT4 := Lib.hid (HT3.out.fresh hb4)
    have HC4 := Lib.hid (Kd.C_below HC3b.out hb4)
    have HREF := Lib.hid (refall_calls w4 q bv bi bb M rv A l1 vs d c1 A1 HT4.out.br HT4.out.own.ok (fun j r hj => cellC HC4.out hj) (by omega) HI1.out hd HVS.out HEND.out)
    clear hb4 HT3 HC3b HC3 HALL
    rcases hcase with ⟨hdl, v4, rfl, hrow4⟩ | ⟨r, hr, rfl⟩
    · have R4 := Lib.hid hrow4
      clear hrow4
      go_wp2_with fail
      refine HREF.out.mono ?_
      rintro e w5 ⟨hb5, ⟨_, v5, rfl, hrow5⟩ | ⟨r, hr, _⟩⟩
      · have HT5 := Lib.hid (HT4.out.fresh hb5)
        have R5 := Lib.hid hrow5
        have R45 := Lib.hid ((Step.ofBelow (F := fun _ => False) hb5 fun k hk hk2 => by omega).row R4.out (fun _ _ f => f))
        clear hrow5 hb5 HREF R4 HT4 HC4
        have hlen0 : (vs.take d).length = d := by have := R45.out.1; simpa [vals] using this
        have HLEN := Lib.hid hlen0
        have HDL := Lib.hid hdl
        clear hlen0 hdl
        have q4 := rowC (l := vs.take d) (by rw [HLEN.out]; exact R45.out)
        have q5 := rowC (l := vs.take d) (by rw [HLEN.out]; exact R5.out)
        have hle : (vs.take d).length ≤ 1000000 := by rw [HLEN.out]; omega
        clear R45 R5 HLEN
        generalize vs.take d = ys at q4 q5 hle
        obtain ⟨B4, e4, hv4, g4, C4⟩ := q4
        obtain ⟨B5, e5, hv5, g5, C5⟩ := q5
        subst hv4
        subst hv5
        have HSM := Lib.hid (same_list C4 g4 C5 g5 hle)
        clear C4 C5 hle
        go_wp2_with fail
        refine HSM.out.mono ?_
        rintro e w6 ⟨rfl, hb6⟩
        have HT6 := Lib.hid (HT5.out.fresh hb6)
        clear hb6 HT5 HSM
        go_wp2_with fail
        refine (works_calls _).mono ?_
        rintro e w7 ⟨rfl, hb7⟩
        have HT7 := Lib.hid (HT6.out.fresh hb7)
        clear hb7 HT6
        go_wp2
        go_ret
        exact ⟨rfl, HB.out.trans (HT7.out.own.below.mono HB.out.size)⟩
      · rw [hdl, List.getElem?_eq_none (Nat.le_refl _)] at hr; cases hr
    · go_wp2_with fail
      refine HREF.out.mono ?_
      rintro e w5 ⟨hb5, ⟨hdl, _⟩ | ⟨r2, hr2, rfl⟩⟩
      · rw [hdl, List.getElem?_eq_none (Nat.le_refl _)] at hr; cases hr
      · obtain rfl : r = r2 := by rw [hr] at hr2; exact Option.some.inj hr2
        have HT5 := Lib.hid (HT4.out.fresh hb5)
        clear hb5 HREF HT4 HC4
        have HSM := Lib.hid (same_list (w := w5) (l := []) (A1 := none) (A2 := none) (c1 := 0) (c2 := 0) ⟨rfl, by simp, fun h => absurd h (by simp)⟩ (by simp) ⟨rfl, by simp, fun h => absurd h (by simp)⟩ (by simp) (by simp))
        go_wp2_with fail
        refine HSM.out.mono ?_
        rintro e w6 ⟨rfl, hb6⟩
        have HT6 := Lib.hid (HT5.out.fresh hb6)
        clear hb6 HT5 HSM
        go_wp2_with fail
        refine (works_calls _).mono ?_
        rintro e w7 ⟨rfl, hb7⟩
        have HT7 := Lib.hid (HT6.out.fresh hb7)
        clear hb7 HT6
        go_wp2
        go_ret
        exact ⟨rfl, HB.out.trans (HT7.out.own.below.mono HB.out.size)⟩
end Go.Proofs.Ytipdhjdlfdbkiaa.TrapS
