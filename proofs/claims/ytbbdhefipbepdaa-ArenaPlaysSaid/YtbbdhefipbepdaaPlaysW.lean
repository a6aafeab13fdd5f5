/- The law ArenaPlays: its walk. -/
import Derived.Test.YtbbdhefipbepdaaPlaysS
import Derived.LoopTactic
import Derived.Deep.DeepCutAuto
import Derived.Deep.CutBlock
import Derived.OwnWalk
import Derived.IntWalk
namespace Go.Proofs.Ytbbdhefipbepdaa.Plays
set_option linter.unusedSimpArgs false
set_option linter.unusedVariables false
open Go.RowKit Go.Proofs Go.Proofs.Ytbbdhefipbepdaa.Heap Go.Proofs.Ytbbdhefipbepdaa.Refs Go.Proofs.Ytbbdhefipbepdaa.ArenaM Go.Proofs.Ytbbdhefipbepdaa.ArenaInt Go.Proofs.Ytbbdhefipbepdaa.Law09 Go.Proofs.Ytbbdhefipbepdaa.RefArena Go.Proofs.Ytbbdhefipbepdaa.Never Go.Proofs.Ytbbdhefipbepdaa.Base

abbrev Rng (r : Int) : Prop := -9223372036854775808 ≤ r ∧ r ≤ 9223372036854775807
theorem ref_rng {A : AM Int} {M : Nat} (ok : A.Ok M) (hM : M ≤ 4503599627370496) {i : Nat} (hi : i < A.n) : Rng (A.ref i) := by
  have := ok.inc_le i
  have := ok.n_le
  unfold AM.ref
  omega

set_option maxRecDepth 100000 in
set_option maxHeartbeats 8000000 in
theorem plays_walk (w : World) (s8 : Nat) (hs8 : s8 < 256) (ao : Option Addr) (len cap : Nat) (z : Nat → Nat → Int) (hlc : len ≤ cap) (hcm : cap ≤ maxLen)
    (hcells : 0 < len → ∃ b off, ao = some ⟨b, off, none⟩ ∧ b < w.heap.size ∧ ∀ i, i < len → ∀ j, j < 3 → w.cell? ⟨b, off + i * 3 + j, none⟩ = some (.int .i64 (z i j)))
    (hrng : ∀ i, i < len → ∀ j, j < 3 → Rng (z i j)) :
    Calls Try.prog 9 #[.int .u8 s8, .slice ao len cap] w fun e w' => e = .returned (.bool true) ∧ Below w.heap.size w w' := by
  obtain ⟨i0, hi, hz0, hz1, hz2⟩ := info_parts info_ref
  have HI := Lib.hid hi
  have HZ0 := Lib.hid hz0
  have HZ1 := Lib.hid hz1
  have HZ2 := Lib.hid hz2
  have HC := Lib.hid hcells
  have HR := Lib.hid hrng
  clear hi hz0 hz1 hz2 hcells hrng
  unfold maxLen at hcm
  obtain ⟨n, hn⟩ : ∃ n : Nat, n = s8 % 9 := ⟨_, rfl⟩
  have hn9 : n ≤ 8 := by omega
  have hnz : ((s8 : Int) % 9) = (n : Int) := by omega
  clear hn
  go_enter Try.func9, Try.ntmps9
  go_wp2_with (first
    | (go_at_call 36; refine (own_new n (by omega)).mono ?_; rintro e w1 ⟨p, bs, fv, rfl, hO⟩; have HO := Lib.hid hO; clear hO)
    | (go_at_call 43; refine (make_calls n (by omega)).mono ?_; rintro e w2 ⟨q, bv, bi, bb, rfl, hbr, hbel, hq1, hq2, hq3, hq4⟩; have HBR := Lib.hid hbr; have HBE := Lib.hid hbel; clear hbr hbel))
  have hst0 : PSt w.heap.size w (w2.alloc (.cells #[.int .i64 1025] 22)) p bs fv (AM.init n 0) 0 q bv bi bb (.slice none 0 0) (AM.init n 0) (.slice (some ⟨w2.heap.size, 0, none⟩) 1 1) [1025] := by
    have h1 := HO.out
    have h2 := HBE.out
    have hs1 := h1.size
    have hs2 := h2.size
    have hbl := HBR.out.lt
    have hs : Step (fun _ => False) w1 (w2.alloc (.cells #[.int .i64 1025] 22)) := (Step.ofBelow h2 fun k hk hk2 => by omega).alloc _
    have hrf : ∀ k, RFoot q bv bi bb (.slice none 0 0) k → w1.heap.size ≤ k := by
      intro k hk
      rcases hk with rfl | rfl | rfl | rfl | hk
      · exact hq1
      · exact hq2
      · exact hq3
      · exact hq4
      · cases hk
    have r1 : (w2.alloc (.cells #[.int .i64 1025] 22)).ownsRow w.heap.size 22 1 (.slice (some ⟨w2.heap.size, 0, none⟩) 1 1) 1 [.int .i64 1025] := World.ownsRow_lit w2 #[.int .i64 1025] 1 (by omega) (by unfold maxLen; omega) rfl
    refine ⟨Own.step h1 hs (fun _ _ hf => hf) (fun _ hf => hf.elim), HBR.out.step ((Step.refl (fun _ => False) w2).alloc _) (fun _ _ hf => hf), fun k hk => by have := hrf k hk; omega, r1, ?_, ?_, ?_⟩
    · intro k hk hr
      have := h1.ar.lt k hk
      have := hrf k hr
      omega
    · intro k hk hf
      have e : w2.heap.size = k := Option.some.inj hk
      have := h1.ar.lt k hf
      omega
    · intro k hk hf
      have e : w2.heap.size = k := Option.some.inj hk
      have := hbl k hf
      omega
  have HST0 := Lib.hid hst0
  clear hst0 hnz
  go_loopw [9, 10] (fun tv i wr => ∃ k : Nat, k ≤ 60 ∧ k ≤ len ∧ i = .int .i64 k ∧ ∃ fv A M rv Ts, PSt w.heap.size w wr p bs fv A M q bv bi bb rv A tv Ts ∧ M ≤ k ∧ 1 ≤ Ts.length ∧ Ts.length ≤ k + 1 ∧ (∀ r, r ∈ Ts → Rng r) ∧ A.n ≤ 8) (fun _ i _ => 60 - (intOf i).toNat)
  case atStart => exact ⟨0, by omega, by omega, rfl, fv, _, 0, _, [1025], HST0.out, Nat.le_refl _, by simp, by simp, by intro r hr; simp at hr; subst hr; omega, hn9⟩
  case round =>
    obtain ⟨k, hk60, hkl, rfl, fv1, A, M, rv1, Ts, hst, hM, hT1, hT2, hTr, hA8⟩ := hrel
    obtain ⟨ta, tcap, rfl⟩ := row_form hst.taken
    have HST := Lib.hid hst
    have HTR := Lib.hid hTr
    clear hst hTr HST0 HO HBR HBE hq1 hq2 hq3 hq4
    by_cases hc : k < len ∧ k < 60
    · obtain ⟨hkn, hk6⟩ := hc
      obtain ⟨b, off, rfl, hblt, hz⟩ := HC.out (by omega)
      have z0 : wr.cell? ⟨b, off + k * 3, none⟩ = some (.int .i64 (z k 0)) := (HST.out.own.below.cell (p := ⟨b, off + k * 3, none⟩) hblt).trans (hz k hkn 0 (by omega))
      have z1 : wr.cell? ⟨b, off + k * 3 + 1, none⟩ = some (.int .i64 (z k 1)) := (HST.out.own.below.cell (p := ⟨b, off + k * 3 + 1, none⟩) hblt).trans (hz k hkn 1 (by omega))
      have z2 : wr.cell? ⟨b, off + k * 3 + 2, none⟩ = some (.int .i64 (z k 2)) := (HST.out.own.below.cell (p := ⟨b, off + k * 3 + 2, none⟩) hblt).trans (hz k hkn 2 (by omega))
      clear hz
      have hr1 := HR.out k hkn 1 (by omega)
      have HR1 := Lib.hid hr1
      clear hr1
      go_upto_region 10 with (fail)
      go_cut [11] (fun s11 wc => ∃ g8, s11 = .pointer (some ⟨g8, 0, none⟩) ∧ wc.heap[g8]? = some (.cells #[.int .i64 (z k 0), .int .i64 (z k 1), .int .i64 (z k 2)] 63 (0, 0)) ∧ PSt w.heap.size w wc p bs fv1 A M q bv bi bb rv1 A (.slice ta Ts.length tcap) Ts ∧ ¬ Foot p bs fv1 g8)
      case first =>
        go_wp2
        go_meet
        exact ⟨_, rfl, heap_alloc_at, HST.out.alloc _, fun hf => by have := HST.out.own.ar.lt _ hf; omega⟩
      case rest =>
        obtain ⟨g8, rfl, hg8, hst, hnf⟩ := hcut
        have HST := Lib.hid hst
        have HG := Lib.hid hg8
        have HNF := Lib.hid hnf
        have x0 : wc.cell? ⟨g8, 0, none⟩ = some (.int .i64 (z k 0)) := (cell_of hg8).trans rfl
        have x1 : wc.cell? ⟨g8, 1, none⟩ = some (.int .i64 (z k 1)) := (cell_of hg8).trans rfl
        have x2 : wc.cell? ⟨g8, 2, none⟩ = some (.int .i64 (z k 2)) := (cell_of hg8).trans rfl
        clear hst hg8 hnf z0 z1 z2
        obtain ⟨jq, hjq⟩ : ∃ j, j = amongN (z k 1) Ts.length := ⟨_, rfl⟩
        have hjl : jq < Ts.length := by rw [hjq]; exact among_lt _ _ hT1
        have HQ := Lib.hid (show ((amongN (z k 1) Ts.length : Nat) : Int) = (jq : Int) by rw [hjq])
        clear hjq
        obtain ⟨r, hr⟩ : ∃ r, Ts[jq]? = some r := ⟨Ts[jq], List.getElem?_eq_getElem hjl⟩
        have HRR := Lib.hid (HTR.out r (List.mem_of_getElem? hr))
        obtain ⟨g, cp, he, hcell, hcc, _⟩ := vals_cell HST.out.taken rfl hr
        simp only [Value.slice.injEq, true_and] at he
        obtain ⟨he1, he2⟩ := he
        subst he1
        subst he2
        have hji : (jq : Int) < (Ts.length : Int) := by omega
        clear hr
        go_upto_region 11 with (fail)
        go_quiet ((go_at_call 40; exact Calls.quiet_of_same ((among_is HQ.out rfl hT1 (by omega)).mono fun _ _ h => ⟨h.1, h.2.symm⟩)))
        go_upto_region 12 with (fail)
        go_cut [14] (fun s14 wd => s14 = .bool false ∧ wd.heap[g8]? = some (.cells #[.int .i64 (z k 0), .int .i64 (z k 1), .int .i64 (z k 2)] 63 (0, 0)) ∧ PSt w.heap.size w wd p bs fv1 A M q bv bi bb rv1 A (.slice (some ⟨g, 0, none⟩) Ts.length tcap) Ts)
        case first =>
          go_wp2
          go_meet
          exact ⟨rfl, HG.out, HST.out.drewN⟩
        case rest =>
          obtain ⟨rfl, hg8, hst⟩ := hcut
          have x0 : wc.cell? ⟨g8, 0, none⟩ = some (.int .i64 (z k 0)) := (cell_of hg8).trans rfl
          have x1 : wc.cell? ⟨g8, 1, none⟩ = some (.int .i64 (z k 1)) := (cell_of hg8).trans rfl
          have x2 : wc.cell? ⟨g8, 2, none⟩ = some (.int .i64 (z k 2)) := (cell_of hg8).trans rfl
          have HST := Lib.hid hst
          have HG := Lib.hid hg8
          have hlt8 := lt_of hg8
          have HOK := Lib.hid hst.own.ok
          clear hst hg8
          go_step
          go_step
          go_cut [9, 12, 14] (fun tv rr ok wc => ∃ fv A M rv Ts r', rr = .int .i64 r' ∧ ok = .bool true ∧ Rng r' ∧ PSt w.heap.size w wc p bs fv A M q bv bi bb rv A tv Ts ∧ M ≤ k + 1 ∧ 1 ≤ Ts.length ∧ Ts.length ≤ k + 2 ∧ (∀ r, r ∈ Ts → Rng r) ∧ A.n ≤ 8)
          case first =>
            have ham := among_lt (z k 0) 5 (by omega)
            by_cases hd0 : amongN (z k 0) 5 = 0
            · as_aux_lemma =>
              have HAM := Lib.hid (show ((amongN (z k 0) 5 : Nat) : Int) = 0 by omega)
              clear hd0 ham
              cases hni : nextI A with
              | some i =>
                as_aux_lemma =>
                have HNI := Lib.hid hni
                have HTO := Lib.hid (fun x => taken_ok HOK.out (i := i) x hni)
                have hnn : (taken A i (z k 2)).n = A.n := by obtain ⟨l, b, e⟩ := taken_eq A i (z k 2); rw [e]; rfl
                have hrr := ref_rng (HTO.out (z k 2)) (by omega) (i := i) (by rw [hnn]; exact next_lt HOK.out hni)
                have hrb : ((taken A i (z k 2)).ref i == (taken A i (z k 2)).ref i) = true := by simp
                have HNN := Lib.hid hnn
                have HRT := Lib.hid hrr
                clear hrr hnn hni
                go_wp2_with (first
                  | (go_at_call 40; (with_reducible refine (among_is HAM.out (by first | rfl | simp) (by omega) (by omega)).mono ?_); rintro e w' ⟨rfl, rfl⟩)
                  | (go_at_call 38; (with_reducible refine (c_take HST.out.own.ar HOK.out (by omega) HNI.out).mono ?_); rintro e w2 ⟨rfl, h2⟩; obtain ⟨fv2, h2⟩ := HST.out.arena h2 (HTO.out _); have H2 := Lib.hid h2; clear h2)
                  | (go_at_call 44; (with_reducible refine (r_take H2.out.br HOK.out (by omega) HNI.out).mono ?_); rintro e w3 ⟨rfl, h3⟩; obtain ⟨rv3, h3⟩ := H2.out.ref h3; have H3 := Lib.hid h3; clear h3)
                  | (at_builtin; go_loud (refine wpList_append_own_at _ rfl (.tmp 94) (.tmp 96) 61 rfl w.heap.size 22 i0 (.int .i64 0) 1 8 Try.underlying61 HI.out HZ0.out HZ1.out HZ2.out rfl (by decide) _ _ _ rfl (H3.out.taken.alloc _) ⟨w3.heap.size, 0, none⟩ 1 1 [.int .i64 ((taken A i (z k 2)).ref i)] rfl rfl (news_one (by simp)) (by intro u hu; simp at hu; subst hu; rfl) (by unfold maxLen; omega) (by omega) (by have := H3.out.own.size; simp; omega) ?_); intro v4 w4 hown4 hgrow4 hnil4 hat4; have Q1 := Lib.hid hown4; have Q2 := Lib.hid hgrow4; have Q3 := Lib.hid hat4; clear hown4 hgrow4 hnil4 hat4))
                go_meet
                refine ⟨fv2, _, M + 1, rv3, Ts ++ [(taken A i (z k 2)).ref i], r, rfl, rfl, HRR.out, (H3.out.alloc _).put Q2.out (by rw [vals_snoc, List.length_append]; exact Q1.out) Q3.out, by omega, by simp, by simp; omega, ?_, by rw [HNN.out]; exact hA8⟩
                intro s hs
                rcases List.mem_append.1 hs with hs | hs
                · exact HTR.out s hs
                · rw [List.mem_singleton.1 hs]; exact HRT.out
              | none =>
                as_aux_lemma =>
                have HNI := Lib.hid hni
                clear hni
                go_wp2_with (first
                  | (go_at_call 40; (with_reducible refine (among_is HAM.out (by first | rfl | simp) (by omega) (by omega)).mono ?_); rintro e w' ⟨rfl, rfl⟩)
                  | (go_at_call 38; (with_reducible refine (c_take_full HST.out.own.ar HOK.out HNI.out).mono ?_); rintro e w2 ⟨rfl, h2⟩; obtain ⟨fv2, h2⟩ := HST.out.arena h2 (HOK.out); have H2 := Lib.hid h2; clear h2)
                  | (go_at_call 44; (with_reducible refine (r_take_full H2.out.br HOK.out HNI.out).mono ?_); rintro e w3 ⟨rfl, h3⟩; obtain ⟨rv3, h3⟩ := H2.out.ref h3; have H3 := Lib.hid h3; clear h3))
                go_meet
                exact ⟨fv2, _, M, rv3, Ts, r, rfl, rfl, HRR.out, H3.out, by omega, hT1, by omega, HTR.out, hA8⟩
            · by_cases hd1 : amongN (z k 0) 5 = 1
              · as_aux_lemma =>
                have HAM := Lib.hid (show ((amongN (z k 0) 5 : Nat) : Int) = 1 by omega)
                clear hd0 hd1 ham
                rcases AM.live_or A r with ⟨iL, hlv⟩ | hdd
                · as_aux_lemma =>
                  have HLV := Lib.hid hlv
                  clear hlv
                  go_wp2_with (first
                    | (go_at_call 40; (with_reducible refine (among_is HAM.out (by first | rfl | simp) (by omega) (by omega)).mono ?_); rintro e w' ⟨rfl, rfl⟩)
                    | (go_at_call 41; (with_reducible refine (c_free HST.out.own.ar HOK.out HRR.out HLV.out).mono ?_); rintro e w2 ⟨rfl, h2⟩; obtain ⟨fv2, h2⟩ := HST.out.arena h2 (AM.free_ok HOK.out iL 0 HLV.out.us); have H2 := Lib.hid h2; clear h2)
                    | (go_at_call 45; (with_reducible refine (r_free H2.out.br HOK.out HRR.out HLV.out).mono ?_); rintro e w3 ⟨rfl, h3⟩; obtain ⟨rv3, h3⟩ := H2.out.ref h3; have H3 := Lib.hid h3; clear h3))
                  go_meet
                  exact ⟨fv2, _, M, rv3, Ts, r, rfl, rfl, HRR.out, H3.out, by omega, hT1, by omega, HTR.out, hA8⟩
                · as_aux_lemma =>
                  have HLV := Lib.hid hdd
                  clear hdd
                  go_wp2_with (first
                    | (go_at_call 40; (with_reducible refine (among_is HAM.out (by first | rfl | simp) (by omega) (by omega)).mono ?_); rintro e w' ⟨rfl, rfl⟩)
                    | (go_at_call 41; (with_reducible refine (c_free_dead HST.out.own.ar HOK.out HRR.out HLV.out).mono ?_); rintro e w2 ⟨rfl, h2⟩; obtain ⟨fv2, h2⟩ := HST.out.arena h2 (HOK.out); have H2 := Lib.hid h2; clear h2)
                    | (go_at_call 45; (with_reducible refine (r_free_dead H2.out.br HOK.out HRR.out HLV.out).mono ?_); rintro e w3 ⟨rfl, h3⟩; obtain ⟨rv3, h3⟩ := H2.out.ref h3; have H3 := Lib.hid h3; clear h3))
                  go_meet
                  exact ⟨fv2, _, M, rv3, Ts, r, rfl, rfl, HRR.out, H3.out, by omega, hT1, by omega, HTR.out, hA8⟩
              · by_cases hd2 : amongN (z k 0) 5 = 2
                · as_aux_lemma =>
                  have HAM := Lib.hid (show ((amongN (z k 0) 5 : Nat) : Int) = 2 by omega)
                  clear hd0 hd1 hd2 ham
                  rcases AM.live_or A r with ⟨iL, hlv⟩ | hdd
                  · as_aux_lemma =>
                    have HLV := Lib.hid hlv
                    clear hlv
                    have hin : (iL : Int) < (A.n : Int) := by have := HLV.out.lt; omega
                    have hge : decide ((0 : Int) ≤ (iL : Int)) = true := by simp
                    go_wp2_with (first
                      | (go_at_call 40; (with_reducible refine (among_is HAM.out (by first | rfl | simp) (by omega) (by omega)).mono ?_); rintro e w' ⟨rfl, rfl⟩)
                      | (go_at_call 46; (with_reducible refine (c_set HST.out.own.ar HOK.out HRR.out HLV.out).mono ?_); rintro e w2 ⟨rfl, h2⟩; obtain ⟨fv2, h2⟩ := HST.out.arena h2 (AM.set_ok HOK.out iL _); have H2 := Lib.hid h2; clear h2)
                      | (go_at_call 47; go_loud (refine (r_at_live H2.out.br HOK.out HRR.out HLV.out).mono ?_); rintro e w' ⟨rfl, nq2, rfl⟩; have h3 := H2.out.drewN (n := nq2); obtain ⟨c0, _, _, _, _⟩ := h3.br.cells; obtain ⟨s0, _, _, t0, _, _⟩ := h3.br.slot iL HLV.out.lt; have H3 := Lib.hid h3; clear h3))
                    obtain ⟨rv4, h4⟩ := H3.out.store (A' := A) (x := z k 2) HLV.out.lt
                    go_meet
                    exact ⟨fv2, _, M, rv4, Ts, r, rfl, rfl, HRR.out, h4, by omega, hT1, by omega, HTR.out, hA8⟩
                  · as_aux_lemma =>
                    have HLV := Lib.hid hdd
                    clear hdd
                    go_wp2_with (first
                      | (go_at_call 40; (with_reducible refine (among_is HAM.out (by first | rfl | simp) (by omega) (by omega)).mono ?_); rintro e w' ⟨rfl, rfl⟩)
                      | (go_at_call 46; (with_reducible refine (c_set_dead HST.out.own.ar HOK.out HRR.out HLV.out).mono ?_); rintro e w2 ⟨rfl, h2⟩; obtain ⟨fv2, h2⟩ := HST.out.arena h2 (HOK.out); have H2 := Lib.hid h2; clear h2)
                      | (go_at_call 47; go_loud (refine (r_at_dead H2.out.br HOK.out HRR.out HLV.out).mono ?_); rintro e w' ⟨rfl, nq2, rfl⟩))
                    go_meet
                    exact ⟨fv2, _, M, rv1, Ts, r, rfl, rfl, HRR.out, H2.out.drewN, by omega, hT1, by omega, HTR.out, hA8⟩
                · by_cases hd3 : amongN (z k 0) 5 = 3
                  · as_aux_lemma =>
                    have HAM := Lib.hid (show ((amongN (z k 0) 5 : Nat) : Int) = 3 by omega)
                    clear hd0 hd1 hd2 hd3 ham
                    rcases AM.live_or A (z k 1) with ⟨iL, hlv⟩ | hdd
                    · as_aux_lemma =>
                      have HLV := Lib.hid hlv
                      clear hlv
                      go_wp2_with (first
                        | (go_at_call 40; (with_reducible refine (among_is HAM.out (by first | rfl | simp) (by omega) (by omega)).mono ?_); rintro e w' ⟨rfl, rfl⟩))
                      have hsd := HST.out.drew
                      have HSD := Lib.hid hsd
                      clear hsd
                      go_region_with (first
                        | (go_at_call 41; (with_reducible refine (c_free HSD.out.own.ar HOK.out HR1.out HLV.out).mono ?_); rintro e w2 ⟨rfl, h2⟩; obtain ⟨_, _, hx2, _⟩ := id h2; have y1 : w2.cell? ⟨g8, 1, none⟩ = some (.int .i64 (z k 1)) := (cell_of (hx2.keeps HG.out HNF.out)).trans rfl; clear hx2; obtain ⟨fv2, h2⟩ := HSD.out.arena h2 (AM.free_ok HOK.out iL 0 HLV.out.us); have H2 := Lib.hid h2; clear h2)
                        | (go_at_call 45; (with_reducible refine (r_free H2.out.br HOK.out HR1.out HLV.out).mono ?_); rintro e w3 ⟨rfl, h3⟩; obtain ⟨rv3, h3⟩ := H2.out.ref h3; have H3 := Lib.hid h3; clear h3))
                      all_goals
                        go_wp2
                        go_meet
                        exact ⟨fv2, _, M, rv3, Ts, _, rfl, rfl, HR1.out, H3.out, by omega, hT1, by omega, HTR.out, hA8⟩
                    · as_aux_lemma =>
                      have HLV := Lib.hid hdd
                      clear hdd
                      go_wp2_with (first
                        | (go_at_call 40; (with_reducible refine (among_is HAM.out (by first | rfl | simp) (by omega) (by omega)).mono ?_); rintro e w' ⟨rfl, rfl⟩))
                      have hsd := HST.out.drew
                      have HSD := Lib.hid hsd
                      clear hsd
                      go_region_with (first
                        | (go_at_call 41; (with_reducible refine (c_free_dead HSD.out.own.ar HOK.out HR1.out HLV.out).mono ?_); rintro e w2 ⟨rfl, h2⟩; obtain ⟨_, _, hx2, _⟩ := id h2; have y1 : w2.cell? ⟨g8, 1, none⟩ = some (.int .i64 (z k 1)) := (cell_of (hx2.keeps HG.out HNF.out)).trans rfl; clear hx2; obtain ⟨fv2, h2⟩ := HSD.out.arena h2 (HOK.out); have H2 := Lib.hid h2; clear h2)
                        | (go_at_call 45; (with_reducible refine (r_free_dead H2.out.br HOK.out HR1.out HLV.out).mono ?_); rintro e w3 ⟨rfl, h3⟩; obtain ⟨rv3, h3⟩ := H2.out.ref h3; have H3 := Lib.hid h3; clear h3))
                      all_goals
                        go_wp2
                        go_meet
                        exact ⟨fv2, _, M, rv3, Ts, _, rfl, rfl, HR1.out, H3.out, by omega, hT1, by omega, HTR.out, hA8⟩
                  · as_aux_lemma =>
                    have HAM := Lib.hid (show ((amongN (z k 0) 5 : Nat) : Int) = 4 by omega)
                    clear hd0 hd1 hd2 hd3 ham
                    go_wp2_with (first
                      | (go_at_call 40; (with_reducible refine (among_is HAM.out (by first | rfl | simp) (by omega) (by omega)).mono ?_); rintro e w' ⟨rfl, rfl⟩))
                    go_meet
                    exact ⟨fv1, _, M, rv1, Ts, _, rfl, rfl, HR1.out, HST.out, by omega, hT1, by omega, HTR.out, hA8⟩
          case rest =>
            obtain ⟨fv4, A4, M4, rv4, Ts4, r4, rfl, rfl, hr4, hst, hM4, hT4, hT5, hTR4, hA4⟩ := hcut
            have HST4 := Lib.hid hst
            have HR4 := Lib.hid hr4
            have HTR4 := Lib.hid hTR4
            have HOK4 := Lib.hid hst.own.ok
            clear hst hr4 hTR4 x0 x1 x2 HST HG HOK hlt8 HNF
            have hu4 : (A4.used : Int) = (A4.all.length : Int) := by rw [all_used HOK4.out]
            have HU4 := Lib.hid hu4
            clear hu4
            obtain ⟨c0, _, _, _, _⟩ := HST4.out.br.cells
            rcases AM.live_or A4 r4 with ⟨iL, hlv⟩ | hdd
            · as_aux_lemma =>
              have HLV := Lib.hid hlv
              clear hlv
              have hin : (iL : Int) < (A4.n : Int) := by have := HLV.out.lt; omega
              obtain ⟨s0, _, _, _, _, _⟩ := HST4.out.br.slot iL HLV.out.lt
              have hvv : (A4.v iL != A4.v iL) = false := by simp
              have hal : A4.all.length ≤ 1000000 := by rw [all_used HOK4.out]; have := HOK4.out.count; have := HOK4.out.begun_le; omega
              have hune : ((A4.used : Int) != (A4.all.length : Int)) = false := by rw [HU4.out]; simp
              go_wp2_with (first
                | (go_at_call 48; go_loud (refine (c_get HST4.out.own.ar HOK4.out HR4.out HLV.out).mono ?_); rintro e w2 ⟨rfl, nq, rfl⟩)
                | (go_at_call 47; go_loud (refine (r_at_live (HST4.out.drewN (n := nq)).br HOK4.out HR4.out HLV.out).mono ?_); rintro e w' ⟨rfl, nq2, rfl⟩)
                | (go_at_call 42; go_loud (refine (c_live HST4.out.drewN.own.ar HOK4.out HR4.out HLV.out).mono ?_); rintro e w' ⟨rfl, nq3, rfl⟩)
                | (go_at_call 39; go_loud (refine (c_used HST4.out.drewN.own.ar).mono ?_); rintro e w' ⟨rfl, rfl⟩))
              refine (r_all HST4.out.drewN.br HOK4.out (by omega)).mono ?_
              rintro e w5 ⟨v5, rfl, ho5, hb5⟩
              obtain ⟨a5, c5, rfl⟩ := row_form ho5
              have H5 := Lib.hid (HST4.out.drewN.fresh hb5)
              clear ho5 hb5
              go_wp2_with (fail)
              refine (all_calls H5.out.own.ar HOK4.out (by omega)).mono ?_
              rintro e w6 ⟨v6, rfl, ho6, hb6⟩
              obtain ⟨a6, c6, rfl⟩ := row_form ho6
              have H6 := Lib.hid (H5.out.fresh hb6)
              have O6 := Lib.hid ho6
              clear ho6 hb6
              go_wp2_with (fail)
              refine (r_all H6.out.br HOK4.out (by omega)).mono ?_
              rintro e w7 ⟨v7, rfl, ho7, hb7⟩
              obtain ⟨a7, c7, rfl⟩ := row_form ho7
              have H7 := Lib.hid (H6.out.fresh hb7)
              have O6' := Lib.hid ((Step.ofBelow (F := fun _ => False) hb7 fun k hk hk2 => by omega).row O6.out (fun _ _ hf => hf))
              have O7 := Lib.hid ho7
              clear ho7 hb7
              go_wp2_with (fail)
              refine (same_calls O6'.out O7.out hal).mono ?_
              rintro e w' ⟨rfl, nq9, rfl⟩
              go_wp2
              go_roundw
              case rel => exact ⟨k + 1, by omega, by omega, by go_num, fv4, A4, M4, rv4, Ts4, H7.out.drewN, by omega, hT4, by omega, HTR4.out, hA4⟩
              case measure => simp [intOf]; omega
            · as_aux_lemma =>
              have HLV := Lib.hid hdd
              clear hdd
              have hal : A4.all.length ≤ 1000000 := by rw [all_used HOK4.out]; have := HOK4.out.count; have := HOK4.out.begun_le; omega
              have hune : ((A4.used : Int) != (A4.all.length : Int)) = false := by rw [HU4.out]; simp
              go_wp2_with (first
                | (go_at_call 48; go_loud (refine (c_get_dead HST4.out.own.ar HOK4.out HR4.out HLV.out).mono ?_); rintro e w2 ⟨rfl, nq, rfl⟩)
                | (go_at_call 47; go_loud (refine (r_at_dead (HST4.out.drewN (n := nq)).br HOK4.out HR4.out HLV.out).mono ?_); rintro e w' ⟨rfl, nq2, rfl⟩)
                | (go_at_call 42; go_loud (refine (c_live_dead HST4.out.drewN.own.ar HOK4.out HR4.out HLV.out).mono ?_); rintro e w' ⟨rfl, nq3, rfl⟩)
                | (go_at_call 39; go_loud (refine (c_used HST4.out.drewN.own.ar).mono ?_); rintro e w' ⟨rfl, rfl⟩))
              refine (r_all HST4.out.drewN.br HOK4.out (by omega)).mono ?_
              rintro e w5 ⟨v5, rfl, ho5, hb5⟩
              obtain ⟨a5, c5, rfl⟩ := row_form ho5
              have H5 := Lib.hid (HST4.out.drewN.fresh hb5)
              clear ho5 hb5
              go_wp2_with (fail)
              refine (all_calls H5.out.own.ar HOK4.out (by omega)).mono ?_
              rintro e w6 ⟨v6, rfl, ho6, hb6⟩
              obtain ⟨a6, c6, rfl⟩ := row_form ho6
              have H6 := Lib.hid (H5.out.fresh hb6)
              have O6 := Lib.hid ho6
              clear ho6 hb6
              go_wp2_with (fail)
              refine (r_all H6.out.br HOK4.out (by omega)).mono ?_
              rintro e w7 ⟨v7, rfl, ho7, hb7⟩
              obtain ⟨a7, c7, rfl⟩ := row_form ho7
              have H7 := Lib.hid (H6.out.fresh hb7)
              have O6' := Lib.hid ((Step.ofBelow (F := fun _ => False) hb7 fun k hk hk2 => by omega).row O6.out (fun _ _ hf => hf))
              have O7 := Lib.hid ho7
              clear ho7 hb7
              go_wp2_with (fail)
              refine (same_calls O6'.out O7.out hal).mono ?_
              rintro e w' ⟨rfl, nq9, rfl⟩
              go_wp2
              go_roundw
              case rel => exact ⟨k + 1, by omega, by omega, by go_num, fv4, A4, M4, rv4, Ts4, H7.out.drewN, by omega, hT4, by omega, HTR4.out, hA4⟩
              case measure => simp [intOf]; omega
    · have hc1 : ¬ (k < len ∧ k < 60) := hc
      clear hc
      by_cases hkn : k < len
      · have hk6 : ¬ k < 60 := by omega
        clear hc1
        go_wp2_with (go_at_call 37; refine (works_calls _).mono ?_; rintro e w2 ⟨rfl, hb⟩)
        go_ret
        exact ⟨rfl, HST.out.own.below.trans (hb.mono HST.out.own.size)⟩
      · clear hc1
        go_wp2_with (go_at_call 37; refine (works_calls _).mono ?_; rintro e w2 ⟨rfl, hb⟩)
        go_ret
        exact ⟨rfl, HST.out.own.below.trans (hb.mono HST.out.own.size)⟩
end Go.Proofs.Ytbbdhefipbepdaa.Plays
