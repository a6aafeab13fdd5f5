/- The law ArenaNever: its walk. -/
import Derived.Test.YtbbdhefipbepdaaNeverS
import Derived.LoopTactic
import Derived.Deep.DeepCutAuto
import Derived.Deep.CutBlock
import Derived.OwnWalk
import Derived.IntWalk
import Derived.Test.YtbbdhefipbepdaaStop
import Derived.Test.YtbbdhefipbepdaaHeap2
import Derived.Deep.RegionLaw
namespace Go.Proofs.Ytbbdhefipbepdaa.Never
set_option linter.unusedSimpArgs false
set_option linter.unusedVariables false
open Go.RowKit Go.Proofs Go.Proofs.Ytbbdhefipbepdaa.Heap Go.Proofs.Ytbbdhefipbepdaa.Refs Go.Proofs.Ytbbdhefipbepdaa.ArenaM Go.Proofs.Ytbbdhefipbepdaa.ArenaInt Go.Proofs.Ytbbdhefipbepdaa.Law09 Go.Proofs.Ytbbdhefipbepdaa.Base Go.Proofs.Ytbbdhefipbepdaa.Stops

theorem vals_len (l : List Int) : (vals l).length = l.length := by simp [vals]
set_option maxRecDepth 100000 in
set_option maxHeartbeats 4000000 in
theorem never_walk (w : World) (ao : Option Addr) (len cap : Nat) (z : Nat → Nat → Int) (hlc : len ≤ cap) (hcm : cap ≤ maxLen)
    (hcells : 0 < len → ∃ b off, ao = some ⟨b, off, none⟩ ∧ b < w.heap.size ∧ ∀ i, i < len → ∀ j, j < 3 → w.cell? ⟨b, off + i * 3 + j, none⟩ = some (.int .i64 (z i j))) :
    Calls Try.prog 8 #[.slice ao len cap] w fun e w' => e = .returned (.bool true) ∧ Below w.heap.size w w' := by
  obtain ⟨i0, hi, hz0, hz1, hz2⟩ := info_parts info_ref
  have HI := Lib.hid hi
  have HZ0 := Lib.hid hz0
  have HZ1 := Lib.hid hz1
  have HZ2 := Lib.hid hz2
  have HC := Lib.hid hcells
  clear hi hz0 hz1 hz2 hcells
  unfold maxLen at hcm
  go_enter Try.func8, Try.ntmps8
  go_wp2_with (first
    | (go_at_call 36; refine (own_new 5 (by omega)).mono ?_; rintro e w1 ⟨p, bs, fv, rfl, hO⟩; have HO := Lib.hid hO; clear hO)
    | (go_at_call 37; refine (works_calls _).mono ?_; rintro e w2 ⟨rfl, hb⟩; have HB := Lib.hid hb; clear hb))
  have hst0 : St w.heap.size w ((w2.alloc (.cells #[] 22)).alloc (.cells #[] 22)) p bs fv (AM.init 5 0) 0 (.slice (some ⟨w2.heap.size, 0, none⟩) 0 0) [] (.slice (some ⟨w2.heap.size + 1, 0, none⟩) 0 0) [] := by
    have h1 := HO.out
    have h2 := HB.out
    have hs1 := h1.size
    have hs2 := h2.size
    have hs : Step (fun _ => False) w1 ((w2.alloc (.cells #[] 22)).alloc (.cells #[] 22)) := ((Step.ofBelow h2 fun k hk hk2 => by omega).alloc _).alloc _
    have r1 : (w2.alloc (.cells #[] 22)).ownsRow w.heap.size 22 1 (.slice (some ⟨w2.heap.size, 0, none⟩) 0 0) 0 [] := World.ownsRow_lit w2 #[] 0 (by omega) (by unfold maxLen; omega) rfl
    have r2 : ((w2.alloc (.cells #[] 22)).alloc (.cells #[] 22)).ownsRow w.heap.size 22 1 (.slice (some ⟨(w2.alloc (.cells #[] 22)).heap.size, 0, none⟩) 0 0) 0 [] := World.ownsRow_lit _ #[] 0 (by simp; omega) (by unfold maxLen; omega) rfl
    rw [World.size_alloc] at r2
    refine ⟨Own.step h1 hs (fun _ _ hf => hf) (fun _ hf => hf.elim), r1.alloc _, r2, ?_, ?_, ?_⟩
    · intro k hk hf
      have e : w2.heap.size = k := Option.some.inj hk
      have := h1.ar.lt k hf
      omega
    · intro k hk hf
      have e : w2.heap.size + 1 = k := Option.some.inj hk
      have := h1.ar.lt k hf
      omega
    · intro k hk hk2
      have e : w2.heap.size = k := Option.some.inj hk
      have e2 : w2.heap.size + 1 = k := Option.some.inj hk2
      omega
  have HST0 := Lib.hid hst0
  clear hst0
  go_loopw [5, 6, 7] (fun lv gv i wr => ∃ k : Nat, k ≤ 60 ∧ k ≤ len ∧ i = .int .i64 k ∧ ∃ fv A M S Ls Gs, St w.heap.size w wr p bs fv A M lv Ls gv Gs ∧ PI A S Ls Gs ∧ M ≤ k ∧ Gs.length ≤ k) (fun _ _ i _ => 60 - (intOf i).toNat)
  case atStart => exact ⟨0, by omega, by omega, rfl, fv, _, 0, [], [], [], HST0.out, ⟨rfl, rfl, List.nodup_nil, by intro i; simp [AM.init], rfl, by intro r hr; cases hr⟩, Nat.le_refl _, Nat.le_refl _⟩
  case round =>
    obtain ⟨k, hk60, hkl, rfl, fv1, A, M, S, Ls, Gs, hst, hpi, hM, hG⟩ := hrel
    have hll := hpi.len hst.own.ok
    have hLs : Ls.length ≤ 5 := by omega
    obtain ⟨la, lcap, rfl⟩ := row_form hst.live
    obtain ⟨ga, gcap, rfl⟩ := row_form hst.gone
    have HST := Lib.hid hst
    have HPI := Lib.hid hpi
    clear hst hpi HST0 HO HB hll
    by_cases hc : k < len ∧ k < 60
    · obtain ⟨hkn, hk6⟩ := hc
      obtain ⟨b, off, rfl, hblt, hz⟩ := HC.out (by omega)
      have z0 : wr.cell? ⟨b, off + k * 3, none⟩ = some (.int .i64 (z k 0)) := (HST.out.own.below.cell (p := ⟨b, off + k * 3, none⟩) hblt).trans (hz k hkn 0 (by omega))
      have z1 : wr.cell? ⟨b, off + k * 3 + 1, none⟩ = some (.int .i64 (z k 1)) := (HST.out.own.below.cell (p := ⟨b, off + k * 3 + 1, none⟩) hblt).trans (hz k hkn 1 (by omega))
      have z2 : wr.cell? ⟨b, off + k * 3 + 2, none⟩ = some (.int .i64 (z k 2)) := (HST.out.own.below.cell (p := ⟨b, off + k * 3 + 2, none⟩) hblt).trans (hz k hkn 2 (by omega))
      clear hz
      go_upto_region 8 with (fail)
      go_cut [8] (fun s8 wc => ∃ g8, s8 = .pointer (some ⟨g8, 0, none⟩) ∧ wc.cell? ⟨g8, 0, none⟩ = some (.int .i64 (z k 0)) ∧ wc.cell? ⟨g8, 1, none⟩ = some (.int .i64 (z k 1)) ∧ wc.cell? ⟨g8, 2, none⟩ = some (.int .i64 (z k 2)) ∧ St w.heap.size w wc p bs fv1 A M (.slice la Ls.length lcap) Ls (.slice ga Gs.length gcap) Gs)
      case first =>
        go_wp2
        go_meet
        exact ⟨_, rfl, by simp, by simp, by simp, HST.out.alloc _⟩
      case rest =>
        obtain ⟨g8, rfl, x0, x1, x2, hst⟩ := hcut
        have HST := Lib.hid hst
        clear hst z0 z1 z2
        go_step
        go_step
        go_cut [5, 6] (fun lv gv wc => ∃ fv A M S Ls Gs, St w.heap.size w wc p bs fv A M lv Ls gv Gs ∧ PI A S Ls Gs ∧ M ≤ k + 1 ∧ Gs.length ≤ k + 1)
        case first =>
          have ham := among_lt (z k 0) 2 (by omega)
          by_cases hd : amongN (z k 0) 2 = 0
          · have HAM := Lib.hid (show ((amongN (z k 0) 2 : Nat) : Int) = 0 by omega)
            clear hd ham
            cases hni : nextI A with
            | some i =>
              have HNI := Lib.hid hni
              have HTO := Lib.hid (fun x => taken_ok HST.out.own.ok (i := i) x hni)
              clear hni
              go_wp2_with (first
                | (go_at_call 40; refine (among_at HAM.out (by omega) (by omega)).mono ?_; rintro e w' ⟨rfl, rfl⟩)
                | (go_at_call 38; refine (c_take HST.out.own.ar HST.out.own.ok (by omega) HNI.out).mono ?_; rintro e w2 ⟨rfl, h2⟩; obtain ⟨fv2, h2⟩ := HST.out.after h2 (HTO.out _); have H2 := Lib.hid h2; clear h2)
                | (at_builtin; refine wpList_append_own_at _ rfl (.tmp 63) (.tmp 65) 61 rfl w.heap.size 22 i0 (.int .i64 0) 1 8 Try.underlying61 HI.out HZ0.out HZ1.out HZ2.out rfl (by decide) _ _ _ rfl (H2.out.live.alloc _) ⟨w2.heap.size, 0, none⟩ 1 1 [.int .i64 ((taken A i (z k 2)).ref i)] rfl rfl (news_one (by simp)) (by intro u hu; simp at hu; subst hu; rfl) (by unfold maxLen; omega) (by omega) (by have := H2.out.own.size; simp; omega) ?_; intro v3 w3 hown3 hgrow3 hnil3 hat3; have Q1 := Lib.hid hown3; have Q2 := Lib.hid hgrow3; have Q3 := Lib.hid hat3; clear hown3 hgrow3 hnil3 hat3))
              go_meet
              exact ⟨fv2, _, M + 1, S ++ [i], Ls ++ [(taken A i (z k 2)).ref i], Gs, (H2.out.alloc _).putLive Q2.out (by rw [vals_snoc, List.length_append]; exact Q1.out) Q3.out, HPI.out.take HST.out.own.ok _ HNI.out, by omega, by omega⟩
            | none =>
              have HNI := Lib.hid hni
              clear hni
              go_wp2_with (first
                | (go_at_call 40; refine (among_at HAM.out (by omega) (by omega)).mono ?_; rintro e w' ⟨rfl, rfl⟩)
                | (go_at_call 38; refine (c_take_full HST.out.own.ar HST.out.own.ok HNI.out).mono ?_; rintro e w2 ⟨rfl, h2⟩; obtain ⟨fv2, h2⟩ := HST.out.after h2 HST.out.own.ok; have H2 := Lib.hid h2; clear h2))
              go_meet
              exact ⟨fv2, A, M, S, Ls, Gs, H2.out, HPI.out, by omega, by omega⟩
          · have HAM := Lib.hid (show ((amongN (z k 0) 2 : Nat) : Int) = 1 by omega)
            clear hd ham
            by_cases hl0 : Ls.length = 0
            · have hlb : ((Ls.length : Int) == 0) = true := by rw [beq_iff_eq]; omega
              clear hl0
              cases hni : nextI A with
              | some i =>
                have HNI := Lib.hid hni
                have HTO := Lib.hid (fun x => taken_ok HST.out.own.ok (i := i) x hni)
                clear hni
                go_wp2_with (first
                  | (go_at_call 40; refine (among_at HAM.out (by omega) (by omega)).mono ?_; rintro e w' ⟨rfl, rfl⟩)
                  | (go_at_call 38; refine (c_take HST.out.own.ar HST.out.own.ok (by omega) HNI.out).mono ?_; rintro e w2 ⟨rfl, h2⟩; obtain ⟨fv2, h2⟩ := HST.out.after h2 (HTO.out _); have H2 := Lib.hid h2; clear h2)
                  | (at_builtin; refine wpList_append_own_at _ rfl (.tmp 63) (.tmp 65) 61 rfl w.heap.size 22 i0 (.int .i64 0) 1 8 Try.underlying61 HI.out HZ0.out HZ1.out HZ2.out rfl (by decide) _ _ _ rfl (H2.out.live.alloc _) ⟨w2.heap.size, 0, none⟩ 1 1 [.int .i64 ((taken A i (z k 2)).ref i)] rfl rfl (news_one (by simp)) (by intro u hu; simp at hu; subst hu; rfl) (by unfold maxLen; omega) (by omega) (by have := H2.out.own.size; simp; omega) ?_; intro v3 w3 hown3 hgrow3 hnil3 hat3; have Q1 := Lib.hid hown3; have Q2 := Lib.hid hgrow3; have Q3 := Lib.hid hat3; clear hown3 hgrow3 hnil3 hat3))
                go_meet
                exact ⟨fv2, _, M + 1, S ++ [i], Ls ++ [(taken A i (z k 2)).ref i], Gs, (H2.out.alloc _).putLive Q2.out (by rw [vals_snoc, List.length_append]; exact Q1.out) Q3.out, HPI.out.take HST.out.own.ok _ HNI.out, by omega, by omega⟩
              | none =>
                have HNI := Lib.hid hni
                clear hni
                go_wp2_with (first
                  | (go_at_call 40; refine (among_at HAM.out (by omega) (by omega)).mono ?_; rintro e w' ⟨rfl, rfl⟩)
                  | (go_at_call 38; refine (c_take_full HST.out.own.ar HST.out.own.ok HNI.out).mono ?_; rintro e w2 ⟨rfl, h2⟩; obtain ⟨fv2, h2⟩ := HST.out.after h2 HST.out.own.ok; have H2 := Lib.hid h2; clear h2))
                go_meet
                exact ⟨fv2, A, M, S, Ls, Gs, H2.out, HPI.out, by omega, by omega⟩
            · have hlb : ((Ls.length : Int) == 0) = false := by rw [beq_eq_false_iff_ne]; omega
              have hql := among_lt (z k 1) Ls.length (by omega)
              obtain ⟨q, hqe⟩ : ∃ q, q = amongN (z k 1) Ls.length := ⟨_, rfl⟩
              rw [← hqe] at hql
              have HQ := Lib.hid (show ((amongN (z k 1) Ls.length : Nat) : Int) = (q : Int) by rw [hqe])
              clear hqe
              obtain ⟨r, hr⟩ : ∃ r, Ls[q]? = some r := ⟨Ls[q], List.getElem?_eq_getElem hql⟩
              obtain ⟨g, cap', he, hcell, hcc, hcm2⟩ := vals_cell HST.out.live rfl hr
              simp only [Value.slice.injEq] at he
              obtain ⟨he1, _, he2⟩ := he
              subst he1
              subst he2
              obtain ⟨iL, hlive, hpi2⟩ := HPI.out.free HST.out.own.ok (by omega) hr
              have hw := live_range HST.out.own.ok hlive
              have HLV := Lib.hid hlive
              have HPI2 := Lib.hid hpi2
              have HR := Lib.hid hr
              clear hr hlive hpi2
              go_wp2_with (first
                | (go_at_call 40; first | ((with_reducible refine (among_is HAM.out (by first | rfl | simp) (by omega) (by omega)).mono ?_); rintro e w' ⟨rfl, rfl⟩) | ((with_reducible refine (among_is HQ.out (by first | rfl | simp) (by omega) (by omega)).mono ?_); rintro e w' ⟨rfl, rfl⟩))
                | (go_at_call 41; refine (c_free HST.out.own.ar HST.out.own.ok hw HLV.out).mono ?_; rintro e w2 ⟨rfl, h2⟩; obtain ⟨fv2, h2⟩ := HST.out.after h2 (AM.free_ok HST.out.own.ok iL 0 HLV.out.us); obtain ⟨g2, cp2, he2, hcell2, hcc2, _⟩ := vals_cell h2.live rfl HR.out; simp only [Value.slice.injEq, Option.some.injEq, Addr.mk.injEq, and_true, true_and] at he2; obtain ⟨he3, he5⟩ := he2; subst he3; subst he5; have H2 := Lib.hid h2; clear h2)
                | (at_builtin; refine wpList_append_own_at _ rfl (.tmp 79) (.tmp 84) 61 rfl w.heap.size 22 i0 (.int .i64 0) 1 8 Try.underlying61 HI.out HZ0.out HZ1.out HZ2.out rfl (by decide) _ _ _ rfl (H2.out.gone.alloc _) ⟨w2.heap.size, 0, none⟩ 1 1 [.int .i64 r] rfl rfl (news_one (by simp)) (by intro u hu; simp at hu; subst hu; rfl) (by unfold maxLen; omega) (by omega) (by have := H2.out.own.size; simp; omega) ?_; intro v3 w3 hown3 hgrow3 hnil3 hat3; have h3 := (H2.out.alloc _).putGone (Gs' := Gs ++ [r]) hgrow3 (by rw [vals_snoc, List.length_append]; exact hown3) hat3; have H3 := Lib.hid h3; clear h3 hown3 hgrow3 hnil3 hat3))
              have hst3 := H3.out
              have hg3 := (hst3.live.lt g rfl).2
              have hrow := row_cells hst3.live
              have hLc : Ls.length = (Ls.take q).length + 1 + (Ls.drop (q + 1)).length := by simp; omega
              have hn1 : ∀ j, j < (vals (Ls.take q)).length → w3.cell? ⟨g, 0 + j, none⟩ = (vals (Ls.take q))[j]? := by
                intro j hj
                have hj' : j < q := by simp [vals] at hj; omega
                rw [Nat.zero_add, hrow j (by omega)]
                simp [vals, List.getElem?_take, hj']
              have hn2 : ∀ j, j < (vals (Ls.drop (q + 1))).length → w3.cell? ⟨g, (q + 1) + j, none⟩ = (vals (Ls.drop (q + 1)))[j]? := by
                intro j hj
                have hj' : q + 1 + j < Ls.length := by simp [vals] at hj; omega
                rw [hrow _ hj']
                simp [vals, List.getElem?_drop]
              have hoc : ∀ l : List Int, ∀ u ∈ vals l, u.oneCell' = true := by
                intro l u hu
                simp only [vals, List.mem_map] at hu
                obtain ⟨x, _, rfl⟩ := hu
                rfl
              have hB3 := hst3.own.size
              have HN1 := Lib.hid hn1
              have HN2 := Lib.hid hn2
              have HOC := Lib.hid hoc
              have hl1 : (Ls.take q).length = q := by simp; omega
              have hl2 : (Ls.drop (q + 1)).length = Ls.length - (q + 1) := by simp
              have HL1 := Lib.hid hl1
              have HL2 := Lib.hid hl2
              clear hn1 hn2 hoc hrow hst3 hLc hl1 hl2
              by_cases hcap : q + 1 = lcap
              · subst hcap
                have hqc : (q : Int) ≤ (q : Int) + 1 := by omega
                have HNE := Lib.hid (show vals (Ls.drop (q + 1)) = [] by rw [List.drop_eq_nil_of_le (by omega)]; rfl)
                have hs0 : q + 1 - (q + 1) = 0 := by omega
                have hq1 : q + 1 ≤ Ls.length := by omega
                have hwq : IntKind.i64.wrap ((q : Int) + 1) = (q : Int) + 1 := IntWalk.i64_in _ (by omega)
                have htn : ((q : Int) + 1).toNat = q + 1 := by omega
                have hbd : 0 ≤ (q : Int) + 1 ∧ (q : Int) + 1 ≤ (Ls.length : Int) := by omega
                go_region_law (first
                  | (go_loud (refine step_append_at rfl (.tmp 86) (.tmp 89) 61 rfl w3.heap.size 22 i0 (.int .i64 0) 1 8 Try.underlying61 HI.out HZ0.out HZ1.out HZ2.out rfl (by decide) (.slice (some ⟨w3.heap.size, 0, none⟩) 0 0) 0 [] (by simp [Act.eval, Act.put]) (by first | exact row_drew (World.ownsRow_lit _ #[] 0 (Nat.le_refl _) (by unfold maxLen; omega) rfl) | exact World.ownsRow_lit _ #[] 0 (Nat.le_refl _) (by unfold maxLen; omega) rfl) ⟨g, 0, none⟩ q (q + 1) (vals (Ls.take q)) (by simp [Act.eval, Act.put]) (by rw [vals_len, HL1.out, Nat.mul_one]) (news_row (w := w3) (cell_alloc (w := w3) hg3) HN1.out) (HOC.out _) (by unfold maxLen; omega) (by omega) (by simp) ?_); intro v4 w4 hown4 hgrow4 hat4; have Q1 := Lib.hid hown4; have Q2 := Lib.hid hgrow4; have Q3 := Lib.hid hat4; clear hown4 hgrow4 hat4)
                  | (go_loud (refine step_append_at rfl (.tmp 90) (.tmp 94) 61 rfl w3.heap.size 22 i0 (.int .i64 0) 1 8 Try.underlying61 HI.out HZ0.out HZ1.out HZ2.out rfl (by decide) v4 (0 + q) ([] ++ vals (Ls.take q)) (by simp [Act.eval, Act.put]) (by exact Q1.out) ⟨g, 0, none⟩ (Ls.length - (q + 1)) 0 (vals (Ls.drop (q + 1))) (by simp [Act.eval, Act.put]; try omega) (by rw [vals_len, HL2.out, Nat.mul_one]) (fun j u hj => by rw [HNE.out] at hj; simp at hj) (HOC.out _) (by unfold maxLen; omega) (by omega) (by have := Q2.out.size; simp at this; omega) ?_); intro v5 w5 hown5 hgrow5 hat5; have Q4 := Lib.hid hown5; have Q5 := Lib.hid hgrow5; have Q6 := Lib.hid hat5; clear hown5 hgrow5 hat5))
                all_goals
                  go_wp2
                  go_meet
                  refine ⟨fv2, _, M, S.eraseIdx q, Ls.take q ++ Ls.drop (q + 1), Gs ++ [r], H3.out.newLive (((((Below.refl _ _).alloc (Nat.le_refl _) _).drew).grown Q2.out (by simp) (by simp [Value.ownBlock])).grown Q5.out (by have := Q2.out.size; simp at this; omega) (fun j hj => (Q1.out.lt j hj).1)) ?_ (fun j hj => (Q4.out.lt j hj).1), HPI2.out, by omega, by simp; omega⟩
                  have := row_base Q4.out hB3
                  have e1 : (vals (Ls.take q ++ Ls.drop (q + 1))) = ([] ++ vals (Ls.take q)) ++ vals (Ls.drop (q + 1)) := by simp [vals]
                  have e2 : (Ls.take q ++ Ls.drop (q + 1)).length = 0 + q + (Ls.length - (q + 1)) := by rw [List.length_append, HL1.out, HL2.out]; omega
                  rw [e1, e2]
                  exact this
              · have hqc : q ≤ lcap := by omega
                have hqc1 : q + 1 ≤ lcap := by omega
                have hq1 : q + 1 ≤ Ls.length := by omega
                have hwq : IntKind.i64.wrap ((q : Int) + 1) = (q : Int) + 1 := IntWalk.i64_in _ (by omega)
                have htn : ((q : Int) + 1).toNat = q + 1 := by omega
                have hcap2 : ¬ lcap = q + 1 := by omega
                have hbd : 0 ≤ (q : Int) + 1 ∧ (q : Int) + 1 ≤ (Ls.length : Int) := by omega
                go_region_law (first
                  | (go_loud (refine step_append_at rfl (.tmp 86) (.tmp 89) 61 rfl w3.heap.size 22 i0 (.int .i64 0) 1 8 Try.underlying61 HI.out HZ0.out HZ1.out HZ2.out rfl (by decide) (.slice (some ⟨w3.heap.size, 0, none⟩) 0 0) 0 [] (by simp [Act.eval, Act.put]) (by first | exact row_drew (World.ownsRow_lit _ #[] 0 (Nat.le_refl _) (by unfold maxLen; omega) rfl) | exact World.ownsRow_lit _ #[] 0 (Nat.le_refl _) (by unfold maxLen; omega) rfl) ⟨g, 0, none⟩ q lcap (vals (Ls.take q)) (by simp [Act.eval, Act.put]) (by rw [vals_len, HL1.out, Nat.mul_one]) (news_row (w := w3) (cell_alloc (w := w3) hg3) HN1.out) (HOC.out _) (by unfold maxLen; omega) (by omega) (by simp) ?_); intro v4 w4 hown4 hgrow4 hat4; have Q1 := Lib.hid hown4; have Q2 := Lib.hid hgrow4; have Q3 := Lib.hid hat4; clear hown4 hgrow4 hat4)
                  | (go_loud (refine step_append_at rfl (.tmp 90) (.tmp 94) 61 rfl w3.heap.size 22 i0 (.int .i64 0) 1 8 Try.underlying61 HI.out HZ0.out HZ1.out HZ2.out rfl (by decide) v4 (0 + q) ([] ++ vals (Ls.take q)) (by simp [Act.eval, Act.put]) (by exact Q1.out) ⟨g, q + 1, none⟩ (Ls.length - (q + 1)) (lcap - (q + 1)) (vals (Ls.drop (q + 1))) (by simp [Act.eval, Act.put]) (by rw [vals_len, HL2.out, Nat.mul_one]) (news_row (w := w3) (fun j => (cell_grown Q2.out (by simp; omega) (by simp [Value.ownBlock]; omega) j).trans (cell_alloc (w := w3) hg3 j)) HN2.out) (HOC.out _) (by unfold maxLen; omega) (by omega) (by have := Q2.out.size; simp at this; omega) ?_); intro v5 w5 hown5 hgrow5 hat5; have Q4 := Lib.hid hown5; have Q5 := Lib.hid hgrow5; have Q6 := Lib.hid hat5; clear hown5 hgrow5 hat5))
                all_goals
                  go_wp2
                  go_meet
                  refine ⟨fv2, _, M, S.eraseIdx q, Ls.take q ++ Ls.drop (q + 1), Gs ++ [r], H3.out.newLive (((((Below.refl _ _).alloc (Nat.le_refl _) _).drew).grown Q2.out (by simp) (by simp [Value.ownBlock])).grown Q5.out (by have := Q2.out.size; simp at this; omega) (fun j hj => (Q1.out.lt j hj).1)) ?_ (fun j hj => (Q4.out.lt j hj).1), HPI2.out, by omega, by simp; omega⟩
                  have := row_base Q4.out hB3
                  have e1 : (vals (Ls.take q ++ Ls.drop (q + 1))) = ([] ++ vals (Ls.take q)) ++ vals (Ls.drop (q + 1)) := by simp [vals]
                  have e2 : (Ls.take q ++ Ls.drop (q + 1)).length = 0 + q + (Ls.length - (q + 1)) := by rw [List.length_append, HL1.out, HL2.out]; omega
                  rw [e1, e2]
                  exact this
        case rest =>
          obtain ⟨fv2, A2, M2, S2, Ls2, Gs2, hst, hpi, hM2, hG2⟩ := hcut
          obtain ⟨la2, lcap2, rfl⟩ := row_form hst.live
          obtain ⟨ga2, gcap2, rfl⟩ := row_form hst.gone
          have hll2 := (hpi.len hst.own.ok)
          have hLs2 : Ls2.length ≤ 5 := by omega
          have hOK := hst.own.ok
          have HOK := Lib.hid hOK
          have HST2 := Lib.hid hst
          have HPI2 := Lib.hid hpi
          clear hst hpi HST HPI hll2 hOK x0 x1 x2
          go_wp2
          go_loopw [12] (fun i wx => ∃ j : Nat, j ≤ Gs2.length ∧ i = .int .i64 j ∧ ∃ fv, St w.heap.size w wx p bs fv A2 M2 (.slice la2 Ls2.length lcap2) Ls2 (.slice ga2 Gs2.length gcap2) Gs2) (fun i _ => Gs2.length - (intOf i).toNat)
          case atStart => exact ⟨0, Nat.zero_le _, rfl, fv2, HST2.out⟩
          case round =>
            obtain ⟨j, hj, rfl, fv3, hst⟩ := hrel
            by_cases hjl : j < Gs2.length
            · obtain ⟨r, hr⟩ : ∃ r, Gs2[j]? = some r := ⟨Gs2[j], List.getElem?_eq_getElem hjl⟩
              obtain ⟨g, cp, he, hcell, hcc, _⟩ := vals_cell hst.gone rfl hr
              simp only [Value.slice.injEq, true_and] at he
              obtain ⟨he1, he2⟩ := he
              subst he1
              subst he2
              have hgone := HPI2.out.gone r (List.mem_of_getElem? hr)
              have hw := gone_range hgone HOK.out (by omega)
              have hdead := hgone.dead HOK.out (by omega)
              have HD := Lib.hid hdead
              have HS := Lib.hid hst
              clear hdead hst hgone hr
              go_wp2_with (first
                | (go_at_call 42; (with_reducible refine (c_live_dead HS.out.own.ar HOK.out hw HD.out).mono ?_); rintro e w' ⟨rfl, nq, rfl⟩)
                | (go_at_call 41; (with_reducible refine (c_free_dead (HS.out.drewN (n := nq)).own.ar HOK.out hw HD.out).mono ?_); rintro e w4 ⟨rfl, h4⟩; obtain ⟨fv4, h4⟩ := (HS.out.drewN (n := nq)).after h4 HOK.out; have H4 := Lib.hid h4; clear h4))
              go_roundw
              case rel => exact ⟨j + 1, by omega, by go_num, fv4, H4.out⟩
              case measure => simp [intOf]; omega
            · have HS := Lib.hid hst
              clear hst
              go_wp2
              go_loopw [13, 14] (fun i _ wx => ∃ j : Nat, j ≤ Ls2.length ∧ i = .int .i64 j ∧ ∃ fv, St w.heap.size w wx p bs fv A2 M2 (.slice la2 Ls2.length lcap2) Ls2 (.slice ga2 Gs2.length gcap2) Gs2) (fun i _ _ => Ls2.length - (intOf i).toNat)
              case atStart => exact ⟨0, Nat.zero_le _, rfl, fv3, HS.out⟩
              case round =>
                obtain ⟨j2, hj2, rfl, fv4, hst⟩ := hrel
                have HS4 := Lib.hid hst
                clear hst HS
                by_cases hjl2 : j2 < Ls2.length
                · obtain ⟨wo, rfl⟩ : ∃ wo : World, wo = wr := ⟨_, rfl⟩
                  go_wp2
                  go_loopw [14] (fun i wx => ∃ j : Nat, j ≤ j2 ∧ i = .int .i64 j ∧ ∃ fv, St w.heap.size w wx p bs fv A2 M2 (.slice la2 Ls2.length lcap2) Ls2 (.slice ga2 Gs2.length gcap2) Gs2) (fun i _ => j2 - (intOf i).toNat)
                  case atStart => exact ⟨0, Nat.zero_le _, rfl, fv4, HS4.out⟩
                  case round =>
                    obtain ⟨j3, hj3, rfl, fv5, hst⟩ := hrel
                    by_cases hjl3 : j3 < j2
                    · obtain ⟨r, hr⟩ : ∃ r, Ls2[j2]? = some r := ⟨Ls2[j2], List.getElem?_eq_getElem hjl2⟩
                      obtain ⟨s, hs⟩ : ∃ r, Ls2[j3]? = some r := ⟨Ls2[j3], List.getElem?_eq_getElem (by omega)⟩
                      obtain ⟨g, cp, he, hcell, hcc, _⟩ := vals_cell hst.live rfl hr
                      obtain ⟨g2, cp2, he2, hcell2, _, _⟩ := vals_cell hst.live rfl hs
                      simp only [Value.slice.injEq, true_and] at he
                      obtain ⟨he1, he3⟩ := he
                      subst he1
                      subst he3
                      simp only [Value.slice.injEq, Option.some.injEq, Addr.mk.injEq, true_and, and_true] at he2
                      obtain ⟨he4, he5⟩ := he2
                      subst he4
                      have hap := HPI2.out.apart HOK.out hjl3 hs hr
                      have hb : ((s % 1024) == (r % 1024)) = false := beq_eq_false_iff_ne.2 hap.1
                      have hs0 := hap.2.1
                      have hr0 := hap.2.2
                      have hi3 : (j3 : Int) < (Ls2.length : Int) := by omega
                      have hi2 : (j2 : Int) < (Ls2.length : Int) := by omega
                      have HS5 := Lib.hid hst
                      clear hst hap hr hs
                      go_wp2
                      go_quiet (fail)
                      go_wp2
                      go_roundw
                      case rel => exact ⟨j3 + 1, by omega, by go_num, fv5, HS5.out.drewN⟩
                      case measure => simp [intOf]; omega
                    · have HS5 := Lib.hid hst
                      clear hst
                      go_wp2
                      go_roundw
                      case rel => exact ⟨j2 + 1, by omega, by go_num, fv5, HS5.out⟩
                      case measure => simp [intOf]; omega
                · go_wp2
                  go_roundw
                  case rel => exact ⟨k + 1, by omega, by omega, by go_num, fv4, A2, M2, S2, Ls2, Gs2, HS4.out, HPI2.out, by omega, by omega⟩
                  case measure => simp [intOf]; omega
    · have hc1 : ¬ (k < len ∧ k < 60) := hc
      have hu := HPI.out.used
      have hl := (HPI.out.len HST.out.own.ok).1
      have hU : (A.used : Int) = (Ls.length : Int) := by omega
      have HU := Lib.hid hU
      clear hu hl hU hc
      by_cases hkn : k < len
      · have hk6 : ¬ k < 60 := by omega
        clear hc1
        go_wp2_with (go_at_call 39; refine (c_used HST.out.own.ar).mono ?_; rw [HU.out]; rintro e w' ⟨rfl, h⟩; obtain rfl := h)
        go_ret
        exact ⟨by simp, HST.out.own.below⟩
      · clear hc1
        go_wp2_with (go_at_call 39; refine (c_used HST.out.own.ar).mono ?_; rw [HU.out]; rintro e w' ⟨rfl, h⟩; obtain rfl := h)
        go_ret
        exact ⟨by simp, HST.out.own.below⟩
end Go.Proofs.Ytbbdhefipbepdaa.Never
