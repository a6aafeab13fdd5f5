-- printed by a program of the session (wip/hyb/mkprint.py)
import Derived.Test.YthnococjdeafhaaDoorPModelKeepsx0
import Derived.Test.YthnococjdeafhaaDoorPModelKeepsx7
import Derived.Test.YthnococjdeafhaaDoorPModelKeepsx8
namespace Go.Proofs.YthnococjdeafhaaDoor.PModelKeeps
open Go.RowKit Go.Proofs.YthnococjdeafhaaDoorW.PrintWords Go.Proofs.YthnococjdeafhaaDoorW.PrintLast Go.Proofs.YthnococjdeafhaaDoorW.PrintMore
attribute [local go_sem] max2_int min2_int max_two min_two max_three min_three max_four min_four   -- for this text's walks alone
set_option linter.unusedVariables false
set_option linter.unusedSimpArgs false

/-! ### pair_Is: function 80 -/
def pair_Is.l0 : Nat → List (S65) → Int → Int → Option (Bool)
  | 0, _, _, _ => none
  | k + 1, x0, x5, x6 => if x6 < x5 then (if x6 > 0 then (if 0 ≤ (wrap64 (x6 - 1)) then (if (wrap64 (x6 - 1)) < (x0.length : Int) then (if 0 ≤ x6 then (if x6 < (x0.length : Int) then ((order_Compare.f ((rd_T65 x0 (wrap64 (x6 - 1))).f0) ((rd_T65 x0 x6).f0)).bind fun t170 => (if t170 ≥ 0 then (some false) else (pair_Is.l0 k x0 x5 (wrap64 (x6 + 1))))) else (none)) else (none)) else (none)) else (none)) else (pair_Is.l0 k x0 x5 (wrap64 (x6 + 1)))) else (some true)
def pair_Is.f (k : Nat) (l0 : List (S65)) : Option (Bool) := pair_Is.l0 k l0 (l0.length : Int) 0
def pair_Is.T4 : Bool × List (List Nat × List Nat) := (true, [([], []), ([0], [0]), ([1], [1]), ([2], [2]), ([2], [2]), ([4, 2], [2, 4]), ([3, 5, 2], [2, 3, 5]), ([6, 2], [2, 6]), ([7, 2], [2, 7]), ([2], [2]), ([2], [2]), ([9, 10, 2], [2, 9, 10]), ([11, 2], [2, 11]), ([12, 2], [2, 12]), ([8, 13, 2, 2], [2, 8, 13]), ([14, 2], [2, 14]), ([2, 15], [2, 15])])
def pair_Is.B4 : List Nat := [0, 1, 3, 7, 7, 23, 63, 127, 255, 7, 7, 1543, 3591, 7687, 16383, 32767, 65535]
theorem pair_Is.tab4 : rtab .any (opsOf Tryd.f80 4) = pair_Is.T4 := by kernel_rfl
theorem pair_Is.bits4 : waitsOk pair_Is.T4.2 pair_Is.B4 = true := by kernel_rfl
set_option maxHeartbeats 8000000 in
set_option maxRecDepth 100000 in
theorem pair_Is.calls (k : Nat) (A0 : Option Addr) (c0 : Nat) (l0 : List (S65)) (r : Bool) (w : World) (hr0 : Kd.C k65 w A0 l0.length l0) (hc0 : l0.length ≤ c0) (h : pair_Is.f k l0 = some r) :
    Calls Tryd.prog 80 #[.slice A0 l0.length c0] w fun e w' => e = .returned (.bool r) ∧ Below w.heap.size w w' := by
  have HR0 := zX hr0
  have HC0 := zX hc0
  clear hr0 hc0
  have HB := zX (zi w.heap.size w)
  have H : (pair_Is.l0 k l0 (l0.length : Int) 0) = some r := h
  clear h
  have H' := zX H
  clear H
  go_enter Tryd.func80, Tryd.ntmps80
  go_wp2
  go_loopg [6] k (fun kq v6 w' => ∃ (x6_1 : Int), v6 = .int .i64 x6_1 ∧ Aside0 (pair_Is.l0 kq l0 (l0.length : Int) x6_1 = some r) ∧ Aside0 (kq ≤ k) ∧ Aside0 (Below w.heap.size w w'))
  case atStart => exact ⟨(0), (by first | rfl | (simp; done) | (simp [*]; done)), H', ⟨Nat.le_refl _⟩, ⟨by repeat (first | (with_reducible first | exact HB.out | apply zF | apply zE | apply zG) | exact HB.out)⟩⟩
  case round =>
    clear H'
    obtain ⟨x6_1, rfl, HA, HK1, HB⟩ := hrel
    cases gk with
    | zero => exact absurd HA.out (by simp [pair_Is.l0])
    | succ k1 =>
      have H := HA.out
      clear HA
      simp only [pair_Is.l0] at H
      by_cases c2 : x6_1 < (l0.length : Int)
      · rw [if_pos c2] at H
        have c2b0 : decide (x6_1 < (l0.length : Int)) = true := zW c2
        clear c2
        by_cases c3 : x6_1 > 0
        · rw [if_pos c3] at H
          have c3b0 : decide (0 < x6_1) = true := zW c3
          clear c3
          obtain ⟨ji4, hji4⟩ : ∃ j_ : Int, (wrap64 (x6_1 - 1)) = j_ := ⟨_, rfl⟩
          replace H : (if 0 ≤ (ji4) then (if (ji4) < (l0.length : Int) then (if 0 ≤ x6_1 then (if x6_1 < (l0.length : Int) then ((order_Compare.f ((rd_T65 l0 (ji4)).f0) ((rd_T65 l0 x6_1).f0)).bind fun t170 => (if t170 ≥ 0 then (some false) else (pair_Is.l0 k1 l0 (l0.length : Int) (wrap64 (x6_1 + 1))))) else (none)) else (none)) else (none)) else (none)) = some r := by first | (rw [hji4] at H; exact H) | (simp only [hji4] at H ⊢; exact H)
          have hji4w : (IntKind.i64.wrap (x6_1 - 1)) = ji4 := (i64_w _).trans hji4
          by_cases c5 : 0 ≤ (ji4)
          · rw [if_pos c5] at H
            have c5b0 : decide (0 ≤ (ji4)) = true := zW c5
            clear c5
            by_cases c6 : (ji4) < (l0.length : Int)
            · rw [if_pos c6] at H
              have c6b0 : decide ((ji4) < (l0.length : Int)) = true := zW c6
              clear c6
              by_cases c7 : 0 ≤ x6_1
              · rw [if_pos c7] at H
                have c7b0 : decide (0 ≤ x6_1) = true := zW c7
                clear c7
                by_cases c8 : x6_1 < (l0.length : Int)
                · rw [if_pos c8] at H
                  have c8b0 : decide (x6_1 < (l0.length : Int)) = true := zW c8
                  clear c8
                  replace H := Option.bind_eq_some_iff.mp H
                  obtain ⟨t170, A90, H⟩ := H
                  replace H : (if t170 ≥ 0 then (some false) else (pair_Is.l0 k1 l0 (l0.length : Int) (wrap64 (x6_1 + 1)))) = some r := H
                  have A9 := zX A90
                  clear A90
                  by_cases c10 : t170 ≥ 0
                  · rw [if_pos c10] at H
                    have c10b0 : decide (0 ≤ t170) = true := zW c10
                    clear c10
                    obtain rfl := zQ H
                    try go_wp2
                    have n0_ := zX (zG HB.out)
                    clear HB
                    have HB := n0_
                    clear n0_
                    have p168 : 0 ≤ ((ji4) : Int) := zP (by first | (with_reducible assumption) | assumption)
                    have q168 : (ji4) < (l0.length : Int) := zP (by first | (with_reducible assumption) | assumption)
                    obtain ⟨ad168, e168, hx168_0, hx168_1⟩ := at_T65 HR0.out (ji4) p168 q168
                    have hw168_1 := hx168_1
                    have hw168_0 := hx168_0
                    cases e168
                    replace hx168_0 := (HB.out.cell (zB w _ hx168_0)).trans hx168_0
                    replace hx168_1 := (HB.out.cell (zB w _ hx168_1)).trans hx168_1
                    replace p168 := eq_true p168
                    replace q168 := eq_true q168
                    have p169 : 0 ≤ (x6_1 : Int) := zP (by first | (with_reducible assumption) | assumption)
                    have q169 : x6_1 < (l0.length : Int) := zP (by first | (with_reducible assumption) | assumption)
                    obtain ⟨ad169, e169, hx169_0, hx169_1⟩ := at_T65 HR0.out x6_1 p169 q169
                    have hw169_1 := hx169_1
                    have hw169_0 := hx169_0
                    obtain rfl : ad168 = ad169 := (by injection e169)
                    replace hx169_0 := (HB.out.cell (zB w _ hx169_0)).trans hx169_0
                    replace hx169_1 := (HB.out.cell (zB w _ hx169_1)).trans hx169_1
                    replace p169 := eq_true p169
                    replace q169 := eq_true q169
                    refine start_ (n := 17) (S := fun w' => w'.cell? (ad168.add (((ji4)).toNat * 2)) = some (.string ((rd_T65 l0 (ji4)).f0)) ∧ w'.cell? ⟨(ad168.add (((ji4)).toNat * 2)).block, (ad168.add (((ji4)).toNat * 2)).off + 1, none⟩ = some (.string ((rd_T65 l0 (ji4)).f1)) ∧ w'.cell? (ad168.add ((x6_1).toNat * 2)) = some (.string ((rd_T65 l0 x6_1).f0)) ∧ w'.cell? ⟨(ad168.add ((x6_1).toNat * 2)).block, (ad168.add ((x6_1).toNat * 2)).off + 1, none⟩ = some (.string ((rd_T65 l0 x6_1).f1))) (ds := []) #[false, false, false, false, false, false, false, false, false, false, false, false, false, false, false, false, false] (by kernel_rfl) rfl rfl ⟨((HB.out.cell (zB w _ hw168_0)).trans hw168_0), ((HB.out.cell (zB w _ hw168_1)).trans hw168_1), ((HB.out.cell (zB w _ hw169_0)).trans hw169_0), ((HB.out.cell (zB w _ hw169_1)).trans hw169_1)⟩ (fun hHeld => ?_); refine with_tabW pair_Is.tab4 pair_Is.bits4 (fun HT_ HW_ => ?_)
                    generalize wr.drew = w11 at HB hx168_0 hx168_1 hx169_0 hx169_1 hHeld ⊢
                    refine pure_ (i := 0) (N := some 9) (v := ?_) (a' := ?_) #[true, false, false, false, false, false, false, false, false, false, false, false, false, false, false, false, false] rfl rfl (any_of HT_.out (by kernel_rfl)) (fun _ _ _ h => h) (Or.inl ⟨by rfl, ?_⟩) ?_ ?_
                    rotate_left
                    · intro w'
                      go_simp
                      with_reducible rfl
                    rotate_left
                    · simp only [Act.put, zA, zC, zD, i64_w, i32_w]
                      rfl
                    refine pure_ (i := 1) (N := some 10) (v := ?_) (a' := ?_) #[true, true, false, false, false, false, false, false, false, false, false, false, false, false, false, false, false] rfl rfl (any_of HT_.out (by kernel_rfl)) (fun _ _ _ h => h) (Or.inl ⟨by rfl, ?_⟩) ?_ ?_
                    rotate_left
                    · intro w'
                      go_simp
                      with_reducible rfl
                    rotate_left
                    · simp only [Act.put, zA, zC, zD, i64_w, i32_w]
                      rfl
                    refine pure_ (i := 2) (N := some 11) (v := ?_) (a' := ?_) #[true, true, true, false, false, false, false, false, false, false, false, false, false, false, false, false, false] rfl rfl (any_of HT_.out (by kernel_rfl)) (fun _ _ _ h => h) (Or.inl ⟨by rfl, ?_⟩) ?_ ?_
                    rotate_left
                    · intro w'
                      go_simp
                      with_reducible rfl
                    rotate_left
                    · simp only [Act.put, zA, zC, zD, i64_w, i32_w]
                      rfl
                    refine pure_ (i := 3) (N := some 12) (v := ?_) (a' := ?_) #[true, true, true, true, false, false, false, false, false, false, false, false, false, false, false, false, false] rfl rfl (any_of HT_.out (by kernel_rfl)) (fun _ _ _ h => h) (Or.inl ⟨by rfl, ?_⟩) ?_ ?_
                    rotate_left
                    · intro w'
                      go_simp
                      with_reducible rfl
                    rotate_left
                    · simp only [Act.put, zA, zC, zD, i64_w, i32_w]
                      rfl
                    refine pure_ (i := 4) (N := some 13) (v := ?_) (a' := ?_) #[true, true, true, true, true, false, false, false, false, false, false, false, false, false, false, false, false] rfl rfl (any_of HT_.out (by kernel_rfl)) (fun _ _ _ h => h) (Or.inl ⟨by rfl, ?_⟩) ?_ ?_
                    rotate_left
                    · intro w'
                      go_simp
                      with_reducible rfl
                    rotate_left
                    · simp only [Act.put, zA, zC, zD, i64_w, i32_w]
                      rfl
                    refine pure_ (i := 5) (N := some 14) (v := ?_) (a' := ?_) #[true, true, true, true, true, true, false, false, false, false, false, false, false, false, false, false, false] rfl rfl (any_of HT_.out (by kernel_rfl)) (fun _ _ _ h => h) (Or.inl ⟨by rfl, ?_⟩) ?_ ?_
                    rotate_left
                    · intro w'
                      go_simp
                      with_reducible rfl
                    rotate_left
                    · simp only [Act.put, zA, zC, zD, i64_w, i32_w]
                      rfl
                    refine pure_ (i := 6) (N := some 15) (v := ?_) (a' := ?_) #[true, true, true, true, true, true, true, false, false, false, false, false, false, false, false, false, false] rfl rfl (any_of HT_.out (by kernel_rfl)) (fun _ _ _ h => h) (Or.inl ⟨by rfl, ?_⟩) ?_ ?_
                    rotate_left
                    · intro w'
                      go_simp
                      with_reducible rfl
                    rotate_left
                    · simp only [Act.put, zA, zC, zD, i64_w, i32_w]
                      rfl
                    refine pure_ (i := 7) (N := some 16) (v := ?_) (a' := ?_) #[true, true, true, true, true, true, true, true, false, false, false, false, false, false, false, false, false] rfl rfl (any_of HT_.out (by kernel_rfl)) (fun _ _ _ h => h) (Or.inl ⟨by rfl, ?_⟩) ?_ ?_
                    rotate_left
                    · intro w'
                      go_simp
                      with_reducible rfl
                    rotate_left
                    · simp only [Act.put, zA, zC, zD, i64_w, i32_w]
                      rfl
                    refine pure_ (i := 9) (N := some 18) (v := ?_) (a' := ?_) #[true, true, true, true, true, true, true, true, false, true, false, false, false, false, false, false, false] rfl rfl (any_of HT_.out (by kernel_rfl)) (fun _ _ _ h => h) (Or.inl ⟨by rfl, ?_⟩) ?_ ?_
                    rotate_left
                    · intro w'
                      go_simp
                      with_reducible rfl
                    rotate_left
                    · simp only [Act.put, zA, zC, zD, i64_w, i32_w]
                      rfl
                    refine pure_ (i := 10) (N := some 19) (v := ?_) (a' := ?_) #[true, true, true, true, true, true, true, true, false, true, true, false, false, false, false, false, false] rfl rfl (any_of HT_.out (by kernel_rfl)) (fun _ _ _ h => h) (Or.inl ⟨by rfl, ?_⟩) ?_ ?_
                    rotate_left
                    · intro w'
                      go_simp
                      with_reducible rfl
                    rotate_left
                    · simp only [Act.put, zA, zC, zD, i64_w, i32_w]
                      rfl
                    refine pure_ (i := 11) (N := some 20) (v := ?_) (a' := ?_) #[true, true, true, true, true, true, true, true, false, true, true, true, false, false, false, false, false] rfl rfl (any_of HT_.out (by kernel_rfl)) (fun _ _ _ h => h) (Or.inl ⟨by rfl, ?_⟩) ?_ ?_
                    rotate_left
                    · intro w'
                      go_simp
                      with_reducible rfl
                    rotate_left
                    · simp only [Act.put, zA, zC, zD, i64_w, i32_w]
                      rfl
                    refine pure_ (i := 12) (N := some 21) (v := ?_) (a' := ?_) #[true, true, true, true, true, true, true, true, false, true, true, true, true, false, false, false, false] rfl rfl (any_of HT_.out (by kernel_rfl)) (fun _ _ _ h => h) (Or.inl ⟨by rfl, ?_⟩) ?_ ?_
                    rotate_left
                    · intro w'
                      go_simp
                      with_reducible rfl
                    rotate_left
                    · simp only [Act.put, zA, zC, zD, i64_w, i32_w]
                      rfl
                    refine take_ (i := 8) (N := some 17) (v := ?_) (a' := ?_) #[true, true, true, true, true, true, true, true, true, true, true, true, true, false, false, false, false] rfl rfl (take_ofW HT_.out HW_.out (by kernel_rfl)) (fun _ _ _ h => h) (Or.inl ⟨by rfl, ?_⟩) hHeld ?_ ?_
                    rotate_left
                    · rintro w' ⟨s0, s1, s2, s3⟩
                      go_simp
                      with_reducible rfl
                    rotate_left
                    · simp only [Act.put, zA, zC, zD, i64_w, i32_w]
                      rfl
                    refine take_ (i := 13) (N := some 22) (v := ?_) (a' := ?_) #[true, true, true, true, true, true, true, true, true, true, true, true, true, true, false, false, false] rfl rfl (take_ofW HT_.out HW_.out (by kernel_rfl)) (fun _ _ _ h => h) (Or.inl ⟨by rfl, ?_⟩) hHeld ?_ ?_
                    rotate_left
                    · rintro w' ⟨s0, s1, s2, s3⟩
                      go_simp
                      with_reducible rfl
                    rotate_left
                    · simp only [Act.put, zA, zC, zD, i64_w, i32_w]
                      rfl
                    refine one_ (i := 14) (N := some 23) #[true, true, true, true, true, true, true, true, true, true, true, true, true, true, true, false, false] rfl rfl (one_of HT_.out (by kernel_rfl)) (by decide) (fun K hK => ?_)
                    refine goes_ Tryd.func44 (by kernel_rfl) rfl #[.string ((rd_T65 l0 (ji4)).f0), .string ((rd_T65 l0 x6_1).f0)] (by rfl) rfl rfl (by (try simp only [zS, zU, zV]); first | done | (simp only [hji4]; rfl) | rfl | (simp only [zO, zN]; rfl)) ?_
                    with_reducible refine (order_Compare.calls ((rd_T65 l0 (ji4)).f0) ((rd_T65 l0 x6_1).f0) t170 _ A9.out).mono ?_
                    rintro e w12 ⟨rfl, hb⟩
                    refine ⟨_, rfl, ?_⟩
                    have n0_ := zX (zT (by repeat (first | (with_reducible first | exact HB.out | apply zF | apply zE | apply zG) | exact HB.out)) hb)
                    clear HB
                    have HB := n0_
                    clear n0_
                    (try clear hb)
                    (try clear hb2)
                    (try clear hk)
                    (try clear hi)
                    refine hK.out _ _ ⟨((HB.out.cell (zB w _ hw168_0)).trans hw168_0), ((HB.out.cell (zB w _ hw168_1)).trans hw168_1), ((HB.out.cell (zB w _ hw169_0)).trans hw169_0), ((HB.out.cell (zB w _ hw169_1)).trans hw169_1)⟩ (fun hHeld => ?_)
                    clear hK K
                    refine norm_ (a' := ?_) ?_ ?_
                    rotate_left
                    · show Act.put _ (some 23) _ = _
                      simp only [Act.put, zA, zC, zD, i64_w, i32_w]
                      rfl
                    refine pure_ (i := 15) (N := some 24) (v := ?_) (a' := ?_) #[true, true, true, true, true, true, true, true, true, true, true, true, true, true, true, true, false] rfl rfl (any_of HT_.out (by kernel_rfl)) (fun _ _ _ h => h) (Or.inl ⟨by rfl, ?_⟩) ?_ ?_
                    rotate_left
                    · intro w'
                      go_simp
                      with_reducible rfl
                    rotate_left
                    · simp only [Act.put, zA, zC, zD, i64_w, i32_w]
                      rfl
                    refine pure_ (i := 16) (N := some 25) (v := ?_) (a' := ?_) #[true, true, true, true, true, true, true, true, true, true, true, true, true, true, true, true, true] rfl rfl (any_of HT_.out (by kernel_rfl)) (fun _ _ _ h => h) (Or.inl ⟨by rfl, ?_⟩) ?_ ?_
                    rotate_left
                    · intro w'
                      go_simp
                      with_reducible rfl
                    rotate_left
                    · simp only [Act.put, zA, zC, zD, i64_w, i32_w]
                      rfl
                    refine done_ (done_of HT_.out (by kernel_rfl)) ?_
                    try go_wp2
                    go_ret
                    exact ⟨by first | rfl | (simp [errW_none, errW_some] <;> rfl) | (simp only [← hji4]; first | rfl | (simp [errW_none, errW_some] <;> rfl)) | (simp [*, errW_none, errW_some] <;> rfl), by repeat (first | (with_reducible first | exact HB.out | apply zF | apply zE | apply zG) | exact HB.out)⟩
                  · rw [if_neg c10] at H
                    have c10b0 : decide (0 ≤ t170) = false := decide_eq_false c10
                    clear c10
                    have H' := zX H
                    clear H
                    try go_wp2
                    have n0_ := zX (zG HB.out)
                    clear HB
                    have HB := n0_
                    clear n0_
                    have p168 : 0 ≤ ((ji4) : Int) := zP (by first | (with_reducible assumption) | assumption)
                    have q168 : (ji4) < (l0.length : Int) := zP (by first | (with_reducible assumption) | assumption)
                    obtain ⟨ad168, e168, hx168_0, hx168_1⟩ := at_T65 HR0.out (ji4) p168 q168
                    have hw168_1 := hx168_1
                    have hw168_0 := hx168_0
                    cases e168
                    replace hx168_0 := (HB.out.cell (zB w _ hx168_0)).trans hx168_0
                    replace hx168_1 := (HB.out.cell (zB w _ hx168_1)).trans hx168_1
                    replace p168 := eq_true p168
                    replace q168 := eq_true q168
                    have p169 : 0 ≤ (x6_1 : Int) := zP (by first | (with_reducible assumption) | assumption)
                    have q169 : x6_1 < (l0.length : Int) := zP (by first | (with_reducible assumption) | assumption)
                    obtain ⟨ad169, e169, hx169_0, hx169_1⟩ := at_T65 HR0.out x6_1 p169 q169
                    have hw169_1 := hx169_1
                    have hw169_0 := hx169_0
                    obtain rfl : ad168 = ad169 := (by injection e169)
                    replace hx169_0 := (HB.out.cell (zB w _ hx169_0)).trans hx169_0
                    replace hx169_1 := (HB.out.cell (zB w _ hx169_1)).trans hx169_1
                    replace p169 := eq_true p169
                    replace q169 := eq_true q169
                    refine start_ (n := 17) (S := fun w' => w'.cell? (ad168.add (((ji4)).toNat * 2)) = some (.string ((rd_T65 l0 (ji4)).f0)) ∧ w'.cell? ⟨(ad168.add (((ji4)).toNat * 2)).block, (ad168.add (((ji4)).toNat * 2)).off + 1, none⟩ = some (.string ((rd_T65 l0 (ji4)).f1)) ∧ w'.cell? (ad168.add ((x6_1).toNat * 2)) = some (.string ((rd_T65 l0 x6_1).f0)) ∧ w'.cell? ⟨(ad168.add ((x6_1).toNat * 2)).block, (ad168.add ((x6_1).toNat * 2)).off + 1, none⟩ = some (.string ((rd_T65 l0 x6_1).f1))) (ds := []) #[false, false, false, false, false, false, false, false, false, false, false, false, false, false, false, false, false] (by kernel_rfl) rfl rfl ⟨((HB.out.cell (zB w _ hw168_0)).trans hw168_0), ((HB.out.cell (zB w _ hw168_1)).trans hw168_1), ((HB.out.cell (zB w _ hw169_0)).trans hw169_0), ((HB.out.cell (zB w _ hw169_1)).trans hw169_1)⟩ (fun hHeld => ?_); refine with_tabW pair_Is.tab4 pair_Is.bits4 (fun HT_ HW_ => ?_)
                    generalize wr.drew = w13 at HB hx168_0 hx168_1 hx169_0 hx169_1 hHeld ⊢
                    refine pure_ (i := 0) (N := some 9) (v := ?_) (a' := ?_) #[true, false, false, false, false, false, false, false, false, false, false, false, false, false, false, false, false] rfl rfl (any_of HT_.out (by kernel_rfl)) (fun _ _ _ h => h) (Or.inl ⟨by rfl, ?_⟩) ?_ ?_
                    rotate_left
                    · intro w'
                      go_simp
                      with_reducible rfl
                    rotate_left
                    · simp only [Act.put, zA, zC, zD, i64_w, i32_w]
                      rfl
                    refine pure_ (i := 1) (N := some 10) (v := ?_) (a' := ?_) #[true, true, false, false, false, false, false, false, false, false, false, false, false, false, false, false, false] rfl rfl (any_of HT_.out (by kernel_rfl)) (fun _ _ _ h => h) (Or.inl ⟨by rfl, ?_⟩) ?_ ?_
                    rotate_left
                    · intro w'
                      go_simp
                      with_reducible rfl
                    rotate_left
                    · simp only [Act.put, zA, zC, zD, i64_w, i32_w]
                      rfl
                    refine pure_ (i := 2) (N := some 11) (v := ?_) (a' := ?_) #[true, true, true, false, false, false, false, false, false, false, false, false, false, false, false, false, false] rfl rfl (any_of HT_.out (by kernel_rfl)) (fun _ _ _ h => h) (Or.inl ⟨by rfl, ?_⟩) ?_ ?_
                    rotate_left
                    · intro w'
                      go_simp
                      with_reducible rfl
                    rotate_left
                    · simp only [Act.put, zA, zC, zD, i64_w, i32_w]
                      rfl
                    refine pure_ (i := 3) (N := some 12) (v := ?_) (a' := ?_) #[true, true, true, true, false, false, false, false, false, false, false, false, false, false, false, false, false] rfl rfl (any_of HT_.out (by kernel_rfl)) (fun _ _ _ h => h) (Or.inl ⟨by rfl, ?_⟩) ?_ ?_
                    rotate_left
                    · intro w'
                      go_simp
                      with_reducible rfl
                    rotate_left
                    · simp only [Act.put, zA, zC, zD, i64_w, i32_w]
                      rfl
                    refine pure_ (i := 4) (N := some 13) (v := ?_) (a' := ?_) #[true, true, true, true, true, false, false, false, false, false, false, false, false, false, false, false, false] rfl rfl (any_of HT_.out (by kernel_rfl)) (fun _ _ _ h => h) (Or.inl ⟨by rfl, ?_⟩) ?_ ?_
                    rotate_left
                    · intro w'
                      go_simp
                      with_reducible rfl
                    rotate_left
                    · simp only [Act.put, zA, zC, zD, i64_w, i32_w]
                      rfl
                    refine pure_ (i := 5) (N := some 14) (v := ?_) (a' := ?_) #[true, true, true, true, true, true, false, false, false, false, false, false, false, false, false, false, false] rfl rfl (any_of HT_.out (by kernel_rfl)) (fun _ _ _ h => h) (Or.inl ⟨by rfl, ?_⟩) ?_ ?_
                    rotate_left
                    · intro w'
                      go_simp
                      with_reducible rfl
                    rotate_left
                    · simp only [Act.put, zA, zC, zD, i64_w, i32_w]
                      rfl
                    refine pure_ (i := 6) (N := some 15) (v := ?_) (a' := ?_) #[true, true, true, true, true, true, true, false, false, false, false, false, false, false, false, false, false] rfl rfl (any_of HT_.out (by kernel_rfl)) (fun _ _ _ h => h) (Or.inl ⟨by rfl, ?_⟩) ?_ ?_
                    rotate_left
                    · intro w'
                      go_simp
                      with_reducible rfl
                    rotate_left
                    · simp only [Act.put, zA, zC, zD, i64_w, i32_w]
                      rfl
                    refine pure_ (i := 7) (N := some 16) (v := ?_) (a' := ?_) #[true, true, true, true, true, true, true, true, false, false, false, false, false, false, false, false, false] rfl rfl (any_of HT_.out (by kernel_rfl)) (fun _ _ _ h => h) (Or.inl ⟨by rfl, ?_⟩) ?_ ?_
                    rotate_left
                    · intro w'
                      go_simp
                      with_reducible rfl
                    rotate_left
                    · simp only [Act.put, zA, zC, zD, i64_w, i32_w]
                      rfl
                    refine pure_ (i := 9) (N := some 18) (v := ?_) (a' := ?_) #[true, true, true, true, true, true, true, true, false, true, false, false, false, false, false, false, false] rfl rfl (any_of HT_.out (by kernel_rfl)) (fun _ _ _ h => h) (Or.inl ⟨by rfl, ?_⟩) ?_ ?_
                    rotate_left
                    · intro w'
                      go_simp
                      with_reducible rfl
                    rotate_left
                    · simp only [Act.put, zA, zC, zD, i64_w, i32_w]
                      rfl
                    refine pure_ (i := 10) (N := some 19) (v := ?_) (a' := ?_) #[true, true, true, true, true, true, true, true, false, true, true, false, false, false, false, false, false] rfl rfl (any_of HT_.out (by kernel_rfl)) (fun _ _ _ h => h) (Or.inl ⟨by rfl, ?_⟩) ?_ ?_
                    rotate_left
                    · intro w'
                      go_simp
                      with_reducible rfl
                    rotate_left
                    · simp only [Act.put, zA, zC, zD, i64_w, i32_w]
                      rfl
                    refine pure_ (i := 11) (N := some 20) (v := ?_) (a' := ?_) #[true, true, true, true, true, true, true, true, false, true, true, true, false, false, false, false, false] rfl rfl (any_of HT_.out (by kernel_rfl)) (fun _ _ _ h => h) (Or.inl ⟨by rfl, ?_⟩) ?_ ?_
                    rotate_left
                    · intro w'
                      go_simp
                      with_reducible rfl
                    rotate_left
                    · simp only [Act.put, zA, zC, zD, i64_w, i32_w]
                      rfl
                    refine pure_ (i := 12) (N := some 21) (v := ?_) (a' := ?_) #[true, true, true, true, true, true, true, true, false, true, true, true, true, false, false, false, false] rfl rfl (any_of HT_.out (by kernel_rfl)) (fun _ _ _ h => h) (Or.inl ⟨by rfl, ?_⟩) ?_ ?_
                    rotate_left
                    · intro w'
                      go_simp
                      with_reducible rfl
                    rotate_left
                    · simp only [Act.put, zA, zC, zD, i64_w, i32_w]
                      rfl
                    refine take_ (i := 8) (N := some 17) (v := ?_) (a' := ?_) #[true, true, true, true, true, true, true, true, true, true, true, true, true, false, false, false, false] rfl rfl (take_ofW HT_.out HW_.out (by kernel_rfl)) (fun _ _ _ h => h) (Or.inl ⟨by rfl, ?_⟩) hHeld ?_ ?_
                    rotate_left
                    · rintro w' ⟨s0, s1, s2, s3⟩
                      go_simp
                      with_reducible rfl
                    rotate_left
                    · simp only [Act.put, zA, zC, zD, i64_w, i32_w]
                      rfl
                    refine take_ (i := 13) (N := some 22) (v := ?_) (a' := ?_) #[true, true, true, true, true, true, true, true, true, true, true, true, true, true, false, false, false] rfl rfl (take_ofW HT_.out HW_.out (by kernel_rfl)) (fun _ _ _ h => h) (Or.inl ⟨by rfl, ?_⟩) hHeld ?_ ?_
                    rotate_left
                    · rintro w' ⟨s0, s1, s2, s3⟩
                      go_simp
                      with_reducible rfl
                    rotate_left
                    · simp only [Act.put, zA, zC, zD, i64_w, i32_w]
                      rfl
                    refine one_ (i := 14) (N := some 23) #[true, true, true, true, true, true, true, true, true, true, true, true, true, true, true, false, false] rfl rfl (one_of HT_.out (by kernel_rfl)) (by decide) (fun K hK => ?_)
                    refine goes_ Tryd.func44 (by kernel_rfl) rfl #[.string ((rd_T65 l0 (ji4)).f0), .string ((rd_T65 l0 x6_1).f0)] (by rfl) rfl rfl (by (try simp only [zS, zU, zV]); first | done | (simp only [hji4]; rfl) | rfl | (simp only [zO, zN]; rfl)) ?_
                    with_reducible refine (order_Compare.calls ((rd_T65 l0 (ji4)).f0) ((rd_T65 l0 x6_1).f0) t170 _ A9.out).mono ?_
                    rintro e w14 ⟨rfl, hb⟩
                    refine ⟨_, rfl, ?_⟩
                    have n0_ := zX (zT (by repeat (first | (with_reducible first | exact HB.out | apply zF | apply zE | apply zG) | exact HB.out)) hb)
                    clear HB
                    have HB := n0_
                    clear n0_
                    (try clear hb)
                    (try clear hb2)
                    (try clear hk)
                    (try clear hi)
                    refine hK.out _ _ ⟨((HB.out.cell (zB w _ hw168_0)).trans hw168_0), ((HB.out.cell (zB w _ hw168_1)).trans hw168_1), ((HB.out.cell (zB w _ hw169_0)).trans hw169_0), ((HB.out.cell (zB w _ hw169_1)).trans hw169_1)⟩ (fun hHeld => ?_)
                    clear hK K
                    refine norm_ (a' := ?_) ?_ ?_
                    rotate_left
                    · show Act.put _ (some 23) _ = _
                      simp only [Act.put, zA, zC, zD, i64_w, i32_w]
                      rfl
                    refine pure_ (i := 15) (N := some 24) (v := ?_) (a' := ?_) #[true, true, true, true, true, true, true, true, true, true, true, true, true, true, true, true, false] rfl rfl (any_of HT_.out (by kernel_rfl)) (fun _ _ _ h => h) (Or.inl ⟨by rfl, ?_⟩) ?_ ?_
                    rotate_left
                    · intro w'
                      go_simp
                      with_reducible rfl
                    rotate_left
                    · simp only [Act.put, zA, zC, zD, i64_w, i32_w]
                      rfl
                    refine pure_ (i := 16) (N := some 25) (v := ?_) (a' := ?_) #[true, true, true, true, true, true, true, true, true, true, true, true, true, true, true, true, true] rfl rfl (any_of HT_.out (by kernel_rfl)) (fun _ _ _ h => h) (Or.inl ⟨by rfl, ?_⟩) ?_ ?_
                    rotate_left
                    · intro w'
                      go_simp
                      with_reducible rfl
                    rotate_left
                    · simp only [Act.put, zA, zC, zD, i64_w, i32_w]
                      rfl
                    refine done_ (done_of HT_.out (by kernel_rfl)) ?_
                    try go_wp2
                    go_roundg k1
                    case measure => have := HK1.out; omega
                    case rel => exact ⟨(wrap64 (x6_1 + 1)), (by first | rfl | (simp; done) | (simp [*]; done)), H', ⟨by have := HK1.out; omega⟩, ⟨by repeat (first | (with_reducible first | exact HB.out | apply zF | apply zE | apply zG) | exact HB.out)⟩⟩
                · rw [if_neg c8] at H
                  exact absurd H (by simp)
              · rw [if_neg c7] at H
                exact absurd H (by simp)
            · rw [if_neg c6] at H
              exact absurd H (by simp)
          · rw [if_neg c5] at H
            exact absurd H (by simp)
        · rw [if_neg c3] at H
          have c3b0 : decide (0 < x6_1) = false := decide_eq_false c3
          clear c3
          have H' := zX H
          clear H
          try go_wp2
          have n0_ := zX (zG HB.out)
          clear HB
          have HB := n0_
          clear n0_
          refine start_ (n := 17) (S := fun w' => True) (ds := []) #[false, false, false, false, false, false, false, false, false, false, false, false, false, false, false, false, false] (by kernel_rfl) rfl rfl trivial (fun hHeld => ?_); refine with_tabW pair_Is.tab4 pair_Is.bits4 (fun HT_ HW_ => ?_)
          generalize wr.drew = w15 at HB hHeld ⊢
          refine pure_ (i := 0) (N := some 9) (v := ?_) (a' := ?_) #[true, false, false, false, false, false, false, false, false, false, false, false, false, false, false, false, false] rfl rfl (any_of HT_.out (by kernel_rfl)) (fun _ _ _ h => h) (Or.inl ⟨by rfl, ?_⟩) ?_ ?_
          rotate_left
          · intro w'
            go_simp
            with_reducible rfl
          rotate_left
          · simp only [Act.put, zA, zC, zD, i64_w, i32_w]
            rfl
          refine pure_ (i := 1) (N := some 10) (v := ?_) (a' := ?_) #[true, true, false, false, false, false, false, false, false, false, false, false, false, false, false, false, false] rfl rfl (any_of HT_.out (by kernel_rfl)) (fun _ _ _ h => h) (Or.inl ⟨by rfl, ?_⟩) ?_ ?_
          rotate_left
          · intro w'
            go_simp
            with_reducible rfl
          rotate_left
          · simp only [Act.put, zA, zC, zD, i64_w, i32_w]
            rfl
          refine pure_ (i := 2) (N := some 11) (v := ?_) (a' := ?_) #[true, true, true, false, false, false, false, false, false, false, false, false, false, false, false, false, false] rfl rfl (any_of HT_.out (by kernel_rfl)) (fun _ _ _ h => h) (Or.inl ⟨by rfl, ?_⟩) ?_ ?_
          rotate_left
          · intro w'
            go_simp
            with_reducible rfl
          rotate_left
          · simp only [Act.put, zA, zC, zD, i64_w, i32_w]
            rfl
          refine pure_ (i := 3) (N := some 12) (v := undef) (a' := ?_) #[true, true, true, true, false, false, false, false, false, false, false, false, false, false, false, false, false] rfl rfl (any_of HT_.out (by kernel_rfl)) (fun _ _ _ h => h) (Or.inr ⟨by rfl, rfl⟩) ?_ ?_
          rotate_left
          · simp only [Act.put, zA, zC, zD, i64_w, i32_w]
            rfl
          refine pure_ (i := 4) (N := some 13) (v := undef) (a' := ?_) #[true, true, true, true, true, false, false, false, false, false, false, false, false, false, false, false, false] rfl rfl (any_of HT_.out (by kernel_rfl)) (fun _ _ _ h => h) (Or.inr ⟨by rfl, rfl⟩) ?_ ?_
          rotate_left
          · simp only [Act.put, zA, zC, zD, i64_w, i32_w]
            rfl
          refine pure_ (i := 5) (N := some 14) (v := undef) (a' := ?_) #[true, true, true, true, true, true, false, false, false, false, false, false, false, false, false, false, false] rfl rfl (any_of HT_.out (by kernel_rfl)) (fun _ _ _ h => h) (Or.inr ⟨by rfl, rfl⟩) ?_ ?_
          rotate_left
          · simp only [Act.put, zA, zC, zD, i64_w, i32_w]
            rfl
          refine pure_ (i := 6) (N := some 15) (v := undef) (a' := ?_) #[true, true, true, true, true, true, true, false, false, false, false, false, false, false, false, false, false] rfl rfl (any_of HT_.out (by kernel_rfl)) (fun _ _ _ h => h) (Or.inr ⟨by rfl, rfl⟩) ?_ ?_
          rotate_left
          · simp only [Act.put, zA, zC, zD, i64_w, i32_w]
            rfl
          refine pure_ (i := 7) (N := some 16) (v := undef) (a' := ?_) #[true, true, true, true, true, true, true, true, false, false, false, false, false, false, false, false, false] rfl rfl (any_of HT_.out (by kernel_rfl)) (fun _ _ _ h => h) (Or.inr ⟨by rfl, rfl⟩) ?_ ?_
          rotate_left
          · simp only [Act.put, zA, zC, zD, i64_w, i32_w]
            rfl
          refine pure_ (i := 8) (N := some 17) (v := undef) (a' := ?_) #[true, true, true, true, true, true, true, true, true, false, false, false, false, false, false, false, false] rfl rfl (any_of HT_.out (by kernel_rfl)) (fun _ _ _ h => h) (Or.inr ⟨by rfl, rfl⟩) ?_ ?_
          rotate_left
          · simp only [Act.put, zA, zC, zD, i64_w, i32_w]
            rfl
          refine pure_ (i := 9) (N := some 18) (v := undef) (a' := ?_) #[true, true, true, true, true, true, true, true, true, true, false, false, false, false, false, false, false] rfl rfl (any_of HT_.out (by kernel_rfl)) (fun _ _ _ h => h) (Or.inr ⟨by rfl, rfl⟩) ?_ ?_
          rotate_left
          · simp only [Act.put, zA, zC, zD, i64_w, i32_w]
            rfl
          refine pure_ (i := 10) (N := some 19) (v := undef) (a' := ?_) #[true, true, true, true, true, true, true, true, true, true, true, false, false, false, false, false, false] rfl rfl (any_of HT_.out (by kernel_rfl)) (fun _ _ _ h => h) (Or.inr ⟨by rfl, rfl⟩) ?_ ?_
          rotate_left
          · simp only [Act.put, zA, zC, zD, i64_w, i32_w]
            rfl
          refine pure_ (i := 11) (N := some 20) (v := undef) (a' := ?_) #[true, true, true, true, true, true, true, true, true, true, true, true, false, false, false, false, false] rfl rfl (any_of HT_.out (by kernel_rfl)) (fun _ _ _ h => h) (Or.inr ⟨by rfl, rfl⟩) ?_ ?_
          rotate_left
          · simp only [Act.put, zA, zC, zD, i64_w, i32_w]
            rfl
          refine pure_ (i := 12) (N := some 21) (v := undef) (a' := ?_) #[true, true, true, true, true, true, true, true, true, true, true, true, true, false, false, false, false] rfl rfl (any_of HT_.out (by kernel_rfl)) (fun _ _ _ h => h) (Or.inr ⟨by rfl, rfl⟩) ?_ ?_
          rotate_left
          · simp only [Act.put, zA, zC, zD, i64_w, i32_w]
            rfl
          refine pure_ (i := 13) (N := some 22) (v := undef) (a' := ?_) #[true, true, true, true, true, true, true, true, true, true, true, true, true, true, false, false, false] rfl rfl (any_of HT_.out (by kernel_rfl)) (fun _ _ _ h => h) (Or.inr ⟨by rfl, rfl⟩) ?_ ?_
          rotate_left
          · simp only [Act.put, zA, zC, zD, i64_w, i32_w]
            rfl
          refine pure_ (i := 14) (N := some 23) (v := undef) (a' := ?_) #[true, true, true, true, true, true, true, true, true, true, true, true, true, true, true, false, false] rfl rfl (any_of HT_.out (by kernel_rfl)) (fun _ _ _ h => h) (Or.inr ⟨by rfl, rfl⟩) ?_ ?_
          rotate_left
          · simp only [Act.put, zA, zC, zD, i64_w, i32_w]
            rfl
          refine pure_ (i := 15) (N := some 24) (v := undef) (a' := ?_) #[true, true, true, true, true, true, true, true, true, true, true, true, true, true, true, true, false] rfl rfl (any_of HT_.out (by kernel_rfl)) (fun _ _ _ h => h) (Or.inr ⟨by rfl, rfl⟩) ?_ ?_
          rotate_left
          · simp only [Act.put, zA, zC, zD, i64_w, i32_w]
            rfl
          refine pure_ (i := 16) (N := some 25) (v := ?_) (a' := ?_) #[true, true, true, true, true, true, true, true, true, true, true, true, true, true, true, true, true] rfl rfl (any_of HT_.out (by kernel_rfl)) (fun _ _ _ h => h) (Or.inl ⟨by rfl, ?_⟩) ?_ ?_
          rotate_left
          · intro w'
            go_simp
            with_reducible rfl
          rotate_left
          · simp only [Act.put, zA, zC, zD, i64_w, i32_w]
            rfl
          refine done_ (done_of HT_.out (by kernel_rfl)) ?_
          try go_wp2
          go_roundg k1
          case measure => have := HK1.out; omega
          case rel => exact ⟨(wrap64 (x6_1 + 1)), (by first | rfl | (simp; done) | (simp [*]; done)), H', ⟨by have := HK1.out; omega⟩, ⟨by repeat (first | (with_reducible first | exact HB.out | apply zF | apply zE | apply zG) | exact HB.out)⟩⟩
      · rw [if_neg c2] at H
        have c2b0 : decide (x6_1 < (l0.length : Int)) = false := decide_eq_false c2
        clear c2
        obtain rfl := zQ H
        go_wp2
        go_ret
        exact ⟨by first | rfl | (simp [errW_none, errW_some] <;> rfl) | (simp [*, errW_none, errW_some] <;> rfl), by repeat (first | (with_reducible first | exact HB.out | apply zF | apply zE | apply zG) | exact HB.out)⟩

/-! ### pair_ordered: function 56 -/
def pair_ordered.f (k : Nat) (l0 : List (S65)) : Option ((List (S65))) := (pair_Is.f k l0).bind fun t171 => (if t171 = true then (some l0) else ((pair_Make.f k l0).bind fun t172 => (some t172)))
set_option maxHeartbeats 8000000 in
set_option maxRecDepth 100000 in
theorem pair_ordered.calls (k : Nat) (P0_ : Nat → Prop) (A0 : Option Addr) (c0 : Nat) (l0 : List (S65)) (r : List (S65)) (w : World) (hs0 : Kd.V k65 65 w w.heap.size (fun k_ => P0_ k_) (.slice A0 l0.length c0) l0) (h : pair_ordered.f k l0 = some r) :
    Calls Tryd.prog 56 #[.slice A0 l0.length c0] w fun e w' => ∃ v0_ : Value, e = .returned (v0_) ∧ Kd.V k65 65 w' w.heap.size (fun k_ => (P0_ k_ ∨ w.heap.size ≤ k_)) v0_ r ∧ Below w.heap.size w w' := by
  have HO0 := zX (show Kd.V k65 65 w w.heap.size (fun k_ => (P0_ k_ ∨ w.heap.size ≤ k_)) (.slice A0 l0.length c0) l0 from Kd.V_mono hs0 (fun k_ hk => .inl hk))
  have HB := zX (zi w.heap.size w)
  have H : ((pair_Is.f k l0).bind fun t171 => (if t171 = true then (some l0) else ((pair_Make.f k l0).bind fun t172 => (some t172)))) = some r := h
  clear h
  replace H := Option.bind_eq_some_iff.mp H
  obtain ⟨t171, A20, H⟩ := H
  replace H : (if t171 = true then (some l0) else ((pair_Make.f k l0).bind fun t172 => (some t172))) = some r := H
  have A2 := zX A20
  clear A20
  by_cases c3 : t171 = true
  · subst c3
    have H1 : (some l0) = some r := by rw [if_pos rfl] at H; exact H
    clear H
    have H := H1
    clear H1
    obtain rfl := zQ H
    go_enter Tryd.func56, Tryd.ntmps56
    go_wp2_with (first | ((with_reducible refine gate_callee (f := 80) rfl ?_); refine goesL_ (some 4) rfl rfl Tryd.func80 (by kernel_rfl) rfl #[.slice A0 l0.length c0] rfl (by (try simp only [zS, zU, zV]); first | done | rfl | (simp only [zO, zN]; rfl)) ?_; (with_reducible refine (pair_Is.calls k _ _ l0 true _ ?side1 ?side2 A2.out).mono ?_); (case side1 => repeat (first | exact (Kd.V_reads' HO0.out).2.2 | (with_reducible refine Kd.C_alloc ?_ _) | (with_reducible refine Kd.C_drewN ?_ _) | (with_reducible refine Kd.C_drew ?_))); (case side2 => exact (Kd.V_reads' HO0.out).2.1); rintro e w4 ⟨rfl, hb⟩; refine ⟨_, rfl, ?_⟩; have n0_ := zX (Kd.V_below (by (with_reducible repeat (first | apply zb | apply zc | apply zd)); exact HO0.out) hb); have n1_ := zX (zT (by repeat (first | (with_reducible first | exact HB.out | apply zF | apply zE | apply zG) | exact HB.out)) hb); clear HO0; clear HB; have HO0 := n0_; have HB := n1_; clear n0_ n1_; (try clear hb); (try clear hb2); (try clear hk); (try clear hi)))
    go_ret
    exact ⟨_, by first | rfl | (simp [errW_none, errW_some] <;> rfl) | (simp [*, errW_none, errW_some] <;> rfl), by (with_reducible repeat (first | apply zb | apply zc | apply zd)); exact HO0.out, by repeat (first | (with_reducible first | exact HB.out | apply zF | apply zE | apply zG) | exact HB.out)⟩
  · replace c3 := Bool.eq_false_iff.mpr c3
    subst c3
    have H1 : ((pair_Make.f k l0).bind fun t172 => (some t172)) = some r := by rw [if_neg (show ¬ (false = true) by decide)] at H; exact H
    clear H
    have H := H1
    clear H1
    replace H := Option.bind_eq_some_iff.mp H
    obtain ⟨t172, A50, H⟩ := H
    replace H : (some t172) = some r := H
    have A5 := zX A50
    clear A50
    obtain rfl := zQ H
    go_enter Tryd.func56, Tryd.ntmps56
    go_wp2_with (first | ((with_reducible refine gate_callee (f := 80) rfl ?_); refine goesL_ (some 4) rfl rfl Tryd.func80 (by kernel_rfl) rfl #[.slice A0 l0.length c0] rfl (by (try simp only [zS, zU, zV]); first | done | rfl | (simp only [zO, zN]; rfl)) ?_; (with_reducible refine (pair_Is.calls k _ _ l0 false _ ?side1 ?side2 A2.out).mono ?_); (case side1 => repeat (first | exact (Kd.V_reads' HO0.out).2.2 | (with_reducible refine Kd.C_alloc ?_ _) | (with_reducible refine Kd.C_drewN ?_ _) | (with_reducible refine Kd.C_drew ?_))); (case side2 => exact (Kd.V_reads' HO0.out).2.1); rintro e w6 ⟨rfl, hb⟩; refine ⟨_, rfl, ?_⟩; have n0_ := zX (Kd.V_below (by (with_reducible repeat (first | apply zb | apply zc | apply zd)); exact HO0.out) hb); have n1_ := zX (zT (by repeat (first | (with_reducible first | exact HB.out | apply zF | apply zE | apply zG) | exact HB.out)) hb); clear HO0; clear HB; have HO0 := n0_; have HB := n1_; clear n0_ n1_; (try clear hb); (try clear hb2); (try clear hk); (try clear hi)) | ((with_reducible refine gate_callee (f := 49) rfl ?_); refine goesL_ (some 7) rfl rfl Tryd.func49 (by kernel_rfl) rfl #[.slice A0 l0.length c0] rfl (by (try simp only [zS, zU, zV]); first | done | rfl | (simp only [zO, zN]; rfl)) ?_; (with_reducible refine (pair_Make.calls k _ _ l0 t172 _ ?side1 ?side2 A5.out).mono ?_); (case side1 => repeat (first | exact (Kd.V_reads' HO0.out).2.2 | (with_reducible refine Kd.C_alloc ?_ _) | (with_reducible refine Kd.C_drewN ?_ _) | (with_reducible refine Kd.C_drew ?_))); (case side2 => exact (Kd.V_reads' HO0.out).2.1); rintro e w7 ⟨v173, rfl, ho0, hb⟩; refine ⟨_, rfl, ?_⟩; have n0_ := zX (Kd.V_elder' (by (with_reducible repeat (first | apply zb | apply zc | apply zd)); exact HO0.out) (Kd.R_base ho0) hb); have n1_ := zX (Kd.R_lower (Kd.R_newM (M := fun k_ => (w.heap.size ≤ k_)) ho0 (zY (by repeat (first | (with_reducible first | exact HB.out | apply zF | apply zE | apply zG) | exact HB.out))) (fun k_ h_ => h_)) (zY (by repeat (first | (with_reducible first | exact HB.out | apply zF | apply zE | apply zG) | exact HB.out)))); have n2_ := zX (zT (by repeat (first | (with_reducible first | exact HB.out | apply zF | apply zE | apply zG) | exact HB.out)) hb); clear HO0; clear HB; have HO0 := n0_; have HO174 := n1_; have HB := n2_; clear n0_ n1_ n2_; (try clear hb); (try clear hb2); (try clear hk); (try clear hi); (try clear ho0)))
    go_ret
    exact ⟨_, by first | rfl | (simp [errW_none, errW_some] <;> rfl) | (simp [*, errW_none, errW_some] <;> rfl), Kd.V_mono (Kd.R_V (by (with_reducible repeat (first | apply za | apply zg | apply zh)); exact Kd.R_mono HO174.out (fun _ hk => hk.1))) (fun k_ hk => by first | exact ⟨(.inr (hk.1)), hk.2⟩ | exact (.inr (hk))), by repeat (first | (with_reducible first | exact HB.out | apply zF | apply zE | apply zG) | exact HB.out)⟩

/-! ### pair_Get: function 37 -/
def pair_Get.f (k : Nat) (l0 : List (S65)) (a1 : ByteArray) : Option (ByteArray × Bool) := (pair_ordered.f k l0).bind fun t175 => ((pair_place.f t175 a1).bind fun bt178 => (if bt178.2 = true then (if 0 ≤ bt178.1 then (if bt178.1 < (t175.length : Int) then (some ((rd_T65 t175 bt178.1).f1, true)) else (none)) else (none)) else (some ((⟨#[]⟩ : ByteArray), false))))
set_option maxHeartbeats 8000000 in
set_option maxRecDepth 100000 in
theorem pair_Get.calls (k : Nat) (A0 : Option Addr) (c0 : Nat) (l0 : List (S65)) (a1 : ByteArray) (r1 : ByteArray) (r2 : Bool) (w : World) (hr0 : Kd.C k65 w A0 l0.length l0) (hc0 : l0.length ≤ c0) (h : pair_Get.f k l0 a1 = some (r1, r2)) :
    Calls Tryd.prog 37 #[.slice A0 l0.length c0, .string a1] w fun e w' => e = .returned (.tuple #[.string r1, .bool r2]) ∧ Below w.heap.size w w' := by
  have HR0 := zX hr0
  have HC0 := zX hc0
  clear hr0 hc0
  have HB := zX (zi w.heap.size w)
  have H : ((pair_ordered.f k l0).bind fun t175 => ((pair_place.f t175 a1).bind fun bt178 => (if bt178.2 = true then (if 0 ≤ bt178.1 then (if bt178.1 < (t175.length : Int) then (some ((rd_T65 t175 bt178.1).f1, true)) else (none)) else (none)) else (some ((⟨#[]⟩ : ByteArray), false))))) = some (r1, r2) := h
  clear h
  replace H := Option.bind_eq_some_iff.mp H
  obtain ⟨t175, A30, H⟩ := H
  replace H : ((pair_place.f t175 a1).bind fun bt178 => (if bt178.2 = true then (if 0 ≤ bt178.1 then (if bt178.1 < (t175.length : Int) then (some ((rd_T65 t175 bt178.1).f1, true)) else (none)) else (none)) else (some ((⟨#[]⟩ : ByteArray), false)))) = some (r1, r2) := H
  have A3 := zX A30
  clear A30
  replace H := Option.bind_eq_some_iff.mp H
  obtain ⟨⟨t178, t179⟩, A40, H⟩ := H
  replace H : (if t179 = true then (if 0 ≤ t178 then (if t178 < (t175.length : Int) then (some ((rd_T65 t175 t178).f1, true)) else (none)) else (none)) else (some ((⟨#[]⟩ : ByteArray), false))) = some (r1, r2) := H
  have A4 := zX A40
  clear A40
  by_cases c5 : t179 = true
  · subst c5
    have H1 : (if 0 ≤ t178 then (if t178 < (t175.length : Int) then (some ((rd_T65 t175 t178).f1, true)) else (none)) else (none)) = some (r1, r2) := by rw [if_pos rfl] at H; exact H
    clear H
    have H := H1
    clear H1
    by_cases c6 : 0 ≤ t178
    · rw [if_pos c6] at H
      have c6b0 : decide (0 ≤ t178) = true := zW c6
      clear c6
      by_cases c7 : t178 < (t175.length : Int)
      · rw [if_pos c7] at H
        have c7b0 : decide (t178 < (t175.length : Int)) = true := zW c7
        clear c7
        simp only [Option.some.injEq, Prod.mk.injEq] at H
        obtain ⟨rfl, rfl⟩ := H
        go_enter Tryd.func37, Tryd.ntmps37
        go_wp2_with (first | ((with_reducible refine gate_callee (f := 56) rfl ?_); refine goesL_ (some 9) rfl rfl Tryd.func56 (by kernel_rfl) rfl #[.slice A0 l0.length c0] rfl (by (try simp only [zS, zU, zV]); first | done | rfl | (simp only [zO, zN]; rfl)) ?_; (with_reducible refine (pair_ordered.calls k (fun k_ => k_ < w.heap.size) _ _ l0 t175 _ ?side1 A3.out).mono ?_); (case side1 => exact Kd.V_mk HC0.out (Kd.F_below (Kd.C_F k65_heap HR0.out) (by repeat (first | (with_reducible first | exact HB.out | apply zF | apply zE | apply zG) | exact HB.out)))); rintro e w8 ⟨v176, rfl, ho0, hb⟩; refine ⟨_, rfl, ?_⟩; have n0_ := zX (Kd.V_lower (Kd.V_mono (ok' := fun k_ => True) ho0 (fun k_ hk_ => trivial)) (zY (by repeat (first | (with_reducible first | exact HB.out | apply zF | apply zE | apply zG) | exact HB.out)))); have n1_ := zX (zT (by repeat (first | (with_reducible first | exact HB.out | apply zF | apply zE | apply zG) | exact HB.out)) hb); clear HB; have HO177 := n0_; have HB := n1_; clear n0_ n1_; (try clear hb); (try clear hb2); (try clear hk); (try clear hi); (try clear ho0); obtain ⟨Ao9, co9, eo9⟩ := Kd.V_slice HO177.out; subst eo9) | ((with_reducible refine gate_callee (f := 57) rfl ?_); refine goesL_ (some 13) rfl rfl Tryd.func57 (by kernel_rfl) rfl #[.slice Ao9 t175.length co9, .string a1] rfl (by (try simp only [zS, zU, zV]); first | done | rfl | (simp only [zO, zN]; rfl)) ?_; (with_reducible refine (pair_place.calls _ _ t175 a1 t178 true _ ?side1 ?side2 A4.out).mono ?_); (case side1 => repeat (first | exact (Kd.V_reads' HO177.out).2.2 | (with_reducible refine Kd.C_alloc ?_ _) | (with_reducible refine Kd.C_drewN ?_ _) | (with_reducible refine Kd.C_drew ?_))); (case side2 => exact (Kd.V_reads' HO177.out).2.1); rintro e w10 ⟨rfl, hb⟩; refine ⟨_, rfl, ?_⟩; have n0_ := zX (Kd.V_below (by (with_reducible repeat (first | apply zb | apply zc | apply zd)); exact HO177.out) hb); have n1_ := zX (zT (by repeat (first | (with_reducible first | exact HB.out | apply zF | apply zE | apply zG) | exact HB.out)) hb); clear HO177; clear HB; have HO177 := n0_; have HB := n1_; clear n0_ n1_; (try clear hb); (try clear hb2); (try clear hk); (try clear hi); have p180 : 0 ≤ (t178 : Int) := zP (by first | (with_reducible assumption) | assumption); have q180 : t178 < (t175.length : Int) := zP (by first | (with_reducible assumption) | assumption); obtain ⟨ad180, e180, hx180_0, hx180_1⟩ := at_T65 (Kd.V_reads' HO177.out).2.2 t178 p180 q180; cases e180; replace p180 := eq_true p180; replace q180 := eq_true q180))
        go_ret2
        exact ⟨by first | rfl | (simp [errW_none, errW_some] <;> rfl) | (simp [*, errW_none, errW_some] <;> rfl), by repeat (first | (with_reducible first | exact HB.out | apply zF | apply zE | apply zG) | exact HB.out)⟩
      · rw [if_neg c7] at H
        exact absurd H (by simp)
    · rw [if_neg c6] at H
      exact absurd H (by simp)
  · replace c5 := Bool.eq_false_iff.mpr c5
    subst c5
    have H1 : (some ((⟨#[]⟩ : ByteArray), false)) = some (r1, r2) := by rw [if_neg (show ¬ (false = true) by decide)] at H; exact H
    clear H
    have H := H1
    clear H1
    simp only [Option.some.injEq, Prod.mk.injEq] at H
    obtain ⟨rfl, rfl⟩ := H
    go_enter Tryd.func37, Tryd.ntmps37
    go_wp2_with (first | ((with_reducible refine gate_callee (f := 56) rfl ?_); refine goesL_ (some 9) rfl rfl Tryd.func56 (by kernel_rfl) rfl #[.slice A0 l0.length c0] rfl (by (try simp only [zS, zU, zV]); first | done | rfl | (simp only [zO, zN]; rfl)) ?_; (with_reducible refine (pair_ordered.calls k (fun k_ => k_ < w.heap.size) _ _ l0 t175 _ ?side1 A3.out).mono ?_); (case side1 => exact Kd.V_mk HC0.out (Kd.F_below (Kd.C_F k65_heap HR0.out) (by repeat (first | (with_reducible first | exact HB.out | apply zF | apply zE | apply zG) | exact HB.out)))); rintro e w11 ⟨v176, rfl, ho0, hb⟩; refine ⟨_, rfl, ?_⟩; have n0_ := zX (Kd.V_lower (Kd.V_mono (ok' := fun k_ => True) ho0 (fun k_ hk_ => trivial)) (zY (by repeat (first | (with_reducible first | exact HB.out | apply zF | apply zE | apply zG) | exact HB.out)))); have n1_ := zX (zT (by repeat (first | (with_reducible first | exact HB.out | apply zF | apply zE | apply zG) | exact HB.out)) hb); clear HB; have HO177 := n0_; have HB := n1_; clear n0_ n1_; (try clear hb); (try clear hb2); (try clear hk); (try clear hi); (try clear ho0); obtain ⟨Ao12, co12, eo12⟩ := Kd.V_slice HO177.out; subst eo12) | ((with_reducible refine gate_callee (f := 57) rfl ?_); refine goesL_ (some 13) rfl rfl Tryd.func57 (by kernel_rfl) rfl #[.slice Ao12 t175.length co12, .string a1] rfl (by (try simp only [zS, zU, zV]); first | done | rfl | (simp only [zO, zN]; rfl)) ?_; (with_reducible refine (pair_place.calls _ _ t175 a1 t178 false _ ?side1 ?side2 A4.out).mono ?_); (case side1 => repeat (first | exact (Kd.V_reads' HO177.out).2.2 | (with_reducible refine Kd.C_alloc ?_ _) | (with_reducible refine Kd.C_drewN ?_ _) | (with_reducible refine Kd.C_drew ?_))); (case side2 => exact (Kd.V_reads' HO177.out).2.1); rintro e w13 ⟨rfl, hb⟩; refine ⟨_, rfl, ?_⟩; have n0_ := zX (Kd.V_below (by (with_reducible repeat (first | apply zb | apply zc | apply zd)); exact HO177.out) hb); have n1_ := zX (zT (by repeat (first | (with_reducible first | exact HB.out | apply zF | apply zE | apply zG) | exact HB.out)) hb); clear HO177; clear HB; have HO177 := n0_; have HB := n1_; clear n0_ n1_; (try clear hb); (try clear hb2); (try clear hk); (try clear hi)))
    go_ret2
    exact ⟨by first | rfl | (simp [errW_none, errW_some] <;> rfl) | (simp [*, errW_none, errW_some] <;> rfl), by repeat (first | (with_reducible first | exact HB.out | apply zF | apply zE | apply zG) | exact HB.out)⟩

/-! ### pair_Put: function 38 -/
def pair_Put.f (k : Nat) (l0 : List (S65)) (a1 : ByteArray) (a2 : ByteArray) : Option ((List (S65))) := (pair_ordered.f k l0).bind fun t181 => ((pair_put.f t181 a1 a2).bind fun t184 => (some t184))
set_option maxHeartbeats 8000000 in
set_option maxRecDepth 100000 in
theorem pair_Put.calls (k : Nat) (A0 : Option Addr) (c0 : Nat) (l0 : List (S65)) (a1 : ByteArray) (a2 : ByteArray) (r : List (S65)) (w : World) (hr0 : Kd.C k65 w A0 l0.length l0) (hc0 : l0.length ≤ c0) (h : pair_Put.f k l0 a1 a2 = some r) :
    Calls Tryd.prog 38 #[.slice A0 l0.length c0, .string a1, .string a2] w fun e w' => ∃ v0_ : Value, e = .returned (v0_) ∧ Kd.R k65 65 w' w.heap.size (fun _ => True) v0_ r ∧ Below w.heap.size w w' := by
  have hu65 := Tryd.underlying65
  have HR0 := zX hr0
  have HC0 := zX hc0
  clear hr0 hc0
  have HB := zX (zi w.heap.size w)
  have H : ((pair_ordered.f k l0).bind fun t181 => ((pair_put.f t181 a1 a2).bind fun t184 => (some t184))) = some r := h
  clear h
  replace H := Option.bind_eq_some_iff.mp H
  obtain ⟨t181, A40, H⟩ := H
  replace H : ((pair_put.f t181 a1 a2).bind fun t184 => (some t184)) = some r := H
  have A4 := zX A40
  clear A40
  replace H := Option.bind_eq_some_iff.mp H
  obtain ⟨t184, A50, H⟩ := H
  replace H : (some t184) = some r := H
  have A5 := zX A50
  clear A50
  obtain rfl := zQ H
  go_enter Tryd.func38, Tryd.ntmps38
  go_wp2_with (first | ((with_reducible refine gate_callee (f := 56) rfl ?_); refine goesL_ (some 8) rfl rfl Tryd.func56 (by kernel_rfl) rfl #[.slice A0 l0.length c0] rfl (by (try simp only [zS, zU, zV]); first | done | rfl | (simp only [zO, zN]; rfl)) ?_; (with_reducible refine (pair_ordered.calls k (fun k_ => k_ < w.heap.size) _ _ l0 t181 _ ?side1 A4.out).mono ?_); (case side1 => exact Kd.V_mk HC0.out (Kd.F_below (Kd.C_F k65_heap HR0.out) (by repeat (first | (with_reducible first | exact HB.out | apply zF | apply zE | apply zG) | exact HB.out)))); rintro e w6 ⟨v182, rfl, ho0, hb⟩; refine ⟨_, rfl, ?_⟩; have n0_ := zX (Kd.V_lower (Kd.V_mono (ok' := fun k_ => True) ho0 (fun k_ hk_ => trivial)) (zY (by repeat (first | (with_reducible first | exact HB.out | apply zF | apply zE | apply zG) | exact HB.out)))); have n1_ := zX (zT (by repeat (first | (with_reducible first | exact HB.out | apply zF | apply zE | apply zG) | exact HB.out)) hb); clear HB; have HO183 := n0_; have HB := n1_; clear n0_ n1_; (try clear hb); (try clear hb2); (try clear hk); (try clear hi); (try clear ho0); obtain ⟨Ao7, co7, eo7⟩ := Kd.V_slice HO183.out; subst eo7) | ((with_reducible refine gate_callee (f := 68) rfl ?_); refine goesL_ (some 12) rfl rfl Tryd.func68 (by kernel_rfl) rfl #[.slice Ao7 t181.length co7, .agg #[.string a1, .string a2]] rfl (by (try simp only [zS, zU, zV]); first | done | rfl | (simp only [zO, zN]; rfl)) ?_; (with_reducible refine (pair_put.calls _ _ t181 a1 a2 t184 _ ?side1 ?side2 A5.out).mono ?_); (case side1 => repeat (first | exact (Kd.V_reads' HO183.out).2.2 | (with_reducible refine Kd.C_alloc ?_ _) | (with_reducible refine Kd.C_drewN ?_ _) | (with_reducible refine Kd.C_drew ?_))); (case side2 => exact (Kd.V_reads' HO183.out).2.1); rintro e w8 ⟨v185, rfl, ho0, hb⟩; refine ⟨_, rfl, ?_⟩; have n0_ := zX (Kd.V_elder' (by (with_reducible repeat (first | apply zb | apply zc | apply zd)); exact HO183.out) (Kd.R_base ho0) hb); have n1_ := zX (Kd.R_lower ho0 (zY (by repeat (first | (with_reducible first | exact HB.out | apply zF | apply zE | apply zG) | exact HB.out)))); have n2_ := zX (zT (by repeat (first | (with_reducible first | exact HB.out | apply zF | apply zE | apply zG) | exact HB.out)) hb); clear HO183; clear HB; have HO183 := n0_; have HO186 := n1_; have HB := n2_; clear n0_ n1_ n2_; (try clear hb); (try clear hb2); (try clear hk); (try clear hi); (try clear ho0)))
  go_ret
  exact ⟨_, by first | rfl | (simp [errW_none, errW_some] <;> rfl) | (simp [*, errW_none, errW_some] <;> rfl), by (with_reducible repeat (first | apply za | apply zg | apply zh)); exact HO186.out, by repeat (first | (with_reducible first | exact HB.out | apply zF | apply zE | apply zG) | exact HB.out)⟩

/-! ### de_Pair: function 70 -/
-- FULL slices.Delete[[]boscage/api.Pair,boscage/api.Pair]
-- KIND rounds=0 making=1 own=0
def de_Pair.f (l0 : List S65) (a1 a2 : Int) : Option (List S65) := if 0 ≤ a1 ∧ a1 < (l0.length : Int) ∧ a2 = a1 + 1 then some (l0.eraseIdx a1.toNat) else none
set_option maxHeartbeats 8000000 in
set_option maxRecDepth 100000 in
theorem de_Pair.calls (P0_ : Nat → Prop) (u9000_ : Value) (l0 : List S65) (a1 a2 : Int) (r : List S65) (w0 w : World) (hB : Below w0.heap.size w0 w) (ho0 : Kd.R k65 65 w w0.heap.size P0_ u9000_ l0) (h : de_Pair.f l0 a1 a2 = some r) :
    Calls Tryd.prog 70 #[u9000_, .int .i64 a1, .int .i64 a2] w fun e w' => ∃ v0_ : Value, e = .returned (v0_) ∧ Kd.R k65 65 w' w0.heap.size (fun k_ => (P0_ k_ ∨ w.heap.size ≤ k_)) v0_ r ∧ Below w0.heap.size w0 w' ∧ Kept w w' (fun k_ => P0_ k_) := by
  obtain ⟨i0, hi, hz0, hz1, hz2⟩ := info_parts info65
  unfold de_Pair.f at h
  split at h
  · rename_i hs
    obtain rfl := zQ h
    obtain ⟨h0, h1, rfl⟩ := hs
    clear h
    obtain ⟨i, rfl⟩ := Int.eq_ofNat_of_zero_le h0
    rw [Int.toNat_natCast]
    have hil : i < l0.length := by omega
    clear h0 h1
    obtain ⟨inner, hO, hrep⟩ := ho0.2
    obtain ⟨g, cap, cur, hv, hg1, hg2, hg3, hg4, hg5, hg6⟩ := (own_cases hO).resolve_left (by rintro ⟨_, h, _⟩; omega)
    subst hv
    unfold maxLen at hg4
    have HO := Lib.hid ho0
    have HOK := Lib.hid ho0.1
    have HG := Lib.hid hg2
    have HB := Lib.hid hB
    have HI := Lib.hid hi
    have HZ0 := Lib.hid hz0
    have hinf : (Tryd.prog.info? 65).map (·.size) = some (k65).sz := by rw [hi]; simp [hz1]; rfl
    have HIN := Lib.hid hinf
    have HC := Lib.hid hg5
    clear hO hrep hg5 hg6 hg2 ho0 hB hi hz0 hz1 hz2 hinf
    have b1 : ((i : Int) == (i : Int) + 1) = false := by rw [beq_eq_false_iff_ne]; omega
    have w1 : IntKind.i64.wrap ((i : Int) + 1) = (i : Int) + 1 := by rw [IntKind.wrap_i64]; omega
    have w2 : (0 : Int) ≤ (i : Int) + 1 := by omega
    have w3 : ((i : Int) + 1).toNat = i + 1 := by omega
    have w4 : (i : Int) ≤ (l0.length : Int) := by omega
    have w5 : (i : Int) + 1 ≤ (l0.length : Int) := by omega
    have w6 : (i : Int) ≤ (i : Int) + 1 := by omega
    have w7 : (i : Int) ≤ (cap : Int) := by omega
    have w8 : (l0.length : Int) ≤ (cap : Int) := by omega
    have hgb : w0.heap.size ≤ g := hg1
    have hA : ∀ A : Option Addr, A = (if cap = i + 1 then some ⟨g, 0, none⟩ else some ⟨g, (i + 1) * 2, none⟩) → A = (if cap = i + 1 then some ⟨g, 0, none⟩ else (some (⟨g, 0, none⟩ : Addr)).map (·.add ((i + 1) * (k65).sz))) := by
      intro A hA
      rw [hA]
      have e : (k65).sz = 2 := rfl
      rw [e]
      simp [Addr.add_lit]
    have HA := Lib.hid hA
    clear hA
    have hn8 : (l0.length : Int) - 1 = ((l0.length - 1 : Nat) : Int) := by omega
    go_enter Tryd.func70, Tryd.ntmps70
    go_wp2
    go_region_law (refine Kd.R_delete_step k65 (w0 := w0) (W := w.drew) w0.heap.size (by rfl) (.tmp 22) (.tmp 25) 24 65 rfl Tryd.underlying24 HIN.out (g := g) (n := l0.length) (c := cap) (k := i) (A := if cap = i + 1 then some ⟨g, 0, none⟩ else some ⟨g, (i + 1) * 2, none⟩) (m := l0.length - (i + 1)) (c2 := cap - (i + 1)) (xs := l0) (ok := P0_) (by simp [Act.eval, Act.put]) (by simp [Act.eval, Act.put]) (HA.out _ rfl) rfl HO.out hil HB.out.drew HB.out.size ?_; intro w1 hr1 hb1 hg1)
    generalize hm : l0.length - 1 = m at hr1 ⊢
    obtain ⟨inner1, hO1, hrep1⟩ := hr1.2
    have hmn : l0.length = m + 1 := by omega
    have he : (l0.eraseIdx i).length = m := by rw [List.length_eraseIdx_of_lt hil]; omega
    obtain ⟨g', cap', cur1, hv1, hk1, hk2, hk3, hk4, hk5, hk6⟩ := (own_cases hO1).resolve_left (by rintro ⟨h, _⟩; cases h)
    obtain ⟨rfl, rfl⟩ : g = g' ∧ cap = cap' := by injection hv1 with a b c; injection a with a; injection a with a; exact ⟨a, c⟩
    have hzl : (Builtin.zeroCells ((.agg #[(.string ⟨#[]⟩), (.string ⟨#[]⟩)]) : Value).cells 1).toList.length = 2 := by simp [Builtin.zeroCells, Value.cells]
    have hz1c : ∀ u ∈ (Builtin.zeroCells ((.agg #[(.string ⟨#[]⟩), (.string ⟨#[]⟩)]) : Value).cells 1).toList, u.oneCell' = true := by decide +kernel
    have hks : cur1.size = cap * 2 := hk5
    have hclr := fun ty c => run_clear_rowZ (P := Tryd.prog) w1 24 65 ty i0 (.agg #[(.string ⟨#[]⟩), (.string ⟨#[]⟩)]) HI.out HZ0.out Tryd.underlying24 g (m * 2) c cur1 65 hk2 (by rw [hzl, hks]; omega) hz1c
    obtain ⟨cur2, hc2⟩ : ∃ c, c = (cur1.toList.take (m * 2) ++ (Builtin.zeroCells ((.agg #[(.string ⟨#[]⟩), (.string ⟨#[]⟩)]) : Value).cells 1).toList ++ cur1.toList.drop (m * 2 + (Builtin.zeroCells ((.agg #[(.string ⟨#[]⟩), (.string ⟨#[]⟩)]) : Value).cells 1).toList.length)).toArray := ⟨_, rfl⟩
    rw [← hc2] at hclr
    have hcs : cur2.size = cur1.size := by
      rw [hc2]; simp only [List.size_toArray, List.length_append, zN, zO, Array.length_toList, hzl, hks]; omega
    have hct : cur2.toList.take (m * (k65).sz) = cur1.toList.take (m * (k65).sz) := by
      have e : (k65).sz = 2 := rfl
      rw [e, hc2, List.toList_toArray, List.append_assoc, List.take_append_of_le_length (by simp only [zN, Array.length_toList, hks]; omega), List.take_take, Nat.min_self]
    have hrf := R_tail hr1 hk2 cur2 hcs hct
    have HRF := Lib.hid hrf
    have HCLR := Lib.hid hclr
    have HB1 := Lib.hid hb1
    have HG1 := Lib.hid hg1
    have HM := Lib.hid hmn
    clear hrf hclr hb1 hg1 hr1 hO1 hrep1 hk2 hk5 hk6 hzl hz1c hks hc2 hcs hct he hv1 hm HA HO HG HI HZ0
    have x1 : (m : Int) ≤ (l0.length : Int) := by omega
    have x2 : ¬ (cap = m) := by omega
    have x3 : l0.length - m = 1 := by omega
    clear hmn
    go_wp2_with ((with_reducible refine gate_builtin (b := .clear) (xs := #[.tmp 31]) rfl ?_); refine wpList_clear_run w1 rfl (.tmp 31) 24 rfl (.slice (some ⟨g, m * 2, none⟩) 1 (cap - m)) rfl (HCLR.out _ _) ?_)
    all_goals
      go_ret
      have hgn : w.drew.grownBy (w1.setRow g cur2) (some g) := grown_trans HG1.out (grown_setRow _)
      have hok : ∀ k, some g = some k → P0_ k := fun k hk => HOK.out k (by rw [← hk]; rfl)
      have hbl : ∀ k, some g = some k → w0.heap.size ≤ k := fun k hk => by injection hk with hk; subst hk; exact hgb
      first | exact ⟨.slice (some ⟨g, 0, none⟩) m cap, rfl, Kd.R_mono HRF.out (fun k hk => .inl hk), HB.out.drew.grown hgn HB.out.size hbl, Kept.of_grown hgn (Kept.refl w _).drew (fun k hk => .inl (hok k hk))⟩ | ((have hc : cap = i + 1 := by assumption); subst hc; exact ⟨.slice (some ⟨g, 0, none⟩) m (i + 1), rfl, Kd.R_mono HRF.out (fun k hk => .inl hk), HB.out.drew.grown hgn HB.out.size hbl, Kept.of_grown hgn (Kept.refl w _).drew (fun k hk => .inl (hok k hk))⟩)
  · cases h

end Go.Proofs.YthnococjdeafhaaDoor.PModelKeeps
