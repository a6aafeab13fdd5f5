-- printed by a program of the session (wip/hyb/mkprint.py)
import Derived.Test.YthnococjdeafhaaDoorPModelKeepsx0
import Derived.Test.YthnococjdeafhaaDoorPModelKeepsx7
namespace Go.Proofs.YthnococjdeafhaaDoor.PModelKeeps
open Go.RowKit Go.Proofs.YthnococjdeafhaaDoorW.PrintWords Go.Proofs.YthnococjdeafhaaDoorW.PrintLast Go.Proofs.YthnococjdeafhaaDoorW.PrintMore
attribute [local go_sem] max2_int min2_int max_two min_two max_three min_three max_four min_four   -- for this text's walks alone
set_option linter.unusedVariables false
set_option linter.unusedSimpArgs false

/-! ### boscageref01_Less: function 46 -/
mutual
def boscageref01_Less.l0 : Nat → ByteArray → ByteArray → Int → Option (Bool)
  | 0, _, _, _ => none
  | k + 1, x0, x1, x5 => if x5 < (x0.size : Int) then (boscageref01_Less.j1 k x0 x1 x5 (decide (x5 < (x1.size : Int)))) else (boscageref01_Less.j1 k x0 x1 x5 false)
def boscageref01_Less.j1 : Nat → ByteArray → ByteArray → Int → Bool → Option (Bool)
  | 0, _, _, _, _ => none
  | k + 1, x0, x1, x5, x15 => if x15 = true then (if 0 ≤ x5 then (if x5 < (x0.size : Int) then (if x5 < (x1.size : Int) then (if (bt x0 x5) = (bt x1 x5) then (boscageref01_Less.l0 k x0 x1 (wrap64 (x5 + 1))) else (some (decide ((bt x0 x5) < (bt x1 x5))))) else (none)) else (none)) else (none)) else (some (decide ((x0.size : Int) < (x1.size : Int))))
end
def boscageref01_Less.f (k : Nat) (a0 : ByteArray) (a1 : ByteArray) : Option (Bool) := boscageref01_Less.l0 k a0 a1 0
set_option maxHeartbeats 8000000 in
set_option maxRecDepth 100000 in
theorem boscageref01_Less.calls (k : Nat) (a0 : ByteArray) (a1 : ByteArray) (r : Bool) (w : World) (h : boscageref01_Less.f k a0 a1 = some r) :
    Calls Tryd.prog 46 #[.string a0, .string a1] w fun e w' => e = .returned (.bool r) ∧ Drawn0 w w' := by
  have H : (boscageref01_Less.l0 k a0 a1 0) = some r := h
  clear h
  have H' := zX H
  clear H
  go_enter Tryd.func46, Tryd.ntmps46
  go_wp2
  repeat (go_quiet (fail); try go_wp2)
  go_loopg [5] k (fun kq v5 w' => ∃ (x5_1 : Int), v5 = .int .i64 x5_1 ∧ Aside0 (boscageref01_Less.l0 kq a0 a1 x5_1 = some r) ∧ Aside0 (kq ≤ k) ∧ Drawn0 w w')
  case atStart => exact ⟨(0), (by first | rfl | (simp; done) | (simp [*]; done)), H', ⟨Nat.le_refl _⟩, by repeat (first | exact Drawn0.refl _ | apply Drawn0.step)⟩
  case round =>
    clear H'
    try clear p2
    obtain ⟨x5_1, rfl, HA, HK1, ⟨m1, rfl⟩⟩ := hrel
    cases gk with
    | zero => exact absurd HA.out (by simp [boscageref01_Less.l0])
    | succ k1 =>
      have H := HA.out
      clear HA
      simp only [boscageref01_Less.l0] at H
      have HC3 := zX H
      clear H
      go_upto_region 2 with (fail)
      repeat (go_quiet (fail); go_upto_region 2 with (fail))
      go_cut [15] (fun v15 wc => ∃ (kq : Nat) (x15_2 : Bool), v15 = .bool x15_2 ∧ Aside0 (boscageref01_Less.j1 kq a0 a1 x5_1 x15_2 = some r) ∧ Aside0 (kq ≤ k1) ∧ Drawn0 w wc)
      case first =>
        have H := HC3.out
        clear HC3
        by_cases c4 : x5_1 < (a0.size : Int)
        · rw [if_pos c4] at H
          have c4b0 : decide (x5_1 < (a0.size : Int)) = true := zW c4
          clear c4
          (first | rw [c4b0] | (simp only [i64_w, i32_w]; rw [c4b0]) | skip)
          have H' := zX H
          clear H
          go_wp2
          repeat (go_quiet (fail); try go_wp2)
          go_meet
          case rel => exact ⟨_, (decide (x5_1 < (a1.size : Int))), (by first | rfl | (simp; done) | (simp [*]; done)), H', ⟨by have := HK1.out; first | omega | exact Nat.le_refl _⟩, by repeat (first | exact Drawn0.refl _ | apply Drawn0.step)⟩
        · rw [if_neg c4] at H
          have c4b0 : decide (x5_1 < (a0.size : Int)) = false := decide_eq_false c4
          clear c4
          (first | rw [c4b0] | (simp only [i64_w, i32_w]; rw [c4b0]) | skip)
          have H' := zX H
          clear H
          go_wp2
          repeat (go_quiet (fail); try go_wp2)
          go_meet
          case rel => exact ⟨_, (false), (by first | rfl | (simp; done) | (simp [*]; done)), H', ⟨by have := HK1.out; first | omega | exact Nat.le_refl _⟩, by repeat (first | exact Drawn0.refl _ | apply Drawn0.step)⟩
      case rest =>
        clear HC3
        try clear p2
        try clear c4
        try clear c4b0
        try clear p2
        obtain ⟨kq, x15_2, rfl, HA, HJ2, ⟨mc2, rfl⟩⟩ := hcut
        cases kq with
        | zero => exact absurd HA.out (by simp [boscageref01_Less.j1])
        | succ kj2 =>
          have H := HA.out
          clear HA
          simp only [boscageref01_Less.j1] at H
          by_cases c5 : x15_2 = true
          · subst c5
            have H1 : (if 0 ≤ x5_1 then (if x5_1 < (a0.size : Int) then (if x5_1 < (a1.size : Int) then (if (bt a0 x5_1) = (bt a1 x5_1) then (boscageref01_Less.l0 kj2 a0 a1 (wrap64 (x5_1 + 1))) else (some (decide ((bt a0 x5_1) < (bt a1 x5_1))))) else (none)) else (none)) else (none)) = some r := by rw [if_pos rfl] at H; exact H
            clear H
            have H := H1
            clear H1
            by_cases c6 : 0 ≤ x5_1
            · rw [if_pos c6] at H
              have c6b0 : decide (0 ≤ x5_1) = true := zW c6
              clear c6
              by_cases c7 : x5_1 < (a0.size : Int)
              · rw [if_pos c7] at H
                have c7b0 : decide (x5_1 < (a0.size : Int)) = true := zW c7
                clear c7
                by_cases c9 : x5_1 < (a1.size : Int)
                · rw [if_pos c9] at H
                  have c9b0 : decide (x5_1 < (a1.size : Int)) = true := zW c9
                  clear c9
                  by_cases c11 : (bt a0 x5_1) = (bt a1 x5_1)
                  · rw [if_pos c11] at H
                    have c11b0 : ((bt a0 x5_1) == (bt a1 x5_1)) = true := beq_iff_eq.mpr c11
                    have c11b1 : ((bt a0 x5_1) != (bt a1 x5_1)) = false := bne_eq_false_iff_eq.mpr c11
                    clear c11
                    have H' := zX H
                    clear H
                    have p8 : 0 ≤ (x5_1 : Int) := zP (by first | (with_reducible assumption) | assumption)
                    have q8 : x5_1 < (a0.size : Int) := zP (by first | (with_reducible assumption) | assumption)
                    have hx8 := bt_at a0 x5_1
                    replace p8 := eq_true p8
                    replace q8 := eq_true q8
                    have p10 : 0 ≤ (x5_1 : Int) := zP (by first | (with_reducible assumption) | assumption)
                    have q10 : x5_1 < (a1.size : Int) := zP (by first | (with_reducible assumption) | assumption)
                    have hx10 := bt_at a1 x5_1
                    replace p10 := eq_true p10
                    replace q10 := eq_true q10
                    go_wp2
                    repeat (go_quiet (fail); try go_wp2)
                    go_roundg kj2
                    case measure => have := HK1.out; have := HJ2.out; omega
                    case rel => exact ⟨(wrap64 (x5_1 + 1)), (by first | rfl | (simp; done) | (simp [*]; done)), H', ⟨by have := HK1.out; have := HJ2.out; omega⟩, by repeat (first | exact Drawn0.refl _ | apply Drawn0.step)⟩
                  · rw [if_neg c11] at H
                    have c11b0 : ((bt a0 x5_1) == (bt a1 x5_1)) = false := beq_eq_false_iff_ne.mpr c11
                    have c11b1 : ((bt a0 x5_1) != (bt a1 x5_1)) = true := bne_iff_ne.mpr c11
                    obtain rfl := zQ H
                    have p8 : 0 ≤ (x5_1 : Int) := zP (by first | (with_reducible assumption) | assumption)
                    have q8 : x5_1 < (a0.size : Int) := zP (by first | (with_reducible assumption) | assumption)
                    have hx8 := bt_at a0 x5_1
                    replace p8 := eq_true p8
                    replace q8 := eq_true q8
                    have p10 : 0 ≤ (x5_1 : Int) := zP (by first | (with_reducible assumption) | assumption)
                    have q10 : x5_1 < (a1.size : Int) := zP (by first | (with_reducible assumption) | assumption)
                    have hx10 := bt_at a1 x5_1
                    replace p10 := eq_true p10
                    replace q10 := eq_true q10
                    have p12 : 0 ≤ (x5_1 : Int) := zP (by first | (with_reducible assumption) | assumption)
                    have q12 : x5_1 < (a0.size : Int) := zP (by first | (with_reducible assumption) | assumption)
                    have hx12 := bt_at a0 x5_1
                    replace p12 := eq_true p12
                    replace q12 := eq_true q12
                    have p13 : 0 ≤ (x5_1 : Int) := zP (by first | (with_reducible assumption) | assumption)
                    have q13 : x5_1 < (a1.size : Int) := zP (by first | (with_reducible assumption) | assumption)
                    have hx13 := bt_at a1 x5_1
                    replace p13 := eq_true p13
                    replace q13 := eq_true q13
                    go_wp2
                    repeat (go_quiet (fail); try go_wp2)
                    go_ret
                    exact ⟨by first | rfl | (simp; done) | (simp [*]; done), by repeat (first | exact Drawn0.refl _ | apply Drawn0.step)⟩
                · rw [if_neg c9] at H
                  exact absurd H (by simp)
              · rw [if_neg c7] at H
                exact absurd H (by simp)
            · rw [if_neg c6] at H
              exact absurd H (by simp)
          · replace c5 := Bool.eq_false_iff.mpr c5
            subst c5
            have H1 : (some (decide ((a0.size : Int) < (a1.size : Int)))) = some r := by rw [if_neg (show ¬ (false = true) by decide)] at H; exact H
            clear H
            have H := H1
            clear H1
            obtain rfl := zQ H
            go_wp2
            repeat (go_quiet (fail); try go_wp2)
            go_ret
            exact ⟨by first | rfl | (simp; done) | (simp [*]; done), by repeat (first | exact Drawn0.refl _ | apply Drawn0.step)⟩

/-! ### boscageref07_last: function 67 -/
def boscageref07_last.l0 : Nat → List (S65) → Int → Int → Option (Bool)
  | 0, _, _, _ => none
  | k + 1, x0, x1, x5 => if x5 < (x0.length : Int) then (if 0 ≤ x5 then (if 0 ≤ x1 then (if x1 < (x0.length : Int) then (if ((rd_T65 x0 x5).f0).toList = ((rd_T65 x0 x1).f0).toList then (some false) else (boscageref07_last.l0 k x0 x1 (wrap64 (x5 + 1)))) else (none)) else (none)) else (none)) else (some true)
def boscageref07_last.f (k : Nat) (l0 : List (S65)) (a1 : Int) : Option (Bool) := boscageref07_last.l0 k l0 a1 (wrap64 (a1 + 1))
set_option maxHeartbeats 8000000 in
set_option maxRecDepth 100000 in
theorem boscageref07_last.calls (k : Nat) (A0 : Option Addr) (c0 : Nat) (l0 : List (S65)) (a1 : Int) (r : Bool) (w : World) (hr0 : Kd.C k65 w A0 l0.length l0) (hc0 : l0.length ≤ c0) (h : boscageref07_last.f k l0 a1 = some r) :
    Calls Tryd.prog 67 #[.slice A0 l0.length c0, .int .i64 a1] w fun e w' => e = .returned (.bool r) ∧ Drawn0 w w' := by
  have HR0 := zX hr0
  have HC0 := zX hc0
  clear hr0 hc0
  have H : (boscageref07_last.l0 k l0 a1 (wrap64 (a1 + 1))) = some r := h
  clear h
  have H' := zX H
  clear H
  go_enter Tryd.func67, Tryd.ntmps67
  go_wp2
  repeat (go_quiet (fail); try go_wp2)
  go_loopg [5] k (fun kq v5 w' => ∃ (x5_1 : Int), v5 = .int .i64 x5_1 ∧ Aside0 (boscageref07_last.l0 kq l0 a1 x5_1 = some r) ∧ Aside0 (kq ≤ k) ∧ Drawn0 w w')
  case atStart => exact ⟨(wrap64 (a1 + 1)), (by first | rfl | (simp; done) | (simp [*]; done)), H', ⟨Nat.le_refl _⟩, by repeat (first | exact Drawn0.refl _ | apply Drawn0.step)⟩
  case round =>
    clear H'
    try clear p2
    obtain ⟨x5_1, rfl, HA, HK1, ⟨m1, rfl⟩⟩ := hrel
    cases gk with
    | zero => exact absurd HA.out (by simp [boscageref07_last.l0])
    | succ k1 =>
      have H := HA.out
      clear HA
      simp only [boscageref07_last.l0] at H
      by_cases c3 : x5_1 < (l0.length : Int)
      · rw [if_pos c3] at H
        have c3b0 : decide (x5_1 < (l0.length : Int)) = true := zW c3
        clear c3
        by_cases c4 : 0 ≤ x5_1
        · rw [if_pos c4] at H
          have c4b0 : decide (0 ≤ x5_1) = true := zW c4
          clear c4
          by_cases c5 : 0 ≤ a1
          · rw [if_pos c5] at H
            have c5b0 : decide (0 ≤ a1) = true := zW c5
            clear c5
            by_cases c6 : a1 < (l0.length : Int)
            · rw [if_pos c6] at H
              have c6b0 : decide (a1 < (l0.length : Int)) = true := zW c6
              clear c6
              by_cases c7 : ((rd_T65 l0 x5_1).f0).toList = ((rd_T65 l0 a1).f0).toList
              · rw [if_pos c7] at H
                have c7b0 : (((rd_T65 l0 x5_1).f0).toList == ((rd_T65 l0 a1).f0).toList) = true := beq_iff_eq.mpr c7
                have c7b1 : (((rd_T65 l0 x5_1).f0).toList != ((rd_T65 l0 a1).f0).toList) = false := bne_eq_false_iff_eq.mpr c7
                clear c7
                obtain rfl := zQ H
                have p198 : 0 ≤ (x5_1 : Int) := zP (by first | (with_reducible assumption) | assumption)
                have q198 : x5_1 < (l0.length : Int) := zP (by first | (with_reducible assumption) | assumption)
                obtain ⟨ad198, e198, hx198_0, hx198_1⟩ := at_T65 HR0.out x5_1 p198 q198
                cases e198
                replace p198 := eq_true p198
                replace q198 := eq_true q198
                have p199 : 0 ≤ (a1 : Int) := zP (by first | (with_reducible assumption) | assumption)
                have q199 : a1 < (l0.length : Int) := zP (by first | (with_reducible assumption) | assumption)
                obtain ⟨ad199, e199, hx199_0, hx199_1⟩ := at_T65 HR0.out a1 p199 q199
                obtain rfl : ad198 = ad199 := (by injection e199)
                replace p199 := eq_true p199
                replace q199 := eq_true q199
                go_wp2
                repeat (go_quiet (fail); try go_wp2)
                go_ret
                exact ⟨by first | rfl | (simp; done) | (simp [*]; done), by repeat (first | exact Drawn0.refl _ | apply Drawn0.step)⟩
              · rw [if_neg c7] at H
                have c7b0 : (((rd_T65 l0 x5_1).f0).toList == ((rd_T65 l0 a1).f0).toList) = false := beq_eq_false_iff_ne.mpr c7
                have c7b1 : (((rd_T65 l0 x5_1).f0).toList != ((rd_T65 l0 a1).f0).toList) = true := bne_iff_ne.mpr c7
                have H' := zX H
                clear H
                have p198 : 0 ≤ (x5_1 : Int) := zP (by first | (with_reducible assumption) | assumption)
                have q198 : x5_1 < (l0.length : Int) := zP (by first | (with_reducible assumption) | assumption)
                obtain ⟨ad198, e198, hx198_0, hx198_1⟩ := at_T65 HR0.out x5_1 p198 q198
                cases e198
                replace p198 := eq_true p198
                replace q198 := eq_true q198
                have p199 : 0 ≤ (a1 : Int) := zP (by first | (with_reducible assumption) | assumption)
                have q199 : a1 < (l0.length : Int) := zP (by first | (with_reducible assumption) | assumption)
                obtain ⟨ad199, e199, hx199_0, hx199_1⟩ := at_T65 HR0.out a1 p199 q199
                obtain rfl : ad198 = ad199 := (by injection e199)
                replace p199 := eq_true p199
                replace q199 := eq_true q199
                go_wp2
                repeat (go_quiet (fail); try go_wp2)
                go_roundg k1
                case measure => have := HK1.out; omega
                case rel => exact ⟨(wrap64 (x5_1 + 1)), (by first | rfl | (simp; done) | (simp [*]; done)), H', ⟨by have := HK1.out; omega⟩, by repeat (first | exact Drawn0.refl _ | apply Drawn0.step)⟩
            · rw [if_neg c6] at H
              exact absurd H (by simp)
          · rw [if_neg c5] at H
            exact absurd H (by simp)
        · rw [if_neg c4] at H
          exact absurd H (by simp)
      · rw [if_neg c3] at H
        have c3b0 : decide (x5_1 < (l0.length : Int)) = false := decide_eq_false c3
        clear c3
        obtain rfl := zQ H
        go_wp2
        repeat (go_quiet (fail); try go_wp2)
        go_ret
        exact ⟨by first | rfl | (simp; done) | (simp [*]; done), by repeat (first | exact Drawn0.refl _ | apply Drawn0.step)⟩

/-! ### boscageref07_Make: function 36 -/
-- FULL boscage/boscageref07.Make
-- NEEDS boscage/boscageref07.last boscage/boscageref01.Less
-- KIND rounds=0 making=1
/-! the reference's Make -/
theorem less_loop (a b : ByteArray) (ha : a.size ≤ 1099511627776) (hb : b.size ≤ 1099511627776) : ∀ (d i k : Nat), a.size - i = d → i ≤ a.size → i ≤ b.size → (∀ j, j < i → a.data[j]? = b.data[j]?) → 2 * d + 2 < k → boscageref01_Less.l0 k a b (i : Int) = some (decide (cmpS a b < 0))
  | d, i, k, hd, hi, hj, he, hk => by
    obtain ⟨k, rfl⟩ : ∃ m, k = m + 2 := ⟨k - 2, by omega⟩
    have hc := cmp_com a.data.toList b.data.toList
    change cmpS a b = (if comS a b = _ ∧ comS a b = _ then (0 : Int) else if comS a b = _ then (-1 : Int) else if comS a b = _ then (1 : Int) else if b.data.toList.getD (comS a b) 0 < a.data.toList.getD (comS a b) 0 then (1 : Int) else (-1 : Int)) at hc
    simp only [Array.length_toList] at hc
    change cmpS a b = (if comS a b = a.size ∧ comS a b = b.size then (0 : Int) else if comS a b = a.size then (-1 : Int) else if comS a b = b.size then (1 : Int) else _) at hc
    have HC := Lib.hid hc
    clear hc
    simp only [boscageref01_Less.l0]
    by_cases h1 : i < a.size ∧ i < b.size
    · obtain ⟨h1, h2⟩ := h1
      obtain ⟨d, rfl⟩ : ∃ e, d = e + 1 := ⟨d - 1, by omega⟩
      rw [if_pos (by omega), zW (by omega)]
      simp only [boscageref01_Less.j1, if_true]
      rw [if_pos (by omega), if_pos (by omega), if_pos (by omega)]
      have e0 : bt a (i : Int) = ((a[i]'h1).toNat : Int) := (bt_at a (i : Int) (by simpa using h1)).symm
      have e1 : bt b (i : Int) = ((b[i]'h2).toNat : Int) := (bt_at b (i : Int) (by simpa using h2)).symm
      rw [e0, e1]
      clear e0 e1
      have q0 : a.data[i]? = some (a[i]'h1) := by rw [Array.getElem?_eq_getElem h1]; rfl
      have q1 : b.data[i]? = some (b[i]'h2) := by rw [Array.getElem?_eq_getElem h2]; rfl
      by_cases h3 : a[i] = b[i]
      · rw [if_pos (by rw [h3]), show wrap64 ((i : Int) + 1) = ((i + 1 : Nat) : Int) from by unfold wrap64; omega]
        refine less_loop a b ha hb d (i + 1) k (by omega) (by omega) (by omega) (fun j hjj => ?_) (by omega)
        by_cases e : j = i
        · subst e; rw [q0, q1, h3]
        · exact he j (by omega)
      · have h4 : a[i].toNat ≠ b[i].toNat := fun h => h3 (UInt8.toNat_inj.1 h)
        have hcs : comS a b = i := common_stop hi hj he (.inr (.inr (by rw [q0, q1]; exact fun h => h3 (zQ h))))
        have g0 : a.data.toList.getD i 0 = a[i] := by rw [List.getD_eq_getElem?_getD, Array.getElem?_toList, q0]; rfl
        have g1 : b.data.toList.getD i 0 = b[i] := by rw [List.getD_eq_getElem?_getD, Array.getElem?_toList, q1]; rfl
        rw [if_neg (by omega)]
        have hc := HC.out
        rw [hcs, if_neg (by omega), if_neg (by omega), if_neg (by omega), g0, g1] at hc
        congr 1
        by_cases h5 : b[i] < a[i]
        · rw [if_pos h5] at hc
          rw [UInt8.lt_iff_toNat_lt] at h5
          rw [hc, decide_eq_false (by omega), decide_eq_false (by omega)]
        · rw [if_neg h5] at hc
          rw [UInt8.lt_iff_toNat_lt] at h5
          rw [hc, zW (by omega), zW (by omega)]
    · have hcs : comS a b = i := common_stop hi hj he (by omega)
      have hr : boscageref01_Less.j1 (k + 1) a b (i : Int) false = some (decide ((a.size : Int) < (b.size : Int))) := by
        simp only [boscageref01_Less.j1]
        rw [if_neg (by simp)]
      have hv : decide ((a.size : Int) < (b.size : Int)) = decide (cmpS a b < 0) := by
        have hc := HC.out
        rw [hcs] at hc
        by_cases h2 : i = a.size
        · by_cases h3 : i = b.size
          · rw [if_pos ⟨h2, h3⟩] at hc; rw [hc, decide_eq_false (by omega), decide_eq_false (by omega)]
          · rw [if_neg (fun h => h3 h.2), if_pos h2] at hc; rw [hc, zW (by omega), zW (by omega)]
        · have h3 : i = b.size := by omega
          rw [if_neg (fun h => h2 h.1), if_neg h2, if_pos h3] at hc; rw [hc, decide_eq_false (by omega), decide_eq_false (by omega)]
      by_cases h2 : i < a.size
      · rw [if_pos (by omega), decide_eq_false (by omega), hr, hv]
      · rw [if_neg (by omega), hr, hv]
theorem less_tells (a b : ByteArray) (ha : a.size ≤ 1099511627776) (hb : b.size ≤ 1099511627776) : boscageref01_Less.f (2 * a.size + 3) a b = some (decide (cmpS a b < 0)) := by
  unfold boscageref01_Less.f
  exact less_loop a b ha hb a.size 0 _ (by omega) (by omega) (by omega) (fun j hj => by omega) (by omega)
theorem less_calls (a b : ByteArray) (ha : a.size ≤ 1099511627776) (hb : b.size ≤ 1099511627776) (w : World) :
    Calls Tryd.prog 46 #[.string a, .string b] w fun e w' => e = .returned (.bool (decide (cmpS a b < 0))) ∧ ∃ n, w' = w.drewN n :=
  (boscageref01_Less.calls _ a b _ w (less_tells a b ha hb)).mono fun _ _ h => ⟨h.1, h.2.out⟩
/-- The element at i. -/
def elt (l : List S65) (i : Nat) : S65 := rd_T65 l (i : Int)
theorem elt_at {l : List S65} {i : Nat} (h : i < l.length) : l[i]? = some (elt l i) := by
  unfold elt rd_T65
  rw [Int.toNat_natCast, List.getD_eq_getElem?_getD, List.getElem?_eq_getElem h]; rfl
theorem low_le' (l : List S65) (key : ByteArray) : low l key ≤ l.length := (List.takeWhile_sublist _).length_le
/-- Is a binding the last one with its key? -/
def lastB (l : List S65) (i : Nat) : Bool := (l.drop (i + 1)).all fun q => decide (q.f0 ≠ (elt l i).f0)
theorem toList_inj {a b : ByteArray} : a.toList = b.toList ↔ a = b := by
  constructor
  · intro h
    rw [ByteArray.toList_eq, ByteArray.toList_eq] at h
    cases a; cases b
    simpa [Array.ext_iff] using h
  · rintro rfl; rfl
theorem last_loop (l : List S65) (i : Nat) (hi : i < l.length) (hl : l.length ≤ 1099511627776) : ∀ (d j k : Nat), l.length - j = d → j ≤ l.length → d < k → boscageref07_last.l0 k l (i : Int) (j : Int) = some ((l.drop j).all fun q => decide (q.f0 ≠ (elt l i).f0))
  | d, j, k, hd, hj, hk => by
    obtain ⟨k, rfl⟩ : ∃ m, k = m + 1 := ⟨k - 1, by omega⟩
    simp only [boscageref07_last.l0]
    by_cases h : j < l.length
    · obtain ⟨d, rfl⟩ : ∃ e, d = e + 1 := ⟨d - 1, by omega⟩
      have e1 : l.drop j = elt l j :: l.drop (j + 1) := by
        rw [List.drop_eq_getElem_cons h]; congr 1
        have := elt_at h; rw [List.getElem?_eq_getElem h] at this; exact zQ this
      have wu : wrap64 ((j : Int) + 1) = ((j + 1 : Nat) : Int) := by unfold wrap64; omega
      rw [if_pos (by omega), if_pos (by omega), if_pos (by omega), if_pos (by omega), wu, last_loop l i hi hl d (j + 1) k (by omega) (by omega) (by omega), e1, List.all_cons]
      change (if (elt l j).f0.toList = (elt l i).f0.toList then _ else _) = _
      by_cases e : (elt l j).f0 = (elt l i).f0
      · rw [if_pos (by rw [e]), decide_eq_false (by simpa using e)]; rfl
      · rw [if_neg (fun h => e (toList_inj.1 h)), zW e]; rfl
    · rw [if_neg (by omega), List.drop_eq_nil_of_le (by omega)]; rfl
theorem last_tells (l : List S65) (i : Nat) (hi : i < l.length) (hl : l.length ≤ 1099511627776) : boscageref07_last.f (l.length + 1) l (i : Int) = some (lastB l i) := by
  unfold boscageref07_last.f
  have wu : wrap64 ((i : Int) + 1) = ((i + 1 : Nat) : Int) := by unfold wrap64; omega
  rw [wu]
  exact last_loop l i hi hl _ (i + 1) _ rfl (by omega) (by omega)
def refIns (out : List S65) (p : S65) : List S65 := out.take (low out p.f0) ++ p :: out.drop (low out p.f0)
def refTo (l : List S65) : Nat → List S65
  | 0 => []
  | i + 1 => if lastB l i = true then refIns (refTo l i) (elt l i) else refTo l i
theorem refTo_len (l : List S65) : ∀ i, (refTo l i).length ≤ i
  | 0 => Nat.le_refl _
  | i + 1 => by
    have := refTo_len l i
    unfold refTo
    split
    · have := low_le' (refTo l i) (elt l i).f0
      simp only [refIns, List.length_append, List.length_cons, zN, zO]; omega
    · omega
theorem low_next (key : ByteArray) : ∀ (l : List S65) (i : Nat) (p : S65), i ≤ low l key → l[i]? = some p → (cmpS p.f0 key < 0 ↔ i < low l key)
  | [], i, p, _, h => by simp at h
  | q :: l, 0, p, _, h => by
    simp at h
    subst h
    rw [low_step]
    by_cases hq : cmpS q.f0 key < 0
    · rw [if_pos hq]; simp [hq]
    · rw [if_neg hq]; simp [hq]
  | q :: l, i + 1, p, hi, h => by
    rw [low_step] at hi ⊢
    by_cases hq : cmpS q.f0 key < 0
    · rw [if_pos hq] at hi ⊢
      have := low_next key l i p (by omega) (by simpa using h)
      rw [this]; omega
    · rw [if_neg hq] at hi; omega
theorem R_empty {W : World} {base : Nat} (hb : base ≤ W.heap.size) : Kd.R k65 65 (W.alloc (.cells #[] 65)) base (fun _ => True) (.slice (some ⟨W.heap.size, 0, none⟩) 0 0) [] :=
  ⟨fun _ _ => trivial, [], World.ownsRow_lit W #[] 0 hb (by unfold maxLen; omega) rfl, Reps.none _ _⟩
theorem C_one {W : World} {N : Nat} {a b : ByteArray} (h : W.heap[N]? = some (.cells #[.string a, .string b] 65 (0, 0))) : Kd.C k65 W (some ⟨N, 0, none⟩) 1 [⟨a, b⟩] := by
  refine ⟨rfl, by omega, fun _ => ⟨_, rfl, fun j p hj => ?_⟩⟩
  cases j with
  | zero =>
    simp at hj
    subst hj
    refine ⟨[.string a, .string b], rfl, k65_mk W ⟨a, b⟩, fun i u hu => ?_⟩
    rw [Addr.add_lit, cell_row h]
    simpa using hu
  | succ j => simp at hj
theorem refIns_mem {out : List S65} {p q : S65} (h : q ∈ refIns out p) : q ∈ out ∨ q = p := by
  unfold refIns at h
  rw [List.mem_append, List.mem_cons] at h
  rcases h with h | h | h
  · exact .inl (List.mem_of_mem_take h)
  · exact .inr h
  · exact .inl (List.mem_of_mem_drop h)
theorem refTo_ok (l : List S65) (B : Nat) (h : ∀ j, j < l.length → (elt l j).f0.size ≤ B) : ∀ i, i ≤ l.length → ∀ q ∈ refTo l i, q.f0.size ≤ B
  | 0, _, q, hq => by cases hq
  | i + 1, hi, q, hq => by
    unfold refTo at hq
    split at hq
    · rcases refIns_mem hq with hq | hq
      · exact refTo_ok l B h i (by omega) q hq
      · rw [hq]; exact h i (by omega)
    · exact refTo_ok l B h i (by omega) q hq
theorem stepRows {ops : Array Oper} {o : Oper} {a : Act} {Q : Exit → Act → World → Prop} {Kc : Act → World → Prop} {W0 W : World} (hw : Region.wanted o (yielded ops a.tmps) = true) (s x : Operand)
    (ho : o.op = .call { callee := .builtin .append, args := #[s, x], argTypes := #[24, 24] }) (v : Value) (xs ys : List S65) (A : Option Addr) (m c : Nat) (hs : a.eval s = v) (hx : a.eval x = .slice A m c)
    (HO : Kd.R k65 65 W W0.heap.size (fun _ => True) v xs) (HR : Kd.C k65 W A m ys) (HB : Below W0.heap.size W0 W) (hl : xs.length + m ≤ 2000000)
    (h : ∀ v1 w1, Kd.R k65 65 w1 W0.heap.size (fun _ => True) v1 (xs ++ ys) → Below W0.heap.size W0 w1 → W.grownBy w1 v.ownBlock → Kc (a.put o.dst v1) w1) :
    if Region.wanted o (yielded ops a.tmps) = true then Oper.wp Tryd.prog o a W Kc Q else Kc (a.put o.dst undef) W :=
  Kd.R_append_rows_step k65 (w0 := W0) W0.heap.size hw s x 24 65 (.agg #[(.string ⟨#[]⟩), (.string ⟨#[]⟩)]) 32 ho Tryd.underlying24 info65 rfl (by decide) (by omega) v xs ys A m c (fun _ => True) (fun _ => False) hs hx HO HR (fun _ _ h => h) (fun _ h => h.elim) (fun _ _ => trivial) HB HB.size (by omega) (fun v1 w1 h1 h2 h3 _ => h v1 w1 h1 h2 h3)
/-- What stands behind the first append: its row; what is told of old blocks; the new binding's box, if it is there already. -/
theorem R_emptyB {W0 : World} {o : Obj} : Kd.R k65 65 ((W0.alloc (.cells #[] 65)).alloc o).drew W0.heap.size (fun _ => True) (.slice (some ⟨W0.heap.size, 0, none⟩) 0 0) [] := Kd.R_drew (Kd.R_alloc (R_empty (Nat.le_refl _)) _)
theorem R_emptyC {W0 : World} {o : Obj} : Kd.R k65 65 ((W0.alloc o).alloc (.cells #[] 65)).drew W0.heap.size (fun _ => True) (.slice (some ⟨W0.heap.size + 1, 0, none⟩) 0 0) [] := by
  have := R_empty (W := W0.alloc o) (base := W0.heap.size) (by rw [World.size_alloc]; omega)
  rw [World.size_alloc] at this
  exact zh this
theorem drew_more {w w2 : World} {m x : Nat} (h : ∃ n, w2 = (w.drewN (m + x)).drewN n) : ∃ n, w2 = w.drewN (m + n) := by
  obtain ⟨n, rfl⟩ := h
  exact ⟨x + n, by rw [World.drewN_drewN, Nat.add_assoc]⟩
theorem C_nil (W : World) (A : Option Addr) : Kd.C k65 W A 0 [] := ⟨rfl, by omega, fun h => absurd h (by omega)⟩
theorem heap_kept {W w1 : World} {v : Value} {g N : Nat} {o : Obj} (h : W.heap[N]? = some o) (hg : W.grownBy w1 v.ownBlock) (hv : v.ownBlock = some g) (hne : N ≠ g) : w1.heap[N]? = some o := by
  have hN : N < W.heap.size := by
    rcases Nat.lt_or_ge N W.heap.size with h' | h'
    · exact h'
    · simp [Array.getElem?_eq_none h'] at h
  rw [hg.block N hN (by rw [hv]; exact fun e => hne (zQ e))]
  exact h
theorem boxB {W0 : World} {o1 o : Obj} : ((W0.alloc o1).alloc o).drew.heap[W0.heap.size + 1]? = some o := by
  have h : ((W0.alloc o1).alloc o).heap[(W0.alloc o1).heap.size]? = some o := alloc_at
  rw [World.size_alloc] at h
  exact h
theorem boxC {W0 : World} {o1 o : Obj} : ((W0.alloc o).alloc o1).drew.heap[W0.heap.size]? = some o := by
  have h : ((W0.alloc o).alloc o1).heap[W0.heap.size]? = some o := by
    rw [Below.heap_alloc _ _ _ (by rw [World.size_alloc]; omega)]
    exact alloc_at
  exact h
def boscageref07_Make.f (l0 : List S65) : Option (List S65) := if (fit l0 && decide (l0.length ≤ 1000000)) = true then some (refTo l0 l0.length) else none
set_option maxHeartbeats 8000000 in
set_option maxRecDepth 100000 in
theorem boscageref07_Make.calls (A0 : Option Addr) (c0 : Nat) (l0 : List S65) (r : List S65) (w : World) (hr0 : Kd.C k65 w A0 l0.length l0) (hc0 : l0.length ≤ c0) (h : boscageref07_Make.f l0 = some r) :
    Calls Tryd.prog 36 #[.slice A0 l0.length c0] w fun e w' => ∃ v0_ : Value, e = .returned (v0_) ∧ Kd.R k65 65 w' w.heap.size (fun _ => True) v0_ r ∧ Below w.heap.size w w' := by
  unfold boscageref07_Make.f at h
  split at h
  · rename_i hs
    obtain rfl := zQ h
    clear h
    simp only [Bool.and_eq_true, decide_eq_true_eq] at hs
    obtain ⟨hfit, hlen⟩ := hs
    have hkeys : ∀ i, i < l0.length → (elt l0 i).f0.size ≤ 1099511627776 := by
      intro i hi
      simp only [fit, Bool.and_eq_true, decide_eq_true_eq, List.all_eq_true] at hfit
      exact hfit.2 _ (List.mem_of_getElem? (elt_at hi))
    have HR0 := zX hr0
    have HC0 := zX hc0
    have HK := Lib.hid hkeys
    have HFIT := Lib.hid hfit
    clear hr0 hc0 hkeys hfit
    have hB0 : Below w.heap.size w (w.alloc (.cells #[] 65)) := (zi _ _).alloc (Nat.le_refl _) _
    have HB0 := zX hB0
    have HE0 := zX (R_empty (W := w) (Nat.le_refl _))
    clear hB0
    go_enter Tryd.func36, Tryd.ntmps36
    go_wp2
    go_loopw [3, 4] (fun so si wr => ∃ i : Nat, i ≤ l0.length ∧ si = .int .i64 i ∧ Aside0 (Kd.R k65 65 wr w.heap.size (fun _ => True) so (refTo l0 i)) ∧ Aside0 (Below w.heap.size w wr)) (fun _ si _ => l0.length - (intOf si).toNat)
    case atStart => exact ⟨0, by omega, rfl, HE0, HB0⟩
    case round =>
      obtain ⟨i, hi, rfl, HO, HB⟩ := hrel
      clear HE0 HB0
      by_cases hil : i < l0.length
      · have HL := Lib.hid (fun (W : World) (hb : Below w.heap.size w W) => boscageref07_last.calls _ A0 c0 l0 (i : Int) (lastB l0 i) W (zZ HR0.out hb) HC0.out (last_tells l0 i hil (by omega)))
        cases hlast : lastB l0 i with
        | false =>
          have HN := Lib.hid (show refTo l0 (i + 1) = refTo l0 i by rw [refTo, hlast]; rfl)
          rw [hlast] at HL
          clear hlast
          go_wp2_with (go_at_call 67; refine (HL.out _ HB.out).mono ?_; rintro e w1 ⟨rfl, ⟨nq, rfl⟩⟩)
          go_roundw
          case rel => exact ⟨i + 1, by omega, by go_num, ⟨by rw [HN.out]; exact HO.out⟩, ⟨zE HB.out _⟩⟩
          case measure => simp [intOf]; omega
        | true =>
          have HN := Lib.hid (show refTo l0 (i + 1) = refIns (refTo l0 i) (elt l0 i) by rw [refTo, hlast]; rfl)
          rw [hlast] at HL
          clear hlast
          obtain ⟨A1, c1, hv, hlc, hC1⟩ := Kd.R_reads HO.out
          have hol := refTo_len l0 i
          have HOUTOK := Lib.hid (refTo_ok l0 _ HK.out i hi)
          obtain ⟨out, hout⟩ : ∃ out, out = refTo l0 i := ⟨_, rfl⟩
          obtain ⟨p, hp⟩ : ∃ p, p = elt l0 i := ⟨_, rfl⟩
          have HPK : Hid (p.f0.size ≤ 1099511627776) := by rw [hp]; exact HK.out i hil
          rw [← hout] at HO hv hlc hC1 hol HOUTOK
          rw [← hout, ← hp] at HN
          have HP := Lib.hid hp
          subst hv
          clear hout hp
          have hll := low_le' out p.f0
          go_wp2_with (go_at_call 67; refine (HL.out _ HB.out).mono ?_; rintro e w1 ⟨rfl, ⟨nq, rfl⟩⟩)
          have HOK : Hid (∀ q ∈ out, q.f0.size ≤ 1099511627776) := HOUTOK
          go_loopw [5] (fun sa wr2 => ∃ a m : Nat, a ≤ low out p.f0 ∧ sa = .int .i64 a ∧ wr2 = wr.drewN m) (fun sa _ => out.length - (intOf sa).toNat)
          case atStart => exact ⟨0, nq, by omega, rfl, rfl⟩
          case round =>
            obtain ⟨a, m, ha, rfl, rfl⟩ := hrel
            obtain ⟨adl, el, y0, y1⟩ := at_T65 (zZ HR0.out HB.out) (i : Int) (by omega) (by omega)
            simp only [Int.toNat_natCast] at y0 y1
            change _ = some (Value.string (elt l0 i).f0) at y0
            change _ = some (Value.string (elt l0 i).f1) at y1
            rw [← HP.out] at y0 y1
            cases el
            by_cases hal : a < out.length
            · obtain ⟨ad, e, x0, x1⟩ := at_T65 hC1 (a : Int) (by omega) (by omega)
              simp only [Int.toNat_natCast] at x0 x1
              change _ = some (Value.string (elt out a).f0) at x0
              change _ = some (Value.string (elt out a).f1) at x1
              cases e
              have hct := low_next p.f0 out a _ ha (elt_at hal)
              have hqs := HOK.out _ (List.mem_of_getElem? (elt_at hal))
              by_cases hlt : cmpS (elt out a).f0 p.f0 < 0
              · have hla := hct.1 hlt
                have HLS := Lib.hid (fun W => by have := less_calls (elt out a).f0 p.f0 hqs HPK.out W; rw [zW hlt] at this; exact this)
                clear hct hlt hqs
                go_wp2
                go_quiet ((go_at_call 46; exact (HLS.out _).mono fun _ _ h => ⟨h.1, drew_more h.2⟩))
                go_wp2
                go_roundw
                case rel => exact ⟨a + 1, _, by omega, by go_num, rfl⟩
                case measure => simp [intOf]; omega
              · have hla : ¬ a < low out p.f0 := fun h => hlt (hct.2 h)
                have HLS := Lib.hid (fun W => by have := less_calls (elt out a).f0 p.f0 hqs HPK.out W; rw [decide_eq_false hlt] at this; exact this)
                clear hct hlt hqs
                go_wp2
                go_quiet ((go_at_call 46; exact (HLS.out _).mono fun _ _ h => ⟨h.1, drew_more h.2⟩))
                go_wp2
                have hq : low out p.f0 = a := by omega
                have HN2 : Hid (refTo l0 (i + 1) = (out.take a ++ [p]) ++ out.drop a) := Lib.hid (by rw [HN.out, refIns, hq, List.append_assoc]; rfl)
                obtain ⟨W0, hW0⟩ : ∃ W, W = (wr.drewN m).drewN nq := ⟨_, rfl⟩
                have HC1 := zX (zZ hC1 (show Below wr.heap.size wr W0 from hW0 ▸ zE (zE (zi _ _) m) nq))
                have HB2 := zX (show Below w.heap.size w W0 from hW0 ▸ zE (zE HB.out m) nq)
                rw [← hW0]
                have HY : Hid (∀ W, Below W0.heap.size W0 W → W.cell? (adl.add (i * 2)) = some (.string p.f0) ∧ W.cell? ⟨(adl.add (i * 2)).block, (adl.add (i * 2)).off + 1, none⟩ = some (.string p.f1)) := Lib.hid (fun W hW => by
                  obtain ⟨adx, ex, t0, t1⟩ := at_T65 (zZ (zZ HR0.out HB2.out) hW) (i : Int) (by omega) (by omega)
                  simp only [Int.toNat_natCast] at t0 t1
                  change _ = some (Value.string (elt l0 i).f0) at t0
                  change _ = some (Value.string (elt l0 i).f1) at t1
                  rw [← HP.out] at t0 t1
                  cases ex
                  exact ⟨t0, t1⟩)
                clear hW0 hC1 HO hq hll ha
                have z0 := (HY.out W0.drew (zi _ _).drew).1
                have z1 := (HY.out W0.drew (zi _ _).drew).2
                have z2 := (HY.out (W0.alloc (.cells #[] 65)).drew (((zi _ _).alloc (Nat.le_refl _) _).drew)).1
                have z3 := (HY.out (W0.alloc (.cells #[] 65)).drew (((zi _ _).alloc (Nat.le_refl _) _).drew)).2
                clear y0 y1
                have hac : a ≤ c1 := by omega
                have HT : Aside0 (Kd.C k65 W0 (some ad) a (out.take a)) := ⟨by have := Kd.C_take HC1.out (m := a) (by omega); rw [zN, Nat.min_eq_left (by omega)] at this; exact this⟩
                have HTL := Lib.hid (show (out.take a).length = a from by rw [zN]; omega)
                have HLEN := Lib.hid (show out.length ≤ 1000000 from by omega)
                have b1 : ¬ (c1 = a) := by omega
                have b2 : a ≤ out.length := by omega
                have HD : Aside0 (Kd.C k65 W0 (some (ad.add (a * 2))) (out.length - a) (out.drop a)) := by
                  have := Kd.C_drop HC1.out (m := a) (c := c1) (by omega) (by omega)
                  rw [if_neg b1, zO] at this
                  exact ⟨this⟩
                go_region_law (first
                  | (refine stepRows (W0 := W0) rfl (.tmp 36) (.tmp 39) rfl (.slice (some ⟨W0.heap.size, 0, none⟩) 0 0) [] (out.take a) (some ad) a c1 (by simp [Act.eval, Act.put]) (by simp [Act.eval, Act.put]) (zh (R_empty (Nat.le_refl _))) (zZ HT.out ((zi _ _).alloc (Nat.le_refl _) _).drew) ((zi _ _).alloc (Nat.le_refl _) _).drew (by have := HLEN.out; simp only [List.length_nil]; omega) (fun v1 w1 h1 h2 h3 => ?_); go_loud (have HR1 := zX h1); go_loud (have HB3 := zX h2); go_loud (have x0 := (HY.out _ h2).1); go_loud (have x1 := (HY.out _ h2).2); go_loud (clear h1 h2 h3))
                  | (refine stepRows (W0 := W0) rfl (.tmp 36) (.tmp 39) rfl (.slice (some ⟨W0.heap.size, 0, none⟩) 0 0) [] (out.take a) (some ad) a c1 (by simp [Act.eval, Act.put]) (by simp [Act.eval, Act.put]) R_emptyB (zZ HT.out ((((zi _ _).alloc (Nat.le_refl _) _).alloc (by rw [World.size_alloc]; omega) _).drew)) ((((zi _ _).alloc (Nat.le_refl _) _).alloc (by rw [World.size_alloc]; omega) _).drew) (by have := HLEN.out; simp only [List.length_nil]; omega) (fun v1 w1 h1 h2 h3 => ?_); go_loud (have HR1 := zX h1); go_loud (have HB3 := zX h2); go_loud (have HX := zX (C_one (heap_kept (g := W0.heap.size) boxB h3 rfl (by omega)))); go_loud (have x0 := (HY.out _ h2).1); go_loud (have x1 := (HY.out _ h2).2); go_loud (clear h1 h2 h3))
                  | (refine stepRows (W0 := W0) rfl (.tmp 36) (.tmp 39) rfl (.slice (some ⟨W0.heap.size + 1, 0, none⟩) 0 0) [] (out.take a) (some ad) a c1 (by simp [Act.eval, Act.put]) (by simp [Act.eval, Act.put]) R_emptyC (zZ HT.out ((((zi _ _).alloc (Nat.le_refl _) _).alloc (by rw [World.size_alloc]; omega) _).drew)) ((((zi _ _).alloc (Nat.le_refl _) _).alloc (by rw [World.size_alloc]; omega) _).drew) (by have := HLEN.out; simp only [List.length_nil]; omega) (fun v1 w1 h1 h2 h3 => ?_); go_loud (have HR1 := zX h1); go_loud (have HB3 := zX h2); go_loud (have HX := zX (C_one (heap_kept (g := W0.heap.size + 1) boxC h3 rfl (by omega)))); go_loud (have x0 := (HY.out _ h2).1); go_loud (have x1 := (HY.out _ h2).2); go_loud (clear h1 h2 h3))
                  | (refine stepRows (W0 := W0) rfl (.tmp 40) (.tmp 45) rfl v1 (out.take a) [p] (some ⟨w1.heap.size, 0, none⟩) 1 1 (by simp [Act.eval, Act.put]) (by simp [Act.eval, Act.put]) (za HR1.out _) (C_one (alloc_at)) (HB3.out.alloc HB3.out.size _) (by have := HLEN.out; simp only [List.nil_append, HTL.out]; omega) (fun v2 w2 h1 h2 h3 => ?_); go_loud (have HR2 := zX h1); go_loud (have HB4 := zX h2); go_loud (clear h1 h2 h3))
                  | (refine stepRows (W0 := W0) rfl (.tmp 40) (.tmp 45) rfl v1 (out.take a) [p] (some ⟨W0.heap.size + 1, 0, none⟩) 1 1 (by simp [Act.eval, Act.put]) (by simp [Act.eval, Act.put]) HR1.out HX.out HB3.out (by have := HLEN.out; simp only [List.nil_append, HTL.out]; omega) (fun v2 w2 h1 h2 h3 => ?_); go_loud (have HR2 := zX h1); go_loud (have HB4 := zX h2); go_loud (clear h1 h2 h3))
                  | (refine stepRows (W0 := W0) rfl (.tmp 40) (.tmp 45) rfl v1 (out.take a) [p] (some ⟨W0.heap.size, 0, none⟩) 1 1 (by simp [Act.eval, Act.put]) (by simp [Act.eval, Act.put]) HR1.out HX.out HB3.out (by have := HLEN.out; simp only [List.nil_append, HTL.out]; omega) (fun v2 w2 h1 h2 h3 => ?_); go_loud (have HR2 := zX h1); go_loud (have HB4 := zX h2); go_loud (clear h1 h2 h3))
                  | (refine stepRows (W0 := W0) rfl (.tmp 46) (.tmp 49) rfl v2 (out.take a ++ [p]) (out.drop a) (some (ad.add (a * 2))) (out.length - a) (c1 - a) (by simp [Act.eval, Act.put]) (by simp [Act.eval, Act.put]) HR2.out (zZ HD.out HB4.out) HB4.out (by have := HLEN.out; simp only [List.length_append, HTL.out, List.length_cons, List.length_nil]; omega) (fun v3 w3 h1 h2 h3 => ?_); go_loud (have HR3 := zX h1); go_loud (have HB5 := zX h2); go_loud (clear h1 h2 h3)))
                all_goals (go_wp2; go_roundw; exact ⟨i + 1, by omega, by go_num, ⟨by rw [HN2.out]; exact Kd.R_lower HR3.out HB2.out.size⟩, ⟨HB2.out.trans (HB5.out.mono HB2.out.size)⟩⟩; simp [intOf]; omega)
            · go_wp2
              go_quiet (fail)
              go_wp2
              have hae : a = out.length := by omega
              obtain ⟨_, cs0, hown0, _⟩ := HO.out
              rcases own_cases hown0 with ⟨hx, hx0, hx9⟩ | ⟨g, cap, cur, hx, hx1, hx2, hx3, hx4, hx5, hx6⟩
              · injection hx with hxA hxn hxc
                clear hxn
                subst hxA
                subst hxc
                have hq : low out p.f0 = a := by omega
                have HN2 : Hid (refTo l0 (i + 1) = (out.take a ++ [p]) ++ out.drop a) := Lib.hid (by rw [HN.out, refIns, hq, List.append_assoc]; rfl)
                obtain ⟨W0, hW0⟩ : ∃ W, W = (wr.drewN m).drewN nq := ⟨_, rfl⟩
                have HC1 := zX (zZ hC1 (show Below wr.heap.size wr W0 from hW0 ▸ zE (zE (zi _ _) m) nq))
                have HB2 := zX (show Below w.heap.size w W0 from hW0 ▸ zE (zE HB.out m) nq)
                rw [← hW0]
                have HY : Hid (∀ W, Below W0.heap.size W0 W → W.cell? (adl.add (i * 2)) = some (.string p.f0) ∧ W.cell? ⟨(adl.add (i * 2)).block, (adl.add (i * 2)).off + 1, none⟩ = some (.string p.f1)) := Lib.hid (fun W hW => by
                  obtain ⟨adx, ex, t0, t1⟩ := at_T65 (zZ (zZ HR0.out HB2.out) hW) (i : Int) (by omega) (by omega)
                  simp only [Int.toNat_natCast] at t0 t1
                  change _ = some (Value.string (elt l0 i).f0) at t0
                  change _ = some (Value.string (elt l0 i).f1) at t1
                  rw [← HP.out] at t0 t1
                  cases ex
                  exact ⟨t0, t1⟩)
                clear hW0 hC1 HO hq hll ha
                have z0 := (HY.out W0.drew (zi _ _).drew).1
                have z1 := (HY.out W0.drew (zi _ _).drew).2
                have z2 := (HY.out (W0.alloc (.cells #[] 65)).drew (((zi _ _).alloc (Nat.le_refl _) _).drew)).1
                have z3 := (HY.out (W0.alloc (.cells #[] 65)).drew (((zi _ _).alloc (Nat.le_refl _) _).drew)).2
                clear y0 y1
                have hac : a ≤ 0 := by omega
                have HT : Aside0 (Kd.C k65 W0 (none) a (out.take a)) := ⟨by have := Kd.C_take HC1.out (m := a) (by omega); rw [zN, Nat.min_eq_left (by omega)] at this; exact this⟩
                have HTL := Lib.hid (show (out.take a).length = a from by rw [zN]; omega)
                have HLEN := Lib.hid (show out.length ≤ 1000000 from by omega)
                have hbs : a = 0 := by omega
                have HD : Aside0 (Kd.C k65 W0 (none) (0) (out.drop a)) := ⟨by rw [List.drop_eq_nil_of_le (by omega)]; exact C_nil _ _⟩
                obtain rfl : a = 0 := hbs
                clear hae hx0 hx9 hown0
                go_region_law (first
                  | (refine stepRows (W0 := W0) rfl (.tmp 36) (.tmp 39) rfl (.slice (some ⟨W0.heap.size, 0, none⟩) 0 0) [] (out.take 0) (none) 0 0 (by simp [Act.eval, Act.put]) (by simp [Act.eval, Act.put]) (zh (R_empty (Nat.le_refl _))) (zZ HT.out ((zi _ _).alloc (Nat.le_refl _) _).drew) ((zi _ _).alloc (Nat.le_refl _) _).drew (by have := HLEN.out; simp only [List.length_nil]; omega) (fun v1 w1 h1 h2 h3 => ?_); go_loud (have HR1 := zX h1); go_loud (have HB3 := zX h2); go_loud (have x0 := (HY.out _ h2).1); go_loud (have x1 := (HY.out _ h2).2); go_loud (clear h1 h2 h3))
                  | (refine stepRows (W0 := W0) rfl (.tmp 36) (.tmp 39) rfl (.slice (some ⟨W0.heap.size, 0, none⟩) 0 0) [] (out.take 0) (none) 0 0 (by simp [Act.eval, Act.put]) (by simp [Act.eval, Act.put]) R_emptyB (zZ HT.out ((((zi _ _).alloc (Nat.le_refl _) _).alloc (by rw [World.size_alloc]; omega) _).drew)) ((((zi _ _).alloc (Nat.le_refl _) _).alloc (by rw [World.size_alloc]; omega) _).drew) (by have := HLEN.out; simp only [List.length_nil]; omega) (fun v1 w1 h1 h2 h3 => ?_); go_loud (have HR1 := zX h1); go_loud (have HB3 := zX h2); go_loud (have HX := zX (C_one (heap_kept (g := W0.heap.size) boxB h3 rfl (by omega)))); go_loud (have x0 := (HY.out _ h2).1); go_loud (have x1 := (HY.out _ h2).2); go_loud (clear h1 h2 h3))
                  | (refine stepRows (W0 := W0) rfl (.tmp 36) (.tmp 39) rfl (.slice (some ⟨W0.heap.size + 1, 0, none⟩) 0 0) [] (out.take 0) (none) 0 0 (by simp [Act.eval, Act.put]) (by simp [Act.eval, Act.put]) R_emptyC (zZ HT.out ((((zi _ _).alloc (Nat.le_refl _) _).alloc (by rw [World.size_alloc]; omega) _).drew)) ((((zi _ _).alloc (Nat.le_refl _) _).alloc (by rw [World.size_alloc]; omega) _).drew) (by have := HLEN.out; simp only [List.length_nil]; omega) (fun v1 w1 h1 h2 h3 => ?_); go_loud (have HR1 := zX h1); go_loud (have HB3 := zX h2); go_loud (have HX := zX (C_one (heap_kept (g := W0.heap.size + 1) boxC h3 rfl (by omega)))); go_loud (have x0 := (HY.out _ h2).1); go_loud (have x1 := (HY.out _ h2).2); go_loud (clear h1 h2 h3))
                  | (refine stepRows (W0 := W0) rfl (.tmp 40) (.tmp 45) rfl v1 (out.take 0) [p] (some ⟨w1.heap.size, 0, none⟩) 1 1 (by simp [Act.eval, Act.put]) (by simp [Act.eval, Act.put]) (za HR1.out _) (C_one (alloc_at)) (HB3.out.alloc HB3.out.size _) (by have := HLEN.out; simp only [List.nil_append, HTL.out]; omega) (fun v2 w2 h1 h2 h3 => ?_); go_loud (have HR2 := zX h1); go_loud (have HB4 := zX h2); go_loud (clear h1 h2 h3))
                  | (refine stepRows (W0 := W0) rfl (.tmp 40) (.tmp 45) rfl v1 (out.take 0) [p] (some ⟨W0.heap.size + 1, 0, none⟩) 1 1 (by simp [Act.eval, Act.put]) (by simp [Act.eval, Act.put]) HR1.out HX.out HB3.out (by have := HLEN.out; simp only [List.nil_append, HTL.out]; omega) (fun v2 w2 h1 h2 h3 => ?_); go_loud (have HR2 := zX h1); go_loud (have HB4 := zX h2); go_loud (clear h1 h2 h3))
                  | (refine stepRows (W0 := W0) rfl (.tmp 40) (.tmp 45) rfl v1 (out.take 0) [p] (some ⟨W0.heap.size, 0, none⟩) 1 1 (by simp [Act.eval, Act.put]) (by simp [Act.eval, Act.put]) HR1.out HX.out HB3.out (by have := HLEN.out; simp only [List.nil_append, HTL.out]; omega) (fun v2 w2 h1 h2 h3 => ?_); go_loud (have HR2 := zX h1); go_loud (have HB4 := zX h2); go_loud (clear h1 h2 h3))
                  | (refine stepRows (W0 := W0) rfl (.tmp 46) (.tmp 49) rfl v2 (out.take 0 ++ [p]) (out.drop 0) (none) (0) (0) (by simp [Act.eval, Act.put]) (by simp [Act.eval, Act.put]) HR2.out (zZ HD.out HB4.out) HB4.out (by have := HLEN.out; simp only [List.length_append, HTL.out, List.length_cons, List.length_nil]; omega) (fun v3 w3 h1 h2 h3 => ?_); go_loud (have HR3 := zX h1); go_loud (have HB5 := zX h2); go_loud (clear h1 h2 h3)))
                all_goals (go_wp2; go_roundw; exact ⟨i + 1, by omega, by go_num, ⟨by rw [HN2.out]; exact Kd.R_lower HR3.out HB2.out.size⟩, ⟨HB2.out.trans (HB5.out.mono HB2.out.size)⟩⟩; simp [intOf]; omega)
              · injection hx with hxA hxn hxc
                clear hxn
                subst hxA
                subst hxc
                clear hx1 hx2 hx3 hx4 hx5 hx6
                by_cases b1 : c1 = a
                · have b1s : a = c1 := b1.symm
                  subst b1s
                  have hq : low out p.f0 = a := by omega
                  have HN2 : Hid (refTo l0 (i + 1) = (out.take a ++ [p]) ++ out.drop a) := Lib.hid (by rw [HN.out, refIns, hq, List.append_assoc]; rfl)
                  obtain ⟨W0, hW0⟩ : ∃ W, W = (wr.drewN m).drewN nq := ⟨_, rfl⟩
                  have HC1 := zX (zZ hC1 (show Below wr.heap.size wr W0 from hW0 ▸ zE (zE (zi _ _) m) nq))
                  have HB2 := zX (show Below w.heap.size w W0 from hW0 ▸ zE (zE HB.out m) nq)
                  rw [← hW0]
                  have HY : Hid (∀ W, Below W0.heap.size W0 W → W.cell? (adl.add (i * 2)) = some (.string p.f0) ∧ W.cell? ⟨(adl.add (i * 2)).block, (adl.add (i * 2)).off + 1, none⟩ = some (.string p.f1)) := Lib.hid (fun W hW => by
                    obtain ⟨adx, ex, t0, t1⟩ := at_T65 (zZ (zZ HR0.out HB2.out) hW) (i : Int) (by omega) (by omega)
                    simp only [Int.toNat_natCast] at t0 t1
                    change _ = some (Value.string (elt l0 i).f0) at t0
                    change _ = some (Value.string (elt l0 i).f1) at t1
                    rw [← HP.out] at t0 t1
                    cases ex
                    exact ⟨t0, t1⟩)
                  clear hW0 hC1 HO hq hll ha
                  have z0 := (HY.out W0.drew (zi _ _).drew).1
                  have z1 := (HY.out W0.drew (zi _ _).drew).2
                  have z2 := (HY.out (W0.alloc (.cells #[] 65)).drew (((zi _ _).alloc (Nat.le_refl _) _).drew)).1
                  have z3 := (HY.out (W0.alloc (.cells #[] 65)).drew (((zi _ _).alloc (Nat.le_refl _) _).drew)).2
                  clear y0 y1
                  have hac : a ≤ a := by omega
                  have HT : Aside0 (Kd.C k65 W0 (some ⟨g, 0, none⟩) a (out.take a)) := ⟨by have := Kd.C_take HC1.out (m := a) (by omega); rw [zN, Nat.min_eq_left (by omega)] at this; exact this⟩
                  have HTL := Lib.hid (show (out.take a).length = a from by rw [zN]; omega)
                  have HLEN := Lib.hid (show out.length ≤ 1000000 from by omega)
                  have b2 : a ≤ out.length := by omega
                  have HD : Aside0 (Kd.C k65 W0 (some ⟨g, 0, none⟩) (0) (out.drop a)) := ⟨by rw [List.drop_eq_nil_of_le (by omega)]; exact C_nil _ _⟩
                  clear hae
                  go_region_law (first
                    | (refine stepRows (W0 := W0) rfl (.tmp 36) (.tmp 39) rfl (.slice (some ⟨W0.heap.size, 0, none⟩) 0 0) [] (out.take a) (some ⟨g, 0, none⟩) a a (by simp [Act.eval, Act.put]) (by simp [Act.eval, Act.put]) (zh (R_empty (Nat.le_refl _))) (zZ HT.out ((zi _ _).alloc (Nat.le_refl _) _).drew) ((zi _ _).alloc (Nat.le_refl _) _).drew (by have := HLEN.out; simp only [List.length_nil]; omega) (fun v1 w1 h1 h2 h3 => ?_); go_loud (have HR1 := zX h1); go_loud (have HB3 := zX h2); go_loud (have x0 := (HY.out _ h2).1); go_loud (have x1 := (HY.out _ h2).2); go_loud (clear h1 h2 h3))
                    | (refine stepRows (W0 := W0) rfl (.tmp 36) (.tmp 39) rfl (.slice (some ⟨W0.heap.size, 0, none⟩) 0 0) [] (out.take a) (some ⟨g, 0, none⟩) a a (by simp [Act.eval, Act.put]) (by simp [Act.eval, Act.put]) R_emptyB (zZ HT.out ((((zi _ _).alloc (Nat.le_refl _) _).alloc (by rw [World.size_alloc]; omega) _).drew)) ((((zi _ _).alloc (Nat.le_refl _) _).alloc (by rw [World.size_alloc]; omega) _).drew) (by have := HLEN.out; simp only [List.length_nil]; omega) (fun v1 w1 h1 h2 h3 => ?_); go_loud (have HR1 := zX h1); go_loud (have HB3 := zX h2); go_loud (have HX := zX (C_one (heap_kept (g := W0.heap.size) boxB h3 rfl (by omega)))); go_loud (have x0 := (HY.out _ h2).1); go_loud (have x1 := (HY.out _ h2).2); go_loud (clear h1 h2 h3))
                    | (refine stepRows (W0 := W0) rfl (.tmp 36) (.tmp 39) rfl (.slice (some ⟨W0.heap.size + 1, 0, none⟩) 0 0) [] (out.take a) (some ⟨g, 0, none⟩) a a (by simp [Act.eval, Act.put]) (by simp [Act.eval, Act.put]) R_emptyC (zZ HT.out ((((zi _ _).alloc (Nat.le_refl _) _).alloc (by rw [World.size_alloc]; omega) _).drew)) ((((zi _ _).alloc (Nat.le_refl _) _).alloc (by rw [World.size_alloc]; omega) _).drew) (by have := HLEN.out; simp only [List.length_nil]; omega) (fun v1 w1 h1 h2 h3 => ?_); go_loud (have HR1 := zX h1); go_loud (have HB3 := zX h2); go_loud (have HX := zX (C_one (heap_kept (g := W0.heap.size + 1) boxC h3 rfl (by omega)))); go_loud (have x0 := (HY.out _ h2).1); go_loud (have x1 := (HY.out _ h2).2); go_loud (clear h1 h2 h3))
                    | (refine stepRows (W0 := W0) rfl (.tmp 40) (.tmp 45) rfl v1 (out.take a) [p] (some ⟨w1.heap.size, 0, none⟩) 1 1 (by simp [Act.eval, Act.put]) (by simp [Act.eval, Act.put]) (za HR1.out _) (C_one (alloc_at)) (HB3.out.alloc HB3.out.size _) (by have := HLEN.out; simp only [List.nil_append, HTL.out]; omega) (fun v2 w2 h1 h2 h3 => ?_); go_loud (have HR2 := zX h1); go_loud (have HB4 := zX h2); go_loud (clear h1 h2 h3))
                    | (refine stepRows (W0 := W0) rfl (.tmp 40) (.tmp 45) rfl v1 (out.take a) [p] (some ⟨W0.heap.size + 1, 0, none⟩) 1 1 (by simp [Act.eval, Act.put]) (by simp [Act.eval, Act.put]) HR1.out HX.out HB3.out (by have := HLEN.out; simp only [List.nil_append, HTL.out]; omega) (fun v2 w2 h1 h2 h3 => ?_); go_loud (have HR2 := zX h1); go_loud (have HB4 := zX h2); go_loud (clear h1 h2 h3))
                    | (refine stepRows (W0 := W0) rfl (.tmp 40) (.tmp 45) rfl v1 (out.take a) [p] (some ⟨W0.heap.size, 0, none⟩) 1 1 (by simp [Act.eval, Act.put]) (by simp [Act.eval, Act.put]) HR1.out HX.out HB3.out (by have := HLEN.out; simp only [List.nil_append, HTL.out]; omega) (fun v2 w2 h1 h2 h3 => ?_); go_loud (have HR2 := zX h1); go_loud (have HB4 := zX h2); go_loud (clear h1 h2 h3))
                    | (refine stepRows (W0 := W0) rfl (.tmp 46) (.tmp 49) rfl v2 (out.take a ++ [p]) (out.drop a) (some ⟨g, 0, none⟩) (0) (0) (by simp [Act.eval, Act.put]) (by simp [Act.eval, Act.put]) HR2.out (zZ HD.out HB4.out) HB4.out (by have := HLEN.out; simp only [List.length_append, HTL.out, List.length_cons, List.length_nil]; omega) (fun v3 w3 h1 h2 h3 => ?_); go_loud (have HR3 := zX h1); go_loud (have HB5 := zX h2); go_loud (clear h1 h2 h3)))
                  all_goals (go_wp2; go_roundw; exact ⟨i + 1, by omega, by go_num, ⟨by rw [HN2.out]; exact Kd.R_lower HR3.out HB2.out.size⟩, ⟨HB2.out.trans (HB5.out.mono HB2.out.size)⟩⟩; simp [intOf]; omega)
                · have hq : low out p.f0 = a := by omega
                  have HN2 : Hid (refTo l0 (i + 1) = (out.take a ++ [p]) ++ out.drop a) := Lib.hid (by rw [HN.out, refIns, hq, List.append_assoc]; rfl)
                  obtain ⟨W0, hW0⟩ : ∃ W, W = (wr.drewN m).drewN nq := ⟨_, rfl⟩
                  have HC1 := zX (zZ hC1 (show Below wr.heap.size wr W0 from hW0 ▸ zE (zE (zi _ _) m) nq))
                  have HB2 := zX (show Below w.heap.size w W0 from hW0 ▸ zE (zE HB.out m) nq)
                  rw [← hW0]
                  have HY : Hid (∀ W, Below W0.heap.size W0 W → W.cell? (adl.add (i * 2)) = some (.string p.f0) ∧ W.cell? ⟨(adl.add (i * 2)).block, (adl.add (i * 2)).off + 1, none⟩ = some (.string p.f1)) := Lib.hid (fun W hW => by
                    obtain ⟨adx, ex, t0, t1⟩ := at_T65 (zZ (zZ HR0.out HB2.out) hW) (i : Int) (by omega) (by omega)
                    simp only [Int.toNat_natCast] at t0 t1
                    change _ = some (Value.string (elt l0 i).f0) at t0
                    change _ = some (Value.string (elt l0 i).f1) at t1
                    rw [← HP.out] at t0 t1
                    cases ex
                    exact ⟨t0, t1⟩)
                  clear hW0 hC1 HO hq hll ha
                  have z0 := (HY.out W0.drew (zi _ _).drew).1
                  have z1 := (HY.out W0.drew (zi _ _).drew).2
                  have z2 := (HY.out (W0.alloc (.cells #[] 65)).drew (((zi _ _).alloc (Nat.le_refl _) _).drew)).1
                  have z3 := (HY.out (W0.alloc (.cells #[] 65)).drew (((zi _ _).alloc (Nat.le_refl _) _).drew)).2
                  clear y0 y1
                  have hac : a ≤ c1 := by omega
                  have HT : Aside0 (Kd.C k65 W0 (some ⟨g, 0, none⟩) a (out.take a)) := ⟨by have := Kd.C_take HC1.out (m := a) (by omega); rw [zN, Nat.min_eq_left (by omega)] at this; exact this⟩
                  have HTL := Lib.hid (show (out.take a).length = a from by rw [zN]; omega)
                  have HLEN := Lib.hid (show out.length ≤ 1000000 from by omega)
                  have b2 : a ≤ out.length := by omega
                  have HD : Aside0 (Kd.C k65 W0 (some ⟨g, a * 2, none⟩) (out.length - a) (out.drop a)) := ⟨by rw [List.drop_eq_nil_of_le (by omega), show out.length - a = 0 by omega]; exact C_nil _ _⟩
                  clear hae
                  go_region_law (first
                    | (refine stepRows (W0 := W0) rfl (.tmp 36) (.tmp 39) rfl (.slice (some ⟨W0.heap.size, 0, none⟩) 0 0) [] (out.take a) (some ⟨g, 0, none⟩) a c1 (by simp [Act.eval, Act.put]) (by simp [Act.eval, Act.put]) (zh (R_empty (Nat.le_refl _))) (zZ HT.out ((zi _ _).alloc (Nat.le_refl _) _).drew) ((zi _ _).alloc (Nat.le_refl _) _).drew (by have := HLEN.out; simp only [List.length_nil]; omega) (fun v1 w1 h1 h2 h3 => ?_); go_loud (have HR1 := zX h1); go_loud (have HB3 := zX h2); go_loud (have x0 := (HY.out _ h2).1); go_loud (have x1 := (HY.out _ h2).2); go_loud (clear h1 h2 h3))
                    | (refine stepRows (W0 := W0) rfl (.tmp 36) (.tmp 39) rfl (.slice (some ⟨W0.heap.size, 0, none⟩) 0 0) [] (out.take a) (some ⟨g, 0, none⟩) a c1 (by simp [Act.eval, Act.put]) (by simp [Act.eval, Act.put]) R_emptyB (zZ HT.out ((((zi _ _).alloc (Nat.le_refl _) _).alloc (by rw [World.size_alloc]; omega) _).drew)) ((((zi _ _).alloc (Nat.le_refl _) _).alloc (by rw [World.size_alloc]; omega) _).drew) (by have := HLEN.out; simp only [List.length_nil]; omega) (fun v1 w1 h1 h2 h3 => ?_); go_loud (have HR1 := zX h1); go_loud (have HB3 := zX h2); go_loud (have HX := zX (C_one (heap_kept (g := W0.heap.size) boxB h3 rfl (by omega)))); go_loud (have x0 := (HY.out _ h2).1); go_loud (have x1 := (HY.out _ h2).2); go_loud (clear h1 h2 h3))
                    | (refine stepRows (W0 := W0) rfl (.tmp 36) (.tmp 39) rfl (.slice (some ⟨W0.heap.size + 1, 0, none⟩) 0 0) [] (out.take a) (some ⟨g, 0, none⟩) a c1 (by simp [Act.eval, Act.put]) (by simp [Act.eval, Act.put]) R_emptyC (zZ HT.out ((((zi _ _).alloc (Nat.le_refl _) _).alloc (by rw [World.size_alloc]; omega) _).drew)) ((((zi _ _).alloc (Nat.le_refl _) _).alloc (by rw [World.size_alloc]; omega) _).drew) (by have := HLEN.out; simp only [List.length_nil]; omega) (fun v1 w1 h1 h2 h3 => ?_); go_loud (have HR1 := zX h1); go_loud (have HB3 := zX h2); go_loud (have HX := zX (C_one (heap_kept (g := W0.heap.size + 1) boxC h3 rfl (by omega)))); go_loud (have x0 := (HY.out _ h2).1); go_loud (have x1 := (HY.out _ h2).2); go_loud (clear h1 h2 h3))
                    | (refine stepRows (W0 := W0) rfl (.tmp 40) (.tmp 45) rfl v1 (out.take a) [p] (some ⟨w1.heap.size, 0, none⟩) 1 1 (by simp [Act.eval, Act.put]) (by simp [Act.eval, Act.put]) (za HR1.out _) (C_one (alloc_at)) (HB3.out.alloc HB3.out.size _) (by have := HLEN.out; simp only [List.nil_append, HTL.out]; omega) (fun v2 w2 h1 h2 h3 => ?_); go_loud (have HR2 := zX h1); go_loud (have HB4 := zX h2); go_loud (clear h1 h2 h3))
                    | (refine stepRows (W0 := W0) rfl (.tmp 40) (.tmp 45) rfl v1 (out.take a) [p] (some ⟨W0.heap.size + 1, 0, none⟩) 1 1 (by simp [Act.eval, Act.put]) (by simp [Act.eval, Act.put]) HR1.out HX.out HB3.out (by have := HLEN.out; simp only [List.nil_append, HTL.out]; omega) (fun v2 w2 h1 h2 h3 => ?_); go_loud (have HR2 := zX h1); go_loud (have HB4 := zX h2); go_loud (clear h1 h2 h3))
                    | (refine stepRows (W0 := W0) rfl (.tmp 40) (.tmp 45) rfl v1 (out.take a) [p] (some ⟨W0.heap.size, 0, none⟩) 1 1 (by simp [Act.eval, Act.put]) (by simp [Act.eval, Act.put]) HR1.out HX.out HB3.out (by have := HLEN.out; simp only [List.nil_append, HTL.out]; omega) (fun v2 w2 h1 h2 h3 => ?_); go_loud (have HR2 := zX h1); go_loud (have HB4 := zX h2); go_loud (clear h1 h2 h3))
                    | (refine stepRows (W0 := W0) rfl (.tmp 46) (.tmp 49) rfl v2 (out.take a ++ [p]) (out.drop a) (some ⟨g, a * 2, none⟩) (out.length - a) (c1 - a) (by simp [Act.eval, Act.put]) (by simp [Act.eval, Act.put]) HR2.out (zZ HD.out HB4.out) HB4.out (by have := HLEN.out; simp only [List.length_append, HTL.out, List.length_cons, List.length_nil]; omega) (fun v3 w3 h1 h2 h3 => ?_); go_loud (have HR3 := zX h1); go_loud (have HB5 := zX h2); go_loud (clear h1 h2 h3)))
                  all_goals (go_wp2; go_roundw; exact ⟨i + 1, by omega, by go_num, ⟨by rw [HN2.out]; exact Kd.R_lower HR3.out HB2.out.size⟩, ⟨HB2.out.trans (HB5.out.mono HB2.out.size)⟩⟩; simp [intOf]; omega)
      · have hie : i = l0.length := by omega
        subst hie
        go_wp2
        go_ret
        exact ⟨_, rfl, HO.out, HB.out⟩
  · cases h

end Go.Proofs.YthnococjdeafhaaDoor.PModelKeeps
