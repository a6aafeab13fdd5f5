/- The arena of ints: All. -/
import Derived.Test.YtbbdhefipbepdaaArenaInt
import Derived.Laws.MakeOwn
import Derived.OwnWalk
import Derived.Deep.OwnRows
import Derived.LoopTactic
import Derived.Laws.AppendOwn
namespace Go.Proofs.Ytbbdhefipbepdaa.ArenaInt
set_option linter.unusedSimpArgs false
set_option linter.unusedVariables false
open Go.RowKit Go.Proofs Go.Proofs.Ytbbdhefipbepdaa.Heap Go.Proofs.Ytbbdhefipbepdaa.Refs Go.Proofs.Ytbbdhefipbepdaa.ArenaM

/-- The live references among the first k slots. -/
def allTo (A : AM Int) (k : Nat) : List Int := ((List.range k).filter A.us).map A.ref
theorem allTo_succ_yes (A : AM Int) (k : Nat) (h : A.us k = true) : allTo A (k + 1) = allTo A k ++ [A.ref k] := by
  unfold allTo; rw [List.range_succ, List.filter_append, List.map_append]; simp [h]
theorem allTo_succ_no (A : AM Int) (k : Nat) (h : A.us k = false) : allTo A (k + 1) = allTo A k := by
  unfold allTo; rw [List.range_succ, List.filter_append, List.map_append]; simp [h]
theorem allTo_len (A : AM Int) (k : Nat) : (allTo A k).length ≤ k := by
  unfold allTo; have := List.length_filter_le A.us (List.range k); simpa using this
def vals (l : List Int) : List Value := l.map (Value.int .i64)
theorem vals_snoc (l : List Int) (x : Int) : vals (l ++ [x]) = vals l ++ [.int .i64 x] := by simp [vals]
theorem info_ref : (Try.prog.info? 22).map (fun i => (i.zero, i.size, i.bytes)) = some (some (.int .i64 0), 1, 8) := by kernel_rfl

theorem is_true {w : World} {p : Nat} (h : w.cell? ⟨p, 4, none⟩ = some (.bool true)) : Calls Try.prog 58 #[.pointer (some ⟨p, 0, none⟩)] w fun e w' => e = .returned (.bool true) ∧ w = w' := by
  go_enter Try.func58, Try.ntmps58
  go_wp2
  go_ret
  exact ⟨rfl, rfl⟩
set_option maxRecDepth 100000 in
set_option maxHeartbeats 2000000 in
theorem all_calls {w : World} {p bs M : Nat} {fv : Value} {A : AM Int} (h : Ar w p bs fv A) (ok : A.Ok M) (hM : M ≤ 4503599627370496) :
    Calls Try.prog 51 #[.pointer (some ⟨p, 0, none⟩)] w fun e w' => ∃ v, e = .returned v ∧ w'.ownsRow w.heap.size 22 1 v A.all.length (vals A.all) ∧ Below w.heap.size w w' := by
  obtain ⟨i0, hi, hz0, hz1, hz2⟩ := info_parts info_ref
  obtain ⟨c0, c1, c2, c3, c4, f1, f2, f3⟩ := h.cells
  have hn := ok.n_le
  have hlt := h.lt bs (.inr (.inl rfl))
  have hslot := h.slot
  have HSL := Lib.hid hslot
  have HI := Lib.hid hi
  have HZ0 := Lib.hid hz0
  have HZ1 := Lib.hid hz1
  have HZ2 := Lib.hid hz2
  have hincp : ∀ i, A.us i = true → 1 ≤ A.inc i ∧ i < A.n := fun i hi => ⟨ok.inc_pos i (ok.us_lt i hi), Nat.lt_of_lt_of_le (ok.us_lt i hi) ok.begun_le⟩
  have hincl := ok.inc_le
  have HIP := Lib.hid hincp
  have HIL := Lib.hid hincl
  have HOK := Lib.hid ok
  have HH := Lib.hid h
  clear hi hz0 hz1 hz2 hslot hincp hincl ok h
  go_enter Try.func51, Try.ntmps51
  go_wp2_with (go_at_call 58; refine (is_true c4).mono ?_; rintro e w' ⟨rfl, rfl⟩)
  go_loopw [3, 4, 5, 6, 16] (fun v _ _ _ i wr => ∃ k : Nat, k ≤ A.n ∧ i = .int .i64 k ∧ wr.ownsRow w.heap.size 22 1 v (allTo A k).length (vals (allTo A k)) ∧ Below w.heap.size w wr)
    (fun _ _ _ _ i _ => A.n - (intOf i).toNat)
  case atStart => exact ⟨0, Nat.zero_le _, rfl, World.ownsRow_nil _ _ _ _, Below.refl _ _⟩
  case round =>
    obtain ⟨k, hk, rfl, hown, hb⟩ := hrel
    have hsize := hb.size
    have HO := Lib.hid hown
    have HB := Lib.hid hb
    clear hown hb
    by_cases hkn : k < A.n
    · obtain ⟨s0, s1, s2, _, _, _⟩ := HSL.out k hkn
      have d0 : wr.cell? ⟨bs, k * 3, none⟩ = some (.int .i64 (A.v k)) := (HB.out.cell (p := ⟨bs, k * 3, none⟩) hlt).trans s0
      have d1 : wr.cell? ⟨bs, k * 3 + 1, none⟩ = some (.int .i64 (A.inc k)) := (HB.out.cell (p := ⟨bs, k * 3 + 1, none⟩) hlt).trans s1
      have d2 : wr.cell? ⟨bs, k * 3 + 2, none⟩ = some (.bool (A.us k)) := (HB.out.cell (p := ⟨bs, k * 3 + 2, none⟩) hlt).trans s2
      clear s0 s1 s2
      have hlen := allTo_len A k
      have hil := HIL.out k
      cases hus : A.us k with
      | true =>
        rw [hus] at d2
        have hip := (HIP.out k hus).1
        have HSUC := Lib.hid (allTo_succ_yes A k hus)
        have hmk : makeR ((k : Int) + 1) (A.inc k) = (A.ref k, 0) := by unfold makeR AM.ref; rw [if_neg (by omega), if_neg (by omega)]
        have HMK := Lib.hid hmk
        clear hus hmk
        go_wp2_with (first
          | (go_at_call 60; refine (make_calls _ _ _ (by omega) (by omega)).mono ?_; rw [HMK.out]; rintro e w' ⟨rfl, rfl⟩)
          | (at_builtin; refine wpList_append_own _ rfl _ _ 61 rfl w.heap.size 22 i0 (.int .i64 0) 1 8 Try.underlying61 HI.out HZ0.out HZ1.out HZ2.out rfl (by decide) _ _ _ rfl ((HO.out.alloc _).alloc _) ⟨wr.heap.size + 1, 0, none⟩ 1 1 [.int .i64 (A.ref k)] rfl rfl (news_one (by simp)) (by intro u hu; simp at hu; subst hu; rfl) (by unfold maxLen; omega) (by omega) (by simp; omega) ?_; intro v1 w1 hown1 hgrow1 hnil1))
        go_roundw
        case rel =>
          exact ⟨k + 1, by omega, by go_num, by rw [HSUC.out, vals_snoc, List.length_append]; exact hown1,
            ((HB.out.alloc (by omega) _).alloc (by simp; omega) _).grown hgrow1 (by simp; omega) (fun j hj => (HO.out.lt j hj).1)⟩
        case measure => simp [intOf]; omega
      | false =>
        rw [hus] at d2
        have HSUC := Lib.hid (allTo_succ_no A k hus)
        clear hus
        go_wp2
        go_roundw
        case rel => exact ⟨k + 1, by omega, by go_num, by rw [HSUC.out]; exact HO.out.alloc _, HB.out.alloc (by omega) _⟩
        case measure => simp [intOf]; omega
    · have : k = A.n := by omega
      have HK := Lib.hid this
      clear this
      go_wp2
      go_ret
      have hO := HO.out
      rw [HK.out] at hO
      exact ⟨_, rfl, hO, HB.out⟩
end Go.Proofs.Ytbbdhefipbepdaa.ArenaInt
