/- Layer 10: the chapter's example (works). -/
import Derived.Test.YtipdhjdlfdbkiaaDoorTrapM
import Derived.Test.YtipdhjdlfdbkiaaDoorPTrapMustx2
namespace Go.Proofs.YtipdhjdlfdbkiaaDoor.TrapS
set_option linter.unusedSimpArgs false
set_option linter.unusedVariables false
open Go.RowKit Go.Proofs Go.Proofs.YtipdhjdlfdbkiaaDoor.Heap Go.Proofs.YtipdhjdlfdbkiaaDoor.Refs Go.Proofs.YtipdhjdlfdbkiaaDoor.ArenaM Go.Proofs.YtipdhjdlfdbkiaaDoor.ArenaInt Go.Proofs.YtipdhjdlfdbkiaaDoor.TOwn Go.Proofs.YtipdhjdlfdbkiaaDoor.RefArena Go.Proofs.YtipdhjdlfdbkiaaDoor.Trap
open Go.Proofs.YtipdhjdlfdbkiaaDoorW.PrintWords
theorem rowC {w : World} {B e : Nat} {v : Value} {l : List Int} (h : w.ownsRow B e 1 v l.length (vals l)) : ∃ A c, v = .slice A l.length c ∧ l.length ≤ c ∧ Kd.C (Kd.int .i64) w A l.length l := by
  rcases row_cases h with ⟨rfl, h0, _⟩ | ⟨g, cap, rfl, hg, hc, hm, hcell, _, _⟩
  · have hl : l = [] := List.eq_nil_of_length_eq_zero h0
    subst hl
    exact ⟨none, 0, rfl, Nat.le_refl _, rfl, by simp, fun h => absurd h (by simp)⟩
  · refine ⟨_, cap, rfl, hc, rfl, by unfold maxLen at hm; omega, fun _ => ⟨_, rfl, fun j p hj => ⟨[.int .i64 p], rfl, rfl, fun i u hu => ?_⟩⟩⟩
    have hjl : j < l.length := (List.getElem?_eq_some_iff.1 hj).1
    cases i with
    | succ i => simp at hu
    | zero =>
      simp at hu
      subst hu
      have := hcell j hjl
      simp [vals, hj] at this
      rw [Addr.add_lit, show 0 + (j * (Kd.int IntKind.i64).sz + 0) = j from by show 0 + (j * 1 + 0) = j; omega]
      exact this
theorem Own.fresh {B M : Nat} {W w w1 : World} {p bs : Nat} {fv : Value} {A : AM Int} (h : Own B W w p bs fv A M) (hb : Below w.heap.size w w1) : Own B W w1 p bs fv A M :=
  TOwn.Own.step h (Step.ofBelow (F := fun _ => False) hb fun k hk hk2 => by omega) (fun _ _ f => f) (fun _ f => f.elim)
def m0 : AM Int := AM.init 2 0
def m1 : AM Int := taken m0 0 7
theorem m1_live : m1.Live 1025 0 := ⟨by decide +kernel, by decide +kernel, by decide +kernel, by decide +kernel⟩
theorem alloc_below (w : World) (o : Obj) : Below w.heap.size w (w.alloc o) := (Below.refl _ _).alloc (Nat.le_refl _) o
theorem first_all {B : Nat} {W w : World} {p bs : Nat} {fv : Value} (h : Own B W w p bs fv m1 (0 + 1)) :
    Calls Tryd.prog 24 #[.pointer (some ⟨p, 0, none⟩), .slice (some ⟨w.heap.size, 0, none⟩) 1 1] (w.alloc (.cells #[.int .i64 1025] 30)) fun e w' => ∃ v, e = .returned (.tuple #[v, .int .i64 0, .int .i64 0]) ∧ Own B W w' p bs fv m1 (0 + 1) ∧ w'.ownsRow w.heap.size 3 1 v 1 (vals [7]) := by
  have hh := Own.fresh h (alloc_below w (.cells #[.int .i64 1025] 30))
  refine (all_calls (w.alloc (.cells #[.int .i64 1025] 30)) p bs (0 + 1) fv m1 [1025] [7] 1 1 (some ⟨w.heap.size, 0, none⟩) hh.ar hh.ok ?_ (by simp) ?_ (by simp) ?_ (.inl rfl)).mono ?_
  · intro j r hj
    cases j with
    | zero =>
      simp at hj
      subst hj
      exact ⟨_, rfl, by rw [Addr.add_lit]; exact cell_of heap_alloc_at⟩
    | succ j => simp at hj
  · intro j r hj
    cases j with
    | zero => simp at hj; omega
    | succ j => simp at hj
  · intro j r hj hr
    obtain rfl : j = 0 := by omega
    simp at hr
    subst hr
    exact ⟨0, m1_live, by decide +kernel⟩
  · rintro e w' ⟨hb, ⟨_, v, rfl, hr⟩ | ⟨r, hr, _⟩⟩
    · exact ⟨v, rfl, Own.fresh hh hb, row_base hr (by rw [World.size_alloc]; omega)⟩
    · simp at hr
theorem second_all {B : Nat} {W w : World} {p bs : Nat} {fv : Value} (h : Own B W w p bs fv m1 (0 + 1)) :
    Calls Tryd.prog 24 #[.pointer (some ⟨p, 0, none⟩), .slice (some ⟨w.heap.size, 0, none⟩) 2 2] (w.alloc (.cells #[.int .i64 1025, .int .i64 5] 30)) fun e w' => e = .returned (.tuple #[.slice none 0 0, .int .i64 5, .int .i64 9]) ∧ Below w.heap.size w w' := by
  have hh := Own.fresh h (alloc_below w (.cells #[.int .i64 1025, .int .i64 5] 30))
  refine (all_calls (w.alloc (.cells #[.int .i64 1025, .int .i64 5] 30)) p bs (0 + 1) fv m1 [1025, 5] [7] 1 2 (some ⟨w.heap.size, 0, none⟩) hh.ar hh.ok ?_ (by simp) ?_ (by simp) ?_ (.inr ⟨5, rfl, ?_⟩)).mono ?_
  · intro j r hj
    match j, hj with
    | 0, hj => simp at hj; subst hj; exact ⟨_, rfl, by rw [Addr.add_lit]; exact cell_of heap_alloc_at⟩
    | 1, hj => simp at hj; subst hj; exact ⟨_, rfl, by rw [Addr.add_lit]; exact cell_of heap_alloc_at⟩
    | j + 2, hj => simp at hj
  · intro j r hj
    match j, hj with
    | 0, hj => simp at hj; omega
    | 1, hj => simp at hj; omega
    | j + 2, hj => simp at hj
  · intro j r hj hr
    obtain rfl : j = 0 := by omega
    simp at hr
    subst hr
    exact ⟨0, m1_live, by decide +kernel⟩
  · intro i hl
    have h5 : slotI 5 = 0 := by decide +kernel
    have := hl.slot
    omega
  · rintro e w' ⟨hb, ⟨h1, _⟩ | ⟨r, hr, rfl⟩⟩
    · simp at h1
    · simp at hr
      subst hr
      exact ⟨rfl, (alloc_below _ _).trans (hb.mono (by rw [World.size_alloc]; omega))⟩
theorem same_list {w : World} {A1 A2 : Option Addr} {c1 c2 : Nat} {l : List Int} (h1 : Kd.C (Kd.int .i64) w A1 l.length l) (g1 : l.length ≤ c1) (h2 : Kd.C (Kd.int .i64) w A2 l.length l) (g2 : l.length ≤ c2) (hl : l.length ≤ 1000000) :
    Calls Tryd.prog 25 #[.slice A1 l.length c1, .slice A2 l.length c2] w fun e w' => e = .returned (.bool true) ∧ Below w.heap.size w w' := by
  have hs : ∀ (d i k : Nat), l.length - i = d → i ≤ l.length → d < k → PTrapMust.boscagebase_SameInts.l0 k l l (i : Int) = some true := by
    intro d
    induction d with
    | zero =>
      intro i k hd hi hk
      obtain ⟨k, rfl⟩ : ∃ m, k = m + 1 := ⟨k - 1, by omega⟩
      simp only [PTrapMust.boscagebase_SameInts.l0]
      rw [if_neg (by omega)]
    | succ d ih =>
      intro i k hd hi hk
      obtain ⟨k, rfl⟩ : ∃ m, k = m + 1 := ⟨k - 1, by omega⟩
      simp only [PTrapMust.boscagebase_SameInts.l0]
      rw [if_pos (by omega), if_pos (by omega), if_pos (by omega), if_pos trivial]
      rw [show wrap64 ((i : Int) + 1) = ((i + 1 : Nat) : Int) from by unfold wrap64; omega]
      exact ih (i + 1) k (by omega) (by omega) (by omega)
  refine (PTrapMust.boscagebase_SameInts.calls (l.length + 1) A1 c1 l A2 c2 l true w h1 g1 h2 g2 ?_).mono ?_
  · unfold PTrapMust.boscagebase_SameInts.f
    rw [if_pos rfl]
    exact hs l.length 0 _ (by omega) (by omega) (by omega)
  · rintro e w' ⟨he, hh⟩
    refine ⟨he, ?_⟩
    obtain ⟨n, rfl⟩ := hh.out
    exact below_of_drewN n
theorem same_seven {w : World} {B : Nat} {v : Value} (h : w.ownsRow B 3 1 v 1 (vals [7])) :
    Calls Tryd.prog 25 #[v, .slice (some ⟨w.heap.size, 0, none⟩) 1 1] (w.alloc (.cells #[.int .i64 7] 3)) fun e w' => e = .returned (.bool true) ∧ Below w.heap.size w w' := by
  obtain ⟨A1, c1, rfl, g1, h1⟩ := rowC (l := [7]) h
  have hb := alloc_below w (.cells #[.int .i64 7] 3)
  refine (same_list (l := [7]) (Kd.C_below h1 hb) g1 (A2 := some ⟨w.heap.size, 0, none⟩) (c2 := 1) ?_ (by simp) (by simp)).mono fun e w' ⟨he, hw⟩ => ⟨he, hb.trans (hw.mono (by rw [World.size_alloc]; omega))⟩
  refine ⟨rfl, by simp, fun _ => ⟨_, rfl, fun j p hj => ⟨[.int .i64 p], rfl, rfl, fun i u hu => ?_⟩⟩⟩
  match j, i, hj, hu with
  | 0, 0, hj, hu => simp at hj hu; subst hj; subst hu; rw [Addr.add_lit]; exact cell_of heap_alloc_at
  | 0, i + 1, hj, hu => simp at hu
  | j + 1, i, hj, hu => simp at hj
set_option maxRecDepth 100000 in
set_option maxHeartbeats 4000000 in
theorem works_calls (w : World) : Calls Tryd.prog 9 #[] w fun e w' => e = .returned (.bool true) ∧ Below w.heap.size w w' := by
  go_enter Tryd.func9, Tryd.ntmps9
  go_wp2_with fail
  refine (own_new 2 (by omega)).mono ?_
  rintro e w1 ⟨p, bs, fv, rfl, h1⟩
  have H1 := Lib.hid h1
  clear h1
  go_wp2_with fail
  refine (own_take (i := 0) (v := 1025) H1.out (by omega) (by decide +kernel) (by decide +kernel)).mono ?_
  rintro e w2 ⟨rfl, fv2, h2⟩
  have H2 := Lib.hid h2
  clear h2 H1
  have G1 := Lib.hid (first_all H2.out)
  go_wp2_with fail
  refine G1.out.mono ?_
  rintro e w3 ⟨v, rfl, h3, hrow⟩
  have H3 := Lib.hid h3
  have R3 := Lib.hid hrow
  clear h3 hrow G1 H2
  have G2 := Lib.hid (second_all H3.out)
  go_wp2_with fail
  refine G2.out.mono ?_
  rintro e w4 ⟨rfl, hb4⟩
  have H4 := Lib.hid (Own.fresh H3.out hb4)
  have R4 := Lib.hid ((Step.ofBelow (F := fun _ => False) hb4 fun k hk hk2 => by omega).row R3.out (fun _ _ f => f))
  clear hb4 H3 R3 G2
  have G3 := Lib.hid (same_seven R4.out)
  obtain ⟨a4, c4, rfl⟩ := row_form R4.out
  go_wp2_with fail
  refine G3.out.mono ?_
  rintro e w5 ⟨rfl, hb5⟩
  have H5 := Lib.hid (Own.fresh H4.out hb5)
  clear hb5 H4 G3
  go_wp2
  go_ret
  exact ⟨rfl, H5.out.below⟩
end Go.Proofs.YtipdhjdlfdbkiaaDoor.TrapS
