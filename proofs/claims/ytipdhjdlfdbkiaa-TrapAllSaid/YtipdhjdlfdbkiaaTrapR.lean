/- Layer 10: the reference's All. -/
import Derived.Test.YtipdhjdlfdbkiaaTrapW
namespace Go.Proofs.Ytipdhjdlfdbkiaa.TrapS
set_option linter.unusedSimpArgs false
set_option linter.unusedVariables false
open Go.RowKit Go.Proofs Go.Proofs.Ytipdhjdlfdbkiaa.Heap Go.Proofs.Ytipdhjdlfdbkiaa.Refs Go.Proofs.Ytipdhjdlfdbkiaa.ArenaM Go.Proofs.Ytipdhjdlfdbkiaa.ArenaInt Go.Proofs.Ytipdhjdlfdbkiaa.TOwn Go.Proofs.Ytipdhjdlfdbkiaa.RefArena Go.Proofs.Ytipdhjdlfdbkiaa.Trap
set_option maxRecDepth 100000 in
set_option maxHeartbeats 8000000 in
theorem refall_calls (w : World) (q bv bi bb M : Nat) (rv : Value) (A : AM Int) (l vs : List Int) (d lc : Nat) (LA : Option Addr) (hbr : Br w q bv bi bb rv A) (ok : A.Ok M)
    (hsrc : ∀ (j : Nat) (r : Int), l[j]? = some r → ∃ ad, LA = some ad ∧ w.cell? (ad.add j) = some (.int .i64 r))
    (hlen : l.length ≤ 1000000) (hrng : ∀ (j : Nat) (r : Int), l[j]? = some r → -9223372036854775808 ≤ r ∧ r ≤ 9223372036854775807)
    (hd : d ≤ l.length) (hvs : ∀ (j : Nat) (r : Int), j < d → l[j]? = some r → ∃ i, A.Live r i ∧ vs[j]? = some (A.v i)) (hend : d = l.length ∨ ∃ r, l[d]? = some r ∧ A.Dead r) :
    Calls Try.prog 16 #[.pointer (some ⟨q, 0, none⟩), .slice LA l.length lc] w fun e w' =>
      Below w.heap.size w w' ∧ ((d = l.length ∧ ∃ v, e = .returned (.tuple #[v, .int .i64 0, .bool true]) ∧ w'.ownsRow w.heap.size 3 1 v d (vals (vs.take d))) ∨ ∃ r, l[d]? = some r ∧ e = .returned (.tuple #[.slice none 0 0, .int .i64 r, .bool false])) := by
  have HBR := Lib.hid hbr
  have HSRC := Lib.hid hsrc
  have HRNG := Lib.hid hrng
  have HVS := Lib.hid hvs
  have HEND := Lib.hid hend
  clear hbr hsrc hrng hvs hend
  have HB0 := Lib.hid (alloc_below w (.cells #[] 3))
  have HR0 := Lib.hid (show (w.alloc (.cells #[] 3)).ownsRow w.heap.size 3 1 (.slice (some ⟨w.heap.size, 0, none⟩) 0 0) 0 (vals (vs.take 0)) from World.ownsRow_lit w #[] 0 (Nat.le_refl _) (by unfold maxLen; omega) rfl)
  go_enter Try.func16, Try.ntmps16
  go_wp2
  go_loopw [7, 8] (fun s7 s8 wr => ∃ k : Nat, k ≤ d ∧ s8 = .int .i64 k ∧ Hid (Below w.heap.size w wr) ∧ Hid (wr.ownsRow w.heap.size 3 1 s7 k (vals (vs.take k)))) (fun _ s8 _ => l.length - (intOf s8).toNat)
  case atStart => exact ⟨0, by omega, rfl, HB0, HR0⟩
  case round =>
    obtain ⟨k, hk, rfl, HB, HR⟩ := hrel
    clear HB0 HR0
    by_cases hkl : k < l.length
    · obtain ⟨r, hr⟩ : ∃ r, l[k]? = some r := ⟨_, List.getElem?_eq_getElem hkl⟩
      obtain ⟨ad, rfl, hsc⟩ := HSRC.out k r hr
      have hrn := HRNG.out k r hr
      have z0 : wr.cell? (ad.add k) = some (.int .i64 r) := (HB.out.cell (cell_lt hsc)).trans hsc
      have HAW := Lib.hid (HBR.out.step (Step.ofBelow (F := fun _ => False) HB.out fun k hk hk2 => by omega) (fun _ _ f => f))
      by_cases hkd : k < d
      · obtain ⟨i, hi, hvi⟩ := HVS.out k r hkd hr
        have HAT := Lib.hid (r_at_live HAW.out ok hrn hi)
        obtain ⟨c0, _, _, _, _⟩ := HAW.out.cells
        obtain ⟨s0, _, _, _, _, _⟩ := HAW.out.slot i hi.lt
        have hin := hi.lt
        obtain ⟨i0, hit, hz0, hz1, hz2⟩ := info_parts info_int
        have HI := Lib.hid hit
        have HZ0 := Lib.hid hz0
        have HZ1 := Lib.hid hz1
        have HZ2 := Lib.hid hz2
        clear hit hz0 hz1 hz2
        obtain ⟨ua, uc, rfl⟩ := row_form HR.out
        have hws := HB.out.size
        go_wp2_with (first
          | (go_at_call 67; refine HAT.out.mono ?_; rintro e w1 ⟨rfl, nq, hw1⟩
             ; have c0' : w1.cell? ⟨q, 0, none⟩ = some (.slice (some ⟨bv, 0, none⟩) A.n A.n) := (by rw [hw1]; exact c0)
             ; have s0' : w1.cell? ⟨bv, i, none⟩ = some (.int .i64 (A.v i)) := (by rw [hw1]; exact s0)
             ; have K3 := Lib.hid (show w1.ownsRow w.heap.size 3 1 (.slice ua k uc) k (vals (vs.take k)) from hw1 ▸ row_drewN HR.out)
             ; have K4 := Lib.hid (show w1.heap.size = wr.heap.size from (by rw [hw1]; rfl))
             ; have HW := Lib.hid hw1; clear hw1)
          | (at_builtin; go_loud (refine wpList_append_src _ rfl (.tmp 29) (.tmp 37) 22 rfl w.heap.size 3 i0 (.int .i64 0) 1 8 Try.underlying22 HI.out HZ0.out HZ1.out HZ2.out rfl (by decide) (.slice ua k uc) k (vals (vs.take k)) rfl (K3.out.alloc _) (some ⟨w1.heap.size, 0, none⟩) 1 1 [.int .i64 (A.v i)] rfl rfl (.inr ⟨_, rfl, news_one (by simp)⟩) (by intro u hu; simp at hu; subst hu; rfl) (by unfold maxLen; omega) (by omega) (by have := K4.out; simp; omega) ?_); go_loud (intro v2 w2 hown2 hgrow2 hat2); go_loud (have Q1 := Lib.hid hown2); go_loud (have Q2 := Lib.hid hgrow2); go_loud (clear hown2 hgrow2 hat2)))
        go_roundw
        case rel => exact ⟨k + 1, by omega, by go_num, Lib.hid (Below.grown (Below.alloc (HW.out ▸ below_drewN HB.out nq) (by have := K4.out; omega) _) Q2.out (by have := K4.out; simp; omega) (fun j hj => (HR.out.lt j hj).1)), Lib.hid (by rw [vals_take hvi]; exact Q1.out)⟩
        case measure => simp [intOf]; omega
      · have hdk : k = d := by omega
        subst hdk
        obtain ⟨r2, hr2, hdead⟩ : ∃ r, l[k]? = some r ∧ A.Dead r := by
          rcases HEND.out with h | h
          · omega
          · exact h
        obtain rfl : r = r2 := by rw [hr] at hr2; exact Option.some.inj hr2
        have HAT := Lib.hid (r_at_dead HAW.out ok hrn hdead)
        go_wp2_with (go_at_call 67; refine HAT.out.mono ?_; rintro e w1 ⟨rfl, nq, rfl⟩)
        go_region
        all_goals go_wp2
        all_goals go_ret3
        all_goals exact ⟨HB.out.trans (below_of_drewN _), .inr ⟨r, hr, rfl⟩⟩
    · have hdl : d = l.length := by omega
      have hkd : k = d := by omega
      subst hkd
      go_wp2
      go_ret3
      exact ⟨HB.out, .inl ⟨hdl, _, rfl, HR.out⟩⟩
/-- How far the references are live, and their values. -/
theorem live_prefix (A : AM Int) : ∀ l : List Int, ∃ (d : Nat) (vs : List Int), d ≤ l.length ∧ (∀ (j : Nat) (r : Int), j < d → l[j]? = some r → ∃ i, A.Live r i ∧ vs[j]? = some (A.v i)) ∧ (d = l.length ∨ ∃ r, l[d]? = some r ∧ A.Dead r)
  | [] => ⟨0, [], Nat.le_refl _, fun j r hj => by omega, .inl rfl⟩
  | r :: l => by
    rcases A.live_or r with ⟨i, hi⟩ | hd
    · obtain ⟨d, vs, h1, h2, h3⟩ := live_prefix A l
      refine ⟨d + 1, A.v i :: vs, by simp; omega, ?_, ?_⟩
      · intro j r2 hj hr
        cases j with
        | zero => simp at hr; subst hr; exact ⟨i, hi, rfl⟩
        | succ j => exact h2 j r2 (by omega) (by simpa using hr)
      · rcases h3 with h3 | ⟨r2, h3, h4⟩
        · exact .inl (by simp [h3])
        · exact .inr ⟨r2, by simpa using h3, h4⟩
    · exact ⟨0, [], by omega, fun j r hj => by omega, .inr ⟨r, rfl, hd⟩⟩
end Go.Proofs.Ytipdhjdlfdbkiaa.TrapS
