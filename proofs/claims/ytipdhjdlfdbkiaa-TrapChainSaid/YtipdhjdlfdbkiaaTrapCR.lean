/- Layer 10: the reference's Chain. -/
import Derived.Test.YtipdhjdlfdbkiaaTrapC
import Derived.Test.YtipdhjdlfdbkiaaTrapW
namespace Go.Proofs.Ytipdhjdlfdbkiaa.TrapS
set_option linter.unusedSimpArgs false
set_option linter.unusedVariables false
open Go.RowKit Go.Proofs Go.Proofs.Ytipdhjdlfdbkiaa.Heap Go.Proofs.Ytipdhjdlfdbkiaa.Refs Go.Proofs.Ytipdhjdlfdbkiaa.ArenaM Go.Proofs.Ytipdhjdlfdbkiaa.ArenaInt Go.Proofs.Ytipdhjdlfdbkiaa.TOwn Go.Proofs.Ytipdhjdlfdbkiaa.RefArena Go.Proofs.Ytipdhjdlfdbkiaa.Trap
/-- What the reference's Chain answers. -/
def RChainSays (w w' : World) (A : AM Int) (r : Int) (m d : Nat) (e : Ending) : Prop :=
  Below w.heap.size w w' ∧ ((it A r d = 0 ∧ ∃ v, e = .returned (.tuple #[v, .int .i64 0]) ∧ w'.ownsRow w.heap.size 3 1 v d (vals (its A r d))) ∨ (it A r d ≠ 0 ∧ d = m ∧ e = .returned (.tuple #[.slice none 0 0, .int .i64 7])) ∨ (it A r d ≠ 0 ∧ d < m ∧ e = .returned (.tuple #[.slice none 0 0, .int .i64 9])))
set_option maxRecDepth 100000 in
set_option maxHeartbeats 8000000 in
theorem rchain_calls (w : World) (q bv bi bb M : Nat) (rv : Value) (A : AM Int) (r : Int) (m d : Nat) (hbr : Br w q bv bi bb rv A) (ok : A.Ok M) (hway : Way A r m d) (hm : m ≤ 30) (hrng : ∀ k, In64 (it A r k)) :
    Calls Try.prog 20 #[.pointer (some ⟨q, 0, none⟩), .int .i64 r, .int .i64 m] w fun e w' => RChainSays w w' A r m d e := by
  have HBR := Lib.hid hbr
  have HRNG := Lib.hid hrng
  have HWAY := Lib.hid hway
  clear hbr hrng hway
  have HB0 := Lib.hid (alloc_below w (.cells #[] 3))
  have HR0 := Lib.hid (show (w.alloc (.cells #[] 3)).ownsRow w.heap.size 3 1 (.slice (some ⟨w.heap.size, 0, none⟩) 0 0) 0 (vals (its A r 0)) from World.ownsRow_lit w #[] 0 (Nat.le_refl _) (by unfold maxLen; omega) rfl)
  go_enter Try.func20, Try.ntmps20
  go_wp2
  go_loopg [8, 9] (d + 1) (fun g s8 s9 wr => ∃ k : Nat, g + k = d + 1 ∧ k ≤ d ∧ s9 = .int .i64 (it A r k) ∧ Hid (Below w.heap.size w wr) ∧ Hid (wr.ownsRow w.heap.size 3 1 s8 k (vals (its A r k))))
  case atStart => exact ⟨0, by omega, by omega, rfl, HB0, HR0⟩
  case round =>
    obtain ⟨k, hg, hk, rfl, HB, HR⟩ := hrel
    clear HB0 HR0
    have hi := HRNG.out k
    obtain ⟨ua, uc, rfl⟩ := row_form HR.out
    have HAW := Lib.hid (HBR.out.step (Step.ofBelow (F := fun _ => False) HB.out fun k hk hk2 => by omega) (fun _ _ f => f))
    have HAT := Lib.hid (HWAY.out.at hk)
    obtain ⟨x, hx⟩ : ∃ x, x = it A r k := ⟨_, rfl⟩
    have HX := Lib.hid hx
    rw [← hx] at hi ⊢
    clear hx
    rcases HAT.out with ⟨hkd, h0⟩ | ⟨hkd, h0, hkm⟩ | ⟨hkm, h0, hkd, hdead⟩ | ⟨hkm, h0, hkd, i, hl, hn⟩
    · subst hkd
      obtain rfl : x = 0 := HX.out.trans h0
      have H0 := Lib.hid h0
      clear h0
      go_wp2
      go_ret2
      exact ⟨HB.out, .inl ⟨H0.out, _, rfl, HR.out⟩⟩
    · subst hkd
      subst hkm
      have x0 : ¬ (x = 0) := fun e => h0 (HX.out.symm.trans e)
      have H0 := Lib.hid h0
      clear h0
      go_wp2
      go_ret2
      exact ⟨HB.out, .inr (.inl ⟨H0.out, rfl, rfl⟩)⟩
    · subst hkd
      have x0 : ¬ (x = 0) := fun e => h0 (HX.out.symm.trans e)
      have km : ¬ (k = m) := by omega
      have H0 := Lib.hid h0
      clear h0
      have HAT := Lib.hid (r_at_dead HAW.out ok hi (HX.out ▸ hdead))
      go_wp2_with (go_at_call 67; refine HAT.out.mono ?_; rintro e w1 ⟨rfl, nq, rfl⟩)
      go_ret2
      exact ⟨HB.out.trans (below_of_drewN _), .inr (.inr ⟨H0.out, hkm, rfl⟩)⟩
    · have x0 : ¬ (x = 0) := fun e => h0 (HX.out.symm.trans e)
      have km : ¬ (k = m) := by omega
      have H0 := Lib.hid h0
      clear h0
      have hlx : A.Live x i := HX.out ▸ hl
      have HAT := Lib.hid (r_at_live HAW.out ok hi hlx)
      obtain ⟨c0, _, _, _, _⟩ := HAW.out.cells
      obtain ⟨s0, _, _, _, _, _⟩ := HAW.out.slot i hl.lt
      have hin := hl.lt
      obtain ⟨i0, hit, hz0, hz1, hz2⟩ := info_parts info_int
      have HI := Lib.hid hit
      have HZ0 := Lib.hid hz0
      have HZ1 := Lib.hid hz1
      have HZ2 := Lib.hid hz2
      clear hit hz0 hz1 hz2
      have hws := HB.out.size
      have hqlt : q < wr.heap.size := HAW.out.lt q (.inl rfl)
      have hvlt : bv < wr.heap.size := HAW.out.lt bv (.inr (.inl rfl))
      have hq0 : q < w.heap.size := HBR.out.lt q (.inl rfl)
      have hv0 : bv < w.heap.size := HBR.out.lt bv (.inr (.inl rfl))
      have HN := Lib.hid hn
      clear hn
      go_wp2_with (first
        | (go_at_call 67; refine HAT.out.mono ?_; rintro e w1 ⟨rfl, nq, hw1⟩
             ; have K3 := Lib.hid (show w1.ownsRow w.heap.size 3 1 (.slice ua k uc) k (vals (its A r k)) from hw1 ▸ row_drewN HR.out)
             ; have K4 := Lib.hid (show w1.heap.size = wr.heap.size from (by rw [hw1]; rfl))
             ; have K5 := Lib.hid (show (w1.alloc (.cells #[.int .i64 x] 3)).cell? ⟨q, 0, none⟩ = some (.slice (some ⟨bv, 0, none⟩) A.n A.n) from (World.cell?_alloc_lt _ _ _ (by rw [hw1]; exact hqlt)).trans (by rw [hw1]; exact c0))
             ; have K6 := Lib.hid (show (w1.alloc (.cells #[.int .i64 x] 3)).cell? ⟨bv, i, none⟩ = some (.int .i64 (A.v i)) from (World.cell?_alloc_lt _ _ _ (by rw [hw1]; exact hvlt)).trans (by rw [hw1]; exact s0))
             ; have HW := Lib.hid hw1; clear hw1)
          | (at_builtin; go_loud (refine wpList_append_src _ rfl (.tmp 26) (.tmp 28) 22 rfl w.heap.size 3 i0 (.int .i64 0) 1 8 Try.underlying22 HI.out HZ0.out HZ1.out HZ2.out rfl (by decide) (.slice ua k uc) k (vals (its A r k)) rfl (K3.out.alloc _) (some ⟨w1.heap.size, 0, none⟩) 1 1 [.int .i64 x] rfl rfl (.inr ⟨_, rfl, news_one (by simp)⟩) (by intro u hu; simp at hu; subst hu; rfl) (by unfold maxLen; omega) (by omega) (by have := K4.out; simp; omega) ?_); go_loud (intro v2 w2 hown2 hgrow2 hat2); go_loud (have c0' := (World.cell?_of_block (a := ⟨q, 0, none⟩) (hgrow2.block q (by rw [World.size_alloc, K4.out]; omega) (fun e => by have := (HR.out.lt q e.symm).1; omega))).trans K5.out); go_loud (have s0' := (World.cell?_of_block (a := ⟨bv, i, none⟩) (hgrow2.block bv (by rw [World.size_alloc, K4.out]; omega) (fun e => by have := (HR.out.lt bv e.symm).1; omega))).trans K6.out); go_loud (have Q1 := Lib.hid hown2); go_loud (have Q2 := Lib.hid hgrow2); go_loud (clear hown2 hgrow2 hat2)))
      go_roundg (gk - 1)
      case measure => omega
      case rel => exact ⟨k + 1, by omega, by omega, by rw [HN.out], Lib.hid (Below.grown (Below.alloc (HW.out ▸ below_drewN HB.out nq) (by have := K4.out; omega) _) Q2.out (by have := K4.out; simp; omega) (fun j hj => (HR.out.lt j hj).1)), Lib.hid (by rw [its_succ, ← HX.out]; exact Q1.out)⟩
theorem rchain_bad (w : World) (v : Option Addr) (r m : Int) (hm : m < 0) :
    Calls Try.prog 20 #[.pointer v, .int .i64 r, .int .i64 m] w fun e w' => e = .returned (.tuple #[.slice none 0 0, .int .i64 2]) ∧ w' = w := by
  go_enter Try.func20, Try.ntmps20
  go_wp2
  go_ret2
  exact ⟨rfl, rfl⟩
end Go.Proofs.Ytipdhjdlfdbkiaa.TrapS
