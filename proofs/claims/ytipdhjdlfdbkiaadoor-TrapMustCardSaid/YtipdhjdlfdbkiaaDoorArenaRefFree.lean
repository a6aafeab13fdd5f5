
/- The arena of ints: Free, over bare cells. -/
import Derived.Test.YtipdhjdlfdbkiaaDoorArenaRef
import Derived.IntWalk
import Derived.OwnWalk
namespace Go.Proofs.YtipdhjdlfdbkiaaDoor.ArenaRef
set_option linter.unusedSimpArgs false
set_option linter.unusedVariables false
open Go.RowKit Go.Proofs Go.Proofs.YtipdhjdlfdbkiaaDoor.Heap Go.Proofs.YtipdhjdlfdbkiaaDoor.Refs Go.Proofs.YtipdhjdlfdbkiaaDoor.ArenaM
section
variable {w : World} {p bs n b u c : Nat} {x v0 : Int} {us0 : Bool} {fv : Value}
theorem info_int : (Tryd.prog.info? 3).map (fun i => (i.zero, i.size, i.bytes)) = some (some (.int .i64 0), 1, 8) := by kernel_rfl

set_option maxRecDepth 100000 in
set_option maxHeartbeats 2000000 in
theorem free_raw {r : Int} {s m : Nat} {xs : List Value} {base : Nat} (hw : -9223372036854775808 ≤ r ∧ r ≤ 9223372036854775807) (hs : slotI r = (s : Int) + 1) (hs2 : s < 1000) (hu : 1 ≤ u) (hu2 : u ≤ 1000) (hne : p ≠ bs) (hm : m < 1000)
    (hat : ∀ w : World, w.cell? ⟨p, 4, none⟩ = some (.bool true) → True) (c4 : w.cell? ⟨p, 4, none⟩ = some (.bool true))
    (hAT : Calls Tryd.prog 43 #[.pointer (some ⟨p, 0, none⟩), .int .i64 r] w fun e w' => e = .returned (.pointer (some ⟨bs, s * 3, none⟩)) ∧ ∃ nq, w' = w.drewN nq)
    (c1 : w.cell? ⟨p, 1, none⟩ = some fv) (c3 : w.cell? ⟨p, 3, none⟩ = some (.int .i64 u)) (f1 : w.frozen? ⟨p, 1, none⟩ = false) (f3 : w.frozen? ⟨p, 3, none⟩ = false)
    (s0 : w.cell? ⟨bs, s * 3, none⟩ = some (.int .i64 v0)) (s2 : w.cell? ⟨bs, s * 3 + 2, none⟩ = some (.bool us0)) (t0 : w.frozen? ⟨bs, s * 3, none⟩ = false) (t2 : w.frozen? ⟨bs, s * 3 + 2, none⟩ = false)
    (hown : w.ownsRow base 3 1 fv m xs) (hb1 : p < base) (hb2 : bs < base) (hb3 : base ≤ w.heap.size) :
    Calls Tryd.prog 17 #[.pointer (some ⟨p, 0, none⟩), .int .i64 r] w fun e w' =>
      e = .returned (.int .i64 0) ∧ ∃ g cap nq w0 w1, w0 = ((((w.drewN nq).setCell ⟨bs, s * 3, none⟩ (.int .i64 0)).setCell ⟨bs, s * 3 + 2, none⟩ (.bool false)).setCell ⟨p, 3, none⟩ (.int .i64 ((u : Int) - 1))) ∧
        (∃ k o, ((w0.alloc o).drewN k).grownBy w1 fv.ownBlock) ∧ w1.ownsRow base 3 1 (.slice (some ⟨g, 0, none⟩) (m + 1) cap) (m + 1) (xs ++ [.int .i64 (s : Int)]) ∧ (fv.ownBlock = some g ∨ w.heap.size ≤ g) ∧
        w' = w1.setCell ⟨p, 1, none⟩ (.slice (some ⟨g, 0, none⟩) (m + 1) cap) := by
  have HS := Lib.hid hs
  have HA := Lib.hid hAT
  have HO := Lib.hid hown
  clear hs hAT hat hown
  have hne2 : (p = bs) = False := by simp [hne]
  have hne3 : (bs = p) = False := by simp; exact fun e => hne e.symm
  go_enter Tryd.func17, Tryd.ntmps17
  go_wp2_with (first | (go_at_call 43; refine HA.out.mono ?_; rintro e w' ⟨rfl, nq, rfl⟩) | go_in)
  obtain ⟨W1, hW1⟩ : ∃ W1, W1 = ((((w.drewN nq).setCell ⟨bs, s * 3, none⟩ (.int .i64 0)).setCell ⟨bs, s * 3 + 2, none⟩ (.bool false)).setCell ⟨p, 3, none⟩ (.int .i64 ((u : Int) - 1))) := ⟨_, rfl⟩
  rw [← hW1]
  have k1 : W1.cell? ⟨p, 1, none⟩ = some fv := by
    rw [hW1, World.cell?_setCell_other _ _ _ _ (by simp), World.cell?_setCell_other _ _ _ _ (by simp [hne3]), World.cell?_setCell_other _ _ _ _ (by simp [hne3])]; exact c1
  have k2 : W1.frozen? ⟨p, 1, none⟩ = false := by rw [hW1]; simp only [World.frozen?_setCell]; exact f1
  have k3 : W1.ownsRow base 3 1 fv m xs := by rw [hW1]; exact ownsRow_setCell_below (ownsRow_setCell_below (ownsRow_setCell_below (row_drewN HO.out) hb2 _) hb2 _) hb1 _
  have k4 : W1.heap.size = w.heap.size := by rw [hW1]; simp
  have k5 : p < W1.heap.size := by rw [k4]; omega
  have k6 : base ≤ W1.heap.size := by rw [k4]; exact hb3
  have HW := Lib.hid hW1
  have K3 := Lib.hid k3
  have K4 := Lib.hid k4
  have C1 := Lib.hid c1
  clear hW1 k3 k4 c1 c3 c4 f1 f3 s0 s2 t0 t2
  obtain ⟨i0, hi, hz0, hz1, hz2⟩ := info_parts info_int
  have HI := Lib.hid hi
  have HZ0 := Lib.hid hz0
  have HZ1 := Lib.hid hz1
  have HZ2 := Lib.hid hz2
  clear hi hz0 hz1 hz2
  have hwr : IntKind.i64.wrap (s : Int) = (s : Int) := IntWalk.i64_in _ (by omega)
  go_region_law (first
    | (refine step_append_lies _ rfl (.tmp 35) (.tmp 39) 22 rfl base 3 i0 (.int .i64 0) 1 8 Tryd.underlying22 HI.out HZ0.out HZ1.out HZ2.out rfl (by decide) fv m xs (by simp [Act.eval, Act.put]) (by first | exact row_drew ((K3.out).alloc _) | exact (row_drew K3.out).alloc _) ⟨W1.heap.size, 0, none⟩ 1 1 [.int .i64 (s : Int)] (by simp [Act.eval, Act.put]) rfl (news_one (by simp)) (by simp [Value.oneCell']) (by omega) (by unfold maxLen; omega) (by omega) (by simp; omega) (W1.heap.size + 1) (by simp) ?_; intro g cap w1 hown1 hgrow hat hlt
       ; have hb := hgrow.block p (by simp; omega) (fun e => by have := (K3.out.lt p e.symm).1; omega)
       ; have q1 : w1.cell? ⟨p, 1, none⟩ = some fv := (World.cell?_of_block (a := ⟨p, 1, none⟩) hb).trans ((World.cell?_alloc_lt _ _ _ k5).trans k1)
       ; have q2 : w1.frozen? ⟨p, 1, none⟩ = false := (World.frozen?_of_block (a := ⟨p, 1, none⟩) hb).trans ((World.frozen?_alloc_old _ _ _ (Nat.ne_of_lt k5)).trans k2)
       ; have Q1 := Lib.hid hown1; have Q2 := Lib.hid hgrow; have Q3 := Lib.hid hat; clear hown1 hgrow hat hlt hb)
    | (go_simp; go_at_call 34; refine (slot_at HS.out hw).mono ?_; rintro e w' ⟨rfl, rfl⟩))
  all_goals
    go_wp2
    go_ret
    exact ⟨rfl, g, cap, nq, W1, w1, HW.out, ⟨1, _, Q2.out⟩, Q1.out, Q3.out.imp id (fun e => by have := K4.out; omega), rfl⟩
end
end Go.Proofs.YtipdhjdlfdbkiaaDoor.ArenaRef
