
/- The reference's arena: Free, Make and All. -/
import Derived.Test.YtipdhjdlfdbkiaaDoorRefArena2
import Derived.Test.YtipdhjdlfdbkiaaDoorAppend
import Derived.OwnWalk
namespace Go.Proofs.YtipdhjdlfdbkiaaDoor.RefArena
set_option linter.unusedSimpArgs false
set_option linter.unusedVariables false
open Go.RowKit Go.Proofs Go.Proofs.YtipdhjdlfdbkiaaDoor.Heap Go.Proofs.YtipdhjdlfdbkiaaDoor.Refs Go.Proofs.YtipdhjdlfdbkiaaDoor.ArenaM Go.Proofs.YtipdhjdlfdbkiaaDoor.ArenaInt
section
variable {w : World} {q bv bi bs n b : Nat} {x v0 : Int} {fv : Value} {r : Int}

theorem addr_block (a : Addr) (j : Nat) : (a.add j).block = a.block := by unfold Addr.add; split <;> rfl
set_option maxHeartbeats 4000000 in
theorem rfree_raw {s m fcap : Nat} {fa : Option Addr} {xs : List Value} {us0 : Bool} (hsn : s < n) (hn : n ≤ 1000) (hm : m < 1000) (hne : q ≠ bv ∧ q ≠ bs ∧ bv ≠ bs) (hA : AtIs w q r s)
    (c0 : w.cell? ⟨q, 0, none⟩ = some (.slice (some ⟨bv, 0, none⟩) n n)) (c2 : w.cell? ⟨q, 2, none⟩ = some (.slice (some ⟨bs, 0, none⟩) n n)) (c3 : w.cell? ⟨q, 3, none⟩ = some (.slice fa m fcap)) (f3 : w.frozen? ⟨q, 3, none⟩ = false)
    (s0 : w.cell? ⟨bv, s, none⟩ = some (.int .i64 v0)) (s2 : w.cell? ⟨bs, s, none⟩ = some (.bool us0)) (t0 : w.frozen? ⟨bv, s, none⟩ = false) (t2 : w.frozen? ⟨bs, s, none⟩ = false)
    (hown : w.ownsRow (max q (max bv bs) + 1) 3 1 (.slice fa m fcap) m xs) (h1 : ∀ u ∈ xs, u.oneCell' = true) :
    Calls Tryd.prog 18 #[.pointer (some ⟨q, 0, none⟩), .int .i64 r] w fun e w' => e = .returned (.int .i64 0) ∧
      ∃ nq w0 w1 v', w0 = ((w.drewN nq).setCell ⟨bv, s, none⟩ (.int .i64 0)).setCell ⟨bs, s, none⟩ (.bool false) ∧ Below w0.heap.size w0 w1 ∧ w1.ownsRow w.heap.size 3 1 v' (m + 1) (xs ++ [.int .i64 (s : Int)]) ∧ w' = w1.setCell ⟨q, 3, none⟩ v' := by
  obtain ⟨n1, n3, n5⟩ := hne
  have e1 : (q = bv) = False := by simp [n1]
  have e3 : (q = bs) = False := by simp [n3]
  have e5 : (bv = bs) = False := by simp [n5]
  have e1' : (bv = q) = False := by simp; omega
  have e3' : (bs = q) = False := by simp; omega
  have e5' : (bs = bv) = False := by simp; omega
  have d3 : (s : Int) < (n : Int) := by omega
  have HO := Lib.hid hown
  have HX := Lib.hid h1
  clear hown h1
  go_enter Tryd.func18, Tryd.ntmps18
  go_wp2_with (go_at_call 5; refine hA.mono ?_; rintro e w' ⟨rfl, nq, rfl⟩)
  go_region
  obtain ⟨W1, hW1⟩ : ∃ W1, W1 = (((w.drewN (nq + 1)).setCell ⟨bv, s, none⟩ (.int .i64 0)).setCell ⟨bs, s, none⟩ (.bool false)) := ⟨_, rfl⟩
  rw [← hW1]
  have k1 : W1.cell? ⟨q, 3, none⟩ = some (.slice fa m fcap) := by
    rw [hW1, World.cell?_setCell_other _ _ _ _ (by simp [e3']), World.cell?_setCell_other _ _ _ _ (by simp [e1'])]; exact c3
  have k2 : W1.frozen? ⟨q, 3, none⟩ = false := by rw [hW1]; simp only [World.frozen?_setCell]; exact f3
  have k3 : W1.ownsRow (max q (max bv bs) + 1) 3 1 (.slice fa m fcap) m xs := by
    rw [hW1]; exact ownsRow_setCell_below (ownsRow_setCell_below (row_drewN HO.out) (by show bv < _; omega) _) (by show bs < _; omega) _
  have k4 : W1.heap.size = w.heap.size := by rw [hW1]; simp
  have k5 : q < W1.heap.size := World.block_lt_of_cell? _ _ k1
  have hsrc : Src W1 fa m xs := src_row k3 (by omega)
  have hrow := k3.lt
  have hxl : xs.length = m := by simpa using k3.1
  have HW := Lib.hid hW1
  have K3 := Lib.hid k3
  have K4 := Lib.hid k4
  have HS := Lib.hid hsrc
  have HXL := Lib.hid hxl
  have HRW := Lib.hid hrow
  obtain ⟨i0, hi, hz0, hz1, hz2⟩ := info_parts info_int
  have HI := Lib.hid hi
  have HZ0 := Lib.hid hz0
  have HZ1 := Lib.hid hz1
  have HZ2 := Lib.hid hz2
  clear hi hz0 hz1 hz2 hW1 k3 k4 hsrc hxl hrow c0 c2 c3 f3 s0 s2 t0 t2 e1 e3 e5 e1' e3' e5' d3 hA
  go_wp2_with (first
    | (at_builtin; refine wpList_append_src _ rfl (.tmp 24) (.tmp 28) 22 rfl W1.heap.size 3 i0 (.int .i64 0) 1 8 Tryd.underlying22 HI.out HZ0.out HZ1.out HZ2.out rfl (by decide) (.slice (some ⟨W1.heap.size, 0, none⟩) 0 0) 0 [] rfl (World.ownsRow_lit _ #[] 0 (Nat.le_refl _) (by unfold maxLen; omega) rfl) fa m fcap xs rfl (by rw [HXL.out, Nat.mul_one]) (HS.out.same fun ad had j => World.cell?_alloc_lt _ _ _ (by rw [addr_block]; exact (row_src_lt K3.out ad had).1)) HX.out (by unfold maxLen; omega) (by omega) (by simp) ?_; intro v1 w1 hown1 hgrow1 hat1; have Q1 := Lib.hid hown1; have Q2 := Lib.hid hgrow1; have Q3 := Lib.hid hat1; clear hown1 hgrow1 hat1)
    | (at_builtin; refine wpList_append_src _ rfl (.tmp 29) (.tmp 31) 22 rfl W1.heap.size 3 i0 (.int .i64 0) 1 8 Tryd.underlying22 HI.out HZ0.out HZ1.out HZ2.out rfl (by decide) v1 (0 + m) ([] ++ xs) rfl (Q1.out.alloc _) (some ⟨w1.heap.size, 0, none⟩) 1 1 [.int .i64 (s : Int)] rfl rfl (.inr ⟨_, rfl, news_one (by simp)⟩) (by intro u hu; simp at hu; subst hu; rfl) (by unfold maxLen; omega) (by omega) (by have := Q2.out.size; simp at this ⊢; omega) ?_; intro v2 w2 hown2 hgrow2 hat2; obtain ⟨va, vc, rfl⟩ := row_form hown2; have Q4 := Lib.hid hown2
       have hb : Below W1.heap.size W1 w2 := ((((Below.refl _ _).alloc (Nat.le_refl _) _).grown Q2.out (by simp) (by simp [Value.ownBlock])).alloc (by have := Q2.out.size; simp at this; omega) _).grown hgrow2 (by have := Q2.out.size; simp at this ⊢; omega) (fun j hj => (Q1.out.lt j hj).1)
       have q1 := (hb.cell (p := ⟨q, 3, none⟩) k5).trans k1
       have q2 := (hb.frozen (p := ⟨q, 3, none⟩) k5).trans k2
       have HB := Lib.hid hb
       clear hown2 hgrow2 hat2 hb))
  go_ret
  refine ⟨rfl, nq + 1, W1, w2, _, HW.out, HB.out, ?_, rfl⟩
  have := row_base Q4.out (Nat.le_of_eq K4.out.symm)
  simpa using this
end
end Go.Proofs.YtipdhjdlfdbkiaaDoor.RefArena
