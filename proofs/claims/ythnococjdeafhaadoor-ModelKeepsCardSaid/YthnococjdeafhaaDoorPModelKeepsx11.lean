-- printed by a program of the session (wip/hyb/mkprint.py)
import Derived.Test.YthnococjdeafhaaDoorPModelKeepsx0
import Derived.Test.YthnococjdeafhaaDoorPModelKeepsx7
import Derived.Test.YthnococjdeafhaaDoorPModelKeepsx9
import Derived.Test.YthnococjdeafhaaDoorPModelKeepsx10
namespace Go.Proofs.YthnococjdeafhaaDoor.PModelKeeps
open Go.RowKit Go.Proofs.YthnococjdeafhaaDoorW.PrintWords Go.Proofs.YthnococjdeafhaaDoorW.PrintLast Go.Proofs.YthnococjdeafhaaDoorW.PrintMore
attribute [local go_sem] max2_int min2_int max_two min_two max_three min_three max_four min_four   -- for this text's walks alone
set_option linter.unusedVariables false
set_option linter.unusedSimpArgs false

/-! ### model_After: function 12 -/
-- FULL boscage/model.After
-- NEEDS boscage/model.fits boscage/pair.Get boscage/pair.Put boscage/pair.Drop boscage/model.held slices.Clone[[]boscage/model.Held,boscage/model.Held]
-- KIND rounds=1 making=1 laid=1 shp=1_0,1_1 rsh=0:V,1:V infos=72 kinds=72

def de_HeldR.f (l0 : List (List Value)) (a1 a2 : Int) : Option (List (List Value)) := if 0 ≤ a1 ∧ a1 < (l0.length : Int) ∧ a2 = a1 + 1 then some (l0.eraseIdx a1.toNat) else none
set_option maxHeartbeats 8000000 in
set_option maxRecDepth 100000 in
theorem de_HeldR.calls (P0_ : Nat → Prop) (u9000_ : Value) (l0 : List (List Value)) (a1 a2 : Int) (r : List (List Value)) (w0 w : World) (hB : Below w0.heap.size w0 w) (ho0 : Kd.R (Kd.raw 2) 72 w w0.heap.size P0_ u9000_ l0) (h : de_HeldR.f l0 a1 a2 = some r) :
    Calls Tryd.prog 40 #[u9000_, .int .i64 a1, .int .i64 a2] w fun e w' => ∃ v0_ : Value, e = .returned (v0_) ∧ Kd.R (Kd.raw 2) 72 w' w0.heap.size (fun k_ => (P0_ k_ ∨ w.heap.size ≤ k_)) v0_ r ∧ Below w0.heap.size w0 w' ∧ Kept w w' (fun k_ => P0_ k_) := by
  obtain ⟨i0, hi, hz0, hz1, hz2⟩ := info_parts info72
  unfold de_HeldR.f at h
  split at h
  · rename_i hs
    obtain rfl := zQ h
    obtain ⟨h0, h1, rfl⟩ := hs
    clear h
    obtain ⟨i, rfl⟩ := Int.eq_ofNat_of_zero_le h0
    rw [Int.toNat_natCast]
    have hil : i < l0.length := by omega
    clear h0 h1
    obtain ⟨inner, hO, hrep⟩ := ho0.2
    obtain ⟨g, cap, cur, hv, hg1, hg2, hg3, hg4, hg5, hg6⟩ := (own_cases hO).resolve_left (by rintro ⟨_, h, _⟩; omega)
    subst hv
    unfold maxLen at hg4
    have HO := Lib.hid ho0
    have HOK := Lib.hid ho0.1
    have HG := Lib.hid hg2
    have HB := Lib.hid hB
    have HI := Lib.hid hi
    have HZ0 := Lib.hid hz0
    have hinf : (Tryd.prog.info? 72).map (·.size) = some ((Kd.raw 2)).sz := by rw [hi]; simp [hz1]; rfl
    have HIN := Lib.hid hinf
    have HC := Lib.hid hg5
    clear hO hrep hg5 hg6 hg2 ho0 hB hi hz0 hz1 hz2 hinf
    have b1 : ((i : Int) == (i : Int) + 1) = false := by rw [beq_eq_false_iff_ne]; omega
    have w1 : IntKind.i64.wrap ((i : Int) + 1) = (i : Int) + 1 := by rw [IntKind.wrap_i64]; omega
    have w2 : (0 : Int) ≤ (i : Int) + 1 := by omega
    have w3 : ((i : Int) + 1).toNat = i + 1 := by omega
    have w4 : (i : Int) ≤ (l0.length : Int) := by omega
    have w5 : (i : Int) + 1 ≤ (l0.length : Int) := by omega
    have w6 : (i : Int) ≤ (i : Int) + 1 := by omega
    have w7 : (i : Int) ≤ (cap : Int) := by omega
    have w8 : (l0.length : Int) ≤ (cap : Int) := by omega
    have hgb : w0.heap.size ≤ g := hg1
    have hA : ∀ A : Option Addr, A = (if cap = i + 1 then some ⟨g, 0, none⟩ else some ⟨g, (i + 1) * 2, none⟩) → A = (if cap = i + 1 then some ⟨g, 0, none⟩ else (some (⟨g, 0, none⟩ : Addr)).map (·.add ((i + 1) * ((Kd.raw 2)).sz))) := by
      intro A hA
      rw [hA]
      have e : ((Kd.raw 2)).sz = 2 := rfl
      rw [e]
      simp [Addr.add_lit]
    have HA := Lib.hid hA
    clear hA
    have hn8 : (l0.length : Int) - 1 = ((l0.length - 1 : Nat) : Int) := by omega
    go_enter Tryd.func40, Tryd.ntmps40
    go_wp2
    go_region_law (refine Kd.R_delete_step (Kd.raw 2) (w0 := w0) (W := w.drew) w0.heap.size (by rfl) (.tmp 22) (.tmp 25) 37 72 rfl Tryd.underlying37 HIN.out (g := g) (n := l0.length) (c := cap) (k := i) (A := if cap = i + 1 then some ⟨g, 0, none⟩ else some ⟨g, (i + 1) * 2, none⟩) (m := l0.length - (i + 1)) (c2 := cap - (i + 1)) (xs := l0) (ok := P0_) (by simp [Act.eval, Act.put]) (by simp [Act.eval, Act.put]) (HA.out _ rfl) rfl HO.out hil HB.out.drew HB.out.size ?_; intro w1 hr1 hb1 hg1)
    generalize hm : l0.length - 1 = m at hr1 ⊢
    obtain ⟨inner1, hO1, hrep1⟩ := hr1.2
    have hmn : l0.length = m + 1 := by omega
    have he : (l0.eraseIdx i).length = m := by rw [List.length_eraseIdx_of_lt hil]; omega
    obtain ⟨g', cap', cur1, hv1, hk1, hk2, hk3, hk4, hk5, hk6⟩ := (own_cases hO1).resolve_left (by rintro ⟨h, _⟩; cases h)
    obtain ⟨rfl, rfl⟩ : g = g' ∧ cap = cap' := by injection hv1 with a b c; injection a with a; injection a with a; exact ⟨a, c⟩
    have hzl : (Builtin.zeroCells ((.agg #[(.int .i64 0), (.slice none 0 0)]) : Value).cells 1).toList.length = 2 := by simp [Builtin.zeroCells, Value.cells]
    have hz1c : ∀ u ∈ (Builtin.zeroCells ((.agg #[(.int .i64 0), (.slice none 0 0)]) : Value).cells 1).toList, u.oneCell' = true := by decide +kernel
    have hks : cur1.size = cap * 2 := hk5
    have hclr := fun ty c => run_clear_rowZ (P := Tryd.prog) w1 37 72 ty i0 (.agg #[(.int .i64 0), (.slice none 0 0)]) HI.out HZ0.out Tryd.underlying37 g (m * 2) c cur1 72 hk2 (by rw [hzl, hks]; omega) hz1c
    obtain ⟨cur2, hc2⟩ : ∃ c, c = (cur1.toList.take (m * 2) ++ (Builtin.zeroCells ((.agg #[(.int .i64 0), (.slice none 0 0)]) : Value).cells 1).toList ++ cur1.toList.drop (m * 2 + (Builtin.zeroCells ((.agg #[(.int .i64 0), (.slice none 0 0)]) : Value).cells 1).toList.length)).toArray := ⟨_, rfl⟩
    rw [← hc2] at hclr
    have hcs : cur2.size = cur1.size := by
      rw [hc2]; simp only [List.size_toArray, List.length_append, zN, zO, Array.length_toList, hzl, hks]; omega
    have hct : cur2.toList.take (m * ((Kd.raw 2)).sz) = cur1.toList.take (m * ((Kd.raw 2)).sz) := by
      have e : ((Kd.raw 2)).sz = 2 := rfl
      rw [e, hc2, List.toList_toArray, List.append_assoc, List.take_append_of_le_length (by simp only [zN, Array.length_toList, hks]; omega), List.take_take, Nat.min_self]
    have hrf := R_tail hr1 hk2 cur2 hcs hct
    have HRF := Lib.hid hrf
    have HCLR := Lib.hid hclr
    have HB1 := Lib.hid hb1
    have HG1 := Lib.hid hg1
    have HM := Lib.hid hmn
    clear hrf hclr hb1 hg1 hr1 hO1 hrep1 hk2 hk5 hk6 hzl hz1c hks hc2 hcs hct he hv1 hm HA HO HG HI HZ0
    have x1 : (m : Int) ≤ (l0.length : Int) := by omega
    have x2 : ¬ (cap = m) := by omega
    have x3 : l0.length - m = 1 := by omega
    clear hmn
    go_wp2_with ((with_reducible refine gate_builtin (b := .clear) (xs := #[.tmp 31]) rfl ?_); refine wpList_clear_run w1 rfl (.tmp 31) 37 rfl (.slice (some ⟨g, m * 2, none⟩) 1 (cap - m)) rfl (HCLR.out _ _) ?_)
    all_goals
      go_ret
      have hgn : w.drew.grownBy (w1.setRow g cur2) (some g) := grown_trans HG1.out (grown_setRow _)
      have hok : ∀ k, some g = some k → P0_ k := fun k hk => HOK.out k (by rw [← hk]; rfl)
      have hbl : ∀ k, some g = some k → w0.heap.size ≤ k := fun k hk => by injection hk with hk; subst hk; exact hgb
      first | exact ⟨.slice (some ⟨g, 0, none⟩) m cap, rfl, Kd.R_mono HRF.out (fun k hk => .inl hk), HB.out.drew.grown hgn HB.out.size hbl, Kept.of_grown hgn (Kept.refl w _).drew (fun k hk => .inl (hok k hk))⟩ | ((have hc : cap = i + 1 := by assumption); subst hc; exact ⟨.slice (some ⟨g, 0, none⟩) m (i + 1), rfl, Kd.R_mono HRF.out (fun k hk => .inl hk), HB.out.drew.grown hgn HB.out.size hbl, Kept.of_grown hgn (Kept.refl w _).drew (fun k hk => .inl (hok k hk))⟩)
  · cases h

theorem erase_at {α : Type} {l : List α} {i j : Nat} {x : α} (h : (l.eraseIdx i)[j]? = some x) : l[if j < i then j else j + 1]? = some x := by
  rw [List.getElem?_eraseIdx] at h
  split at h
  · rename_i hj; rw [if_pos hj]; exact h
  · rename_i hj; rw [if_neg hj]; exact h
/-- A row without one of its elements. -/
theorem del_calls (P0_ : Nat → Prop) (v : Value) (l0 : List S72) (i : Nat) (w0 w : World) (hB : Below w0.heap.size w0 w) (hN : Kd.N k72 72 w w0.heap.size (fun k_ => P0_ k_) v l0) (hi : i < l0.length) (hf : ∀ k, w.heap.size ≤ k → P0_ k) :
    Calls Tryd.prog 40 #[v, .int .i64 (i : Int), .int .i64 ((i : Int) + 1)] w fun e w' => ∃ v0_ : Value, e = .returned (v0_) ∧ Kd.N k72 72 w' w0.heap.size (fun k_ => P0_ k_) v0_ (l0.eraseIdx i) ∧ Below w0.heap.size w0 w' := by
  obtain ⟨h0, rows, hl, hR, hFK⟩ := hN
  refine (de_HeldR.calls (fun k_ => some k_ = v.ownBlock) v rows (i : Int) ((i : Int) + 1) (rows.eraseIdx i) w0 w hB hR (by unfold de_HeldR.f; rw [if_pos ⟨by omega, by omega, rfl⟩, Int.toNat_natCast])).mono ?_
  rintro e w' ⟨v1, rfl, hR1, hB1, hK⟩
  refine ⟨v1, rfl, ⟨fun k hk => ?_, rows.eraseIdx i, ?_, Kd.R_tight rfl hR1, fun j x c hx hc => ?_⟩, hB1⟩
  · rcases hR1.1 k hk with h1 | h1
    · exact h0 k h1.symm
    · exact hf k h1
  · rw [List.length_eraseIdx_of_lt (by omega), List.length_eraseIdx_of_lt hi, hl]
  · have h1 := hFK _ x c (erase_at hx) (erase_at hc)
    refine Kd.FK_mono (Kd.FK_step (Kd.FK_bound h1) (W1 := w') (fun k hk hlt => hK.2 k hlt (fun h => hk.1.2 h))) (fun k hk => ⟨hk.1.1, fun he => ?_⟩)
    rcases hR1.1 k he.symm with h2 | h2
    · exact hk.1.2 h2
    · have := hk.2; omega
theorem aR_low {W : World} {base g j : Nat} {v u : Value} {xs : List S65} (h : Kd.R k65 65 W base (fun _ => True) v xs) (hg : g < base) : Kd.R k65 65 (W.setCell ⟨g, j, none⟩ u) base (fun _ => True) v xs :=
  Kd.R_mono (Kd.R_far (p := ⟨g, j, none⟩) (Kd.R_bound h) (fun k hk => by have := hk.2.1; show k ≠ g; omega) u) (fun _ _ => trivial)
theorem aheap3_0 {w : World} {a b c : Obj} : (((w.alloc a).alloc b).alloc c).heap[w.heap.size]? = some a := by
  show (((w.heap.push a).push b).push c)[w.heap.size]? = _
  rw [Array.getElem?_push_lt (by simp; omega), Array.getElem_push_lt (by simp), Array.getElem_push_eq]
theorem aheap3_1 {w : World} {a b c : Obj} : (((w.alloc a).alloc b).alloc c).heap[w.heap.size + 1]? = some b := by
  show (((w.heap.push a).push b).push c)[w.heap.size + 1]? = _
  have := Array.getElem?_push_size (xs := w.heap.push a) (x := b)
  rw [show (w.heap.push a).size = w.heap.size + 1 by simp] at this
  rw [Array.getElem?_push_lt (by simp), ← Array.getElem?_eq_getElem (by simp)]
  exact this
theorem aheap3_2 {w : World} {a b c : Obj} : (((w.alloc a).alloc b).alloc c).heap[w.heap.size + 2]? = some c := by
  show (((w.heap.push a).push b).push c)[w.heap.size + 2]? = _
  have := Array.getElem?_push_size (xs := (w.heap.push a).push b) (x := c)
  rwa [show ((w.heap.push a).push b).size = w.heap.size + 2 by simp] at this
/-- What stands while After runs: the boxes of its arguments, the result's place. -/
structure AftInv (c0 c1 c2 c3 c4 x0 : Int) (x1 x2 x3 : ByteArray) (x4 : Int) (w wr : World) (uL uH : Value) : Prop where
  cfg : wr.heap[w.heap.size]? = some (.cells #[.int .i64 c0, .int .i64 c1, .int .i64 c2, .int .i64 c3, .int .i64 c4] 23 (0, 0))
  st : wr.heap[w.heap.size + 1]? = some (.cells #[uL, uH] 39 (0, 0))
  call : wr.heap[w.heap.size + 2]? = some (.cells #[.int .i64 x0, .string x1, .string x2, .string x3, .int .i64 x4] 29 (0, 0))
  res : wr.heap[w.heap.size + 3]? = some (.cells #[.slice none 0 0, .slice none 0 0] 39 (0, 0))
  below : Below w.heap.size w wr
section
variable {c0 c1 c2 c3 c4 x0 : Int} {x1 x2 x3 : ByteArray} {x4 : Int} {w wr w1 : World} {uL uH : Value}
theorem AftInv.lt (h : AftInv c0 c1 c2 c3 c4 x0 x1 x2 x3 x4 w wr uL uH) : w.heap.size + 4 ≤ wr.heap.size := by
  have := (Array.getElem?_eq_some_iff.1 h.res).1
  omega
theorem AftInv.move (h : AftInv c0 c1 c2 c3 c4 x0 x1 x2 x3 x4 w wr uL uH) (hb : Below wr.heap.size wr w1) : AftInv c0 c1 c2 c3 c4 x0 x1 x2 x3 x4 w w1 uL uH := by
  have hl := h.lt
  exact ⟨(hb.block _ (by omega)).trans h.cfg, (hb.block _ (by omega)).trans h.st, (hb.block _ (by omega)).trans h.call, (hb.block _ (by omega)).trans h.res, zT h.below hb⟩
theorem AftInv.cells (h : AftInv c0 c1 c2 c3 c4 x0 x1 x2 x3 x4 w wr uL uH) : (wr.cell? ⟨w.heap.size, 0, none⟩ = some (.int .i64 c0) ∧ wr.cell? ⟨w.heap.size, 1, none⟩ = some (.int .i64 c1) ∧ wr.cell? ⟨w.heap.size, 2, none⟩ = some (.int .i64 c2) ∧ wr.cell? ⟨w.heap.size, 3, none⟩ = some (.int .i64 c3) ∧ wr.cell? ⟨w.heap.size, 4, none⟩ = some (.int .i64 c4)) ∧
    (wr.cell? ⟨w.heap.size + 1, 0, none⟩ = some uL ∧ wr.cell? ⟨w.heap.size + 1, 1, none⟩ = some uH) ∧
    (wr.cell? ⟨w.heap.size + 2, 0, none⟩ = some (.int .i64 x0) ∧ wr.cell? ⟨w.heap.size + 2, 1, none⟩ = some (.string x1) ∧ wr.cell? ⟨w.heap.size + 2, 2, none⟩ = some (.string x2) ∧ wr.cell? ⟨w.heap.size + 2, 3, none⟩ = some (.string x3) ∧ wr.cell? ⟨w.heap.size + 2, 4, none⟩ = some (.int .i64 x4)) ∧
    (wr.cell? ⟨w.heap.size + 3, 0, none⟩ = some (.slice none 0 0) ∧ wr.cell? ⟨w.heap.size + 3, 1, none⟩ = some (.slice none 0 0)) ∧ (∀ j, wr.frozen? ⟨w.heap.size + 1, j, none⟩ = false) ∧ (∀ j, wr.frozen? ⟨w.heap.size + 3, j, none⟩ = false) :=
  ⟨⟨(cell_row h.cfg).trans rfl, (cell_row h.cfg).trans rfl, (cell_row h.cfg).trans rfl, (cell_row h.cfg).trans rfl, (cell_row h.cfg).trans rfl⟩, ⟨(cell_row h.st).trans rfl, (cell_row h.st).trans rfl⟩, ⟨(cell_row h.call).trans rfl, (cell_row h.call).trans rfl, (cell_row h.call).trans rfl, (cell_row h.call).trans rfl, (cell_row h.call).trans rfl⟩, ⟨(cell_row h.res).trans rfl, (cell_row h.res).trans rfl⟩, zI h.st, zI h.res⟩
theorem AftInv.end_ (h : AftInv c0 c1 c2 c3 c4 x0 x1 x2 x3 x4 w wr uL uH) (a b : Value) : Below w.heap.size w ((wr.setCell ⟨w.heap.size + 3, 0, none⟩ a).setCell ⟨w.heap.size + 3, 1, none⟩ b) :=
  (h.below.setCell (by show w.heap.size ≤ w.heap.size + 3; omega) _).setCell (by show w.heap.size ≤ w.heap.size + 3; omega) _
theorem AftInv.end2 (h : AftInv c0 c1 c2 c3 c4 x0 x1 x2 x3 x4 w wr uL uH) (j : Nat) (u a b : Value) : Below w.heap.size w (((wr.setCell ⟨w.heap.size + 1, j, none⟩ u).setCell ⟨w.heap.size + 3, 0, none⟩ a).setCell ⟨w.heap.size + 3, 1, none⟩ b) :=
  ((h.below.setCell (by show w.heap.size ≤ w.heap.size + 1; omega) _).setCell (by show w.heap.size ≤ w.heap.size + 3; omega) _).setCell (by show w.heap.size ≤ w.heap.size + 3; omega) _
theorem R_low3 {W : World} {v u a b : Value} {g j base : Nat} {xs : List S65} (h : Kd.R k65 65 W base (fun _ => True) v xs) (hg : g + 2 < base) : Kd.R k65 65 (((W.setCell ⟨g, j, none⟩ u).setCell ⟨g + 2, 0, none⟩ a).setCell ⟨g + 2, 1, none⟩ b) base (fun _ => True) v xs :=
  aR_low (aR_low (aR_low h (by omega)) (by omega)) (by omega)
theorem N_low3 {W : World} {v u a b : Value} {g j base : Nat} {ok : Nat → Prop} {xs : List S72} (h : Kd.N k72 72 W base ok v xs) (hg : ∀ k, ok k → k ≠ g ∧ k ≠ g + 2) : Kd.N k72 72 (((W.setCell ⟨g, j, none⟩ u).setCell ⟨g + 2, 0, none⟩ a).setCell ⟨g + 2, 1, none⟩ b) base ok v xs :=
  Kd.N_far (p := ⟨g + 2, 1, none⟩) (Kd.N_far (p := ⟨g + 2, 0, none⟩) (Kd.N_far (p := ⟨g, j, none⟩) h (fun k hk => (hg k hk).1) u) (fun k hk => (hg k hk).2) a) (fun k hk => (hg k hk).2) b
end
theorem heap4_0 {w : World} {a b c d : Obj} : ((((w.alloc a).alloc b).alloc c).alloc d).heap[w.heap.size]? = some a := by
  rw [Below.heap_alloc _ _ _ (by simp <;> omega)]; exact aheap3_0
theorem heap4_1 {w : World} {a b c d : Obj} : ((((w.alloc a).alloc b).alloc c).alloc d).heap[w.heap.size + 1]? = some b := by
  rw [Below.heap_alloc _ _ _ (by simp)]; exact aheap3_1
theorem heap4_2 {w : World} {a b c d : Obj} : ((((w.alloc a).alloc b).alloc c).alloc d).heap[w.heap.size + 2]? = some c := by
  rw [Below.heap_alloc _ _ _ (by simp)]; exact aheap3_2
theorem heap4_3 {w : World} {a b c d : Obj} : ((((w.alloc a).alloc b).alloc c).alloc d).heap[w.heap.size + 3]? = some d := by
  have := alloc_at (w := ((w.alloc a).alloc b).alloc c) (o := d)
  rwa [show (((w.alloc a).alloc b).alloc c).heap.size = w.heap.size + 3 by simp] at this

set_option maxHeartbeats 8000000 in
set_option maxRecDepth 100000 in
theorem aft_nofit (k : Nat) (c0 c1 c2 c3 c4 : Int) (A0 : Option Addr) (n0 : Nat) (l : List S65) (A1 : Option Addr) (n1 : Nat) (h : List S72) (x0 : Int) (x1 x2 x3 : ByteArray) (x4 : Int) (w : World) (hr0 : Kd.C k65 w A0 l.length l) (hc0 : l.length ≤ n0) (hr1 : Kd.C k72 w A1 h.length h) (hc1 : h.length ≤ n1) (hL : LaidU w) (hfit : model_fits.f k c0 c1 c2 c3 c4 x0 x1 x2 x3 x4 = some false) :
    Calls Tryd.prog 12 #[.agg #[.int .i64 c0, .int .i64 c1, .int .i64 c2, .int .i64 c3, .int .i64 c4], .agg #[.slice A0 l.length n0, .slice A1 h.length n1], .agg #[.int .i64 x0, .string x1, .string x2, .string x3, .int .i64 x4]] w fun e w' => e = .returned (.tuple #[.agg #[.slice A0 l.length n0, .slice A1 h.length n1], .bool false]) ∧ Below w.heap.size w w' := by
  have HFit := Lib.hid (fun (W : World) (hb : Below w.heap.size w W) => model_fits.calls k c0 c1 c2 c3 c4 x0 x1 x2 x3 x4 false W (laidU_below hL hb) hfit)
  clear hr0 hc0 hr1 hc1 hL hfit
  go_enter Tryd.func12, Tryd.ntmps12
  go_wp2_with fail
  refine (HFit.out _ (by repeat (first | exact zi _ _ | apply zF))).mono ?_
  rintro e w1 ⟨rfl, hb⟩
  have HV := zX (show AftInv c0 c1 c2 c3 c4 x0 x1 x2 x3 x4 w w1 (.slice A0 l.length n0) (.slice A1 h.length n1) from ⟨(hb.block _ (by simp <;> omega)).trans heap4_0, (hb.block _ (by simp <;> omega)).trans heap4_1, (hb.block _ (by simp <;> omega)).trans heap4_2, (hb.block _ (by simp)).trans heap4_3, zT (by repeat (first | exact zi _ _ | apply zF)) hb⟩)
  clear hb
  obtain ⟨⟨q0, q1, q2, q3, q4⟩, ⟨q5, q6⟩, ⟨q7, q8, q9, q10, q11⟩, ⟨q12, q13⟩, f0, f1⟩ := HV.out.cells
  go_wp2
  refine bodyPost_ret (v := .tuple #[.agg #[.slice A0 l.length n0, .slice A1 h.length n1], .bool false]) (by simp [results, Tryd.results12, go_sem, *]) rfl ⟨rfl, HV.out.end_ _ _⟩
set_option maxHeartbeats 8000000 in
set_option maxRecDepth 100000 in
theorem aft_put_same (k : Nat) (c0 c1 c2 c3 c4 : Int) (A0 : Option Addr) (n0 : Nat) (l : List S65) (A1 : Option Addr) (n1 : Nat) (h : List S72) (x1 x2 x3 : ByteArray) (x4 : Int) (w : World) (hr0 : Kd.C k65 w A0 l.length l) (hc0 : l.length ≤ n0) (hr1 : Kd.C k72 w A1 h.length h) (hc1 : h.length ≤ n1) (hL : LaidU w) (hfit : model_fits.f k c0 c1 c2 c3 c4 2 x1 x2 x3 x4 = some true) (g1 : ByteArray) (hget : pair_Get.f k l x1 = some (g1, true)) (s : (g1.toList == x2.toList) = true) :
    Calls Tryd.prog 12 #[.agg #[.int .i64 c0, .int .i64 c1, .int .i64 c2, .int .i64 c3, .int .i64 c4], .agg #[.slice A0 l.length n0, .slice A1 h.length n1], .agg #[.int .i64 2, .string x1, .string x2, .string x3, .int .i64 x4]] w fun e w' => e = .returned (.tuple #[.agg #[.slice A0 l.length n0, .slice A1 h.length n1], .bool false]) ∧ Below w.heap.size w w' := by
  have HFit := Lib.hid (fun (W : World) (hb : Below w.heap.size w W) => model_fits.calls k c0 c1 c2 c3 c4 2 x1 x2 x3 x4 true W (laidU_below hL hb) hfit)
  have HGet := Lib.hid (fun (W : World) (hb : Below w.heap.size w W) => pair_Get.calls k A0 n0 l x1 g1 true W (zZ hr0 hb) hc0 hget)
  clear hr0 hc0 hr1 hc1 hL hfit hget
  go_enter Tryd.func12, Tryd.ntmps12
  go_wp2_with fail
  refine (HFit.out _ (by repeat (first | exact zi _ _ | apply zF))).mono ?_
  rintro e w1 ⟨rfl, hb⟩
  have HV := zX (show AftInv c0 c1 c2 c3 c4 2 x1 x2 x3 x4 w w1 (.slice A0 l.length n0) (.slice A1 h.length n1) from ⟨(hb.block _ (by simp <;> omega)).trans heap4_0, (hb.block _ (by simp <;> omega)).trans heap4_1, (hb.block _ (by simp <;> omega)).trans heap4_2, (hb.block _ (by simp)).trans heap4_3, zT (by repeat (first | exact zi _ _ | apply zF)) hb⟩)
  clear hb
  obtain ⟨⟨q0, q1, q2, q3, q4⟩, ⟨q5, q6⟩, ⟨q7, q8, q9, q10, q11⟩, ⟨q12, q13⟩, f0, f1⟩ := HV.out.cells
  go_wp2_with fail
  refine (HGet.out _ HV.out.below).mono ?_
  rintro e w2 ⟨rfl, hb⟩
  have HV2 := zX (HV.out.move hb)
  clear q0 q1 q2 q3 q4 q5 q6 q7 q8 q9 q10 q11 q12 q13 f0 f1
  clear HV
  have HV := HV2
  clear HV2
  obtain ⟨⟨q0, q1, q2, q3, q4⟩, ⟨q5, q6⟩, ⟨q7, q8, q9, q10, q11⟩, ⟨q12, q13⟩, f0, f1⟩ := HV.out.cells
  clear hb
  go_wp2
  refine bodyPost_ret (v := .tuple #[.agg #[.slice A0 l.length n0, .slice A1 h.length n1], .bool false]) (by simp [results, Tryd.results12, go_sem, *]) rfl ⟨rfl, HV.out.end_ _ _⟩
set_option maxHeartbeats 8000000 in
set_option maxRecDepth 100000 in
theorem aft_put_other (k : Nat) (c0 c1 c2 c3 c4 : Int) (A0 : Option Addr) (n0 : Nat) (l : List S65) (A1 : Option Addr) (n1 : Nat) (h : List S72) (x1 x2 x3 : ByteArray) (x4 : Int) (w : World) (hr0 : Kd.C k65 w A0 l.length l) (hc0 : l.length ≤ n0) (hr1 : Kd.C k72 w A1 h.length h) (hc1 : h.length ≤ n1) (hL : LaidU w) (hfit : model_fits.f k c0 c1 c2 c3 c4 2 x1 x2 x3 x4 = some true) (g1 : ByteArray) (hget : pair_Get.f k l x1 = some (g1, true)) (m : List S65) (hput : pair_Put.f k l x1 x2 = some m) (s : (g1.toList == x2.toList) = false) :
    Calls Tryd.prog 12 #[.agg #[.int .i64 c0, .int .i64 c1, .int .i64 c2, .int .i64 c3, .int .i64 c4], .agg #[.slice A0 l.length n0, .slice A1 h.length n1], .agg #[.int .i64 2, .string x1, .string x2, .string x3, .int .i64 x4]] w fun e w' => ∃ v, e = .returned (.tuple #[.agg #[v, .slice A1 h.length n1], .bool true]) ∧ Kd.R k65 65 w' w.heap.size (fun _ => True) v m ∧ Below w.heap.size w w' := by
  have HFit := Lib.hid (fun (W : World) (hb : Below w.heap.size w W) => model_fits.calls k c0 c1 c2 c3 c4 2 x1 x2 x3 x4 true W (laidU_below hL hb) hfit)
  have HGet := Lib.hid (fun (W : World) (hb : Below w.heap.size w W) => pair_Get.calls k A0 n0 l x1 g1 true W (zZ hr0 hb) hc0 hget)
  have HPut := Lib.hid (fun (W : World) (hb : Below w.heap.size w W) => pair_Put.calls k A0 n0 l x1 x2 m W (zZ hr0 hb) hc0 hput)
  clear hr0 hc0 hr1 hc1 hL hfit hget hput
  go_enter Tryd.func12, Tryd.ntmps12
  go_wp2_with fail
  refine (HFit.out _ (by repeat (first | exact zi _ _ | apply zF))).mono ?_
  rintro e w1 ⟨rfl, hb⟩
  have HV := zX (show AftInv c0 c1 c2 c3 c4 2 x1 x2 x3 x4 w w1 (.slice A0 l.length n0) (.slice A1 h.length n1) from ⟨(hb.block _ (by simp <;> omega)).trans heap4_0, (hb.block _ (by simp <;> omega)).trans heap4_1, (hb.block _ (by simp <;> omega)).trans heap4_2, (hb.block _ (by simp)).trans heap4_3, zT (by repeat (first | exact zi _ _ | apply zF)) hb⟩)
  clear hb
  obtain ⟨⟨q0, q1, q2, q3, q4⟩, ⟨q5, q6⟩, ⟨q7, q8, q9, q10, q11⟩, ⟨q12, q13⟩, f0, f1⟩ := HV.out.cells
  go_wp2_with fail
  refine (HGet.out _ HV.out.below).mono ?_
  rintro e w2 ⟨rfl, hb⟩
  have HV2 := zX (HV.out.move hb)
  clear q0 q1 q2 q3 q4 q5 q6 q7 q8 q9 q10 q11 q12 q13 f0 f1
  clear HV
  have HV := HV2
  clear HV2
  obtain ⟨⟨q0, q1, q2, q3, q4⟩, ⟨q5, q6⟩, ⟨q7, q8, q9, q10, q11⟩, ⟨q12, q13⟩, f0, f1⟩ := HV.out.cells
  clear hb
  go_wp2_with fail
  refine (HPut.out _ HV.out.below).mono ?_
  rintro e w3 ⟨v, rfl, hR, hb⟩
  have hlt := HV.out.lt
  obtain ⟨Av, cv, rfl, _⟩ := Kd.R_reads hR
  have HV2 := zX (HV.out.move hb)
  clear q0 q1 q2 q3 q4 q5 q6 q7 q8 q9 q10 q11 q12 q13 f0 f1
  clear HV
  have HV := HV2
  clear HV2
  obtain ⟨⟨q0, q1, q2, q3, q4⟩, ⟨q5, q6⟩, ⟨q7, q8, q9, q10, q11⟩, ⟨q12, q13⟩, f0, f1⟩ := HV.out.cells
  have HR := zX hR
  clear hb hR
  go_wp2
  refine bodyPost_ret (v := .tuple #[.agg #[.slice Av m.length cv, .slice A1 h.length n1], .bool true]) (by simp [results, Tryd.results12, go_sem, *]) rfl ⟨.slice Av m.length cv, rfl, Kd.R_lower (R_low3 HR.out (by omega)) (by omega), HV.out.end2 _ _ _ _⟩
set_option maxHeartbeats 8000000 in
set_option maxRecDepth 100000 in
theorem aft_put_new (k : Nat) (c0 c1 c2 c3 c4 : Int) (A0 : Option Addr) (n0 : Nat) (l : List S65) (A1 : Option Addr) (n1 : Nat) (h : List S72) (x1 x2 x3 : ByteArray) (x4 : Int) (w : World) (hr0 : Kd.C k65 w A0 l.length l) (hc0 : l.length ≤ n0) (hr1 : Kd.C k72 w A1 h.length h) (hc1 : h.length ≤ n1) (hL : LaidU w) (hfit : model_fits.f k c0 c1 c2 c3 c4 2 x1 x2 x3 x4 = some true) (g1 : ByteArray) (hget : pair_Get.f k l x1 = some (g1, false)) (m : List S65) (hput : pair_Put.f k l x1 x2 = some m) :
    Calls Tryd.prog 12 #[.agg #[.int .i64 c0, .int .i64 c1, .int .i64 c2, .int .i64 c3, .int .i64 c4], .agg #[.slice A0 l.length n0, .slice A1 h.length n1], .agg #[.int .i64 2, .string x1, .string x2, .string x3, .int .i64 x4]] w fun e w' => ∃ v, e = .returned (.tuple #[.agg #[v, .slice A1 h.length n1], .bool true]) ∧ Kd.R k65 65 w' w.heap.size (fun _ => True) v m ∧ Below w.heap.size w w' := by
  have HFit := Lib.hid (fun (W : World) (hb : Below w.heap.size w W) => model_fits.calls k c0 c1 c2 c3 c4 2 x1 x2 x3 x4 true W (laidU_below hL hb) hfit)
  have HGet := Lib.hid (fun (W : World) (hb : Below w.heap.size w W) => pair_Get.calls k A0 n0 l x1 g1 false W (zZ hr0 hb) hc0 hget)
  have HPut := Lib.hid (fun (W : World) (hb : Below w.heap.size w W) => pair_Put.calls k A0 n0 l x1 x2 m W (zZ hr0 hb) hc0 hput)
  clear hr0 hc0 hr1 hc1 hL hfit hget hput
  go_enter Tryd.func12, Tryd.ntmps12
  go_wp2_with fail
  refine (HFit.out _ (by repeat (first | exact zi _ _ | apply zF))).mono ?_
  rintro e w1 ⟨rfl, hb⟩
  have HV := zX (show AftInv c0 c1 c2 c3 c4 2 x1 x2 x3 x4 w w1 (.slice A0 l.length n0) (.slice A1 h.length n1) from ⟨(hb.block _ (by simp <;> omega)).trans heap4_0, (hb.block _ (by simp <;> omega)).trans heap4_1, (hb.block _ (by simp <;> omega)).trans heap4_2, (hb.block _ (by simp)).trans heap4_3, zT (by repeat (first | exact zi _ _ | apply zF)) hb⟩)
  clear hb
  obtain ⟨⟨q0, q1, q2, q3, q4⟩, ⟨q5, q6⟩, ⟨q7, q8, q9, q10, q11⟩, ⟨q12, q13⟩, f0, f1⟩ := HV.out.cells
  go_wp2_with fail
  refine (HGet.out _ HV.out.below).mono ?_
  rintro e w2 ⟨rfl, hb⟩
  have HV2 := zX (HV.out.move hb)
  clear q0 q1 q2 q3 q4 q5 q6 q7 q8 q9 q10 q11 q12 q13 f0 f1
  clear HV
  have HV := HV2
  clear HV2
  obtain ⟨⟨q0, q1, q2, q3, q4⟩, ⟨q5, q6⟩, ⟨q7, q8, q9, q10, q11⟩, ⟨q12, q13⟩, f0, f1⟩ := HV.out.cells
  clear hb
  go_wp2_with fail
  refine (HPut.out _ HV.out.below).mono ?_
  rintro e w3 ⟨v, rfl, hR, hb⟩
  have hlt := HV.out.lt
  obtain ⟨Av, cv, rfl, _⟩ := Kd.R_reads hR
  have HV2 := zX (HV.out.move hb)
  clear q0 q1 q2 q3 q4 q5 q6 q7 q8 q9 q10 q11 q12 q13 f0 f1
  clear HV
  have HV := HV2
  clear HV2
  obtain ⟨⟨q0, q1, q2, q3, q4⟩, ⟨q5, q6⟩, ⟨q7, q8, q9, q10, q11⟩, ⟨q12, q13⟩, f0, f1⟩ := HV.out.cells
  have HR := zX hR
  clear hb hR
  go_wp2
  refine bodyPost_ret (v := .tuple #[.agg #[.slice Av m.length cv, .slice A1 h.length n1], .bool true]) (by simp [results, Tryd.results12, go_sem, *]) rfl ⟨.slice Av m.length cv, rfl, Kd.R_lower (R_low3 HR.out (by omega)) (by omega), HV.out.end2 _ _ _ _⟩
set_option maxHeartbeats 8000000 in
set_option maxRecDepth 100000 in
theorem aft_add_new (k : Nat) (c0 c1 c2 c3 c4 : Int) (A0 : Option Addr) (n0 : Nat) (l : List S65) (A1 : Option Addr) (n1 : Nat) (h : List S72) (x1 x2 x3 : ByteArray) (x4 : Int) (w : World) (hr0 : Kd.C k65 w A0 l.length l) (hc0 : l.length ≤ n0) (hr1 : Kd.C k72 w A1 h.length h) (hc1 : h.length ≤ n1) (hL : LaidU w) (hfit : model_fits.f k c0 c1 c2 c3 c4 3 x1 x2 x3 x4 = some true) (g1 : ByteArray) (hget : pair_Get.f k l x1 = some (g1, false)) (m : List S65) (hput : pair_Put.f k l x1 x2 = some m) :
    Calls Tryd.prog 12 #[.agg #[.int .i64 c0, .int .i64 c1, .int .i64 c2, .int .i64 c3, .int .i64 c4], .agg #[.slice A0 l.length n0, .slice A1 h.length n1], .agg #[.int .i64 3, .string x1, .string x2, .string x3, .int .i64 x4]] w fun e w' => ∃ v, e = .returned (.tuple #[.agg #[v, .slice A1 h.length n1], .bool true]) ∧ Kd.R k65 65 w' w.heap.size (fun _ => True) v m ∧ Below w.heap.size w w' := by
  have HFit := Lib.hid (fun (W : World) (hb : Below w.heap.size w W) => model_fits.calls k c0 c1 c2 c3 c4 3 x1 x2 x3 x4 true W (laidU_below hL hb) hfit)
  have HGet := Lib.hid (fun (W : World) (hb : Below w.heap.size w W) => pair_Get.calls k A0 n0 l x1 g1 false W (zZ hr0 hb) hc0 hget)
  have HPut := Lib.hid (fun (W : World) (hb : Below w.heap.size w W) => pair_Put.calls k A0 n0 l x1 x2 m W (zZ hr0 hb) hc0 hput)
  clear hr0 hc0 hr1 hc1 hL hfit hget hput
  go_enter Tryd.func12, Tryd.ntmps12
  go_wp2_with fail
  refine (HFit.out _ (by repeat (first | exact zi _ _ | apply zF))).mono ?_
  rintro e w1 ⟨rfl, hb⟩
  have HV := zX (show AftInv c0 c1 c2 c3 c4 3 x1 x2 x3 x4 w w1 (.slice A0 l.length n0) (.slice A1 h.length n1) from ⟨(hb.block _ (by simp <;> omega)).trans heap4_0, (hb.block _ (by simp <;> omega)).trans heap4_1, (hb.block _ (by simp <;> omega)).trans heap4_2, (hb.block _ (by simp)).trans heap4_3, zT (by repeat (first | exact zi _ _ | apply zF)) hb⟩)
  clear hb
  obtain ⟨⟨q0, q1, q2, q3, q4⟩, ⟨q5, q6⟩, ⟨q7, q8, q9, q10, q11⟩, ⟨q12, q13⟩, f0, f1⟩ := HV.out.cells
  go_wp2_with fail
  refine (HGet.out _ HV.out.below).mono ?_
  rintro e w2 ⟨rfl, hb⟩
  have HV2 := zX (HV.out.move hb)
  clear q0 q1 q2 q3 q4 q5 q6 q7 q8 q9 q10 q11 q12 q13 f0 f1
  clear HV
  have HV := HV2
  clear HV2
  obtain ⟨⟨q0, q1, q2, q3, q4⟩, ⟨q5, q6⟩, ⟨q7, q8, q9, q10, q11⟩, ⟨q12, q13⟩, f0, f1⟩ := HV.out.cells
  clear hb
  go_wp2_with fail
  refine (HPut.out _ HV.out.below).mono ?_
  rintro e w3 ⟨v, rfl, hR, hb⟩
  have hlt := HV.out.lt
  obtain ⟨Av, cv, rfl, _⟩ := Kd.R_reads hR
  have HV2 := zX (HV.out.move hb)
  clear q0 q1 q2 q3 q4 q5 q6 q7 q8 q9 q10 q11 q12 q13 f0 f1
  clear HV
  have HV := HV2
  clear HV2
  obtain ⟨⟨q0, q1, q2, q3, q4⟩, ⟨q5, q6⟩, ⟨q7, q8, q9, q10, q11⟩, ⟨q12, q13⟩, f0, f1⟩ := HV.out.cells
  have HR := zX hR
  clear hb hR
  go_wp2
  refine bodyPost_ret (v := .tuple #[.agg #[.slice Av m.length cv, .slice A1 h.length n1], .bool true]) (by simp [results, Tryd.results12, go_sem, *]) rfl ⟨.slice Av m.length cv, rfl, Kd.R_lower (R_low3 HR.out (by omega)) (by omega), HV.out.end2 _ _ _ _⟩
set_option maxHeartbeats 8000000 in
set_option maxRecDepth 100000 in
theorem aft_add_has (k : Nat) (c0 c1 c2 c3 c4 : Int) (A0 : Option Addr) (n0 : Nat) (l : List S65) (A1 : Option Addr) (n1 : Nat) (h : List S72) (x1 x2 x3 : ByteArray) (x4 : Int) (w : World) (hr0 : Kd.C k65 w A0 l.length l) (hc0 : l.length ≤ n0) (hr1 : Kd.C k72 w A1 h.length h) (hc1 : h.length ≤ n1) (hL : LaidU w) (hfit : model_fits.f k c0 c1 c2 c3 c4 3 x1 x2 x3 x4 = some true) (g1 : ByteArray) (hget : pair_Get.f k l x1 = some (g1, true)) :
    Calls Tryd.prog 12 #[.agg #[.int .i64 c0, .int .i64 c1, .int .i64 c2, .int .i64 c3, .int .i64 c4], .agg #[.slice A0 l.length n0, .slice A1 h.length n1], .agg #[.int .i64 3, .string x1, .string x2, .string x3, .int .i64 x4]] w fun e w' => e = .returned (.tuple #[.agg #[.slice A0 l.length n0, .slice A1 h.length n1], .bool false]) ∧ Below w.heap.size w w' := by
  have HFit := Lib.hid (fun (W : World) (hb : Below w.heap.size w W) => model_fits.calls k c0 c1 c2 c3 c4 3 x1 x2 x3 x4 true W (laidU_below hL hb) hfit)
  have HGet := Lib.hid (fun (W : World) (hb : Below w.heap.size w W) => pair_Get.calls k A0 n0 l x1 g1 true W (zZ hr0 hb) hc0 hget)
  clear hr0 hc0 hr1 hc1 hL hfit hget
  go_enter Tryd.func12, Tryd.ntmps12
  go_wp2_with fail
  refine (HFit.out _ (by repeat (first | exact zi _ _ | apply zF))).mono ?_
  rintro e w1 ⟨rfl, hb⟩
  have HV := zX (show AftInv c0 c1 c2 c3 c4 3 x1 x2 x3 x4 w w1 (.slice A0 l.length n0) (.slice A1 h.length n1) from ⟨(hb.block _ (by simp <;> omega)).trans heap4_0, (hb.block _ (by simp <;> omega)).trans heap4_1, (hb.block _ (by simp <;> omega)).trans heap4_2, (hb.block _ (by simp)).trans heap4_3, zT (by repeat (first | exact zi _ _ | apply zF)) hb⟩)
  clear hb
  obtain ⟨⟨q0, q1, q2, q3, q4⟩, ⟨q5, q6⟩, ⟨q7, q8, q9, q10, q11⟩, ⟨q12, q13⟩, f0, f1⟩ := HV.out.cells
  go_wp2_with fail
  refine (HGet.out _ HV.out.below).mono ?_
  rintro e w2 ⟨rfl, hb⟩
  have HV2 := zX (HV.out.move hb)
  clear q0 q1 q2 q3 q4 q5 q6 q7 q8 q9 q10 q11 q12 q13 f0 f1
  clear HV
  have HV := HV2
  clear HV2
  obtain ⟨⟨q0, q1, q2, q3, q4⟩, ⟨q5, q6⟩, ⟨q7, q8, q9, q10, q11⟩, ⟨q12, q13⟩, f0, f1⟩ := HV.out.cells
  clear hb
  go_wp2
  refine bodyPost_ret (v := .tuple #[.agg #[.slice A0 l.length n0, .slice A1 h.length n1], .bool false]) (by simp [results, Tryd.results12, go_sem, *]) rfl ⟨rfl, HV.out.end_ _ _⟩
set_option maxHeartbeats 8000000 in
set_option maxRecDepth 100000 in
theorem aft_swap_same (k : Nat) (c0 c1 c2 c3 c4 : Int) (A0 : Option Addr) (n0 : Nat) (l : List S65) (A1 : Option Addr) (n1 : Nat) (h : List S72) (x1 x2 x3 : ByteArray) (x4 : Int) (w : World) (hr0 : Kd.C k65 w A0 l.length l) (hc0 : l.length ≤ n0) (hr1 : Kd.C k72 w A1 h.length h) (hc1 : h.length ≤ n1) (hL : LaidU w) (hfit : model_fits.f k c0 c1 c2 c3 c4 4 x1 x2 x3 x4 = some true) (g1 : ByteArray) (hget : pair_Get.f k l x1 = some (g1, true)) (s1 : (g1.toList == x3.toList) = true) (s2 : (g1.toList == x2.toList) = true) :
    Calls Tryd.prog 12 #[.agg #[.int .i64 c0, .int .i64 c1, .int .i64 c2, .int .i64 c3, .int .i64 c4], .agg #[.slice A0 l.length n0, .slice A1 h.length n1], .agg #[.int .i64 4, .string x1, .string x2, .string x3, .int .i64 x4]] w fun e w' => e = .returned (.tuple #[.agg #[.slice A0 l.length n0, .slice A1 h.length n1], .bool false]) ∧ Below w.heap.size w w' := by
  have HFit := Lib.hid (fun (W : World) (hb : Below w.heap.size w W) => model_fits.calls k c0 c1 c2 c3 c4 4 x1 x2 x3 x4 true W (laidU_below hL hb) hfit)
  have HGet := Lib.hid (fun (W : World) (hb : Below w.heap.size w W) => pair_Get.calls k A0 n0 l x1 g1 true W (zZ hr0 hb) hc0 hget)
  clear hr0 hc0 hr1 hc1 hL hfit hget
  go_enter Tryd.func12, Tryd.ntmps12
  go_wp2_with fail
  refine (HFit.out _ (by repeat (first | exact zi _ _ | apply zF))).mono ?_
  rintro e w1 ⟨rfl, hb⟩
  have HV := zX (show AftInv c0 c1 c2 c3 c4 4 x1 x2 x3 x4 w w1 (.slice A0 l.length n0) (.slice A1 h.length n1) from ⟨(hb.block _ (by simp <;> omega)).trans heap4_0, (hb.block _ (by simp <;> omega)).trans heap4_1, (hb.block _ (by simp <;> omega)).trans heap4_2, (hb.block _ (by simp)).trans heap4_3, zT (by repeat (first | exact zi _ _ | apply zF)) hb⟩)
  clear hb
  obtain ⟨⟨q0, q1, q2, q3, q4⟩, ⟨q5, q6⟩, ⟨q7, q8, q9, q10, q11⟩, ⟨q12, q13⟩, f0, f1⟩ := HV.out.cells
  go_wp2_with fail
  refine (HGet.out _ HV.out.below).mono ?_
  rintro e w2 ⟨rfl, hb⟩
  have HV2 := zX (HV.out.move hb)
  clear q0 q1 q2 q3 q4 q5 q6 q7 q8 q9 q10 q11 q12 q13 f0 f1
  clear HV
  have HV := HV2
  clear HV2
  obtain ⟨⟨q0, q1, q2, q3, q4⟩, ⟨q5, q6⟩, ⟨q7, q8, q9, q10, q11⟩, ⟨q12, q13⟩, f0, f1⟩ := HV.out.cells
  clear hb
  go_wp2
  refine bodyPost_ret (v := .tuple #[.agg #[.slice A0 l.length n0, .slice A1 h.length n1], .bool false]) (by simp [results, Tryd.results12, go_sem, *]) rfl ⟨rfl, HV.out.end_ _ _⟩
set_option maxHeartbeats 8000000 in
set_option maxRecDepth 100000 in
theorem aft_swap (k : Nat) (c0 c1 c2 c3 c4 : Int) (A0 : Option Addr) (n0 : Nat) (l : List S65) (A1 : Option Addr) (n1 : Nat) (h : List S72) (x1 x2 x3 : ByteArray) (x4 : Int) (w : World) (hr0 : Kd.C k65 w A0 l.length l) (hc0 : l.length ≤ n0) (hr1 : Kd.C k72 w A1 h.length h) (hc1 : h.length ≤ n1) (hL : LaidU w) (hfit : model_fits.f k c0 c1 c2 c3 c4 4 x1 x2 x3 x4 = some true) (g1 : ByteArray) (hget : pair_Get.f k l x1 = some (g1, true)) (m : List S65) (hput : pair_Put.f k l x1 x2 = some m) (s1 : (g1.toList == x3.toList) = true) (s2 : (g1.toList == x2.toList) = false) :
    Calls Tryd.prog 12 #[.agg #[.int .i64 c0, .int .i64 c1, .int .i64 c2, .int .i64 c3, .int .i64 c4], .agg #[.slice A0 l.length n0, .slice A1 h.length n1], .agg #[.int .i64 4, .string x1, .string x2, .string x3, .int .i64 x4]] w fun e w' => ∃ v, e = .returned (.tuple #[.agg #[v, .slice A1 h.length n1], .bool true]) ∧ Kd.R k65 65 w' w.heap.size (fun _ => True) v m ∧ Below w.heap.size w w' := by
  have HFit := Lib.hid (fun (W : World) (hb : Below w.heap.size w W) => model_fits.calls k c0 c1 c2 c3 c4 4 x1 x2 x3 x4 true W (laidU_below hL hb) hfit)
  have HGet := Lib.hid (fun (W : World) (hb : Below w.heap.size w W) => pair_Get.calls k A0 n0 l x1 g1 true W (zZ hr0 hb) hc0 hget)
  have HPut := Lib.hid (fun (W : World) (hb : Below w.heap.size w W) => pair_Put.calls k A0 n0 l x1 x2 m W (zZ hr0 hb) hc0 hput)
  clear hr0 hc0 hr1 hc1 hL hfit hget hput
  go_enter Tryd.func12, Tryd.ntmps12
  go_wp2_with fail
  refine (HFit.out _ (by repeat (first | exact zi _ _ | apply zF))).mono ?_
  rintro e w1 ⟨rfl, hb⟩
  have HV := zX (show AftInv c0 c1 c2 c3 c4 4 x1 x2 x3 x4 w w1 (.slice A0 l.length n0) (.slice A1 h.length n1) from ⟨(hb.block _ (by simp <;> omega)).trans heap4_0, (hb.block _ (by simp <;> omega)).trans heap4_1, (hb.block _ (by simp <;> omega)).trans heap4_2, (hb.block _ (by simp)).trans heap4_3, zT (by repeat (first | exact zi _ _ | apply zF)) hb⟩)
  clear hb
  obtain ⟨⟨q0, q1, q2, q3, q4⟩, ⟨q5, q6⟩, ⟨q7, q8, q9, q10, q11⟩, ⟨q12, q13⟩, f0, f1⟩ := HV.out.cells
  go_wp2_with fail
  refine (HGet.out _ HV.out.below).mono ?_
  rintro e w2 ⟨rfl, hb⟩
  have HV2 := zX (HV.out.move hb)
  clear q0 q1 q2 q3 q4 q5 q6 q7 q8 q9 q10 q11 q12 q13 f0 f1
  clear HV
  have HV := HV2
  clear HV2
  obtain ⟨⟨q0, q1, q2, q3, q4⟩, ⟨q5, q6⟩, ⟨q7, q8, q9, q10, q11⟩, ⟨q12, q13⟩, f0, f1⟩ := HV.out.cells
  clear hb
  go_wp2_with fail
  refine (HPut.out _ HV.out.below).mono ?_
  rintro e w3 ⟨v, rfl, hR, hb⟩
  have hlt := HV.out.lt
  obtain ⟨Av, cv, rfl, _⟩ := Kd.R_reads hR
  have HV2 := zX (HV.out.move hb)
  clear q0 q1 q2 q3 q4 q5 q6 q7 q8 q9 q10 q11 q12 q13 f0 f1
  clear HV
  have HV := HV2
  clear HV2
  obtain ⟨⟨q0, q1, q2, q3, q4⟩, ⟨q5, q6⟩, ⟨q7, q8, q9, q10, q11⟩, ⟨q12, q13⟩, f0, f1⟩ := HV.out.cells
  have HR := zX hR
  clear hb hR
  go_wp2
  refine bodyPost_ret (v := .tuple #[.agg #[.slice Av m.length cv, .slice A1 h.length n1], .bool true]) (by simp [results, Tryd.results12, go_sem, *]) rfl ⟨.slice Av m.length cv, rfl, Kd.R_lower (R_low3 HR.out (by omega)) (by omega), HV.out.end2 _ _ _ _⟩
set_option maxHeartbeats 8000000 in
set_option maxRecDepth 100000 in
theorem aft_swap_no (k : Nat) (c0 c1 c2 c3 c4 : Int) (A0 : Option Addr) (n0 : Nat) (l : List S65) (A1 : Option Addr) (n1 : Nat) (h : List S72) (x1 x2 x3 : ByteArray) (x4 : Int) (w : World) (hr0 : Kd.C k65 w A0 l.length l) (hc0 : l.length ≤ n0) (hr1 : Kd.C k72 w A1 h.length h) (hc1 : h.length ≤ n1) (hL : LaidU w) (hfit : model_fits.f k c0 c1 c2 c3 c4 4 x1 x2 x3 x4 = some true) (g1 : ByteArray) (hget : pair_Get.f k l x1 = some (g1, true)) (s1 : (g1.toList == x3.toList) = false) :
    Calls Tryd.prog 12 #[.agg #[.int .i64 c0, .int .i64 c1, .int .i64 c2, .int .i64 c3, .int .i64 c4], .agg #[.slice A0 l.length n0, .slice A1 h.length n1], .agg #[.int .i64 4, .string x1, .string x2, .string x3, .int .i64 x4]] w fun e w' => e = .returned (.tuple #[.agg #[.slice A0 l.length n0, .slice A1 h.length n1], .bool false]) ∧ Below w.heap.size w w' := by
  have HFit := Lib.hid (fun (W : World) (hb : Below w.heap.size w W) => model_fits.calls k c0 c1 c2 c3 c4 4 x1 x2 x3 x4 true W (laidU_below hL hb) hfit)
  have HGet := Lib.hid (fun (W : World) (hb : Below w.heap.size w W) => pair_Get.calls k A0 n0 l x1 g1 true W (zZ hr0 hb) hc0 hget)
  clear hr0 hc0 hr1 hc1 hL hfit hget
  go_enter Tryd.func12, Tryd.ntmps12
  go_wp2_with fail
  refine (HFit.out _ (by repeat (first | exact zi _ _ | apply zF))).mono ?_
  rintro e w1 ⟨rfl, hb⟩
  have HV := zX (show AftInv c0 c1 c2 c3 c4 4 x1 x2 x3 x4 w w1 (.slice A0 l.length n0) (.slice A1 h.length n1) from ⟨(hb.block _ (by simp <;> omega)).trans heap4_0, (hb.block _ (by simp <;> omega)).trans heap4_1, (hb.block _ (by simp <;> omega)).trans heap4_2, (hb.block _ (by simp)).trans heap4_3, zT (by repeat (first | exact zi _ _ | apply zF)) hb⟩)
  clear hb
  obtain ⟨⟨q0, q1, q2, q3, q4⟩, ⟨q5, q6⟩, ⟨q7, q8, q9, q10, q11⟩, ⟨q12, q13⟩, f0, f1⟩ := HV.out.cells
  go_wp2_with fail
  refine (HGet.out _ HV.out.below).mono ?_
  rintro e w2 ⟨rfl, hb⟩
  have HV2 := zX (HV.out.move hb)
  clear q0 q1 q2 q3 q4 q5 q6 q7 q8 q9 q10 q11 q12 q13 f0 f1
  clear HV
  have HV := HV2
  clear HV2
  obtain ⟨⟨q0, q1, q2, q3, q4⟩, ⟨q5, q6⟩, ⟨q7, q8, q9, q10, q11⟩, ⟨q12, q13⟩, f0, f1⟩ := HV.out.cells
  clear hb
  go_wp2
  refine bodyPost_ret (v := .tuple #[.agg #[.slice A0 l.length n0, .slice A1 h.length n1], .bool false]) (by simp [results, Tryd.results12, go_sem, *]) rfl ⟨rfl, HV.out.end_ _ _⟩
set_option maxHeartbeats 8000000 in
set_option maxRecDepth 100000 in
theorem aft_swap_none (k : Nat) (c0 c1 c2 c3 c4 : Int) (A0 : Option Addr) (n0 : Nat) (l : List S65) (A1 : Option Addr) (n1 : Nat) (h : List S72) (x1 x2 x3 : ByteArray) (x4 : Int) (w : World) (hr0 : Kd.C k65 w A0 l.length l) (hc0 : l.length ≤ n0) (hr1 : Kd.C k72 w A1 h.length h) (hc1 : h.length ≤ n1) (hL : LaidU w) (hfit : model_fits.f k c0 c1 c2 c3 c4 4 x1 x2 x3 x4 = some true) (g1 : ByteArray) (hget : pair_Get.f k l x1 = some (g1, false)) :
    Calls Tryd.prog 12 #[.agg #[.int .i64 c0, .int .i64 c1, .int .i64 c2, .int .i64 c3, .int .i64 c4], .agg #[.slice A0 l.length n0, .slice A1 h.length n1], .agg #[.int .i64 4, .string x1, .string x2, .string x3, .int .i64 x4]] w fun e w' => e = .returned (.tuple #[.agg #[.slice A0 l.length n0, .slice A1 h.length n1], .bool false]) ∧ Below w.heap.size w w' := by
  have HFit := Lib.hid (fun (W : World) (hb : Below w.heap.size w W) => model_fits.calls k c0 c1 c2 c3 c4 4 x1 x2 x3 x4 true W (laidU_below hL hb) hfit)
  have HGet := Lib.hid (fun (W : World) (hb : Below w.heap.size w W) => pair_Get.calls k A0 n0 l x1 g1 false W (zZ hr0 hb) hc0 hget)
  clear hr0 hc0 hr1 hc1 hL hfit hget
  go_enter Tryd.func12, Tryd.ntmps12
  go_wp2_with fail
  refine (HFit.out _ (by repeat (first | exact zi _ _ | apply zF))).mono ?_
  rintro e w1 ⟨rfl, hb⟩
  have HV := zX (show AftInv c0 c1 c2 c3 c4 4 x1 x2 x3 x4 w w1 (.slice A0 l.length n0) (.slice A1 h.length n1) from ⟨(hb.block _ (by simp <;> omega)).trans heap4_0, (hb.block _ (by simp <;> omega)).trans heap4_1, (hb.block _ (by simp <;> omega)).trans heap4_2, (hb.block _ (by simp)).trans heap4_3, zT (by repeat (first | exact zi _ _ | apply zF)) hb⟩)
  clear hb
  obtain ⟨⟨q0, q1, q2, q3, q4⟩, ⟨q5, q6⟩, ⟨q7, q8, q9, q10, q11⟩, ⟨q12, q13⟩, f0, f1⟩ := HV.out.cells
  go_wp2_with fail
  refine (HGet.out _ HV.out.below).mono ?_
  rintro e w2 ⟨rfl, hb⟩
  have HV2 := zX (HV.out.move hb)
  clear q0 q1 q2 q3 q4 q5 q6 q7 q8 q9 q10 q11 q12 q13 f0 f1
  clear HV
  have HV := HV2
  clear HV2
  obtain ⟨⟨q0, q1, q2, q3, q4⟩, ⟨q5, q6⟩, ⟨q7, q8, q9, q10, q11⟩, ⟨q12, q13⟩, f0, f1⟩ := HV.out.cells
  clear hb
  go_wp2
  refine bodyPost_ret (v := .tuple #[.agg #[.slice A0 l.length n0, .slice A1 h.length n1], .bool false]) (by simp [results, Tryd.results12, go_sem, *]) rfl ⟨rfl, HV.out.end_ _ _⟩
set_option maxHeartbeats 8000000 in
set_option maxRecDepth 100000 in
theorem aft_drop (k : Nat) (c0 c1 c2 c3 c4 : Int) (A0 : Option Addr) (n0 : Nat) (l : List S65) (A1 : Option Addr) (n1 : Nat) (h : List S72) (x1 x2 x3 : ByteArray) (x4 : Int) (w : World) (hr0 : Kd.C k65 w A0 l.length l) (hc0 : l.length ≤ n0) (hr1 : Kd.C k72 w A1 h.length h) (hc1 : h.length ≤ n1) (hL : LaidU w) (hfit : model_fits.f k c0 c1 c2 c3 c4 5 x1 x2 x3 x4 = some true) (g1 : ByteArray) (hget : pair_Get.f k l x1 = some (g1, true)) (m : List S65) (hput : pair_Drop.f k l x1 = some m) :
    Calls Tryd.prog 12 #[.agg #[.int .i64 c0, .int .i64 c1, .int .i64 c2, .int .i64 c3, .int .i64 c4], .agg #[.slice A0 l.length n0, .slice A1 h.length n1], .agg #[.int .i64 5, .string x1, .string x2, .string x3, .int .i64 x4]] w fun e w' => ∃ v, e = .returned (.tuple #[.agg #[v, .slice A1 h.length n1], .bool true]) ∧ Kd.R k65 65 w' w.heap.size (fun _ => True) v m ∧ Below w.heap.size w w' := by
  have HFit := Lib.hid (fun (W : World) (hb : Below w.heap.size w W) => model_fits.calls k c0 c1 c2 c3 c4 5 x1 x2 x3 x4 true W (laidU_below hL hb) hfit)
  have HGet := Lib.hid (fun (W : World) (hb : Below w.heap.size w W) => pair_Get.calls k A0 n0 l x1 g1 true W (zZ hr0 hb) hc0 hget)
  have HPut := Lib.hid (fun (W : World) (hb : Below w.heap.size w W) => pair_Drop.calls k A0 n0 l x1 m W (zZ hr0 hb) hc0 hput)
  clear hr0 hc0 hr1 hc1 hL hfit hget hput
  go_enter Tryd.func12, Tryd.ntmps12
  go_wp2_with fail
  refine (HFit.out _ (by repeat (first | exact zi _ _ | apply zF))).mono ?_
  rintro e w1 ⟨rfl, hb⟩
  have HV := zX (show AftInv c0 c1 c2 c3 c4 5 x1 x2 x3 x4 w w1 (.slice A0 l.length n0) (.slice A1 h.length n1) from ⟨(hb.block _ (by simp <;> omega)).trans heap4_0, (hb.block _ (by simp <;> omega)).trans heap4_1, (hb.block _ (by simp <;> omega)).trans heap4_2, (hb.block _ (by simp)).trans heap4_3, zT (by repeat (first | exact zi _ _ | apply zF)) hb⟩)
  clear hb
  obtain ⟨⟨q0, q1, q2, q3, q4⟩, ⟨q5, q6⟩, ⟨q7, q8, q9, q10, q11⟩, ⟨q12, q13⟩, f0, f1⟩ := HV.out.cells
  go_wp2_with fail
  refine (HGet.out _ HV.out.below).mono ?_
  rintro e w2 ⟨rfl, hb⟩
  have HV2 := zX (HV.out.move hb)
  clear q0 q1 q2 q3 q4 q5 q6 q7 q8 q9 q10 q11 q12 q13 f0 f1
  clear HV
  have HV := HV2
  clear HV2
  obtain ⟨⟨q0, q1, q2, q3, q4⟩, ⟨q5, q6⟩, ⟨q7, q8, q9, q10, q11⟩, ⟨q12, q13⟩, f0, f1⟩ := HV.out.cells
  clear hb
  go_wp2_with fail
  refine (HPut.out _ HV.out.below).mono ?_
  rintro e w3 ⟨v, rfl, hR, hb⟩
  have hlt := HV.out.lt
  obtain ⟨Av, cv, rfl, _⟩ := Kd.R_reads hR
  have HV2 := zX (HV.out.move hb)
  clear q0 q1 q2 q3 q4 q5 q6 q7 q8 q9 q10 q11 q12 q13 f0 f1
  clear HV
  have HV := HV2
  clear HV2
  obtain ⟨⟨q0, q1, q2, q3, q4⟩, ⟨q5, q6⟩, ⟨q7, q8, q9, q10, q11⟩, ⟨q12, q13⟩, f0, f1⟩ := HV.out.cells
  have HR := zX hR
  clear hb hR
  go_wp2
  refine bodyPost_ret (v := .tuple #[.agg #[.slice Av m.length cv, .slice A1 h.length n1], .bool true]) (by simp [results, Tryd.results12, go_sem, *]) rfl ⟨.slice Av m.length cv, rfl, Kd.R_lower (R_low3 HR.out (by omega)) (by omega), HV.out.end2 _ _ _ _⟩
set_option maxHeartbeats 8000000 in
set_option maxRecDepth 100000 in
theorem aft_drop_none (k : Nat) (c0 c1 c2 c3 c4 : Int) (A0 : Option Addr) (n0 : Nat) (l : List S65) (A1 : Option Addr) (n1 : Nat) (h : List S72) (x1 x2 x3 : ByteArray) (x4 : Int) (w : World) (hr0 : Kd.C k65 w A0 l.length l) (hc0 : l.length ≤ n0) (hr1 : Kd.C k72 w A1 h.length h) (hc1 : h.length ≤ n1) (hL : LaidU w) (hfit : model_fits.f k c0 c1 c2 c3 c4 5 x1 x2 x3 x4 = some true) (g1 : ByteArray) (hget : pair_Get.f k l x1 = some (g1, false)) :
    Calls Tryd.prog 12 #[.agg #[.int .i64 c0, .int .i64 c1, .int .i64 c2, .int .i64 c3, .int .i64 c4], .agg #[.slice A0 l.length n0, .slice A1 h.length n1], .agg #[.int .i64 5, .string x1, .string x2, .string x3, .int .i64 x4]] w fun e w' => e = .returned (.tuple #[.agg #[.slice A0 l.length n0, .slice A1 h.length n1], .bool false]) ∧ Below w.heap.size w w' := by
  have HFit := Lib.hid (fun (W : World) (hb : Below w.heap.size w W) => model_fits.calls k c0 c1 c2 c3 c4 5 x1 x2 x3 x4 true W (laidU_below hL hb) hfit)
  have HGet := Lib.hid (fun (W : World) (hb : Below w.heap.size w W) => pair_Get.calls k A0 n0 l x1 g1 false W (zZ hr0 hb) hc0 hget)
  clear hr0 hc0 hr1 hc1 hL hfit hget
  go_enter Tryd.func12, Tryd.ntmps12
  go_wp2_with fail
  refine (HFit.out _ (by repeat (first | exact zi _ _ | apply zF))).mono ?_
  rintro e w1 ⟨rfl, hb⟩
  have HV := zX (show AftInv c0 c1 c2 c3 c4 5 x1 x2 x3 x4 w w1 (.slice A0 l.length n0) (.slice A1 h.length n1) from ⟨(hb.block _ (by simp <;> omega)).trans heap4_0, (hb.block _ (by simp <;> omega)).trans heap4_1, (hb.block _ (by simp <;> omega)).trans heap4_2, (hb.block _ (by simp)).trans heap4_3, zT (by repeat (first | exact zi _ _ | apply zF)) hb⟩)
  clear hb
  obtain ⟨⟨q0, q1, q2, q3, q4⟩, ⟨q5, q6⟩, ⟨q7, q8, q9, q10, q11⟩, ⟨q12, q13⟩, f0, f1⟩ := HV.out.cells
  go_wp2_with fail
  refine (HGet.out _ HV.out.below).mono ?_
  rintro e w2 ⟨rfl, hb⟩
  have HV2 := zX (HV.out.move hb)
  clear q0 q1 q2 q3 q4 q5 q6 q7 q8 q9 q10 q11 q12 q13 f0 f1
  clear HV
  have HV := HV2
  clear HV2
  obtain ⟨⟨q0, q1, q2, q3, q4⟩, ⟨q5, q6⟩, ⟨q7, q8, q9, q10, q11⟩, ⟨q12, q13⟩, f0, f1⟩ := HV.out.cells
  clear hb
  go_wp2
  refine bodyPost_ret (v := .tuple #[.agg #[.slice A0 l.length n0, .slice A1 h.length n1], .bool false]) (by simp [results, Tryd.results12, go_sem, *]) rfl ⟨rfl, HV.out.end_ _ _⟩
set_option maxHeartbeats 8000000 in
set_option maxRecDepth 100000 in
theorem aft_free_none (k : Nat) (c0 c1 c2 c3 c4 : Int) (A0 : Option Addr) (n0 : Nat) (l : List S65) (A1 : Option Addr) (n1 : Nat) (h : List S72) (x1 x2 x3 : ByteArray) (x4 : Int) (w : World) (hr0 : Kd.C k65 w A0 l.length l) (hc0 : l.length ≤ n0) (hr1 : Kd.C k72 w A1 h.length h) (hc1 : h.length ≤ n1) (hL : LaidU w) (hfit : model_fits.f k c0 c1 c2 c3 c4 8 x1 x2 x3 x4 = some true) (g1 : ByteArray) (g2 : Bool) (hget : pair_Get.f k l x1 = some (g1, g2)) (hheld : heldL h x4 = -1) :
    Calls Tryd.prog 12 #[.agg #[.int .i64 c0, .int .i64 c1, .int .i64 c2, .int .i64 c3, .int .i64 c4], .agg #[.slice A0 l.length n0, .slice A1 h.length n1], .agg #[.int .i64 8, .string x1, .string x2, .string x3, .int .i64 x4]] w fun e w' => e = .returned (.tuple #[.agg #[.slice A0 l.length n0, .slice A1 h.length n1], .bool false]) ∧ Below w.heap.size w w' := by
  have HFit := Lib.hid (fun (W : World) (hb : Below w.heap.size w W) => model_fits.calls k c0 c1 c2 c3 c4 8 x1 x2 x3 x4 true W (laidU_below hL hb) hfit)
  have HGet := Lib.hid (fun (W : World) (hb : Below w.heap.size w W) => pair_Get.calls k A0 n0 l x1 g1 g2 W (zZ hr0 hb) hc0 hget)
  have HHeld := Lib.hid (fun (W : World) (hb : Below w.heap.size w W) => model_held.calls A0 n0 l A1 n1 h x4 _ W (zZ hr0 hb) hc0 (zZ hr1 hb) hc1 rfl)
  rw [hheld] at HHeld
  clear hr0 hc0 hr1 hc1 hL hfit hget hheld
  go_enter Tryd.func12, Tryd.ntmps12
  go_wp2_with fail
  refine (HFit.out _ (by repeat (first | exact zi _ _ | apply zF))).mono ?_
  rintro e w1 ⟨rfl, hb⟩
  have HV := zX (show AftInv c0 c1 c2 c3 c4 8 x1 x2 x3 x4 w w1 (.slice A0 l.length n0) (.slice A1 h.length n1) from ⟨(hb.block _ (by simp <;> omega)).trans heap4_0, (hb.block _ (by simp <;> omega)).trans heap4_1, (hb.block _ (by simp <;> omega)).trans heap4_2, (hb.block _ (by simp)).trans heap4_3, zT (by repeat (first | exact zi _ _ | apply zF)) hb⟩)
  clear hb
  obtain ⟨⟨q0, q1, q2, q3, q4⟩, ⟨q5, q6⟩, ⟨q7, q8, q9, q10, q11⟩, ⟨q12, q13⟩, f0, f1⟩ := HV.out.cells
  go_wp2_with fail
  refine (HGet.out _ HV.out.below).mono ?_
  rintro e w2 ⟨rfl, hb⟩
  have HV2 := zX (HV.out.move hb)
  clear q0 q1 q2 q3 q4 q5 q6 q7 q8 q9 q10 q11 q12 q13 f0 f1
  clear HV
  have HV := HV2
  clear HV2
  obtain ⟨⟨q0, q1, q2, q3, q4⟩, ⟨q5, q6⟩, ⟨q7, q8, q9, q10, q11⟩, ⟨q12, q13⟩, f0, f1⟩ := HV.out.cells
  clear hb
  go_wp2_with fail
  refine (HHeld.out _ HV.out.below).mono ?_
  rintro e w3 ⟨rfl, hb⟩
  have HV2 := zX (HV.out.move hb)
  clear q0 q1 q2 q3 q4 q5 q6 q7 q8 q9 q10 q11 q12 q13 f0 f1
  clear HV
  have HV := HV2
  clear HV2
  obtain ⟨⟨q0, q1, q2, q3, q4⟩, ⟨q5, q6⟩, ⟨q7, q8, q9, q10, q11⟩, ⟨q12, q13⟩, f0, f1⟩ := HV.out.cells
  clear hb
  go_wp2
  refine bodyPost_ret (v := .tuple #[.agg #[.slice A0 l.length n0, .slice A1 h.length n1], .bool false]) (by simp [results, Tryd.results12, go_sem, *]) rfl ⟨rfl, HV.out.end_ _ _⟩
set_option maxHeartbeats 8000000 in
set_option maxRecDepth 100000 in
theorem aft_free (k : Nat) (c0 c1 c2 c3 c4 : Int) (A0 : Option Addr) (n0 : Nat) (l : List S65) (A1 : Option Addr) (n1 : Nat) (h : List S72) (x1 x2 x3 : ByteArray) (x4 : Int) (w : World) (hr0 : Kd.C k65 w A0 l.length l) (hc0 : l.length ≤ n0) (hr1 : Kd.C k72 w A1 h.length h) (hc1 : h.length ≤ n1) (hL : LaidU w) (hfit : model_fits.f k c0 c1 c2 c3 c4 8 x1 x2 x3 x4 = some true) (g1 : ByteArray) (g2 : Bool) (hget : pair_Get.f k l x1 = some (g1, g2)) (i : Nat) (hi : i < h.length) (hheld : heldL h x4 = (i : Int)) (hlen : h.length < 4398046511104) (P1_ : Nat → Prop) (hs1 : Kd.V k72 72 w w.heap.size (fun k_ => P1_ k_) (.slice A1 h.length n1) h) :
    Calls Tryd.prog 12 #[.agg #[.int .i64 c0, .int .i64 c1, .int .i64 c2, .int .i64 c3, .int .i64 c4], .agg #[.slice A0 l.length n0, .slice A1 h.length n1], .agg #[.int .i64 8, .string x1, .string x2, .string x3, .int .i64 x4]] w fun e w' => ∃ v, e = .returned (.tuple #[.agg #[.slice A0 l.length n0, v], .bool true]) ∧ Kd.N k72 72 w' w.heap.size (fun k_ => P1_ k_ ∨ w.heap.size ≤ k_) v (h.eraseIdx i) ∧ Below w.heap.size w w' := by
  have HFit := Lib.hid (fun (W : World) (hb : Below w.heap.size w W) => model_fits.calls k c0 c1 c2 c3 c4 8 x1 x2 x3 x4 true W (laidU_below hL hb) hfit)
  have HGet := Lib.hid (fun (W : World) (hb : Below w.heap.size w W) => pair_Get.calls k A0 n0 l x1 g1 g2 W (zZ hr0 hb) hc0 hget)
  have HHeld := Lib.hid (fun (W : World) (hb : Below w.heap.size w W) => model_held.calls A0 n0 l A1 n1 h x4 _ W (zZ hr0 hb) hc0 (zZ hr1 hb) hc1 rfl)
  rw [hheld] at HHeld
  have HCl := Lib.hid (fun (W : World) (hb : Below w.heap.size w W) => cl_Held.calls (fun k_ => P1_ k_ ∧ k_ < w.heap.size) A1 n1 h h W (Kd.V_below (Kd.V_bound hs1) hb) (by unfold cl_Held.f; rw [if_pos hlen]))
  have HLen := Lib.hid hlen
  clear hr0 hc0 hr1 hc1 hL hfit hget hheld hlen hs1
  go_enter Tryd.func12, Tryd.ntmps12
  go_wp2_with fail
  refine (HFit.out _ (by repeat (first | exact zi _ _ | apply zF))).mono ?_
  rintro e w1 ⟨rfl, hb⟩
  have HV := zX (show AftInv c0 c1 c2 c3 c4 8 x1 x2 x3 x4 w w1 (.slice A0 l.length n0) (.slice A1 h.length n1) from ⟨(hb.block _ (by simp <;> omega)).trans heap4_0, (hb.block _ (by simp <;> omega)).trans heap4_1, (hb.block _ (by simp <;> omega)).trans heap4_2, (hb.block _ (by simp)).trans heap4_3, zT (by repeat (first | exact zi _ _ | apply zF)) hb⟩)
  clear hb
  obtain ⟨⟨q0, q1, q2, q3, q4⟩, ⟨q5, q6⟩, ⟨q7, q8, q9, q10, q11⟩, ⟨q12, q13⟩, f0, f1⟩ := HV.out.cells
  go_wp2_with fail
  refine (HGet.out _ HV.out.below).mono ?_
  rintro e w2 ⟨rfl, hb⟩
  have HV2 := zX (HV.out.move hb)
  clear q0 q1 q2 q3 q4 q5 q6 q7 q8 q9 q10 q11 q12 q13 f0 f1
  clear HV
  have HV := HV2
  clear HV2
  obtain ⟨⟨q0, q1, q2, q3, q4⟩, ⟨q5, q6⟩, ⟨q7, q8, q9, q10, q11⟩, ⟨q12, q13⟩, f0, f1⟩ := HV.out.cells
  clear hb
  go_wp2_with fail
  refine (HHeld.out _ HV.out.below).mono ?_
  rintro e w3 ⟨rfl, hb⟩
  have HV2 := zX (HV.out.move hb)
  clear q0 q1 q2 q3 q4 q5 q6 q7 q8 q9 q10 q11 q12 q13 f0 f1
  clear HV
  have HV := HV2
  clear HV2
  obtain ⟨⟨q0, q1, q2, q3, q4⟩, ⟨q5, q6⟩, ⟨q7, q8, q9, q10, q11⟩, ⟨q12, q13⟩, f0, f1⟩ := HV.out.cells
  clear hb
  go_wp2_with fail
  refine (HCl.out _ HV.out.below).mono ?_
  rintro e w4 ⟨v0, rfl, hN, hb⟩
  have hlt := HV.out.lt
  obtain ⟨Av, cv, rfl, _⟩ := Kd.N_V (base' := 0) hN
  have HV3 := zX HV.out
  clear HV
  have HV := zX (HV3.out.move hb)
  have HN := zX hN
  have HB4 := zX hb
  clear hb hN
  clear q0 q1 q2 q3 q4 q5 q6 q7 q8 q9 q10 q11 q12 q13 f0 f1
  have hi63 : (i : Int) + 1 ≤ 9223372036854775807 := by have := HLen.out; omega
  obtain ⟨⟨q0, q1, q2, q3, q4⟩, ⟨q5, q6⟩, ⟨q7, q8, q9, q10, q11⟩, ⟨q12, q13⟩, f0, f1⟩ := HV.out.cells
  go_wp2_with fail
  refine (del_calls (fun k_ => (P1_ k_ ∧ k_ < w.heap.size) ∨ w3.heap.size ≤ k_) (.slice Av h.length cv) h i w3 w4 HB4.out HN.out hi (fun k hk => .inr (Nat.le_trans HB4.out.size hk))).mono ?_
  rintro e w5 ⟨v, rfl, hN5, hb⟩
  obtain ⟨Av2, cv2, rfl, _⟩ := Kd.N_V (base' := 0) hN5
  have HV5 := zX (HV3.out.move hb)
  have HN5 := zX hN5
  clear hb hN5 HV HN HB4
  clear q0 q1 q2 q3 q4 q5 q6 q7 q8 q9 q10 q11 q12 q13 f0 f1
  have HV := HV5
  clear HV5
  obtain ⟨⟨q0, q1, q2, q3, q4⟩, ⟨q5, q6⟩, ⟨q7, q8, q9, q10, q11⟩, ⟨q12, q13⟩, f0, f1⟩ := HV.out.cells
  generalize hm : (h.eraseIdx i) = m at HN5 ⊢
  have HM := Lib.hid hm
  clear hm
  have hfin := fun (a b c : Value) => Kd.N_mono (ok' := fun k_ => P1_ k_ ∨ w.heap.size ≤ k_) (Kd.N_lower (base' := w.heap.size) (N_low3 (g := w.heap.size + 1) (j := 1) (u := a) (a := b) (b := c) HN5.out (fun k hk => by
    rcases hk with h1 | h1
    · have := h1.2; omega
    · omega)) (by omega)) (fun k hk => by
    rcases hk with h1 | h1
    · exact .inl h1.1
    · exact .inr (by omega))
  have HFin := Lib.hid hfin
  clear hfin
  go_wp2
  refine bodyPost_ret (v := .tuple #[.agg #[.slice A0 l.length n0, .slice Av2 m.length cv2], .bool true]) (by simp [results, Tryd.results12, go_sem, *]) rfl ⟨.slice Av2 m.length cv2, rfl, (by rw [HM.out]; exact HFin.out _ _ _), HV.out.end2 _ _ _ _⟩
set_option maxHeartbeats 8000000 in
set_option maxRecDepth 100000 in
theorem aft_other (k : Nat) (c0 c1 c2 c3 c4 : Int) (A0 : Option Addr) (n0 : Nat) (l : List S65) (A1 : Option Addr) (n1 : Nat) (h : List S72) (x0 : Int) (x1 x2 x3 : ByteArray) (x4 : Int) (w : World) (hr0 : Kd.C k65 w A0 l.length l) (hc0 : l.length ≤ n0) (hr1 : Kd.C k72 w A1 h.length h) (hc1 : h.length ≤ n1) (hL : LaidU w) (hfit : model_fits.f k c0 c1 c2 c3 c4 x0 x1 x2 x3 x4 = some true) (g1 : ByteArray) (g2 : Bool) (hget : pair_Get.f k l x1 = some (g1, g2)) (e2 : (x0 == 2) = false) (e3 : (x0 == 3) = false) (e4 : (x0 == 4) = false) (e5 : (x0 == 5) = false) (e8 : (x0 == 8) = false) :
    Calls Tryd.prog 12 #[.agg #[.int .i64 c0, .int .i64 c1, .int .i64 c2, .int .i64 c3, .int .i64 c4], .agg #[.slice A0 l.length n0, .slice A1 h.length n1], .agg #[.int .i64 x0, .string x1, .string x2, .string x3, .int .i64 x4]] w fun e w' => e = .returned (.tuple #[.agg #[.slice A0 l.length n0, .slice A1 h.length n1], .bool false]) ∧ Below w.heap.size w w' := by
  have HFit := Lib.hid (fun (W : World) (hb : Below w.heap.size w W) => model_fits.calls k c0 c1 c2 c3 c4 x0 x1 x2 x3 x4 true W (laidU_below hL hb) hfit)
  have HGet := Lib.hid (fun (W : World) (hb : Below w.heap.size w W) => pair_Get.calls k A0 n0 l x1 g1 g2 W (zZ hr0 hb) hc0 hget)
  clear hr0 hc0 hr1 hc1 hL hfit hget
  go_enter Tryd.func12, Tryd.ntmps12
  go_wp2_with fail
  refine (HFit.out _ (by repeat (first | exact zi _ _ | apply zF))).mono ?_
  rintro e w1 ⟨rfl, hb⟩
  have HV := zX (show AftInv c0 c1 c2 c3 c4 x0 x1 x2 x3 x4 w w1 (.slice A0 l.length n0) (.slice A1 h.length n1) from ⟨(hb.block _ (by simp <;> omega)).trans heap4_0, (hb.block _ (by simp <;> omega)).trans heap4_1, (hb.block _ (by simp <;> omega)).trans heap4_2, (hb.block _ (by simp)).trans heap4_3, zT (by repeat (first | exact zi _ _ | apply zF)) hb⟩)
  clear hb
  obtain ⟨⟨q0, q1, q2, q3, q4⟩, ⟨q5, q6⟩, ⟨q7, q8, q9, q10, q11⟩, ⟨q12, q13⟩, f0, f1⟩ := HV.out.cells
  go_wp2_with fail
  refine (HGet.out _ HV.out.below).mono ?_
  rintro e w2 ⟨rfl, hb⟩
  have HV2 := zX (HV.out.move hb)
  clear q0 q1 q2 q3 q4 q5 q6 q7 q8 q9 q10 q11 q12 q13 f0 f1
  clear HV
  have HV := HV2
  clear HV2
  obtain ⟨⟨q0, q1, q2, q3, q4⟩, ⟨q5, q6⟩, ⟨q7, q8, q9, q10, q11⟩, ⟨q12, q13⟩, f0, f1⟩ := HV.out.cells
  clear hb
  go_wp2
  refine bodyPost_ret (v := .tuple #[.agg #[.slice A0 l.length n0, .slice A1 h.length n1], .bool false]) (by simp [results, Tryd.results12, go_sem, *]) rfl ⟨rfl, HV.out.end_ _ _⟩
theorem tl_eq {a b : ByteArray} : (a.toList == b.toList) = true ↔ a = b := by
  rw [beq_iff_eq]
  constructor
  · intro h
    rw [ByteArray.toList_eq, ByteArray.toList_eq] at h
    cases a; cases b
    simpa [Array.ext_iff] using h
  · rintro rfl; rfl
theorem tl_ne {a b : ByteArray} (h : ¬ a = b) : (a.toList == b.toList) = false := by
  cases e : a.toList == b.toList with
  | false => rfl
  | true => exact absurd (tl_eq.1 e) h
def model_After.f (k : Nat) (a0_0 : Int) (a0_1 : Int) (a0_2 : Int) (a0_3 : Int) (a0_4 : Int) (l1_0 : List S65) (l1_1 : List S72) (a2_0 : Int) (a2_1 : ByteArray) (a2_2 : ByteArray) (a2_3 : ByteArray) (a2_4 : Int) : Option ((List S65) × (List S72) × Bool) :=
  (model_fits.f k a0_0 a0_1 a0_2 a0_3 a0_4 a2_0 a2_1 a2_2 a2_3 a2_4).bind fun t => if t = true then ((pair_Get.f k l1_0 a2_1).bind fun g =>
    if a2_0 = 2 ∨ (a2_0 = 3 ∧ g.2 = false) ∨ (a2_0 = 4 ∧ g.2 = true ∧ g.1 = a2_3) then (if g.2 = true ∧ g.1 = a2_2 then some (l1_0, l1_1, false) else (pair_Put.f k l1_0 a2_1 a2_2).bind fun m => some (m, l1_1, true))
    else if a2_0 = 5 ∧ g.2 = true then ((pair_Drop.f k l1_0 a2_1).bind fun m => some (m, l1_1, true))
    else if a2_0 = 8 then (if 0 ≤ heldL l1_1 a2_4 then (if l1_1.length < 4398046511104 then some (l1_0, l1_1.eraseIdx (heldL l1_1 a2_4).toNat, true) else none) else some (l1_0, l1_1, false))
    else some (l1_0, l1_1, false)) else some (l1_0, l1_1, false)
theorem heldL_cases (h : List S72) (id : Int) : heldL h id = -1 ∨ ∃ i : Nat, i < h.length ∧ heldL h id = (i : Int) := by
  unfold heldL
  cases e : h.findIdx? (fun h => h.f0 == id) with
  | none => exact .inl rfl
  | some i =>
    rw [List.findIdx?_eq_some_iff_getElem] at e
    exact .inr ⟨i, e.1, rfl⟩
set_option maxHeartbeats 4000000 in
theorem model_After.calls (k : Nat) (a0_0 : Int) (a0_1 : Int) (a0_2 : Int) (a0_3 : Int) (a0_4 : Int) (P1_0_ : Nat → Prop) (A1_0 : Option Addr) (c1_0 : Nat) (l1_0 : List S65) (P1_1_ : Nat → Prop) (A1_1 : Option Addr) (c1_1 : Nat) (l1_1 : List S72) (a2_0 : Int) (a2_1 : ByteArray) (a2_2 : ByteArray) (a2_3 : ByteArray) (a2_4 : Int) (r1 : List S65) (r2 : List S72) (r3 : Bool) (w : World) (hs1_0 : Kd.V k65 65 w w.heap.size (fun k_ => P1_0_ k_) (.slice A1_0 l1_0.length c1_0) l1_0) (hs1_1 : Kd.V k72 72 w w.heap.size (fun k_ => P1_1_ k_) (.slice A1_1 l1_1.length c1_1) l1_1) (hL : LaidU w) (h : model_After.f k a0_0 a0_1 a0_2 a0_3 a0_4 l1_0 l1_1 a2_0 a2_1 a2_2 a2_3 a2_4 = some (r1, r2, r3)) :
    Calls Tryd.prog 12 #[.agg #[.int .i64 a0_0, .int .i64 a0_1, .int .i64 a0_2, .int .i64 a0_3, .int .i64 a0_4], .agg #[.slice A1_0 l1_0.length c1_0, .slice A1_1 l1_1.length c1_1], .agg #[.int .i64 a2_0, .string a2_1, .string a2_2, .string a2_3, .int .i64 a2_4]] w fun e w' => ∃ v0_ v1_ : Value, e = .returned (.tuple #[.agg #[v0_, v1_], .bool r3]) ∧ Kd.V k65 65 w' w.heap.size (fun k_ => ((P1_0_ k_ ∨ P1_1_ k_) ∨ w.heap.size ≤ k_)) v0_ r1 ∧ Kd.V k72 72 w' w.heap.size (fun k_ => ((P1_0_ k_ ∨ P1_1_ k_) ∨ w.heap.size ≤ k_)) v1_ r2 ∧ Below w.heap.size w w' := by
  obtain ⟨_, hc0, hr0⟩ := Kd.V_reads' hs1_0
  obtain ⟨_, hc1, hr1⟩ := Kd.V_reads' hs1_1
  have same : ∀ {e : Ending} {w' : World}, e = .returned (.tuple #[.agg #[.slice A1_0 l1_0.length c1_0, .slice A1_1 l1_1.length c1_1], .bool false]) ∧ Below w.heap.size w w' → ∃ v0_ v1_ : Value, e = .returned (.tuple #[.agg #[v0_, v1_], .bool false]) ∧ Kd.V k65 65 w' w.heap.size (fun k_ => ((P1_0_ k_ ∨ P1_1_ k_) ∨ w.heap.size ≤ k_)) v0_ l1_0 ∧ Kd.V k72 72 w' w.heap.size (fun k_ => ((P1_0_ k_ ∨ P1_1_ k_) ∨ w.heap.size ≤ k_)) v1_ l1_1 ∧ Below w.heap.size w w' := by
    rintro e w' ⟨rfl, hb⟩
    exact ⟨_, _, rfl, Kd.V_mono (Kd.V_below hs1_0 hb) (fun k hk => .inl (.inl hk)), Kd.V_mono (Kd.V_below hs1_1 hb) (fun k hk => .inl (.inr hk)), hb⟩
  have putd : ∀ {e : Ending} {w' : World} {m : List S65}, (∃ v, e = .returned (.tuple #[.agg #[v, .slice A1_1 l1_1.length c1_1], .bool true]) ∧ Kd.R k65 65 w' w.heap.size (fun _ => True) v m ∧ Below w.heap.size w w') → ∃ v0_ v1_ : Value, e = .returned (.tuple #[.agg #[v0_, v1_], .bool true]) ∧ Kd.V k65 65 w' w.heap.size (fun k_ => ((P1_0_ k_ ∨ P1_1_ k_) ∨ w.heap.size ≤ k_)) v0_ m ∧ Kd.V k72 72 w' w.heap.size (fun k_ => ((P1_0_ k_ ∨ P1_1_ k_) ∨ w.heap.size ≤ k_)) v1_ l1_1 ∧ Below w.heap.size w w' := by
    rintro e w' m ⟨v, rfl, hR, hb⟩
    exact ⟨_, _, rfl, Kd.V_mono (Kd.R_V (Kd.R_bound hR)) (fun k hk => .inr hk.2.1), Kd.V_mono (Kd.V_below hs1_1 hb) (fun k hk => .inl (.inr hk)), hb⟩
  unfold model_After.f at h
  obtain ⟨t, hfit, h1⟩ := Option.bind_eq_some_iff.1 h
  clear h
  cases t with
  | false =>
    rw [if_neg (by simp)] at h1
    simp only [Option.some.injEq, Prod.mk.injEq] at h1
    obtain ⟨rfl, rfl, rfl⟩ := h1
    exact (aft_nofit k a0_0 a0_1 a0_2 a0_3 a0_4 A1_0 c1_0 l1_0 A1_1 c1_1 l1_1 a2_0 a2_1 a2_2 a2_3 a2_4 w hr0 hc0 hr1 hc1 hL hfit).mono fun _ _ hh => same hh
  | true =>
    rw [if_pos rfl] at h1
    obtain ⟨⟨g1, g2⟩, hget, h2⟩ := Option.bind_eq_some_iff.1 h1
    clear h1
    simp only [] at h2
    by_cases q2 : a2_0 = 2
    · subst q2
      rw [if_pos (.inl rfl)] at h2
      cases g2 with
      | true =>
        by_cases e : g1 = a2_2
        · rw [if_pos ⟨rfl, e⟩] at h2
          simp only [Option.some.injEq, Prod.mk.injEq] at h2
          obtain ⟨rfl, rfl, rfl⟩ := h2
          exact (aft_put_same k a0_0 a0_1 a0_2 a0_3 a0_4 A1_0 c1_0 l1_0 A1_1 c1_1 l1_1 a2_1 a2_2 a2_3 a2_4 w hr0 hc0 hr1 hc1 hL hfit g1 hget (tl_eq.2 e)).mono fun _ _ hh => same hh
        · rw [if_neg (fun hh => e hh.2)] at h2
          obtain ⟨m, hm, h3⟩ := Option.bind_eq_some_iff.1 h2
          simp only [Option.some.injEq, Prod.mk.injEq] at h3
          obtain ⟨rfl, rfl, rfl⟩ := h3
          exact (aft_put_other k a0_0 a0_1 a0_2 a0_3 a0_4 A1_0 c1_0 l1_0 A1_1 c1_1 l1_1 a2_1 a2_2 a2_3 a2_4 w hr0 hc0 hr1 hc1 hL hfit g1 hget m hm (tl_ne e)).mono fun _ _ hh => putd hh
      | false =>
        rw [if_neg (fun hh => by cases hh.1)] at h2
        obtain ⟨m, hm, h3⟩ := Option.bind_eq_some_iff.1 h2
        simp only [Option.some.injEq, Prod.mk.injEq] at h3
        obtain ⟨rfl, rfl, rfl⟩ := h3
        exact (aft_put_new k a0_0 a0_1 a0_2 a0_3 a0_4 A1_0 c1_0 l1_0 A1_1 c1_1 l1_1 a2_1 a2_2 a2_3 a2_4 w hr0 hc0 hr1 hc1 hL hfit g1 hget m hm).mono fun _ _ hh => putd hh
    · by_cases q3 : a2_0 = 3
      · subst q3
        cases g2 with
        | true =>
          rw [if_neg (by simp), if_neg (by simp), if_neg (by simp)] at h2
          simp only [Option.some.injEq, Prod.mk.injEq] at h2
          obtain ⟨rfl, rfl, rfl⟩ := h2
          exact (aft_add_has k a0_0 a0_1 a0_2 a0_3 a0_4 A1_0 c1_0 l1_0 A1_1 c1_1 l1_1 a2_1 a2_2 a2_3 a2_4 w hr0 hc0 hr1 hc1 hL hfit g1 hget).mono fun _ _ hh => same hh
        | false =>
          rw [if_pos (.inr (.inl ⟨rfl, rfl⟩)), if_neg (fun hh => by cases hh.1)] at h2
          obtain ⟨m, hm, h3⟩ := Option.bind_eq_some_iff.1 h2
          simp only [Option.some.injEq, Prod.mk.injEq] at h3
          obtain ⟨rfl, rfl, rfl⟩ := h3
          exact (aft_add_new k a0_0 a0_1 a0_2 a0_3 a0_4 A1_0 c1_0 l1_0 A1_1 c1_1 l1_1 a2_1 a2_2 a2_3 a2_4 w hr0 hc0 hr1 hc1 hL hfit g1 hget m hm).mono fun _ _ hh => putd hh
      · by_cases q4 : a2_0 = 4
        · subst q4
          cases g2 with
          | false =>
            rw [if_neg (by simp), if_neg (by simp), if_neg (by simp)] at h2
            simp only [Option.some.injEq, Prod.mk.injEq] at h2
            obtain ⟨rfl, rfl, rfl⟩ := h2
            exact (aft_swap_none k a0_0 a0_1 a0_2 a0_3 a0_4 A1_0 c1_0 l1_0 A1_1 c1_1 l1_1 a2_1 a2_2 a2_3 a2_4 w hr0 hc0 hr1 hc1 hL hfit g1 hget).mono fun _ _ hh => same hh
          | true =>
            by_cases e : g1 = a2_3
            · rw [if_pos (.inr (.inr ⟨rfl, rfl, e⟩))] at h2
              by_cases e2 : g1 = a2_2
              · rw [if_pos ⟨rfl, e2⟩] at h2
                simp only [Option.some.injEq, Prod.mk.injEq] at h2
                obtain ⟨rfl, rfl, rfl⟩ := h2
                exact (aft_swap_same k a0_0 a0_1 a0_2 a0_3 a0_4 A1_0 c1_0 l1_0 A1_1 c1_1 l1_1 a2_1 a2_2 a2_3 a2_4 w hr0 hc0 hr1 hc1 hL hfit g1 hget (tl_eq.2 e) (tl_eq.2 e2)).mono fun _ _ hh => same hh
              · rw [if_neg (fun hh => e2 hh.2)] at h2
                obtain ⟨m, hm, h3⟩ := Option.bind_eq_some_iff.1 h2
                simp only [Option.some.injEq, Prod.mk.injEq] at h3
                obtain ⟨rfl, rfl, rfl⟩ := h3
                exact (aft_swap k a0_0 a0_1 a0_2 a0_3 a0_4 A1_0 c1_0 l1_0 A1_1 c1_1 l1_1 a2_1 a2_2 a2_3 a2_4 w hr0 hc0 hr1 hc1 hL hfit g1 hget m hm (tl_eq.2 e) (tl_ne e2)).mono fun _ _ hh => putd hh
            · rw [if_neg (by simp [e]), if_neg (by simp), if_neg (by simp)] at h2
              simp only [Option.some.injEq, Prod.mk.injEq] at h2
              obtain ⟨rfl, rfl, rfl⟩ := h2
              exact (aft_swap_no k a0_0 a0_1 a0_2 a0_3 a0_4 A1_0 c1_0 l1_0 A1_1 c1_1 l1_1 a2_1 a2_2 a2_3 a2_4 w hr0 hc0 hr1 hc1 hL hfit g1 hget (tl_ne e)).mono fun _ _ hh => same hh
        · rw [if_neg (by rintro (hh | hh | hh); exact q2 hh; exact q3 hh.1; exact q4 hh.1)] at h2
          by_cases q5 : a2_0 = 5
          · subst q5
            cases g2 with
            | true =>
              rw [if_pos ⟨rfl, rfl⟩] at h2
              obtain ⟨m, hm, h3⟩ := Option.bind_eq_some_iff.1 h2
              simp only [Option.some.injEq, Prod.mk.injEq] at h3
              obtain ⟨rfl, rfl, rfl⟩ := h3
              exact (aft_drop k a0_0 a0_1 a0_2 a0_3 a0_4 A1_0 c1_0 l1_0 A1_1 c1_1 l1_1 a2_1 a2_2 a2_3 a2_4 w hr0 hc0 hr1 hc1 hL hfit g1 hget m hm).mono fun _ _ hh => putd hh
            | false =>
              rw [if_neg (by simp), if_neg (by simp)] at h2
              simp only [Option.some.injEq, Prod.mk.injEq] at h2
              obtain ⟨rfl, rfl, rfl⟩ := h2
              exact (aft_drop_none k a0_0 a0_1 a0_2 a0_3 a0_4 A1_0 c1_0 l1_0 A1_1 c1_1 l1_1 a2_1 a2_2 a2_3 a2_4 w hr0 hc0 hr1 hc1 hL hfit g1 hget).mono fun _ _ hh => same hh
          · rw [if_neg (fun hh => q5 hh.1)] at h2
            by_cases q8 : a2_0 = 8
            · subst q8
              rw [if_pos rfl] at h2
              rcases heldL_cases l1_1 a2_4 with hn | ⟨i, hi, hh⟩
              · rw [hn, if_neg (by omega)] at h2
                simp only [Option.some.injEq, Prod.mk.injEq] at h2
                obtain ⟨rfl, rfl, rfl⟩ := h2
                exact (aft_free_none k a0_0 a0_1 a0_2 a0_3 a0_4 A1_0 c1_0 l1_0 A1_1 c1_1 l1_1 a2_1 a2_2 a2_3 a2_4 w hr0 hc0 hr1 hc1 hL hfit g1 g2 hget hn).mono fun _ _ hh => same hh
              · rw [hh, if_pos (by omega), Int.toNat_natCast] at h2
                split at h2
                · rename_i hlen
                  simp only [Option.some.injEq, Prod.mk.injEq] at h2
                  obtain ⟨rfl, rfl, rfl⟩ := h2
                  refine (aft_free k a0_0 a0_1 a0_2 a0_3 a0_4 A1_0 c1_0 l1_0 A1_1 c1_1 l1_1 a2_1 a2_2 a2_3 a2_4 w hr0 hc0 hr1 hc1 hL hfit g1 g2 hget i hi hh hlen P1_1_ hs1_1).mono ?_
                  rintro e w' ⟨v, rfl, hN, hb⟩
                  exact ⟨_, _, rfl, Kd.V_mono (Kd.V_below hs1_0 hb) (fun k hk => .inl (.inl hk)), Kd.V_mono (Kd.N_V hN) (fun k hk => hk.elim (fun h1 => .inl (.inr h1)) .inr), hb⟩
                · cases h2
            · rw [if_neg q8] at h2
              simp only [Option.some.injEq, Prod.mk.injEq] at h2
              obtain ⟨rfl, rfl, rfl⟩ := h2
              exact (aft_other k a0_0 a0_1 a0_2 a0_3 a0_4 A1_0 c1_0 l1_0 A1_1 c1_1 l1_1 a2_0 a2_1 a2_2 a2_3 a2_4 w hr0 hc0 hr1 hc1 hL hfit g1 g2 hget (beq_false_of_ne q2) (beq_false_of_ne q3) (beq_false_of_ne q4) (beq_false_of_ne q5) (beq_false_of_ne q8)).mono fun _ _ hh => same hh

end Go.Proofs.YthnococjdeafhaaDoor.PModelKeeps
