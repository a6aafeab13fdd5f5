
/- The reference's arena: Make and All; and its contracts over the model. -/
import Derived.Test.YtipdhjdlfdbkiaaDoorRefArena3
import Derived.Laws.MakeOwn
namespace Go.Proofs.YtipdhjdlfdbkiaaDoor.RefArena
set_option linter.unusedSimpArgs false
set_option linter.unusedVariables false
open Go.RowKit Go.Proofs Go.Proofs.YtipdhjdlfdbkiaaDoor.Heap Go.Proofs.YtipdhjdlfdbkiaaDoor.Refs Go.Proofs.YtipdhjdlfdbkiaaDoor.ArenaM Go.Proofs.YtipdhjdlfdbkiaaDoor.ArenaInt
section
variable {w : World} {q bv bi bs : Nat} {x : Int} {fv : Value} {r : Int} {A : AM Int} {M : Nat}

theorem info_bool : (Tryd.prog.info? 4).map (fun i => (i.zero, i.size, i.bytes)) = some (some (.bool false), 1, 1) := by kernel_rfl
theorem ints_made (n : Nat) (z : Int) : IntCells (madeCells #[.int .i64 z] n) n (fun _ => z) := by
  refine ⟨by simp [madeCells], fun i hi => ?_⟩
  simp [madeCells, hi, Nat.mod_one]
theorem bools_made (n : Nat) : BoolCells (madeCells #[.bool false] n) n (fun _ => false) := by
  refine ⟨by simp [madeCells], fun i hi => ?_⟩
  simp [madeCells, hi, Nat.mod_one]

/-- What Make leaves, in whatever order its three rows were made. -/
def Made (w w' : World) (n : Nat) (e : Ending) : Prop :=
  ∃ q bv bi bs, e = .returned (.pointer (some ⟨q, 0, none⟩)) ∧ Br w' q bv bi bs (.slice none 0 0) (AM.init n 0) ∧ Below w.heap.size w w' ∧ w.heap.size ≤ q ∧ w.heap.size ≤ bv ∧ w.heap.size ≤ bi ∧ w.heap.size ≤ bs

theorem made_of {n : Nat} {w : World} {a b c : Obj} {q bv bi bs : Nat} (hv : (((w.alloc a).alloc b).alloc c).heap[bv]? = some (.cells (madeCells #[.int .i64 0] n) 3 (0, 0))) (hi : (((w.alloc a).alloc b).alloc c).heap[bi]? = some (.cells (madeCells #[.int .i64 0] n) 3 (0, 0)))
    (hb : (((w.alloc a).alloc b).alloc c).heap[bs]? = some (.cells (madeCells #[.bool false] n) 4 (0, 0))) (hq : q = w.heap.size + 3) (h1 : w.heap.size ≤ bv ∧ w.heap.size ≤ bi ∧ w.heap.size ≤ bs ∧ bv < q ∧ bi < q ∧ bs < q ∧ bv ≠ bi ∧ bv ≠ bs ∧ bi ≠ bs) {e : Ending} (he : e = .returned (.pointer (some ⟨q, 0, none⟩))) :
    Made w ((((w.alloc a).alloc b).alloc c).alloc (.cells #[.slice (some ⟨bv, 0, none⟩) n n, .slice (some ⟨bi, 0, none⟩) n n, .slice (some ⟨bs, 0, none⟩) n n, .slice none 0 0] 35)).drew n e := by
  have hs : (((w.alloc a).alloc b).alloc c).heap.size = w.heap.size + 3 := by simp
  refine ⟨q, bv, bi, bs, he, ⟨?_, ⟨_, (heap_alloc_lt (by omega)).trans hv, ints_made n 0⟩, ⟨_, (heap_alloc_lt (by omega)).trans hi, ints_made n 0⟩, ⟨_, (heap_alloc_lt (by omega)).trans hb, bools_made n⟩, World.ownsRow_nil _ _ _ _, by omega⟩, ?_, by omega, by omega, by omega, by omega⟩
  · have := heap_alloc_at (w := ((w.alloc a).alloc b).alloc c) (o := .cells #[.slice (some ⟨bv, 0, none⟩) n n, .slice (some ⟨bi, 0, none⟩) n n, .slice (some ⟨bs, 0, none⟩) n n, .slice none 0 0] 35)
    rw [hs, ← hq] at this
    refine Eq.trans ?_ this
    rfl
  · exact (((((Below.refl _ _).alloc (Nat.le_refl _) _).alloc (by simp) _).alloc (by simp; omega) _).alloc (by simp; omega) _).drew

theorem al0 {W : World} {a b c : Obj} : (((W.alloc a).alloc b).alloc c).heap[W.heap.size]? = some a := (heap_alloc_lt (by simp; omega)).trans ((heap_alloc_lt (by simp)).trans heap_alloc_at)
theorem al1 {W : World} {a b c : Obj} : (((W.alloc a).alloc b).alloc c).heap[W.heap.size + 1]? = some b := by
  have := heap_alloc_at (w := W.alloc a) (o := b)
  rw [World.size_alloc] at this
  exact (heap_alloc_lt (by simp)).trans this
theorem al2 {W : World} {a b c : Obj} : (((W.alloc a).alloc b).alloc c).heap[W.heap.size + 1 + 1]? = some c := by
  have := heap_alloc_at (w := (W.alloc a).alloc b) (o := c)
  rw [World.size_alloc, World.size_alloc] at this
  exact this
set_option maxHeartbeats 2000000 in
theorem make_calls (n : Nat) (h : n ≤ 1000) :
    Calls Tryd.prog 12 #[.int .i64 n] w fun e w' => Made w w' n e := by
  obtain ⟨i0, hi, hz0, hz1, hz2⟩ := info_parts info_int
  obtain ⟨i1, hj, hy0, hy1, hy2⟩ := info_parts info_bool
  have hmk : ∀ w : World, (Instr.makeSlice 22 (.int .i64 (n : Int)) (.int .i64 (n : Int))).run Tryd.prog w = .ok (.slice (some ⟨w.heap.size, 0, none⟩) n n) (w.alloc (.cells (madeCells #[.int .i64 0] n) 3)) := by
    intro w
    have := run_make (P := Tryd.prog) w 22 3 i0 _ Tryd.underlying22 hi hz0 .i64 .i64 (n : Int) (n : Int) (by omega) (Int.le_refl _) (by rw [hz2]; omega) (by omega)
    rw [hz1] at this
    simpa [Value.cells] using this
  have hmb : ∀ w : World, (Instr.makeSlice 33 (.int .i64 (n : Int)) (.int .i64 (n : Int))).run Tryd.prog w = .ok (.slice (some ⟨w.heap.size, 0, none⟩) n n) (w.alloc (.cells (madeCells #[.bool false] n) 4)) := by
    intro w
    have := run_make (P := Tryd.prog) w 33 4 i1 _ Tryd.underlying33 hj hy0 .i64 .i64 (n : Int) (n : Int) (by omega) (Int.le_refl _) (by rw [hy2]; omega) (by omega)
    rw [hy1] at this
    simpa [Value.cells] using this
  clear hi hz0 hz1 hz2 hj hy0 hy1 hy2
  go_enter Tryd.func12, Tryd.ntmps12
  go_wp2
  go_region
  all_goals
    go_wp2
    go_ret
    refine made_of ?_ ?_ ?_ rfl (by omega) rfl
    all_goals first | with_reducible exact al0 | with_reducible exact al1 | with_reducible exact al2
end
end Go.Proofs.YtipdhjdlfdbkiaaDoor.RefArena
