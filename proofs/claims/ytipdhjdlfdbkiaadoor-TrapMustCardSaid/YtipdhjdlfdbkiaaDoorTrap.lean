
/- Layer 10 (trap) over an arena of ints: Must, try, All. -/
import Derived.Test.YtipdhjdlfdbkiaaDoorTOwn
import Derived.Defers
import Derived.Recover
import Derived.RegionDies
namespace Go.Proofs.YtipdhjdlfdbkiaaDoor.Trap
set_option linter.unusedSimpArgs false
set_option linter.unusedVariables false
open Go.RowKit Go.Proofs Go.Proofs.YtipdhjdlfdbkiaaDoor.Heap Go.Proofs.YtipdhjdlfdbkiaaDoor.Refs Go.Proofs.YtipdhjdlfdbkiaaDoor.ArenaM Go.Proofs.YtipdhjdlfdbkiaaDoor.ArenaInt Go.Proofs.YtipdhjdlfdbkiaaDoor.TOwn
section
variable {w : World} {p bs M : Nat} {fv : Value} {A : AM Int} {r : Int}
theorem must_live (h : Ar w p bs fv A) (ok : A.Ok M) (hw : -9223372036854775808 ≤ r ∧ r ≤ 9223372036854775807) {i : Nat} (hl : A.Live r i) :
    Calls Tryd.prog 22 #[.pointer (some ⟨p, 0, none⟩), .int .i64 r] w fun e w' => e = .returned (.int .i64 (A.v i)) ∧ ∃ nq, w' = w.drewN nq := by
  have HC := Lib.hid (fun w' (h' : Ar w' p bs fv A) => c_get h' ok hw hl)
  have H := Lib.hid h
  clear h
  go_enter Tryd.func22, Tryd.ntmps22
  go_wp2_with (go_at_call 37; refine (HC.out _ H.out).mono ?_; rintro e w1 ⟨rfl, nq, rfl⟩)
  go_ret
  exact ⟨rfl, nq, rfl⟩
def gone (r : Int) : List PanicEntry := [{ v := .iface 37 (.agg #[.int .i64 r]), recovered := false }]
theorem must_dead (h : Ar w p bs fv A) (ok : A.Ok M) (hw : -9223372036854775808 ≤ r ∧ r ≤ 9223372036854775807) (hd : A.Dead r) :
    Calls Tryd.prog 22 #[.pointer (some ⟨p, 0, none⟩), .int .i64 r] w fun e w' => e = .panicked (gone r) ∧ ∃ nq, w' = w.drewN nq := by
  have HC := Lib.hid (fun w' (h' : Ar w' p bs fv A) => c_get_dead h' ok hw hd)
  have H := Lib.hid h
  clear h
  go_enter Tryd.func22, Tryd.ntmps22
  go_wp2_with (go_at_call 37; refine (HC.out _ H.out).mono ?_; rintro e w1 ⟨rfl, nq, rfl⟩)
  exact ⟨rfl, rfl, nq, rfl⟩
end
set_option maxRecDepth 100000 in
/-- The deferred closure of try: of a frame that panics with a Stale. -/
theorem catch_stale (r : Int) (P Q : Addr) (x : Int) (y : Bool) (w : World) (hp : w.cell? P = some (.int .i64 x)) (hq : w.cell? Q = some (.bool y)) (fp : w.frozen? P = false) (fq : w.frozen? Q = false) (hne : P ≠ Q) :
    CallsD Tryd.prog 45 #[.pointer (some P), .pointer (some Q)] (.panicking (gone r)) w fun e u' w' =>
      e = .returned (.tuple #[]) ∧ u' = .panicking [{ v := .iface 37 (.agg #[.int .i64 r]), recovered := true }] ∧ w' = (w.setCell P (.int .i64 r)).setCell Q (.bool true) := by
  refine callsD_of_wpS Tryd.func45 rfl fun c₀ cs hu => ?_
  apply wpS_seq
  apply wpS_region
  simp [wpOpsS, go_sem, recoverD, hu, Tryd.ntmps45, Exit.thenS, gone]
  apply wpS_seq
  apply wpS_region
  simp [wpOpsS, go_sem, Exit.thenS]
  refine wpS_cond (t := true) (by simp [Act.eval, Array.replicate]) ?_
  simp only [if_true]
  have hta : ∀ w : World, (Instr.typeAssert (.iface 37 (.agg #[.int .i64 r])) 20 37 false).run Tryd.prog w = .ok (.agg #[.int .i64 r]) w := fun _ => by kernel_rfl
  have hfd : ∀ w : World, (Instr.field 37 (.agg #[.int .i64 r]) 0).run Tryd.prog w = .ok (.int .i64 r) w := fun _ => by kernel_rfl
  refine wpS_of_wp ?_
  have hq2 : (w.setCell P (.int .i64 r)).cell? Q = some (.bool y) := by rw [World.cell?_setCell_other _ _ _ _ hne]; exact hq
  have fq2 : (w.setCell P (.int .i64 r)).frozen? Q = false := by rw [World.frozen?_setCell]; exact fq
  go_wp2
  cases c₀
  simp_all [bodyPostS, results, Tryd.results45]
set_option maxRecDepth 100000 in
theorem catch_idle (P Q : Addr) (w : World) :
    CallsD Tryd.prog 45 #[.pointer (some P), .pointer (some Q)] .returning w fun e u' w' => e = .returned (.tuple #[]) ∧ u' = .returning ∧ w' = w := by
  refine callsD_of_wpS Tryd.func45 rfl fun c₀ cs hu => ?_
  apply wpS_seq
  apply wpS_region
  simp [wpOpsS, go_sem, recoverD, hu, Tryd.ntmps45, Exit.thenS]
  apply wpS_seq
  apply wpS_region
  simp [wpOpsS, go_sem, Exit.thenS]
  refine wpS_cond (t := false) (by simp [Act.eval, Array.replicate]) ?_
  simp only [Bool.false_eq_true, if_false]
  refine wpS_of_wp (wp_skip ?_)
  cases c₀
  simp_all [bodyPostS, results, Tryd.results45]
/-- What lies where try keeps its results. -/
def Kept (w w1 : World) : Prop := w1.heap[w.heap.size]? = some (.cells #[.int .i64 0] 30 (0, 0)) ∧ w1.heap[w.heap.size + 1]? = some (.cells #[.bool false] 4 (0, 0))
theorem Kept.cells {w w1 : World} (h : Kept w w1) : w1.cell? ⟨w.heap.size, 0, none⟩ = some (.int .i64 0) ∧ w1.frozen? ⟨w.heap.size, 0, none⟩ = false ∧ w1.cell? ⟨w.heap.size + 1, 0, none⟩ = some (.bool false) ∧ w1.frozen? ⟨w.heap.size + 1, 0, none⟩ = false := by
  obtain ⟨h1, h2⟩ := h
  refine ⟨?_, ?_, ?_, ?_⟩ <;> simp [World.cell?, World.frozen?, h1, h2]
theorem two_cells {w1 : World} {g : Nat} {x y : Value} {u v : Value} (c1 : w1.cell? ⟨g, 0, none⟩ = some x) (c2 : w1.cell? ⟨g + 1, 0, none⟩ = some y) :
    ((w1.setCell ⟨g, 0, none⟩ u).setCell ⟨g + 1, 0, none⟩ v).cell? ⟨g, 0, none⟩ = some u ∧ ((w1.setCell ⟨g, 0, none⟩ u).setCell ⟨g + 1, 0, none⟩ v).cell? ⟨g + 1, 0, none⟩ = some v := by
  have hne : (⟨g, 0, none⟩ : Addr) ≠ ⟨g + 1, 0, none⟩ := by intro e; injection e with e1; omega
  refine ⟨?_, ?_⟩
  · rw [World.cell?_setCell_other _ _ _ _ (fun e => hne e.symm)]
    exact World.cell?_setCell_same' _ _ _ (by rw [c1]; rfl)
  · refine World.cell?_setCell_same' _ _ _ ?_
    rw [World.cell?_setCell_other _ _ _ _ hne, c2]; rfl
set_option maxRecDepth 100000 in
set_option maxHeartbeats 1000000 in
/-- try, when what it does returns. -/
theorem AllTry_ok (cap : Array Value) (w : World) (Post : World → Prop) (hp : ∀ w1, Post w1 → Kept w w1) (hk : Calls Tryd.prog 40 cap ((w.alloc (.cells #[.int .i64 0] 30)).alloc (.cells #[.bool false] 4)) fun e w' => e = .returned (.tuple #[]) ∧ Post w') :
    Calls Tryd.prog 39 #[.func (.func 40) #[] cap] w fun e w' => e = .returned (.tuple #[.int .i64 0, .bool false]) ∧ ∃ w1, Post w1 ∧ w' = (w1.setCell ⟨w.heap.size, 0, none⟩ (.int .i64 0)).setCell ⟨w.heap.size + 1, 0, none⟩ (.bool false) := by
  have hmf : ∀ (fn : Fn) (first cap : Array Value) (w : World), (Instr.makeFunc fn first cap).run Tryd.prog w = .ok (.func fn first cap) w := fun _ _ _ _ => rfl
  have HK := Lib.hid hk
  have HP := Lib.hid hp
  clear hk hp
  go_enter_defers Tryd.func39, Tryd.ntmps39
  go_wp2_with (go_at_call 40; refine HK.out.mono ?_; rintro e w1 ⟨rfl, hw1⟩; obtain ⟨c1, f1, c2, f2⟩ := (HP.out _ hw1).cells)
  obtain ⟨r1, r2⟩ := two_cells (u := .int .i64 0) (v := .bool false) c1 c2
  refine leaves_cons (f := 45) (args := #[.pointer (some ⟨w.heap.size, 0, none⟩), .pointer (some ⟨w.heap.size + 1, 0, none⟩)]) (by simp) (by simp [go_sem]) ?_
  refine (catch_idle _ _ _).mono ?_
  rintro e u' w'' ⟨rfl, rfl, rfl⟩
  simp [Leaves, settle, results, Tryd.results39, go_sem, r1, r2]
  exact ⟨w1, hw1, rfl⟩
set_option maxRecDepth 100000 in
set_option maxHeartbeats 1000000 in
/-- try, when what it does is given up. -/
theorem AllTry_dies (r : Int) (cap : Array Value) (w : World) (Post : World → Prop) (hp : ∀ w1, Post w1 → Kept w w1) (hk : Calls Tryd.prog 40 cap ((w.alloc (.cells #[.int .i64 0] 30)).alloc (.cells #[.bool false] 4)) fun e w' => e = .panicked (gone r) ∧ Post w') :
    Calls Tryd.prog 39 #[.func (.func 40) #[] cap] w fun e w' => e = .returned (.tuple #[.int .i64 r, .bool true]) ∧ ∃ w1, Post w1 ∧ w' = (w1.setCell ⟨w.heap.size, 0, none⟩ (.int .i64 r)).setCell ⟨w.heap.size + 1, 0, none⟩ (.bool true) := by
  have hmf : ∀ (fn : Fn) (first cap : Array Value) (w : World), (Instr.makeFunc fn first cap).run Tryd.prog w = .ok (.func fn first cap) w := fun _ _ _ _ => rfl
  have HK := Lib.hid hk
  have HP := Lib.hid hp
  clear hk hp
  go_enter_defers Tryd.func39, Tryd.ntmps39
  go_wp2_with (go_at_call 40; refine HK.out.mono ?_; rintro e w1 ⟨rfl, hw1⟩; obtain ⟨c1, f1, c2, f2⟩ := (HP.out _ hw1).cells)
  obtain ⟨r1, r2⟩ := two_cells (u := .int .i64 r) (v := .bool true) c1 c2
  refine leaves_cons (f := 45) (args := #[.pointer (some ⟨w.heap.size, 0, none⟩), .pointer (some ⟨w.heap.size + 1, 0, none⟩)]) (by simp) (by simp [go_sem]) ?_
  refine (catch_stale r _ _ _ _ _ c1 c2 f1 f2 (by intro e; injection e with e1; omega)).mono ?_
  rintro e u' w'' ⟨rfl, rfl, rfl⟩
  simp [Leaves, settle, results, Tryd.results39, go_sem, r1, r2]
  exact ⟨w1, hw1, rfl⟩
end Go.Proofs.YtipdhjdlfdbkiaaDoor.Trap
