
/- The arena of ints in memory (Ar), and what its methods do. -/
import Derived.Test.YtipdhjdlfdbkiaaDoorArenaM
import Derived.Laws.OwnMore
import Derived.Laws.MakeOwn
import Derived.Deep.AppendLies
import Derived.Deep.RegionLaw
import Derived.Deep.OwnRows
namespace Go.Proofs.YtipdhjdlfdbkiaaDoor.ArenaRef
set_option linter.unusedSimpArgs false
set_option linter.unusedVariables false
open Go.RowKit Go.Proofs Go.Proofs.YtipdhjdlfdbkiaaDoor.Heap Go.Proofs.YtipdhjdlfdbkiaaDoor.Refs Go.Proofs.YtipdhjdlfdbkiaaDoor.ArenaM

/-- The cells of the slots. -/
def SlotCells (cs : Array Value) (A : AM Int) : Prop :=
  cs.size = A.n * 3 ∧ ∀ i, i < A.n → cs[i * 3]? = some (.int .i64 (A.v i)) ∧ cs[i * 3 + 1]? = some (.int .i64 (A.inc i)) ∧ cs[i * 3 + 2]? = some (.bool (A.us i))

/-- At p lies an arena that New made, its slots in block bs, its list of freed slots under the value fv: A. -/
structure Ar (w : World) (p bs : Nat) (fv : Value) (A : AM Int) : Prop where
  head : w.heap[p]? = some (.cells #[.slice (some ⟨bs, 0, none⟩) A.n A.n, fv, .int .i64 A.begun, .int .i64 A.used, .bool true] 62 (0, 0))
  slots : ∃ cs, w.heap[bs]? = some (.cells cs 71 (0, 0)) ∧ SlotCells cs A
  freed : w.ownsRow (max p bs + 1) 3 1 fv A.freed.length (A.freed.map fun (k : Nat) => Value.int .i64 (k : Int))
  ne : p ≠ bs

/-- Its blocks. -/
def Foot (p bs : Nat) (fv : Value) : Nat → Prop := fun k => k = p ∨ k = bs ∨ fv.ownBlock = some k

theorem Ar.step {F : Nat → Prop} {w w' : World} {p bs : Nat} {fv : Value} {A : AM Int} (h : Ar w p bs fv A) (hs : Step F w w') (hd : ∀ k, Foot p bs fv k → ¬ F k) : Ar w' p bs fv A := by
  obtain ⟨cs, hb, hc⟩ := h.slots
  exact ⟨hs.keeps h.head (hd p (.inl rfl)), ⟨cs, hs.keeps hb (hd bs (.inr (.inl rfl))), hc⟩, hs.row h.freed fun k hk => hd k (.inr (.inr hk)), h.ne⟩
theorem Ar.drewN {w : World} {p bs n : Nat} {fv : Value} {A : AM Int} (h : Ar w p bs fv A) : Ar (w.drewN n) p bs fv A := ⟨h.head, h.slots, h.freed, h.ne⟩
theorem Ar.lt {w : World} {p bs : Nat} {fv : Value} {A : AM Int} (h : Ar w p bs fv A) : ∀ k, Foot p bs fv k → k < w.heap.size := by
  intro k hk
  rcases hk with rfl | rfl | hk
  · exact lt_of h.head
  · obtain ⟨cs, hb, _⟩ := h.slots; exact lt_of hb
  · exact (h.freed.lt k hk).2

structure Cells (w : World) (p bs : Nat) (fv : Value) (A : AM Int) : Prop where
  c0 : w.cell? ⟨p, 0, none⟩ = some (.slice (some ⟨bs, 0, none⟩) A.n A.n)
  c1 : w.cell? ⟨p, 1, none⟩ = some fv
  c2 : w.cell? ⟨p, 2, none⟩ = some (.int .i64 A.begun)
  c3 : w.cell? ⟨p, 3, none⟩ = some (.int .i64 A.used)
  c4 : w.cell? ⟨p, 4, none⟩ = some (.bool true)
  f1 : w.frozen? ⟨p, 1, none⟩ = false
  f2 : w.frozen? ⟨p, 2, none⟩ = false
  f3 : w.frozen? ⟨p, 3, none⟩ = false
theorem Ar.cells {w : World} {p bs : Nat} {fv : Value} {A : AM Int} (h : Ar w p bs fv A) : Cells w p bs fv A := by
  have e := fun i => cell_of (i := i) h.head
  have f := fun i => frozen_of (i := i) h.head
  exact ⟨e 0, e 1, e 2, e 3, e 4, f 1, f 2, f 3⟩
theorem Ar.slot {w : World} {p bs : Nat} {fv : Value} {A : AM Int} (h : Ar w p bs fv A) (i : Nat) (hi : i < A.n) :
    w.cell? ⟨bs, i * 3, none⟩ = some (.int .i64 (A.v i)) ∧ w.cell? ⟨bs, i * 3 + 1, none⟩ = some (.int .i64 (A.inc i)) ∧ w.cell? ⟨bs, i * 3 + 2, none⟩ = some (.bool (A.us i)) ∧
      w.frozen? ⟨bs, i * 3, none⟩ = false ∧ w.frozen? ⟨bs, i * 3 + 1, none⟩ = false ∧ w.frozen? ⟨bs, i * 3 + 2, none⟩ = false := by
  obtain ⟨cs, hb, hc⟩ := h.slots
  obtain ⟨a, b, c⟩ := hc.2 i hi
  have f := fun i => frozen_of (i := i) hb
  exact ⟨(cell_of hb).trans a, (cell_of hb).trans b, (cell_of hb).trans c, f _, f _, f _⟩

theorem SlotCells.put {cs : Array Value} {A : AM Int} (h : SlotCells cs A) {i : Nat} (hi : i < A.n) (x : Int) (l : List Nat) (b : Nat) (c : Int) (hc : c = (A.inc i : Int) + 1) :
    SlotCells (((cs.setIfInBounds (i * 3) (.int .i64 x)).setIfInBounds (i * 3 + 2) (.bool true)).setIfInBounds (i * 3 + 1) (.int .i64 c)) (A.put i x l b) := by
  obtain ⟨h1, h2⟩ := h
  refine ⟨by simpa [AM.put] using h1, fun j hj => ?_⟩
  have hj : j < A.n := hj
  obtain ⟨a, b, d⟩ := h2 j hj
  simp only [AM.put, Array.getElem?_setIfInBounds, Array.size_setIfInBounds]
  by_cases e : j = i
  · subst e
    have e1 : ¬ j * 3 + 1 = j * 3 := by omega
    have e2 : ¬ j * 3 + 2 = j * 3 := by omega
    have e3 : ¬ j * 3 + 1 = j * 3 + 2 := by omega
    have e4 : j * 3 < cs.size := by omega
    have e5 : j * 3 + 1 < cs.size := by omega
    have e6 : j * 3 + 2 < cs.size := by omega
    simp [upd, e4, e5, e6, hc]
  · have e0 : ¬ i = j := fun h => e h.symm
    have e1 : ¬ i * 3 = j * 3 := by omega
    have e2 : ¬ i * 3 + 2 = j * 3 := by omega
    have e3 : ¬ i * 3 + 1 = j * 3 := by omega
    have e4 : ¬ i * 3 = j * 3 + 1 := by omega
    have e5 : ¬ i * 3 + 2 = j * 3 + 1 := by omega
    have e7 : ¬ i * 3 = j * 3 + 2 := by omega
    have e9 : ¬ i * 3 + 1 = j * 3 + 2 := by omega
    simp [upd, e, e0, e1, e2, e3, e4, e5, e7, e9, a, b, d]

theorem SlotCells.free {cs : Array Value} {A : AM Int} (h : SlotCells cs A) {i : Nat} (hi : i < A.n) :
    SlotCells ((cs.setIfInBounds (i * 3) (.int .i64 0)).setIfInBounds (i * 3 + 2) (.bool false)) (A.free i 0) := by
  obtain ⟨h1, h2⟩ := h
  refine ⟨by simpa [AM.free] using h1, fun j hj => ?_⟩
  have hj : j < A.n := hj
  obtain ⟨a, b, d⟩ := h2 j hj
  simp only [AM.free, Array.getElem?_setIfInBounds, Array.size_setIfInBounds]
  by_cases e : j = i
  · subst e
    have e4 : j * 3 < cs.size := by omega
    have e6 : j * 3 + 2 < cs.size := by omega
    simp [upd, e4, e6, b]
  · have e0 : ¬ i = j := fun h => e h.symm
    have e1 : ¬ i * 3 = j * 3 := by omega
    have e2 : ¬ i * 3 + 2 = j * 3 := by omega
    have e4 : ¬ i * 3 = j * 3 + 1 := by omega
    have e5 : ¬ i * 3 + 2 = j * 3 + 1 := by omega
    have e7 : ¬ i * 3 = j * 3 + 2 := by omega
    simp [upd, e, e0, e1, e2, e4, e5, e7, a, b, d]

theorem SlotCells.set {cs : Array Value} {A : AM Int} (h : SlotCells cs A) {i : Nat} (hi : i < A.n) (x : Int) :
    SlotCells (cs.setIfInBounds (i * 3) (.int .i64 x)) (A.set i x) := by
  obtain ⟨h1, h2⟩ := h
  refine ⟨by simpa [AM.set] using h1, fun j hj => ?_⟩
  have hj : j < A.n := hj
  obtain ⟨a, b, d⟩ := h2 j hj
  simp only [AM.set, Array.getElem?_setIfInBounds]
  by_cases e : j = i
  · subst e
    have e4 : j * 3 < cs.size := by omega
    simp [upd, e4, b, d]
  · have e0 : ¬ i = j := fun h => e h.symm
    have e1 : ¬ i * 3 = j * 3 := by omega
    have e4 : ¬ i * 3 = j * 3 + 1 := by omega
    have e7 : ¬ i * 3 = j * 3 + 2 := by omega
    simp [upd, e, e0, e1, e4, e7, a, b, d]

/-! ### the walks, over bare cells -/
section
variable {w : World} {p bs n b u c : Nat} {x v0 : Int} {us0 : Bool} {fv : Value}

set_option maxHeartbeats 1000000 in
theorem take_new_raw {fc : Option Addr} {fcap : Nat} (hn : n ≤ 1000) (hb : b < n) (hu : u ≤ b) (hc : c < 4503599627370496) (hne : p ≠ bs)
    (c0 : w.cell? ⟨p, 0, none⟩ = some (.slice (some ⟨bs, 0, none⟩) n n)) (c1 : w.cell? ⟨p, 1, none⟩ = some (.slice fc 0 fcap)) (c2 : w.cell? ⟨p, 2, none⟩ = some (.int .i64 b)) (c3 : w.cell? ⟨p, 3, none⟩ = some (.int .i64 u)) (c4 : w.cell? ⟨p, 4, none⟩ = some (.bool true))
    (f2 : w.frozen? ⟨p, 2, none⟩ = false) (f3 : w.frozen? ⟨p, 3, none⟩ = false)
    (s0 : w.cell? ⟨bs, b * 3, none⟩ = some (.int .i64 v0)) (s1 : w.cell? ⟨bs, b * 3 + 1, none⟩ = some (.int .i64 c)) (s2 : w.cell? ⟨bs, b * 3 + 2, none⟩ = some (.bool us0))
    (t0 : w.frozen? ⟨bs, b * 3, none⟩ = false) (t1 : w.frozen? ⟨bs, b * 3 + 1, none⟩ = false) (t2 : w.frozen? ⟨bs, b * 3 + 2, none⟩ = false) :
    Calls Tryd.prog 14 #[.pointer (some ⟨p, 0, none⟩), .int .i64 x] w fun e w' =>
      e = .returned (.tuple #[.int .i64 (((c : Int) + 1) * 1024 + ((b : Int) + 1)), .int .i64 0]) ∧ ∃ nq, w' = ((((((w.drewN nq).setCell ⟨p, 2, none⟩ (.int .i64 ((b : Int) + 1))).setCell ⟨bs, b * 3, none⟩ (.int .i64 x)).setCell ⟨bs, b * 3 + 2, none⟩ (.bool true)).setCell ⟨bs, b * 3 + 1, none⟩ (.int .i64 ((c : Int) + 1))).setCell ⟨p, 3, none⟩ (.int .i64 ((u : Int) + 1))) := by
  have hne1 : ((b : Int) == (n : Int)) = false := by rw [beq_eq_false_iff_ne]; omega
  have hne2 : (p = bs) = False := by simp [hne]
  have hne3 : (bs = p) = False := by simp; exact fun e => hne e.symm
  go_enter Tryd.func14, Tryd.ntmps14
  go_wp2
  go_quiet (fail)
  go_wp2
  go_ret2
  exact ⟨rfl, _, rfl⟩

set_option maxHeartbeats 1000000 in
theorem take_full_raw {fc : Option Addr} {fcap : Nat} {a : Option Addr}
    (c0 : w.cell? ⟨p, 0, none⟩ = some (.slice a n n)) (c1 : w.cell? ⟨p, 1, none⟩ = some (.slice fc 0 fcap)) (c2 : w.cell? ⟨p, 2, none⟩ = some (.int .i64 n)) (c4 : w.cell? ⟨p, 4, none⟩ = some (.bool true)) :
    Calls Tryd.prog 14 #[.pointer (some ⟨p, 0, none⟩), .int .i64 x] w fun e w' =>
      e = .returned (.tuple #[.int .i64 0, .int .i64 7]) ∧ ∃ nq, w' = w.drewN nq := by
  have hne1 : ((n : Int) == (n : Int)) = true := by simp
  go_enter Tryd.func14, Tryd.ntmps14
  go_wp2
  go_quiet (fail)
  go_wp2
  go_ret2
  exact ⟨rfl, _, rfl⟩

set_option maxHeartbeats 1000000 in
theorem take_pop_raw {g m fcap : Nat} (hn : n ≤ 1000) (hb : b < n) (hu : u < 1000) (hc : c < 4503599627370496) (hm : m < 1000) (hcap : m + 1 ≤ fcap) (hne : p ≠ bs) (hg1 : g ≠ p) (hg2 : g ≠ bs)
    (c0 : w.cell? ⟨p, 0, none⟩ = some (.slice (some ⟨bs, 0, none⟩) n n)) (c1 : w.cell? ⟨p, 1, none⟩ = some (.slice (some ⟨g, 0, none⟩) (m + 1) fcap)) (c3 : w.cell? ⟨p, 3, none⟩ = some (.int .i64 u)) (c4 : w.cell? ⟨p, 4, none⟩ = some (.bool true))
    (f1 : w.frozen? ⟨p, 1, none⟩ = false) (f3 : w.frozen? ⟨p, 3, none⟩ = false) (cg : w.cell? ⟨g, m, none⟩ = some (.int .i64 b))
    (s0 : w.cell? ⟨bs, b * 3, none⟩ = some (.int .i64 v0)) (s1 : w.cell? ⟨bs, b * 3 + 1, none⟩ = some (.int .i64 c)) (s2 : w.cell? ⟨bs, b * 3 + 2, none⟩ = some (.bool us0))
    (t0 : w.frozen? ⟨bs, b * 3, none⟩ = false) (t1 : w.frozen? ⟨bs, b * 3 + 1, none⟩ = false) (t2 : w.frozen? ⟨bs, b * 3 + 2, none⟩ = false) :
    Calls Tryd.prog 14 #[.pointer (some ⟨p, 0, none⟩), .int .i64 x] w fun e w' =>
      e = .returned (.tuple #[.int .i64 (((c : Int) + 1) * 1024 + ((b : Int) + 1)), .int .i64 0]) ∧ ∃ nq, w' = ((((((w.drewN nq).setCell ⟨p, 1, none⟩ (.slice (some ⟨g, 0, none⟩) m fcap)).setCell ⟨bs, b * 3, none⟩ (.int .i64 x)).setCell ⟨bs, b * 3 + 2, none⟩ (.bool true)).setCell ⟨bs, b * 3 + 1, none⟩ (.int .i64 ((c : Int) + 1))).setCell ⟨p, 3, none⟩ (.int .i64 ((u : Int) + 1))) := by
  have hne2 : (p = bs) = False := by simp [hne]
  have hne3 : (bs = p) = False := by simp; exact fun e => hne e.symm
  have hne4 : (g = p) = False := by simp [hg1]
  have hne5 : (g = bs) = False := by simp [hg2]
  go_enter Tryd.func14, Tryd.ntmps14
  go_wp2
  go_ret2
  exact ⟨rfl, 0, rfl⟩

theorem slot_at {r s : Int} {w : World} (h : slotI r = s) (hw : -9223372036854775808 ≤ r ∧ r ≤ 9223372036854775807) :
    Calls Tryd.prog 34 #[.int .i64 r] w fun e w' => e = .returned (.int .i64 s) ∧ w' = w := h ▸ slot_calls r w hw
theorem inc_at {r s : Int} {w : World} (h : incI r = s) (hw : -9223372036854775808 ≤ r ∧ r ≤ 9223372036854775807) :
    Calls Tryd.prog 46 #[.int .i64 r] w fun e w' => e = .returned (.int .i64 s) ∧ w' = w := h ▸ inc_calls r w hw

set_option maxHeartbeats 1000000 in
theorem at_none_low {r : Int} (hw : -9223372036854775808 ≤ r ∧ r ≤ 9223372036854775807) (hs : slotI r = 0) (c4 : w.cell? ⟨p, 4, none⟩ = some (.bool true)) :
    Calls Tryd.prog 43 #[.pointer (some ⟨p, 0, none⟩), .int .i64 r] w fun e w' => e = .returned (.pointer none) ∧ ∃ nq, w' = w.drewN nq := by
  have HS := Lib.hid hs
  clear hs
  go_enter Tryd.func43, Tryd.ntmps43
  go_wp2_with (first | (go_at_call 34; refine (slot_at HS.out hw).mono ?_; rintro e w' ⟨rfl, rfl⟩) | go_in)
  go_ret
  exact ⟨rfl, 0, rfl⟩

set_option maxHeartbeats 1000000 in
theorem at_none_high {r : Int} {s : Nat} (hw : -9223372036854775808 ≤ r ∧ r ≤ 9223372036854775807) (hs : slotI r = (s : Int) + 1) (hsn : n ≤ s) (hs2 : s < 1000) (c0 : w.cell? ⟨p, 0, none⟩ = some (.slice (some ⟨bs, 0, none⟩) n n)) (c4 : w.cell? ⟨p, 4, none⟩ = some (.bool true)) :
    Calls Tryd.prog 43 #[.pointer (some ⟨p, 0, none⟩), .int .i64 r] w fun e w' => e = .returned (.pointer none) ∧ ∃ nq, w' = w.drewN nq := by
  have HS := Lib.hid hs
  clear hs
  go_enter Tryd.func43, Tryd.ntmps43
  go_wp2_with (first | (go_at_call 34; refine (slot_at HS.out hw).mono ?_; rintro e w' ⟨rfl, rfl⟩) | go_in)
  go_ret
  exact ⟨rfl, 0, rfl⟩

set_option maxHeartbeats 1000000 in
theorem at_none_free {r : Int} {s : Nat} (hw : -9223372036854775808 ≤ r ∧ r ≤ 9223372036854775807) (hs : slotI r = (s : Int) + 1) (hsn : s < n) (hn : n ≤ 1000) (c0 : w.cell? ⟨p, 0, none⟩ = some (.slice (some ⟨bs, 0, none⟩) n n)) (c4 : w.cell? ⟨p, 4, none⟩ = some (.bool true))
    (s2 : w.cell? ⟨bs, s * 3 + 2, none⟩ = some (.bool false)) :
    Calls Tryd.prog 43 #[.pointer (some ⟨p, 0, none⟩), .int .i64 r] w fun e w' => e = .returned (.pointer none) ∧ ∃ nq, w' = w.drewN nq := by
  have HS := Lib.hid hs
  clear hs
  go_enter Tryd.func43, Tryd.ntmps43
  go_wp2_with (first | (go_at_call 34; refine (slot_at HS.out hw).mono ?_; rintro e w' ⟨rfl, rfl⟩) | go_in)
  go_quiet (fail)
  go_wp2
  go_ret
  exact ⟨rfl, _, rfl⟩

set_option maxHeartbeats 1000000 in
theorem at_none_inc {r : Int} {s : Nat} {c : Int} (hw : -9223372036854775808 ≤ r ∧ r ≤ 9223372036854775807) (hs : slotI r = (s : Int) + 1) (hsn : s < n) (hn : n ≤ 1000) (c0 : w.cell? ⟨p, 0, none⟩ = some (.slice (some ⟨bs, 0, none⟩) n n)) (c4 : w.cell? ⟨p, 4, none⟩ = some (.bool true))
    (s1 : w.cell? ⟨bs, s * 3 + 1, none⟩ = some (.int .i64 c)) (s2 : w.cell? ⟨bs, s * 3 + 2, none⟩ = some (.bool true)) (hc : c ≠ incI r) :
    Calls Tryd.prog 43 #[.pointer (some ⟨p, 0, none⟩), .int .i64 r] w fun e w' => e = .returned (.pointer none) ∧ ∃ nq, w' = w.drewN nq := by
  have HS := Lib.hid hs
  clear hs
  have hcb : (c != incI r) = true := bne_iff_ne.2 hc
  clear hc
  go_enter Tryd.func43, Tryd.ntmps43
  go_wp2_with (first | (go_at_call 34; refine (slot_at HS.out hw).mono ?_; rintro e w' ⟨rfl, rfl⟩) | go_in)
  go_quiet ((go_at_call 46; exact Calls.quiet_of_same ((inc_calls r _ hw).mono fun _ _ h => ⟨h.1, h.2⟩)))
  go_wp2
  go_ret
  exact ⟨rfl, _, rfl⟩

set_option maxHeartbeats 1000000 in
theorem at_some {r : Int} {s : Nat} {c : Int} (hw : -9223372036854775808 ≤ r ∧ r ≤ 9223372036854775807) (hs : slotI r = (s : Int) + 1) (hsn : s < n) (hn : n ≤ 1000) (c0 : w.cell? ⟨p, 0, none⟩ = some (.slice (some ⟨bs, 0, none⟩) n n)) (c4 : w.cell? ⟨p, 4, none⟩ = some (.bool true))
    (s1 : w.cell? ⟨bs, s * 3 + 1, none⟩ = some (.int .i64 c)) (s2 : w.cell? ⟨bs, s * 3 + 2, none⟩ = some (.bool true)) (hc : incI r = c) :
    Calls Tryd.prog 43 #[.pointer (some ⟨p, 0, none⟩), .int .i64 r] w fun e w' => e = .returned (.pointer (some ⟨bs, s * 3, none⟩)) ∧ ∃ nq, w' = w.drewN nq := by
  have HS := Lib.hid hs
  have HI := Lib.hid hc
  clear hs hc
  have hcb : (c != c) = false := by simp
  go_enter Tryd.func43, Tryd.ntmps43
  go_wp2_with (first | (go_at_call 34; refine (slot_at HS.out hw).mono ?_; rintro e w' ⟨rfl, rfl⟩) | go_in)
  go_quiet ((go_at_call 46; exact Calls.quiet_of_same ((inc_at HI.out hw).mono fun _ _ h => ⟨h.1, h.2⟩)))
  go_wp2
  go_ret
  exact ⟨rfl, _, rfl⟩

end
end Go.Proofs.YtipdhjdlfdbkiaaDoor.ArenaRef
