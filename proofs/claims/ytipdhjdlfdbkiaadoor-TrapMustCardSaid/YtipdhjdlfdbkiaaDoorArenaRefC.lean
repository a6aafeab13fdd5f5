
/- The arena of ints: what its methods do to the model (AM): one contract a method. -/
import Derived.Test.YtipdhjdlfdbkiaaDoorArenaRefFree
import Derived.Test.YtipdhjdlfdbkiaaDoorArenaRefMore
namespace Go.Proofs.YtipdhjdlfdbkiaaDoor.ArenaRef
set_option linter.unusedSimpArgs false
set_option linter.unusedVariables false
open Go.RowKit Go.Proofs Go.Proofs.YtipdhjdlfdbkiaaDoor.Heap Go.Proofs.YtipdhjdlfdbkiaaDoor.Refs Go.Proofs.YtipdhjdlfdbkiaaDoor.ArenaM

/-- The slot that Take takes. -/
def nextI (A : AM Int) : Option Nat := match A.freed.getLast? with | some i => some i | none => if A.begun < A.n then some A.begun else none
def taken (A : AM Int) (i : Nat) (x : Int) : AM Int := if A.freed = [] then A.put i x [] (A.begun + 1) else A.put i x A.freed.dropLast A.begun

theorem next_cases (A : AM Int) : (A.freed = [] ∧ A.begun < A.n ∧ nextI A = some A.begun ∧ (∀ x, taken A A.begun x = A.put A.begun x [] (A.begun + 1))) ∨ (A.freed = [] ∧ A.n ≤ A.begun ∧ nextI A = none) ∨
    ∃ l i, A.freed = l ++ [i] ∧ nextI A = some i ∧ ∀ x, taken A i x = A.put i x l A.begun := by
  rcases List.eq_nil_or_concat A.freed with h | ⟨l, i, h⟩
  · by_cases hb : A.begun < A.n
    · exact .inl ⟨h, hb, by simp [nextI, h, hb], fun x => by simp [taken, h]⟩
    · exact .inr (.inl ⟨h, by omega, by simp [nextI, h, hb]⟩)
  · exact .inr (.inr ⟨l, i, by simpa using h, by simp [nextI, h], fun x => by simp [taken, h]⟩)

theorem taken_ok {A : AM Int} {M : Nat} (ok : A.Ok M) {i : Nat} (x : Int) (h : nextI A = some i) : (taken A i x).Ok (M + 1) := by
  rcases next_cases A with ⟨hf, hb, hn, ht⟩ | ⟨_, _, hn⟩ | ⟨l, j, hf, hn, ht⟩
  · rw [hn] at h; obtain rfl := Option.some.inj h; rw [ht]; exact AM.put_new ok x hf hb
  · rw [hn] at h; cases h
  · rw [hn] at h; obtain rfl := Option.some.inj h; rw [ht]; exact AM.put_pop ok l j x hf
theorem taken_eq (A : AM Int) (i : Nat) (x : Int) : ∃ l b, taken A i x = A.put i x l b := by
  unfold taken; split
  · exact ⟨_, _, rfl⟩
  · exact ⟨_, _, rfl⟩
theorem next_lt {A : AM Int} {M : Nat} (ok : A.Ok M) {i : Nat} (h : nextI A = some i) : i < A.n := by
  rcases next_cases A with ⟨hf, hb, hn, ht⟩ | ⟨_, _, hn⟩ | ⟨l, j, hf, hn, ht⟩
  · rw [hn] at h; obtain rfl := Option.some.inj h; exact hb
  · rw [hn] at h; cases h
  · rw [hn] at h; obtain rfl := Option.some.inj h; have := (ok.freed_lt j (by rw [hf]; simp)).1; have := ok.begun_le; omega

section
variable {w : World} {p bs : Nat} {fv : Value} {A : AM Int} {M : Nat} {r x : Int}

/-- The arena and its footprint behind a call. -/
def After (p bs : Nat) (fv : Value) (A' : AM Int) (w w' : World) : Prop :=
  ∃ fv', Ar w' p bs fv' A' ∧ Step (Foot p bs fv) w w' ∧ ∀ k, Foot p bs fv' k → Foot p bs fv k ∨ w.heap.size ≤ k

theorem After.drewN (h : Ar w p bs fv A) (n : Nat) : After p bs fv A w (w.drewN n) := ⟨fv, h.drewN, (Step.refl _ _).drewN n, fun k hk => .inl hk⟩

theorem c_at_live (h : Ar w p bs fv A) (ok : A.Ok M) (hw : -9223372036854775808 ≤ r ∧ r ≤ 9223372036854775807) {i : Nat} (hl : A.Live r i) : AtSome w p bs r i := by
  obtain ⟨c0, c1, c2, c3, c4, f1, f2, f3⟩ := h.cells
  obtain ⟨s0, s1, s2, t0, t1, t2⟩ := h.slot i hl.lt
  exact at_some hw hl.slot hl.lt ok.n_le c0 c4 s1 (by rw [s2, hl.us]) hl.inc

theorem c_at_dead (h : Ar w p bs fv A) (ok : A.Ok M) (hw : -9223372036854775808 ≤ r ∧ r ≤ 9223372036854775807) (hd : A.Dead r) : AtNone w p r := by
  obtain ⟨c0, c1, c2, c3, c4, f1, f2, f3⟩ := h.cells
  have hs := slotI_nonneg r
  by_cases h0 : slotI r = 0
  · exact at_none_low hw h0 c4
  obtain ⟨s, hs'⟩ : ∃ s : Nat, slotI r = (s : Int) + 1 := ⟨(slotI r - 1).toNat, by omega⟩
  by_cases h1 : A.n ≤ s
  · exact at_none_high hw hs' h1 (by omega) c0 c4
  have hlt : s < A.n := by omega
  obtain ⟨s0, s1, s2, t0, t1, t2⟩ := h.slot s hlt
  cases hu : A.us s with
  | false => rw [hu] at s2; exact at_none_free hw hs' hlt ok.n_le c0 c4 s2
  | true =>
    rw [hu] at s2
    exact at_none_inc hw hs' hlt ok.n_le c0 c4 s1 s2 (fun e => hd s ⟨hlt, hu, hs', e.symm⟩)

theorem c_take (h : Ar w p bs fv A) (ok : A.Ok M) (hM : M < 4503599627370496) {i : Nat} (hi : nextI A = some i) :
    Calls Tryd.prog 14 #[.pointer (some ⟨p, 0, none⟩), .int .i64 x] w fun e w' =>
      e = .returned (.tuple #[.int .i64 ((taken A i x).ref i), .int .i64 0]) ∧ After p bs fv (taken A i x) w w' := by
  obtain ⟨c0, c1, c2, c3, c4, f1, f2, f3⟩ := h.cells
  obtain ⟨cs, hcs, hsc⟩ := h.slots
  have hbn := ok.begun_le
  have hcount := ok.count
  have hn := ok.n_le
  have hltp := lt_of h.head
  have hltb := lt_of hcs
  have hbase : p < max p bs + 1 ∧ bs < max p bs + 1 := by omega
  rcases next_cases A with ⟨hf, hb, hne, ht⟩ | ⟨_, _, hne⟩ | ⟨l, j, hf, hne, ht⟩
  · rw [hne] at hi; obtain rfl := Option.some.inj hi
    obtain ⟨s0, s1, s2, t0, t1, t2⟩ := h.slot A.begun hb
    have hfr := h.freed
    have hfv : ∃ fc fcap, fv = .slice fc 0 fcap := by
      rw [hf] at hfr
      rcases row_cases hfr with ⟨rfl, _, _⟩ | ⟨g, cap, rfl, _⟩
      · exact ⟨_, _, rfl⟩
      · exact ⟨_, _, rfl⟩
    obtain ⟨fc, fcap, rfl⟩ := hfv
    refine (take_new_raw hn hb (by omega) (by have := ok.inc_le A.begun; omega) h.ne c0 c1 c2 c3 c4 f2 f3 s0 s1 s2 t0 t1 t2).mono ?_
    rintro e w' ⟨rfl, nq, rfl⟩
    rw [ht]
    refine ⟨by simp [AM.ref, AM.put, upd], .slice fc 0 fcap, ⟨?_, ⟨_, ?_, hsc.put hb x [] (A.begun + 1) _ rfl⟩, ?_, h.ne⟩, ?_, fun k hk => .inl hk⟩
    · have e1 := heap_set_at (i := 2) (v := .int .i64 ((A.begun : Int) + 1)) (w := w.drewN nq) h.head
      have e2 := (heap_set_ne (a := ⟨bs, A.begun * 3, none⟩) (v := .int .i64 x) (k := p) h.ne).trans e1
      have e3 := (heap_set_ne (a := ⟨bs, A.begun * 3 + 2, none⟩) (v := .bool true) (k := p) h.ne).trans e2
      have e4 := (heap_set_ne (a := ⟨bs, A.begun * 3 + 1, none⟩) (v := .int .i64 ((A.inc A.begun : Int) + 1)) (k := p) h.ne).trans e3
      have e5 := heap_set_at (i := 3) (v := .int .i64 ((A.used : Int) + 1)) e4
      rw [e5]; simp [AM.put]
    · have e1 : ((w.drewN nq).setCell ⟨p, 2, none⟩ (.int .i64 ((A.begun : Int) + 1))).heap[bs]? = _ := (heap_set_ne (k := bs) (fun e => h.ne e.symm)).trans hcs
      have e2 := heap_set_at (i := A.begun * 3) (v := .int .i64 x) e1
      have e3 := heap_set_at (i := A.begun * 3 + 2) (v := .bool true) e2
      have e4 := heap_set_at (i := A.begun * 3 + 1) (v := .int .i64 ((A.inc A.begun : Int) + 1)) e3
      exact (heap_set_ne (a := ⟨p, 3, none⟩) (k := bs) (fun e => h.ne e.symm)).trans e4
    · have := h.freed
      rw [hf] at this
      exact ownsRow_setCell_below (ownsRow_setCell_below (ownsRow_setCell_below (ownsRow_setCell_below (ownsRow_setCell_below (row_drewN this) hbase.1 _) hbase.2 _) hbase.2 _) hbase.2 _) hbase.1 _
    · exact ((((((Step.refl _ w).drewN nq).setCell (.inl (.inl rfl)) _).setCell (.inl (.inr (.inl rfl))) _).setCell (.inl (.inr (.inl rfl))) _).setCell (.inl (.inr (.inl rfl))) _).setCell (.inl (.inl rfl)) _
  · rw [hne] at hi; cases hi
  · rw [hne] at hi; obtain rfl := Option.some.inj hi
    have hjb := ok.freed_lt j (by rw [hf]; simp)
    have hjn : j < A.n := by omega
    obtain ⟨s0, s1, s2, t0, t1, t2⟩ := h.slot j hjn
    have hfr := h.freed
    rw [hf] at hfr
    rcases row_cases hfr with ⟨_, h0, _⟩ | ⟨g, cap, rfl, hg, hcap, hmax, hcell, hfroz, hglt⟩
    · simp at h0
    have hlen : l.length + 1 ≤ 1000 := by rw [hf] at hcount; simp at hcount; omega
    have hcg : w.cell? ⟨g, l.length, none⟩ = some (.int .i64 (j : Int)) := by rw [hcell _ (by simp)]; simp
    have hll : (l ++ [j]).length = l.length + 1 := by simp
    rw [hll] at c1 hcap
    have hused : A.used < 1000 := by rw [hf] at hcount; simp at hcount; omega
    refine (take_pop_raw hn hjn hused (by have := ok.inc_le j; omega) (by omega) hcap h.ne (by omega) (by omega) c0 c1 c3 c4 f1 f3 hcg s0 s1 s2 t0 t1 t2).mono ?_
    rintro e w' ⟨rfl, nq, rfl⟩
    rw [ht]
    refine ⟨by simp [AM.ref, AM.put, upd], .slice (some ⟨g, 0, none⟩) l.length cap, ⟨?_, ⟨_, ?_, hsc.put hjn x l A.begun _ rfl⟩, ?_, h.ne⟩, ?_, fun k hk => .inl hk⟩
    · have e1 := heap_set_at (i := 1) (v := .slice (some ⟨g, 0, none⟩) l.length cap) (w := w.drewN nq) h.head
      have e2 := (heap_set_ne (a := ⟨bs, j * 3, none⟩) (v := .int .i64 x) (k := p) h.ne).trans e1
      have e3 := (heap_set_ne (a := ⟨bs, j * 3 + 2, none⟩) (v := .bool true) (k := p) h.ne).trans e2
      have e4 := (heap_set_ne (a := ⟨bs, j * 3 + 1, none⟩) (v := .int .i64 ((A.inc j : Int) + 1)) (k := p) h.ne).trans e3
      have e5 := heap_set_at (i := 3) (v := .int .i64 ((A.used : Int) + 1)) e4
      rw [e5]; simp [AM.put]
    · have e1 : ((w.drewN nq).setCell ⟨p, 1, none⟩ (.slice (some ⟨g, 0, none⟩) l.length cap)).heap[bs]? = _ := (heap_set_ne (k := bs) (fun e => h.ne e.symm)).trans hcs
      have e2 := heap_set_at (i := j * 3) (v := .int .i64 x) e1
      have e3 := heap_set_at (i := j * 3 + 2) (v := .bool true) e2
      have e4 := heap_set_at (i := j * 3 + 1) (v := .int .i64 ((A.inc j : Int) + 1)) e3
      exact (heap_set_ne (a := ⟨p, 3, none⟩) (k := bs) (fun e => h.ne e.symm)).trans e4
    · have hp : w.ownsRow (max p bs + 1) 3 1 (.slice (some ⟨g, 0, none⟩) l.length cap) l.length (l.map fun (k : Nat) => Value.int .i64 (k : Int)) := by
        rw [hll] at hfr
        have hx : l.map (fun (k : Nat) => Value.int .i64 (k : Int)) ++ [Value.int .i64 (j : Int)] = (l ++ [j]).map (fun (k : Nat) => Value.int .i64 (k : Int)) := by simp
        rw [← hx] at hfr
        exact ownsRow_pop (by simp) hfr
      exact ownsRow_setCell_below (ownsRow_setCell_below (ownsRow_setCell_below (ownsRow_setCell_below (ownsRow_setCell_below (row_drewN hp) hbase.1 _) hbase.2 _) hbase.2 _) hbase.2 _) hbase.1 _
    · exact ((((((Step.refl _ w).drewN nq).setCell (.inl (.inl rfl)) _).setCell (.inl (.inr (.inl rfl))) _).setCell (.inl (.inr (.inl rfl))) _).setCell (.inl (.inr (.inl rfl))) _).setCell (.inl (.inl rfl)) _

theorem c_take_full (h : Ar w p bs fv A) (ok : A.Ok M) (hi : nextI A = none) :
    Calls Tryd.prog 14 #[.pointer (some ⟨p, 0, none⟩), .int .i64 x] w fun e w' =>
      e = .returned (.tuple #[.int .i64 0, .int .i64 7]) ∧ After p bs fv A w w' := by
  obtain ⟨c0, c1, c2, c3, c4, f1, f2, f3⟩ := h.cells
  have hbn := ok.begun_le
  rcases next_cases A with ⟨hf, hb, hne, ht⟩ | ⟨hf, hb, hne⟩ | ⟨l, j, hf, hne, ht⟩
  · rw [hne] at hi; cases hi
  · have hfr := h.freed
    rw [hf] at hfr
    have hfv : ∃ fc fcap, fv = .slice fc 0 fcap := by
      rcases row_cases hfr with ⟨rfl, _, _⟩ | ⟨g, cap, rfl, _⟩
      · exact ⟨_, _, rfl⟩
      · exact ⟨_, _, rfl⟩
    obtain ⟨fc, fcap, hfc⟩ := hfv
    have hbe : A.begun = A.n := by omega
    rw [hbe] at c2
    rw [hfc] at c1
    refine (take_full_raw c0 c1 c2 c4).mono ?_
    rintro e w' ⟨rfl, nq, rfl⟩
    exact ⟨rfl, After.drewN h nq⟩
  · rw [hne] at hi; cases hi

theorem c_free (h : Ar w p bs fv A) (ok : A.Ok M) (hw : -9223372036854775808 ≤ r ∧ r ≤ 9223372036854775807) {i : Nat} (hl : A.Live r i) :
    Calls Tryd.prog 17 #[.pointer (some ⟨p, 0, none⟩), .int .i64 r] w fun e w' =>
      e = .returned (.int .i64 0) ∧ After p bs fv (A.free i 0) w w' := by
  obtain ⟨c0, c1, c2, c3, c4, f1, f2, f3⟩ := h.cells
  obtain ⟨s0, s1, s2, t0, t1, t2⟩ := h.slot i hl.lt
  obtain ⟨cs, hcs, hsc⟩ := h.slots
  have hbn := ok.begun_le
  have hcount := ok.count
  have hn := ok.n_le
  have hltp := lt_of h.head
  have hltb := lt_of hcs
  have hil := hl.lt
  have hup := AM.used_pos ok i 0 hl.us
  have hbase : p < max p bs + 1 ∧ bs < max p bs + 1 := by omega
  have hfr := h.freed
  refine (free_raw (base := max p bs + 1) hw hl.slot (by omega) hup (by omega) h.ne (by omega) (fun _ _ => trivial) c4 (c_at_live h ok hw hl) c1 c3 f1 f3 s0 s2 t0 t2 hfr hbase.1 hbase.2 (by omega)).mono ?_
  rintro e w' ⟨rfl, g, cap, nq, w0, w1, rfl, ⟨k, o, hgrow⟩, hown, hat, rfl⟩
  have hpk : w1.heap[p]? = some (.cells #[.slice (some ⟨bs, 0, none⟩) A.n A.n, fv, .int .i64 A.begun, .int .i64 ((A.used : Int) - 1), .bool true] 62 (0, 0)) := by
    refine (hgrow.block p (by simp; omega) (fun e => by have := (hfr.lt p e.symm).1; omega)).trans ?_
    show ((_ : World).alloc o).heap[p]? = _
    refine (heap_alloc_lt (by simp; omega)).trans ?_
    have e1 : (((w.drewN nq).setCell ⟨bs, i * 3, none⟩ (.int .i64 0)).setCell ⟨bs, i * 3 + 2, none⟩ (.bool false)).heap[p]? = _ := ((heap_set_ne (k := p) h.ne).trans (heap_set_ne (k := p) h.ne)).trans h.head
    rw [heap_set_at (i := 3) (v := .int .i64 ((A.used : Int) - 1)) e1]
    simp
  have hbk : w1.heap[bs]? = some (.cells ((cs.setIfInBounds (i * 3) (.int .i64 0)).setIfInBounds (i * 3 + 2) (.bool false)) 71 (0, 0)) := by
    refine (hgrow.block bs (by simp; omega) (fun e => by have := (hfr.lt bs e.symm).1; omega)).trans ?_
    show ((_ : World).alloc o).heap[bs]? = _
    refine (heap_alloc_lt (by simp; omega)).trans ?_
    have e1 := heap_set_at (i := i * 3) (v := .int .i64 0) (w := w.drewN nq) hcs
    have e2 := heap_set_at (i := i * 3 + 2) (v := .bool false) e1
    exact (heap_set_ne (a := ⟨p, 3, none⟩) (k := bs) (fun e => h.ne e.symm)).trans e2
  refine ⟨rfl, .slice (some ⟨g, 0, none⟩) (A.freed.length + 1) cap, ⟨?_, ⟨_, ?_, hsc.free hil⟩, ?_, h.ne⟩, ?_, ?_⟩
  · rw [heap_set_at (i := 1) hpk]
    have : ((A.used : Int) - 1) = ((A.used - 1 : Nat) : Int) := by omega
    simp [AM.free, this]
  · exact (heap_set_ne (a := ⟨p, 1, none⟩) (k := bs) (fun e => h.ne e.symm)).trans hbk
  · have : w1.ownsRow (max p bs + 1) 3 1 (.slice (some ⟨g, 0, none⟩) (A.freed.length + 1) cap) (A.free i 0).freed.length ((A.free i 0).freed.map fun (k : Nat) => Value.int .i64 (k : Int)) := by
      simpa [AM.free] using hown
    exact ownsRow_setCell_below this hbase.1 _
  · refine Step.setCell (Step.grown (Step.drewN (Step.alloc (((((Step.refl _ w).drewN nq).setCell (.inl (.inr (.inl rfl))) _).setCell (.inl (.inr (.inl rfl))) _).setCell (.inl (.inl rfl)) _) o) k) hgrow ?_) (.inl (.inl rfl)) _
    intro j hj
    exact .inl (.inr (.inr hj))
  · intro j hj
    rcases hj with rfl | rfl | hj
    · exact .inl (.inl rfl)
    · exact .inl (.inr (.inl rfl))
    · have : g = j := by simpa [Value.ownBlock] using hj
      subst this
      rcases hat with hat | hat
      · exact .inl (.inr (.inr hat))
      · exact .inr hat

theorem c_free_dead (h : Ar w p bs fv A) (ok : A.Ok M) (hw : -9223372036854775808 ≤ r ∧ r ≤ 9223372036854775807) (hd : A.Dead r) :
    Calls Tryd.prog 17 #[.pointer (some ⟨p, 0, none⟩), .int .i64 r] w fun e w' => e = .returned (.int .i64 9) ∧ After p bs fv A w w' :=
  (free_none (c_at_dead h ok hw hd) h.cells.c4).mono fun e w' ⟨he, nq, hq⟩ => ⟨he, hq ▸ After.drewN h nq⟩


theorem slots_made (n : Nat) : SlotCells (madeCells #[.int .i64 0, .int .i64 0, .bool false] (n * 3)) (AM.init n 0) := by
  refine ⟨by simp [madeCells, AM.init], fun i hi => ?_⟩
  have hi : i < n := hi
  have e : ∀ j, j < n * 3 → (madeCells #[Value.int .i64 0, .int .i64 0, .bool false] (n * 3))[j]? = some (#[Value.int .i64 0, .int .i64 0, .bool false][j % 3]!) := by
    intro j hj
    simp [madeCells, hj]
  rw [e _ (by omega), e _ (by omega), e _ (by omega)]
  have m0 : i * 3 % 3 = 0 := by omega
  have m1 : (i * 3 + 1) % 3 = 1 := by omega
  have m2 : (i * 3 + 2) % 3 = 2 := by omega
  rw [m0, m1, m2]
  exact ⟨rfl, rfl, rfl⟩

theorem c_new (n : Nat) (hn : n ≤ 1000) :
    Calls Tryd.prog 11 #[.int .i64 n] w fun e w' => ∃ p bs, e = .returned (.tuple #[.pointer (some ⟨p, 0, none⟩), .int .i64 0]) ∧ Ar w' p bs (.slice none 0 0) (AM.init n 0) ∧ Below w.heap.size w w' ∧ w.heap.size ≤ p ∧ w.heap.size ≤ bs := by
  refine (new_good n hn).mono ?_
  rintro e w' ⟨rfl, rfl⟩
  refine ⟨w.heap.size + 1, w.heap.size, rfl, ⟨?_, ⟨_, ?_, slots_made n⟩, World.ownsRow_nil _ _ _ _, by omega⟩, ((Below.refl _ _).alloc (Nat.le_refl _) _).alloc (by simp) _, by omega, Nat.le_refl _⟩
  · have := heap_alloc_at (w := w.alloc (.cells (madeCells #[.int .i64 0, .int .i64 0, .bool false] (n * 3)) 71)) (o := .cells #[.slice (some ⟨w.heap.size, 0, none⟩) n n, .slice none 0 0, .int .i64 0, .int .i64 0, .bool true] 62)
    rw [World.size_alloc] at this
    rw [this]; simp [AM.init]
  · exact (heap_alloc_lt (by simp)).trans heap_alloc_at
end
end Go.Proofs.YtipdhjdlfdbkiaaDoor.ArenaRef
