
/- The reference's arena: its contracts over the model. -/
import Derived.Test.YtipdhjdlfdbkiaaDoorRefArena4
namespace Go.Proofs.YtipdhjdlfdbkiaaDoor.RefArena
set_option linter.unusedSimpArgs false
set_option linter.unusedVariables false
open Go.RowKit Go.Proofs Go.Proofs.YtipdhjdlfdbkiaaDoor.Heap Go.Proofs.YtipdhjdlfdbkiaaDoor.Refs Go.Proofs.YtipdhjdlfdbkiaaDoor.ArenaM Go.Proofs.YtipdhjdlfdbkiaaDoor.ArenaInt
section
variable {w : World} {q bv bi bs : Nat} {x : Int} {fv : Value} {r : Int} {A : AM Int} {M : Nat}

def RAfter (q bv bi bs : Nat) (fv : Value) (A' : AM Int) (w w' : World) : Prop :=
  ∃ fv', Br w' q bv bi bs fv' A' ∧ Step (RFoot q bv bi bs fv) w w' ∧ ∀ k, RFoot q bv bi bs fv' k → RFoot q bv bi bs fv k ∨ w.heap.size ≤ k
theorem RAfter.drewN (h : Br w q bv bi bs fv A) (n : Nat) : RAfter q bv bi bs fv A w (w.drewN n) := ⟨fv, h.drewN, (Step.refl _ _).drewN n, fun k hk => .inl hk⟩
theorem RAfter.same (h : Br w q bv bi bs fv A) : RAfter q bv bi bs fv A w w := ⟨fv, h, Step.refl _ _, fun k hk => .inl hk⟩

/-- The three stores of Take. -/
theorem Br.put {w0 : World} {l : List Nat} {b : Nat} (hh : w0.heap[q]? = some (.cells #[.slice (some ⟨bv, 0, none⟩) A.n A.n, .slice (some ⟨bi, 0, none⟩) A.n A.n, .slice (some ⟨bs, 0, none⟩) A.n A.n, fv] 35 (0, 0)))
    (h1 : ∃ cs, w0.heap[bv]? = some (.cells cs 3 (0, 0)) ∧ IntCells cs A.n A.v) (h2 : ∃ cs, w0.heap[bi]? = some (.cells cs 3 (0, 0)) ∧ IntCells cs A.n (fun i => (A.inc i : Int))) (h3 : ∃ cs, w0.heap[bs]? = some (.cells cs 4 (0, 0)) ∧ BoolCells cs A.n A.us)
    (hf : w0.ownsRow (max q (max bv (max bi bs)) + 1) 3 1 fv l.length (l.map fun (k : Nat) => Value.int .i64 (k : Int))) (ne : q ≠ bv ∧ q ≠ bi ∧ q ≠ bs ∧ bv ≠ bi ∧ bv ≠ bs ∧ bi ≠ bs) {i : Nat} (hi : i < A.n) :
    Br (((w0.setCell ⟨bv, i, none⟩ (.int .i64 x)).setCell ⟨bs, i, none⟩ (.bool true)).setCell ⟨bi, i, none⟩ (.int .i64 ((A.inc i : Int) + 1))) q bv bi bs fv (A.put i x l b) := by
  obtain ⟨n1, n2, n3, n4, n5, n6⟩ := ne
  obtain ⟨c1, g1, k1⟩ := h1
  obtain ⟨c2, g2, k2⟩ := h2
  obtain ⟨c3, g3, k3⟩ := h3
  refine ⟨?_, ⟨_, ?_, k1.set hi x⟩, ⟨c2.setIfInBounds i (.int .i64 ((A.inc i : Int) + 1)), ?_, ?_⟩, ⟨_, ?_, k3.set hi true⟩, ?_, ⟨n1, n2, n3, n4, n5, n6⟩⟩
  · exact (heap_set_ne (k := q) n2).trans ((heap_set_ne (k := q) n3).trans ((heap_set_ne (k := q) n1).trans hh))
  · exact (heap_set_ne (k := bv) n4).trans ((heap_set_ne (k := bv) n5).trans (heap_set_at g1))
  · exact heap_set_at ((heap_set_ne (k := bi) n6).trans ((heap_set_ne (k := bi) (fun e => n4 e.symm)).trans g2))
  · have := k2.set hi ((A.inc i : Int) + 1)
    refine ⟨this.1, fun j hj => ?_⟩
    rw [this.2 j hj]
    show some (Value.int .i64 (upd (fun i => (A.inc i : Int)) i _ j)) = some (Value.int .i64 ((upd A.inc i _ j : Nat) : Int))
    by_cases e : j = i
    · subst e; rw [upd_at, upd_at]; simp
    · rw [upd_ne _ _ e, upd_ne _ _ e]
  · exact (heap_set_ne (k := bs) (fun e => n6 e.symm)).trans (heap_set_at ((heap_set_ne (k := bs) (fun e => n5 e.symm)).trans g3))
  · exact ownsRow_setCell_below (ownsRow_setCell_below (ownsRow_setCell_below hf (by show bv < _; omega) _) (by show bs < _; omega) _) (by show bi < _; omega) _

theorem r_take (h : Br w q bv bi bs fv A) (ok : A.Ok M) (hM : M < 4503599627370496) {i : Nat} (hi : nextI A = some i) :
    Calls Tryd.prog 15 #[.pointer (some ⟨q, 0, none⟩), .int .i64 x] w fun e w' =>
      e = .returned (.tuple #[.int .i64 ((taken A i x).ref i), .int .i64 0]) ∧ RAfter q bv bi bs fv (taken A i x) w w' := by
  obtain ⟨c0, c1, c2, c3, f3⟩ := h.cells
  have hbn := ok.begun_le
  have hcount := ok.count
  have hn := ok.n_le
  have hrv : ∀ (j : Nat) (l : List Nat) (b : Nat), 1024 * ((A.inc j : Int) + 1) + ((j : Int) + 1) = (A.put j x l b).ref j := by
    intro j l b
    show _ = ((upd A.inc j (A.inc j + 1) j : Nat) : Int) * 1024 + _
    rw [upd_at]
    omega
  rcases next_cases A with ⟨hf, hb, hne, ht⟩ | ⟨_, _, hne⟩ | ⟨l, j, hf, hne, ht⟩
  · rw [hne] at hi; obtain rfl := Option.some.inj hi
    obtain ⟨s0, s1, s2, t0, t1, t2⟩ := h.slot A.begun hb
    have hfr := h.freed
    rw [hf] at hfr
    obtain ⟨fa, fcap, rfl⟩ := row_form hfr
    have hN := next_scan h ok
    have hsc : scanI A = A.begun := by unfold scanI; rw [if_pos hb]
    rw [hsc] at hN
    refine (rtake_raw (m := 0) hn hb (by have := ok.inc_le A.begun; omega) h.ne hN c0 c1 c2 c3 s0 s1 s2 t0 t1 t2).mono ?_
    rintro e w' ⟨rfl, nq, rfl⟩
    rw [ht, hrv A.begun [] (A.begun + 1)]
    refine ⟨rfl, _, Br.put (w0 := w.drewN nq) h.head h.vs h.is h.us (row_drewN hfr) h.ne hb, ?_, fun k hk => .inl hk⟩
    exact ((((Step.refl _ w).drewN nq).setCell (.inl (.inr (.inl rfl))) _).setCell (.inl (.inr (.inr (.inr (.inl rfl))))) _).setCell (.inl (.inr (.inr (.inl rfl)))) _
  · rw [hne] at hi; cases hi
  · rw [hne] at hi; obtain rfl := Option.some.inj hi
    have hjb := ok.freed_lt j (by rw [hf]; simp)
    have hjn : j < A.n := by omega
    obtain ⟨s0, s1, s2, t0, t1, t2⟩ := h.slot j hjn
    have hfr := h.freed
    rw [hf] at hfr
    rcases row_cases hfr with ⟨_, h0, _⟩ | ⟨g, cap, rfl, hg, hcap, hmax, hcell, hfroz, hglt⟩
    · simp at h0
    have hlen : l.length + 1 ≤ 1000 := by rw [hf] at hcount; simp at hcount; omega
    have hcg : w.cell? ⟨g, l.length, none⟩ = some (.int .i64 (j : Int)) := by rw [hcell _ (by simp)]; simp
    have hll : (l ++ [j]).length = l.length + 1 := by simp
    rw [hll] at c3 hcap
    have hN := next_pop_raw (w := w) (q := q) (b := j) (by omega) hcap c3 hcg
    refine (rtake_pop_raw (m := l.length) hn hjn (by have := ok.inc_le j; omega) (by omega) hcap h.ne hN c0 c1 c2 c3 f3 s0 s1 s2 t0 t1 t2).mono ?_
    rintro e w' ⟨rfl, nq, rfl⟩
    rw [ht, hrv j l A.begun]
    have hp : w.ownsRow (max q (max bv (max bi bs)) + 1) 3 1 (.slice (some ⟨g, 0, none⟩) l.length cap) l.length (l.map fun (k : Nat) => Value.int .i64 (k : Int)) := by
      rw [hll] at hfr
      have hx : l.map (fun (k : Nat) => Value.int .i64 (k : Int)) ++ [Value.int .i64 (j : Int)] = (l ++ [j]).map (fun (k : Nat) => Value.int .i64 (k : Int)) := by simp
      rw [← hx] at hfr
      exact ownsRow_pop (by simp) hfr
    obtain ⟨n1, n2, n3, n4, n5, n6⟩ := h.ne
    obtain ⟨d1, g1, k1⟩ := h.vs
    obtain ⟨d2, g2, k2⟩ := h.is
    obtain ⟨d3, g3, k3⟩ := h.us
    refine ⟨rfl, .slice (some ⟨g, 0, none⟩) l.length cap, Br.put (w0 := (w.setCell ⟨q, 3, none⟩ (.slice (some ⟨g, 0, none⟩) l.length cap)).drewN nq) ?_ ⟨d1, (heap_set_ne (k := bv) (fun e => n1 e.symm)).trans g1, k1⟩ ⟨d2, (heap_set_ne (k := bi) (fun e => n2 e.symm)).trans g2, k2⟩ ⟨d3, (heap_set_ne (k := bs) (fun e => n3 e.symm)).trans g3, k3⟩ (row_drewN (ownsRow_setCell_below hp (by show q < _; omega) _)) h.ne hjn, ?_, ?_⟩
    · have := heap_set_at (i := 3) (v := .slice (some ⟨g, 0, none⟩) l.length cap) h.head
      exact this
    · exact ((((Step.refl _ w).setCell (.inl (.inl rfl)) _).drewN nq).setCell (.inl (.inr (.inl rfl))) _).setCell (.inl (.inr (.inr (.inr (.inl rfl))))) _ |>.setCell (.inl (.inr (.inr (.inl rfl)))) _
    · intro k hk; exact .inl hk

theorem r_take_full (h : Br w q bv bi bs fv A) (ok : A.Ok M) (hi : nextI A = none) :
    Calls Tryd.prog 15 #[.pointer (some ⟨q, 0, none⟩), .int .i64 x] w fun e w' =>
      e = .returned (.tuple #[.int .i64 0, .int .i64 7]) ∧ RAfter q bv bi bs fv A w w' := by
  rcases next_cases A with ⟨hf, hb, hne, ht⟩ | ⟨hf, hb, hne⟩ | ⟨l, j, hf, hne, ht⟩
  · rw [hne] at hi; cases hi
  · have hfr := h.freed
    rw [hf] at hfr
    obtain ⟨fa, fcap, rfl⟩ := row_form hfr
    have hN := next_scan h ok
    have hsc : scanI A = -1 := by unfold scanI; rw [if_neg (by omega)]
    rw [hsc] at hN
    refine (rtake_full_raw hN).mono ?_
    rintro e w' ⟨rfl, rfl⟩
    exact ⟨rfl, RAfter.same h⟩
  · rw [hne] at hi; cases hi

theorem r_at_live (h : Br w q bv bi bs fv A) (ok : A.Ok M) (hw : -9223372036854775808 ≤ r ∧ r ≤ 9223372036854775807) {i : Nat} (hl : A.Live r i) : AtIs w q r i := by
  obtain ⟨c0, c1, c2, c3, f3⟩ := h.cells
  obtain ⟨s0, s1, s2, t0, t1, t2⟩ := h.slot i hl.lt
  have := ok.n_le
  have := hl.lt
  exact rat_some hw hl.slot hl.lt (by omega) c1 c2 (by rw [s2, hl.us]) s1 hl.inc
theorem r_at_dead (h : Br w q bv bi bs fv A) (ok : A.Ok M) (hw : -9223372036854775808 ≤ r ∧ r ≤ 9223372036854775807) (hd : A.Dead r) : AtIs w q r (-1) := by
  obtain ⟨c0, c1, c2, c3, f3⟩ := h.cells
  have hs := slotI_nonneg r
  by_cases h0 : slotI r = 0
  · exact rat_low hw h0
  obtain ⟨s, hs'⟩ : ∃ s : Nat, slotI r = (s : Int) + 1 := ⟨(slotI r - 1).toNat, by omega⟩
  by_cases h1 : A.n ≤ s
  · exact rat_high hw hs' h1 (by omega) c2
  have hlt : s < A.n := by omega
  obtain ⟨s0, s1, s2, t0, t1, t2⟩ := h.slot s hlt
  cases hu : A.us s with
  | false => rw [hu] at s2; exact rat_free hw hs' hlt (by omega) c2 s2
  | true =>
    rw [hu] at s2
    exact rat_inc hw hs' hlt (by omega) c1 c2 s2 s1 (fun e => hd s ⟨hlt, hu, hs', e.symm⟩)

theorem r_free (h : Br w q bv bi bs fv A) (ok : A.Ok M) (hw : -9223372036854775808 ≤ r ∧ r ≤ 9223372036854775807) {i : Nat} (hl : A.Live r i) :
    Calls Tryd.prog 18 #[.pointer (some ⟨q, 0, none⟩), .int .i64 r] w fun e w' => e = .returned (.int .i64 0) ∧ RAfter q bv bi bs fv (A.free i 0) w w' := by
  obtain ⟨c0, c1, c2, c3, f3⟩ := h.cells
  obtain ⟨s0, s1, s2, t0, t1, t2⟩ := h.slot i hl.lt
  obtain ⟨n1, n2, n3, n4, n5, n6⟩ := h.ne
  obtain ⟨d1, g1, k1⟩ := h.vs
  obtain ⟨d2, g2, k2⟩ := h.is
  obtain ⟨d3, g3, k3⟩ := h.us
  have hcount := ok.count
  have hbn := ok.begun_le
  have hn := ok.n_le
  have hup := AM.used_pos ok i 0 hl.us
  have hfr := h.freed
  obtain ⟨fa, fcap, rfl⟩ := row_form hfr
  have hq := lt_of h.head
  have hlv := lt_of g1
  have hli := lt_of g2
  have hls := lt_of g3
  refine (rfree_raw hl.lt hn (by omega) ⟨n1, n3, n5⟩ (r_at_live h ok hw hl) c0 c2 c3 f3 s0 s2 t0 t2 (row_base hfr (by omega)) (by intro u hu; simp only [List.mem_map] at hu; obtain ⟨k, _, rfl⟩ := hu; rfl)).mono ?_
  rintro e w' ⟨rfl, nq, w0, w1, v', hw0, hb, hown, rfl⟩
  have hs0 : w0.heap.size = w.heap.size := by rw [hw0]; simp
  have e1 : w0.heap[q]? = w.heap[q]? := by rw [hw0]; exact (heap_set_ne (k := q) n3).trans (heap_set_ne (k := q) n1)
  have e2 : w0.heap[bv]? = some (.cells (d1.setIfInBounds i (.int .i64 0)) 3 (0, 0)) := by rw [hw0]; exact (heap_set_ne (k := bv) n5).trans (heap_set_at (w := w.drewN nq) g1)
  have e3 : w0.heap[bi]? = w.heap[bi]? := by rw [hw0]; exact (heap_set_ne (k := bi) n6).trans (heap_set_ne (k := bi) (fun e => n4 e.symm))
  have e4 : w0.heap[bs]? = some (.cells (d3.setIfInBounds i (.bool false)) 4 (0, 0)) := by rw [hw0]; exact heap_set_at ((heap_set_ne (k := bs) (fun e => n5 e.symm)).trans g3)
  have hst0 : Step (RFoot q bv bi bs (.slice fa A.freed.length fcap)) w w0 := by
    rw [hw0]; exact (((Step.refl _ w).drewN nq).setCell (.inl (.inr (.inl rfl))) _).setCell (.inl (.inr (.inr (.inr (.inl rfl))))) _
  have hb' : ∀ k, k < w0.heap.size → w1.heap[k]? = w0.heap[k]? := hb.block
  have hd : ∀ k, v'.ownBlock = some k → w.heap.size ≤ k := fun k hk => (hown.lt k hk).1
  refine ⟨rfl, v', ⟨?_, ⟨_, (heap_set_ne (k := bv) (fun e => n1 e.symm)).trans ((hb' bv (by omega)).trans e2), k1.set hl.lt 0⟩, ⟨d2, (heap_set_ne (k := bi) (fun e => n2 e.symm)).trans ((hb' bi (by omega)).trans (e3.trans g2)), k2⟩, ⟨_, (heap_set_ne (k := bs) (fun e => n3 e.symm)).trans ((hb' bs (by omega)).trans e4), k3.set hl.lt false⟩, ?_, h.ne⟩, ?_, ?_⟩
  · have := heap_set_at (i := 3) (v := v') ((hb' q (by omega)).trans (e1.trans h.head))
    exact this
  · have h1 : w1.ownsRow w.heap.size 3 1 v' (A.free i 0).freed.length ((A.free i 0).freed.map fun (k : Nat) => Value.int .i64 (k : Int)) := by simpa [AM.free] using hown
    exact row_base (ownsRow_setCell_below (a := ⟨q, 3, none⟩) h1 hq v') (by omega)
  · exact (hst0.trans (G := fun _ => False) (Step.ofBelow hb fun k hk hk2 => by omega) (fun _ _ hf => hf.elim)).setCell (.inl (.inl rfl)) _
  · intro k hk
    rcases hk with rfl | rfl | rfl | rfl | hk
    · exact .inl (.inl rfl)
    · exact .inl (.inr (.inl rfl))
    · exact .inl (.inr (.inr (.inl rfl)))
    · exact .inl (.inr (.inr (.inr (.inl rfl))))
    · exact .inr (hd k hk)

theorem r_free_dead_raw (hA : AtIs w q r (-1)) :
    Calls Tryd.prog 18 #[.pointer (some ⟨q, 0, none⟩), .int .i64 r] w fun e w' => e = .returned (.int .i64 9) ∧ ∃ nq, w' = w.drewN nq := by
  go_enter Tryd.func18, Tryd.ntmps18
  go_wp2_with (go_at_call 5; refine hA.mono ?_; rintro e w' ⟨rfl, nq, rfl⟩)
  go_ret
  exact ⟨rfl, nq, rfl⟩
theorem r_free_dead (h : Br w q bv bi bs fv A) (ok : A.Ok M) (hw : -9223372036854775808 ≤ r ∧ r ≤ 9223372036854775807) (hd : A.Dead r) :
    Calls Tryd.prog 18 #[.pointer (some ⟨q, 0, none⟩), .int .i64 r] w fun e w' => e = .returned (.int .i64 9) ∧ RAfter q bv bi bs fv A w w' :=
  (r_free_dead_raw (r_at_dead h ok hw hd)).mono fun e w' ⟨he, nq, hq⟩ => ⟨he, hq ▸ RAfter.drewN h nq⟩

end
end Go.Proofs.YtipdhjdlfdbkiaaDoor.RefArena
