
/- The reference's arena (boscageref09) in memory (Br), over the same model as the program's, and what its functions do. -/
import Derived.Test.YtipdhjdlfdbkiaaDoorArenaIntC
import Derived.Test.YtipdhjdlfdbkiaaDoorHeap2
import Derived.RegionTactic
import Derived.BigRegion
import Derived.LoopTactic
import Derived.OwnWalk
import Derived.IntWalk
namespace Go.Proofs.YtipdhjdlfdbkiaaDoor.RefArena
set_option linter.unusedSimpArgs false
set_option linter.unusedVariables false
open Go.RowKit Go.Proofs Go.Proofs.YtipdhjdlfdbkiaaDoor.Heap Go.Proofs.YtipdhjdlfdbkiaaDoor.Refs Go.Proofs.YtipdhjdlfdbkiaaDoor.ArenaM Go.Proofs.YtipdhjdlfdbkiaaDoor.ArenaInt

def IntCells (cs : Array Value) (n : Nat) (f : Nat → Int) : Prop := cs.size = n ∧ ∀ i, i < n → cs[i]? = some (.int .i64 (f i))
def BoolCells (cs : Array Value) (n : Nat) (f : Nat → Bool) : Prop := cs.size = n ∧ ∀ i, i < n → cs[i]? = some (.bool (f i))

structure Br (w : World) (q bv bi bs : Nat) (fv : Value) (A : AM Int) : Prop where
  head : w.heap[q]? = some (.cells #[.slice (some ⟨bv, 0, none⟩) A.n A.n, .slice (some ⟨bi, 0, none⟩) A.n A.n, .slice (some ⟨bs, 0, none⟩) A.n A.n, fv] 35 (0, 0))
  vs : ∃ cs, w.heap[bv]? = some (.cells cs 3 (0, 0)) ∧ IntCells cs A.n A.v
  is : ∃ cs, w.heap[bi]? = some (.cells cs 3 (0, 0)) ∧ IntCells cs A.n (fun i => (A.inc i : Int))
  us : ∃ cs, w.heap[bs]? = some (.cells cs 4 (0, 0)) ∧ BoolCells cs A.n A.us
  freed : w.ownsRow (max q (max bv (max bi bs)) + 1) 3 1 fv A.freed.length (A.freed.map fun (k : Nat) => Value.int .i64 (k : Int))
  ne : q ≠ bv ∧ q ≠ bi ∧ q ≠ bs ∧ bv ≠ bi ∧ bv ≠ bs ∧ bi ≠ bs

def RFoot (q bv bi bs : Nat) (fv : Value) : Nat → Prop := fun k => k = q ∨ k = bv ∨ k = bi ∨ k = bs ∨ fv.ownBlock = some k

theorem Br.step {F : Nat → Prop} {w w' : World} {q bv bi bs : Nat} {fv : Value} {A : AM Int} (h : Br w q bv bi bs fv A) (hs : Step F w w') (hd : ∀ k, RFoot q bv bi bs fv k → ¬ F k) : Br w' q bv bi bs fv A := by
  obtain ⟨c1, h1, k1⟩ := h.vs
  obtain ⟨c2, h2, k2⟩ := h.is
  obtain ⟨c3, h3, k3⟩ := h.us
  exact ⟨hs.keeps h.head (hd q (.inl rfl)), ⟨c1, hs.keeps h1 (hd bv (.inr (.inl rfl))), k1⟩, ⟨c2, hs.keeps h2 (hd bi (.inr (.inr (.inl rfl)))), k2⟩, ⟨c3, hs.keeps h3 (hd bs (.inr (.inr (.inr (.inl rfl))))), k3⟩, hs.row h.freed fun k hk => hd k (.inr (.inr (.inr (.inr hk)))), h.ne⟩
theorem Br.drewN {w : World} {q bv bi bs n : Nat} {fv : Value} {A : AM Int} (h : Br w q bv bi bs fv A) : Br (w.drewN n) q bv bi bs fv A := ⟨h.head, h.vs, h.is, h.us, h.freed, h.ne⟩
theorem Br.lt {w : World} {q bv bi bs : Nat} {fv : Value} {A : AM Int} (h : Br w q bv bi bs fv A) : ∀ k, RFoot q bv bi bs fv k → k < w.heap.size := by
  obtain ⟨c1, h1, k1⟩ := h.vs
  obtain ⟨c2, h2, k2⟩ := h.is
  obtain ⟨c3, h3, k3⟩ := h.us
  intro k hk
  rcases hk with rfl | rfl | rfl | rfl | hk
  · exact lt_of h.head
  · exact lt_of h1
  · exact lt_of h2
  · exact lt_of h3
  · exact (h.freed.lt k hk).2

structure RCells (w : World) (q bv bi bs : Nat) (fv : Value) (A : AM Int) : Prop where
  c0 : w.cell? ⟨q, 0, none⟩ = some (.slice (some ⟨bv, 0, none⟩) A.n A.n)
  c1 : w.cell? ⟨q, 1, none⟩ = some (.slice (some ⟨bi, 0, none⟩) A.n A.n)
  c2 : w.cell? ⟨q, 2, none⟩ = some (.slice (some ⟨bs, 0, none⟩) A.n A.n)
  c3 : w.cell? ⟨q, 3, none⟩ = some fv
  f3 : w.frozen? ⟨q, 3, none⟩ = false
theorem Br.cells {w : World} {q bv bi bs : Nat} {fv : Value} {A : AM Int} (h : Br w q bv bi bs fv A) : RCells w q bv bi bs fv A := by
  have e := fun i => cell_of (i := i) h.head
  have f := fun i => frozen_of (i := i) h.head
  exact ⟨e 0, e 1, e 2, e 3, f 3⟩
structure RSlot (w : World) (bv bi bs : Nat) (A : AM Int) (i : Nat) : Prop where
  v : w.cell? ⟨bv, i, none⟩ = some (.int .i64 (A.v i))
  inc : w.cell? ⟨bi, i, none⟩ = some (.int .i64 (A.inc i))
  us : w.cell? ⟨bs, i, none⟩ = some (.bool (A.us i))
  fv : w.frozen? ⟨bv, i, none⟩ = false
  fi : w.frozen? ⟨bi, i, none⟩ = false
  fs : w.frozen? ⟨bs, i, none⟩ = false
theorem Br.slot {w : World} {q bv bi bs : Nat} {fv : Value} {A : AM Int} (h : Br w q bv bi bs fv A) (i : Nat) (hi : i < A.n) : RSlot w bv bi bs A i := by
  obtain ⟨c1, h1, k1⟩ := h.vs
  obtain ⟨c2, h2, k2⟩ := h.is
  obtain ⟨c3, h3, k3⟩ := h.us
  exact ⟨(cell_of h1).trans (k1.2 i hi), (cell_of h2).trans (k2.2 i hi), (cell_of h3).trans (k3.2 i hi), frozen_of h1, frozen_of h2, frozen_of h3⟩

theorem IntCells.set {cs : Array Value} {n : Nat} {f : Nat → Int} (h : IntCells cs n f) {i : Nat} (hi : i < n) (x : Int) : IntCells (cs.setIfInBounds i (.int .i64 x)) n (upd f i x) := by
  refine ⟨by simpa using h.1, fun j hj => ?_⟩
  rw [Array.getElem?_setIfInBounds]
  by_cases e : i = j
  · subst e; rw [if_pos rfl, if_pos (by rw [h.1]; exact hi), upd_at]
  · rw [if_neg e, h.2 j hj, upd_ne _ _ (fun h => e h.symm)]
theorem BoolCells.set {cs : Array Value} {n : Nat} {f : Nat → Bool} (h : BoolCells cs n f) {i : Nat} (hi : i < n) (x : Bool) : BoolCells (cs.setIfInBounds i (.bool x)) n (upd f i x) := by
  refine ⟨by simpa using h.1, fun j hj => ?_⟩
  rw [Array.getElem?_setIfInBounds]
  by_cases e : i = j
  · subst e; rw [if_pos rfl, if_pos (by rw [h.1]; exact hi), upd_at]
  · rw [if_neg e, h.2 j hj, upd_ne _ _ (fun h => e h.symm)]

/-! ### the walks -/
section
variable {w : World} {q bv bi bs n b : Nat} {x v0 : Int} {fv : Value}

set_option maxHeartbeats 1000000 in
theorem next_pop_raw {g m fcap : Nat} (hm : m < 1000) (hcap : m + 1 ≤ fcap) (c3 : w.cell? ⟨q, 3, none⟩ = some (.slice (some ⟨g, 0, none⟩) (m + 1) fcap)) (cg : w.cell? ⟨g, m, none⟩ = some (.int .i64 b)) :
    Calls Tryd.prog 31 #[.pointer (some ⟨q, 0, none⟩)] w fun e w' => e = .returned (.int .i64 b) ∧ w = w' := by
  go_enter Tryd.func31, Tryd.ntmps31
  go_wp2
  go_ret
  exact ⟨rfl, rfl⟩

def scanI (A : AM Int) : Int := if A.begun < A.n then (A.begun : Int) else -1
set_option maxHeartbeats 2000000 in
theorem next_scan {A : AM Int} {M : Nat} {fc : Option Addr} {fcap : Nat} (h : Br w q bv bi bs (.slice fc 0 fcap) A) (ok : A.Ok M) :
    Calls Tryd.prog 31 #[.pointer (some ⟨q, 0, none⟩)] w fun e w' => e = .returned (.int .i64 (scanI A)) ∧ w = w' := by
  obtain ⟨c0, c1, c2, c3, f3⟩ := h.cells
  have hn := ok.n_le
  have hbn := ok.begun_le
  have H := Lib.hid h
  have OK := Lib.hid ok
  clear h ok
  go_enter Tryd.func31, Tryd.ntmps31
  go_wp2
  go_loop [4] (fun i => ∃ k : Nat, k ≤ A.begun ∧ i = .int .i64 k) (fun i => A.n - (intOf i).toNat)
  case atStart => exact ⟨0, Nat.zero_le _, rfl⟩
  case round =>
    obtain ⟨k, hk, rfl⟩ := hrel
    by_cases hkn : k < A.n
    · obtain ⟨s0, s1, s2, _, _, _⟩ := H.out.slot k hkn
      by_cases hkb : k < A.begun
      · have hp := OK.out.inc_pos k hkb
        have hb : ((A.inc k : Int) == 0) = false := by rw [beq_eq_false_iff_ne]; omega
        go_wp2
        go_round
        case rel => exact ⟨k + 1, by omega, by go_num⟩
        case measure => simp [intOf]; omega
      · have hp := OK.out.inc_zero k (by omega)
        have hb : ((A.inc k : Int) == 0) = true := by rw [beq_iff_eq]; omega
        have hv : scanI A = k := by unfold scanI; rw [if_pos (by omega)]; omega
        have HV := Lib.hid hv
        clear hv hp
        go_wp2
        go_ret
        rw [HV.out]
        exact ⟨rfl, rfl⟩
    · have hv : scanI A = -1 := by unfold scanI; rw [if_neg (by omega)]
      have HV := Lib.hid hv
      clear hv
      go_wp2
      go_ret
      rw [HV.out]
      exact ⟨rfl, rfl⟩

set_option maxHeartbeats 4000000 in
theorem rtake_raw {c : Nat} {m fcap : Nat} {fa : Option Addr} (hn : n ≤ 1000) (hb : b < n) (hc : c < 4503599627370496) (hne : q ≠ bv ∧ q ≠ bi ∧ q ≠ bs ∧ bv ≠ bi ∧ bv ≠ bs ∧ bi ≠ bs)
    (hN : Calls Tryd.prog 31 #[.pointer (some ⟨q, 0, none⟩)] w fun e w' => e = .returned (.int .i64 b) ∧ w = w')
    (c0 : w.cell? ⟨q, 0, none⟩ = some (.slice (some ⟨bv, 0, none⟩) n n)) (c1 : w.cell? ⟨q, 1, none⟩ = some (.slice (some ⟨bi, 0, none⟩) n n)) (c2 : w.cell? ⟨q, 2, none⟩ = some (.slice (some ⟨bs, 0, none⟩) n n)) (c3 : w.cell? ⟨q, 3, none⟩ = some (.slice fa 0 fcap))
    (s0 : w.cell? ⟨bv, b, none⟩ = some (.int .i64 v0)) (s1 : w.cell? ⟨bi, b, none⟩ = some (.int .i64 c)) {us0 : Bool} (s2 : w.cell? ⟨bs, b, none⟩ = some (.bool us0))
    (t0 : w.frozen? ⟨bv, b, none⟩ = false) (t1 : w.frozen? ⟨bi, b, none⟩ = false) (t2 : w.frozen? ⟨bs, b, none⟩ = false) :
    Calls Tryd.prog 15 #[.pointer (some ⟨q, 0, none⟩), .int .i64 x] w fun e w' => e = .returned (.tuple #[.int .i64 (1024 * ((c : Int) + 1) + ((b : Int) + 1)), .int .i64 0]) ∧
      ∃ nq, w' = (((w.drewN nq).setCell ⟨bv, b, none⟩ (.int .i64 x)).setCell ⟨bs, b, none⟩ (.bool true)).setCell ⟨bi, b, none⟩ (.int .i64 ((c : Int) + 1)) := by
  obtain ⟨n1, n2, n3, n4, n5, n6⟩ := hne
  have e1 : (q = bv) = False := by simp [n1]
  have e2 : (q = bi) = False := by simp [n2]
  have e3 : (q = bs) = False := by simp [n3]
  have e4 : (bv = bi) = False := by simp [n4]
  have e5 : (bv = bs) = False := by simp [n5]
  have e6 : (bi = bs) = False := by simp [n6]
  have e1' : (bv = q) = False := by simp; omega
  have e2' : (bi = q) = False := by simp; omega
  have e3' : (bs = q) = False := by simp; omega
  have e4' : (bi = bv) = False := by simp; omega
  have e5' : (bs = bv) = False := by simp; omega
  have e6' : (bs = bi) = False := by simp; omega
  go_enter Tryd.func15, Tryd.ntmps15
  go_wp2_with (go_at_call 31; refine hN.mono ?_; rintro e w' ⟨rfl, rfl⟩)
  go_region
  go_wp2
  go_ret2
  exact ⟨rfl, _, rfl⟩

set_option maxHeartbeats 4000000 in
theorem rtake_pop_raw {c g : Nat} {m fcap : Nat} (hn : n ≤ 1000) (hb : b < n) (hc : c < 4503599627370496) (hm : m < 1000) (hcap : m + 1 ≤ fcap) (hne : q ≠ bv ∧ q ≠ bi ∧ q ≠ bs ∧ bv ≠ bi ∧ bv ≠ bs ∧ bi ≠ bs)
    (hN : Calls Tryd.prog 31 #[.pointer (some ⟨q, 0, none⟩)] w fun e w' => e = .returned (.int .i64 b) ∧ w = w')
    (c0 : w.cell? ⟨q, 0, none⟩ = some (.slice (some ⟨bv, 0, none⟩) n n)) (c1 : w.cell? ⟨q, 1, none⟩ = some (.slice (some ⟨bi, 0, none⟩) n n)) (c2 : w.cell? ⟨q, 2, none⟩ = some (.slice (some ⟨bs, 0, none⟩) n n)) (c3 : w.cell? ⟨q, 3, none⟩ = some (.slice (some ⟨g, 0, none⟩) (m + 1) fcap)) (f3 : w.frozen? ⟨q, 3, none⟩ = false)
    (s0 : w.cell? ⟨bv, b, none⟩ = some (.int .i64 v0)) (s1 : w.cell? ⟨bi, b, none⟩ = some (.int .i64 c)) {us0 : Bool} (s2 : w.cell? ⟨bs, b, none⟩ = some (.bool us0))
    (t0 : w.frozen? ⟨bv, b, none⟩ = false) (t1 : w.frozen? ⟨bi, b, none⟩ = false) (t2 : w.frozen? ⟨bs, b, none⟩ = false) :
    Calls Tryd.prog 15 #[.pointer (some ⟨q, 0, none⟩), .int .i64 x] w fun e w' => e = .returned (.tuple #[.int .i64 (1024 * ((c : Int) + 1) + ((b : Int) + 1)), .int .i64 0]) ∧
      ∃ nq, w' = (((((w.setCell ⟨q, 3, none⟩ (.slice (some ⟨g, 0, none⟩) m fcap))).drewN nq).setCell ⟨bv, b, none⟩ (.int .i64 x)).setCell ⟨bs, b, none⟩ (.bool true)).setCell ⟨bi, b, none⟩ (.int .i64 ((c : Int) + 1)) := by
  obtain ⟨n1, n2, n3, n4, n5, n6⟩ := hne
  have e1 : (q = bv) = False := by simp [n1]
  have e2 : (q = bi) = False := by simp [n2]
  have e3 : (q = bs) = False := by simp [n3]
  have e4 : (bv = bi) = False := by simp [n4]
  have e5 : (bv = bs) = False := by simp [n5]
  have e6 : (bi = bs) = False := by simp [n6]
  have e1' : (bv = q) = False := by simp; omega
  have e2' : (bi = q) = False := by simp; omega
  have e3' : (bs = q) = False := by simp; omega
  have e4' : (bi = bv) = False := by simp; omega
  have e5' : (bs = bv) = False := by simp; omega
  have e6' : (bs = bi) = False := by simp; omega
  go_enter Tryd.func15, Tryd.ntmps15
  go_wp2_with (go_at_call 31; refine hN.mono ?_; rintro e w' ⟨rfl, rfl⟩)
  go_region
  go_wp2
  go_ret2
  exact ⟨rfl, _, rfl⟩

set_option maxHeartbeats 1000000 in
theorem rtake_full_raw (hN : Calls Tryd.prog 31 #[.pointer (some ⟨q, 0, none⟩)] w fun e w' => e = .returned (.int .i64 (-1)) ∧ w = w') :
    Calls Tryd.prog 15 #[.pointer (some ⟨q, 0, none⟩), .int .i64 x] w fun e w' => e = .returned (.tuple #[.int .i64 0, .int .i64 7]) ∧ w = w' := by
  go_enter Tryd.func15, Tryd.ntmps15
  go_wp2_with (go_at_call 31; refine hN.mono ?_; rintro e w' ⟨rfl, rfl⟩)
  go_ret2
  exact ⟨rfl, rfl⟩

theorem rslot_at {r s : Int} {w : World} (h : slotI r = s) (hw : -9223372036854775808 ≤ r ∧ r ≤ 9223372036854775807) :
    Calls Tryd.prog 19 #[.int .i64 r] w fun e w' => e = .returned (.int .i64 s) ∧ w = w' := (h ▸ rslot_calls r w hw).mono fun _ _ h => ⟨h.1, h.2.symm⟩
theorem rinc_at {r s : Int} {w : World} (h : incI r = s) (hw : -9223372036854775808 ≤ r ∧ r ≤ 9223372036854775807) :
    Calls Tryd.prog 20 #[.int .i64 r] w fun e w' => e = .returned (.int .i64 s) ∧ w' = w := h ▸ rinc_calls r w hw

/-- What At answers. -/
def AtIs (w : World) (q : Nat) (r : Int) (v : Int) : Prop := Calls Tryd.prog 5 #[.pointer (some ⟨q, 0, none⟩), .int .i64 r] w fun e w' => e = .returned (.int .i64 v) ∧ ∃ nq, w' = w.drewN nq

section
variable {r : Int} (hw : -9223372036854775808 ≤ r ∧ r ≤ 9223372036854775807)
include hw
set_option maxHeartbeats 1000000 in
theorem rat_low (hs : slotI r = 0) : AtIs w q r (-1) := by
  have HS := Lib.hid hs
  clear hs
  unfold AtIs
  go_enter Tryd.func5, Tryd.ntmps5
  go_wp2_with (go_at_call 19; refine (rslot_at HS.out hw).mono ?_; rintro e w' ⟨rfl, rfl⟩)
  go_quiet (fail)
  go_wp2
  go_ret
  exact ⟨rfl, _, rfl⟩
set_option maxHeartbeats 1000000 in
theorem rat_high {s : Nat} (hs : slotI r = (s : Int) + 1) (hsn : n ≤ s) (hs2 : s < 1000) (c2 : w.cell? ⟨q, 2, none⟩ = some (.slice (some ⟨bs, 0, none⟩) n n)) : AtIs w q r (-1) := by
  have HS := Lib.hid hs
  clear hs
  have d1 : decide ((s : Int) < 0) = false := by simp
  have d2 : decide ((n : Int) ≤ (s : Int)) = true := by simp; omega
  unfold AtIs
  go_enter Tryd.func5, Tryd.ntmps5
  go_wp2_with (go_at_call 19; refine (rslot_at HS.out hw).mono ?_; rintro e w' ⟨rfl, rfl⟩)
  go_quiet (fail)
  go_wp2
  go_ret
  exact ⟨rfl, _, rfl⟩
set_option maxHeartbeats 1000000 in
theorem rat_inc {s : Nat} {c : Int} (hs : slotI r = (s : Int) + 1) (hsn : s < n) (hs2 : s < 1000) (c1 : w.cell? ⟨q, 1, none⟩ = some (.slice (some ⟨bi, 0, none⟩) n n)) (c2 : w.cell? ⟨q, 2, none⟩ = some (.slice (some ⟨bs, 0, none⟩) n n)) (s2 : w.cell? ⟨bs, s, none⟩ = some (.bool true)) (s1 : w.cell? ⟨bi, s, none⟩ = some (.int .i64 c)) (hc : c ≠ incI r) : AtIs w q r (-1) := by
  have HS := Lib.hid hs
  clear hs
  have d1 : decide ((s : Int) < 0) = false := by simp
  have d2 : decide ((n : Int) ≤ (s : Int)) = false := by simp; omega
  have d3 : (s : Int) < (n : Int) := by omega
  obtain ⟨d, hd⟩ : ∃ d, incI r = d := ⟨_, rfl⟩
  have hcb : (c != d) = true := bne_iff_ne.2 (hd ▸ hc)
  have HI := Lib.hid hd
  clear hc hd
  unfold AtIs
  go_enter Tryd.func5, Tryd.ntmps5
  go_wp2_with (go_at_call 19; refine (rslot_at HS.out hw).mono ?_; rintro e w' ⟨rfl, rfl⟩)
  go_quiet ((go_at_call 20; exact Calls.quiet_of_same (rinc_at HI.out hw)))
  go_wp2
  go_ret
  exact ⟨rfl, _, rfl⟩
set_option maxHeartbeats 1000000 in
theorem rat_some {s : Nat} {c : Int} (hs : slotI r = (s : Int) + 1) (hsn : s < n) (hs2 : s < 1000) (c1 : w.cell? ⟨q, 1, none⟩ = some (.slice (some ⟨bi, 0, none⟩) n n)) (c2 : w.cell? ⟨q, 2, none⟩ = some (.slice (some ⟨bs, 0, none⟩) n n)) (s2 : w.cell? ⟨bs, s, none⟩ = some (.bool true)) (s1 : w.cell? ⟨bi, s, none⟩ = some (.int .i64 c)) (hc : incI r = c) : AtIs w q r s := by
  have HS := Lib.hid hs
  have HI := Lib.hid hc
  clear hs hc
  have d1 : decide ((s : Int) < 0) = false := by simp
  have d2 : decide ((n : Int) ≤ (s : Int)) = false := by simp; omega
  have d3 : (s : Int) < (n : Int) := by omega
  have hcb : (c != c) = false := by simp
  unfold AtIs
  go_enter Tryd.func5, Tryd.ntmps5
  go_wp2_with (go_at_call 19; refine (rslot_at HS.out hw).mono ?_; rintro e w' ⟨rfl, rfl⟩)
  go_quiet ((go_at_call 20; exact Calls.quiet_of_same (rinc_at HI.out hw)))
  go_wp2
  go_ret
  exact ⟨rfl, _, rfl⟩
end
end
end Go.Proofs.YtipdhjdlfdbkiaaDoor.RefArena
