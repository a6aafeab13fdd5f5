/- Layer 10: All over an arena of ints: the closure, and the function. -/
import Derived.Test.YtipdhjdlfdbkiaaDoorTrap
import Derived.Test.YtipdhjdlfdbkiaaDoorHeap2
import Derived.IntWalk
import Derived.Lib.Hide
import Derived.OwnWalk
namespace Go.Proofs.YtipdhjdlfdbkiaaDoor.Trap
set_option linter.unusedSimpArgs false
set_option linter.unusedVariables false
open Go.RowKit Go.Proofs Go.Proofs.YtipdhjdlfdbkiaaDoor.Heap Go.Proofs.YtipdhjdlfdbkiaaDoor.Refs Go.Proofs.YtipdhjdlfdbkiaaDoor.ArenaM Go.Proofs.YtipdhjdlfdbkiaaDoor.ArenaInt Go.Proofs.YtipdhjdlfdbkiaaDoor.TOwn
theorem cell_lt {w : World} {x : Addr} {v : Value} (h : w.cell? x = some v) : x.block < w.heap.size := by
  rcases Nat.lt_or_ge x.block w.heap.size with h' | h'
  · exact h'
  · simp [World.cell?, Array.getElem?_eq_none h'] at h
theorem cell_step {F : Nat → Prop} {a b : World} (hs : Step F a b) {x : Addr} {v : Value} (h : a.cell? x = some v) (hn : ¬ F x.block) : b.cell? x = some v :=
  (World.cell?_of_block (hs.block x.block (cell_lt h) hn)).trans h
theorem vals_take {vs : List Int} {k : Nat} {x : Int} (h : vs[k]? = some x) : vals (vs.take (k + 1)) = vals (vs.take k) ++ [.int .i64 x] := by
  have hk := (List.getElem?_eq_some_iff.1 h).1
  rw [← List.take_append_getElem hk]
  simp [vals, (List.getElem?_eq_some_iff.1 h).2]
set_option maxRecDepth 100000 in
set_option maxHeartbeats 4000000 in
theorem all_walk (w : World) (cl co ca p bs M : Nat) (fv : Value) (A : AM Int) (l vs : List Int) (d lc : Nat) (LA : Option Addr) (har : Ar w p bs fv A) (ok : A.Ok M)
    (hL : w.cell? ⟨cl, 0, none⟩ = some (.slice LA l.length lc)) (hA : w.cell? ⟨ca, 0, none⟩ = some (.pointer (some ⟨p, 0, none⟩)))
    (hO : w.heap[co]? = some (.cells #[.slice none 0 0] 22 (0, 0))) (hsrc : ∀ (j : Nat) (r : Int), l[j]? = some r → ∃ ad, LA = some ad ∧ w.cell? (ad.add j) = some (.int .i64 r) ∧ (ad.add j).block ≠ co)
    (hlen : l.length ≤ 1000000) (hrng : ∀ (j : Nat) (r : Int), l[j]? = some r → -9223372036854775808 ≤ r ∧ r ≤ 9223372036854775807) (n1 : cl ≠ co) (n2 : ca ≠ co) (n3 : ∀ k, Foot p bs fv k → ¬ k = co)
    (hd : d ≤ l.length) (hvs : ∀ (j : Nat) (r : Int), j < d → l[j]? = some r → ∃ i, A.Live r i ∧ vs[j]? = some (A.v i)) (hend : d = l.length ∨ ∃ r, l[d]? = some r ∧ A.Dead r) :
    Calls Tryd.prog 40 #[.pointer (some ⟨cl, 0, none⟩), .pointer (some ⟨co, 0, none⟩), .pointer (some ⟨ca, 0, none⟩)] w fun e w' =>
      Step (fun k => k = co) w w' ∧ ((d = l.length ∧ e = .returned (.tuple #[]) ∧ ∃ v, w'.heap[co]? = some (.cells #[v] 22 (0, 0)) ∧ w'.ownsRow w.heap.size 3 1 v d (vals (vs.take d))) ∨ ∃ r, l[d]? = some r ∧ e = .panicked (gone r)) := by
  have HAR := Lib.hid har
  have HO := Lib.hid hO
  have HSRC := Lib.hid hsrc
  have HRNG := Lib.hid hrng
  have HN3 := Lib.hid n3
  have HVS := Lib.hid hvs
  have HEND := Lib.hid hend
  have HLL := Lib.hid hL
  have HAA := Lib.hid hA
  clear har hO hsrc hrng n3 hvs hend hA
  go_enter Tryd.func40, Tryd.ntmps40
  go_wp2
  clear hL
  go_loopw [7] (fun s wr => ∃ k : Nat, k ≤ d ∧ s = .int .i64 k ∧ Hid (Step (fun k => k = co) w wr) ∧ ∃ v, Hid (wr.heap[co]? = some (.cells #[v] 22 (0, 0))) ∧ Hid (wr.ownsRow w.heap.size 3 1 v k (vals (vs.take k)))) (fun s _ => l.length - (intOf s).toNat)
  case atStart => exact ⟨0, by omega, rfl, Lib.hid (Step.refl _ _), _, HO, Lib.hid ⟨rfl, .inl ⟨rfl, rfl⟩⟩⟩
  case round =>
    obtain ⟨k, hk, rfl, HS, v, HV, HR⟩ := hrel
    by_cases hkl : k < l.length
    · obtain ⟨r, hr⟩ : ∃ r, l[k]? = some r := ⟨_, List.getElem?_eq_getElem hkl⟩
      obtain ⟨ad, rfl, hsc, hadne⟩ := HSRC.out k r hr
      have hrn := HRNG.out k r hr
      have z0 : wr.cell? (ad.add k) = some (.int .i64 r) := cell_step HS.out hsc hadne
      have zo : wr.drew.cell? ⟨co, 0, none⟩ = some v := by have := cell_of (i := 0) HV.out; simpa using this
      have za : wr.drew.cell? ⟨ca, 0, none⟩ = some (.pointer (some ⟨p, 0, none⟩)) := cell_step HS.out HAA.out n2
      have HAW := Lib.hid (HAR.out.step HS.out HN3.out)
      have hco := lt_of HO.out
      have hrl : ∀ k, v.ownBlock = some k → w.heap.size ≤ k := fun k hk => (HR.out.lt k hk).1
      have fo : wr.drew.frozen? ⟨co, 0, none⟩ = false := frozen_of HV.out
      by_cases hkd : k < d
      · obtain ⟨i, hi, hvi⟩ := HVS.out k r hkd hr
        obtain ⟨i0, hit, hz0, hz1, hz2⟩ := info_parts info_int
        have HI := Lib.hid hit
        have HZ0 := Lib.hid hz0
        have HZ1 := Lib.hid hz1
        have HZ2 := Lib.hid hz2
        clear hit hz0 hz1 hz2
        have hws := HS.out.size
        go_wp2
        go_region_law (first
          | (go_simp; go_at_call 22; refine (must_live (HAW.out.drewN (n := 1)) ok hrn hi).mono ?_; rintro e w' ⟨rfl, nq, hw'⟩
             ; have q1 : w'.cell? ⟨co, 0, none⟩ = some v := (by rw [hw']; exact zo)
             ; have q2 : (w'.alloc (.cells #[.int .i64 (A.v i)] 3)).cell? ⟨co, 0, none⟩ = some v := (World.cell?_alloc_lt _ _ _ (by rw [hw']; show co < wr.heap.size; omega)).trans q1
             ; have q3 : w'.frozen? ⟨co, 0, none⟩ = false := (by rw [hw']; exact fo)
             ; have K3 := Lib.hid (show w'.ownsRow w.heap.size 3 1 v k (vals (vs.take k)) from hw' ▸ row_drewN (row_drew HR.out))
             ; have K4 : w'.heap.size = wr.heap.size := (by rw [hw']; rfl)
             ; have HW := Lib.hid hw'; clear hw')
          | (refine step_append_lies _ rfl (.tmp 11) (.tmp 15) 22 rfl w.heap.size 3 i0 (.int .i64 0) 1 8 Tryd.underlying22 HI.out HZ0.out HZ1.out HZ2.out rfl (by decide) v k (vals (vs.take k)) (by simp [Act.eval, Act.put]) (K3.out.alloc _) ⟨w'.heap.size, 0, none⟩ 1 1 [.int .i64 (A.v i)] (by simp [Act.eval, Act.put]) rfl (news_one (by simp)) (by simp [Value.oneCell']) (by omega) (by unfold maxLen; omega) (by omega) (by simp; omega) (w'.heap.size + 1) (by simp) ?_; intro g cap w1 hown1 hgrow hat hlt
             ; have hb := hgrow.block co (by simp; omega) (fun e => by have := hrl co e.symm; omega)
             ; have q4 : w1.cell? ⟨co, 0, none⟩ = some v := (World.cell?_of_block (a := ⟨co, 0, none⟩) hb).trans q2
             ; have q5 : w1.frozen? ⟨co, 0, none⟩ = false := (World.frozen?_of_block (a := ⟨co, 0, none⟩) hb).trans ((World.frozen?_alloc_old _ _ _ (show co ≠ w'.heap.size from (by omega))).trans q3)
             ; have Q1 := Lib.hid hown1; have Q2 := Lib.hid hgrow; have Q3 := Lib.hid hat; have Q4 := Lib.hid hb; clear hown1 hgrow hat hlt hb))
        all_goals
          go_wp2
          go_roundw
          case rel =>
            refine ⟨k + 1, by omega, by go_num, Lib.hid ?_, .slice (some ⟨g, 0, none⟩) (k + 1) cap, Lib.hid ?_, Lib.hid ?_⟩
            · exact Step.setCell (F := fun k => k = co) (p := ⟨co, 0, none⟩) (Step.grown (Step.alloc (HW.out ▸ (HS.out.drew).drewN nq) _) Q2.out (fun j hj => .inr (hrl j hj))) (.inl rfl) _
            · have := heap_set_at (i := 0) (v := .slice (some ⟨g, 0, none⟩) (k + 1) cap) ((Q4.out.trans (heap_alloc_lt (by omega))).trans (by rw [HW.out]; exact HV.out))
              exact this
            · rw [vals_take hvi]
              exact ownsRow_setCell_below Q1.out (by show co < _; omega) _
          case measure => simp [intOf]; omega
      · have hdk : k = d := by omega
        subst hdk
        obtain ⟨r2, hr2, hdead⟩ : ∃ r, l[k]? = some r ∧ A.Dead r := by
          rcases HEND.out with h | h
          · omega
          · exact h
        obtain rfl : r = r2 := by rw [hr] at hr2; exact Option.some.inj hr2
        go_wp2
        go_region_dies
        all_goals (go_at_call 22; refine (must_dead (HAW.out.drewN (n := 1)) ok hrn hdead).mono ?_; rintro e w' ⟨rfl, nq, rfl⟩)
        all_goals exact ⟨rfl, (HS.out.drew).drewN nq, .inr ⟨r, hr, rfl⟩⟩
    · go_wp2
      have hdl : d = l.length := by omega
      have hkd : k = d := by omega
      subst hkd
      go_end0
      exact ⟨HS.out, .inl ⟨hdl, rfl, v, HV.out, HR.out⟩⟩
theorem heap_alloc_at' {w : World} {o : Obj} {k : Nat} (h : k = w.heap.size) : (w.alloc o).heap[k]? = some o := by subst h; exact heap_alloc_at
/-- The world in which All calls try. -/
def atTry (w : World) (p : Nat) (LA : Option Addr) (n lc : Nat) : World := ((w.alloc (.cells #[.pointer (some ⟨p, 0, none⟩)] 24)).alloc (.cells #[.slice LA n lc] 82)).alloc (.cells #[.slice none 0 0] 22)
def inTry (w : World) (p : Nat) (LA : Option Addr) (n lc : Nat) : World := ((atTry w p LA n lc).alloc (.cells #[.int .i64 0] 30)).alloc (.cells #[.bool false] 4)
theorem atTry_size (w : World) (p : Nat) (LA : Option Addr) (n lc : Nat) : (atTry w p LA n lc).heap.size = w.heap.size + 3 := by simp [atTry, World.size_alloc]
theorem inTry_size (w : World) (p : Nat) (LA : Option Addr) (n lc : Nat) : (inTry w p LA n lc).heap.size = w.heap.size + 5 := by simp [inTry, atTry, World.size_alloc]
theorem inTry_step (w : World) (p : Nat) (LA : Option Addr) (n lc : Nat) : Step (fun _ => False) w (inTry w p LA n lc) := (((((Step.refl _ w).alloc _).alloc _).alloc _).alloc _).alloc _
theorem inTry_heap (w : World) (p : Nat) (LA : Option Addr) (n lc : Nat) :
    (inTry w p LA n lc).heap[w.heap.size]? = some (.cells #[.pointer (some ⟨p, 0, none⟩)] 24 (0, 0)) ∧ (inTry w p LA n lc).heap[w.heap.size + 1]? = some (.cells #[.slice LA n lc] 82 (0, 0)) ∧
    (inTry w p LA n lc).heap[w.heap.size + 2]? = some (.cells #[.slice none 0 0] 22 (0, 0)) ∧ (inTry w p LA n lc).heap[w.heap.size + 3]? = some (.cells #[.int .i64 0] 30 (0, 0)) ∧ (inTry w p LA n lc).heap[w.heap.size + 4]? = some (.cells #[.bool false] 4 (0, 0)) := by
  unfold inTry atTry
  refine ⟨?_, ?_, ?_, ?_, ?_⟩
  · rw [heap_alloc_lt (by simp [World.size_alloc]; omega), heap_alloc_lt (by simp [World.size_alloc]; omega), heap_alloc_lt (by simp [World.size_alloc]; omega), heap_alloc_lt (by simp [World.size_alloc])]
    exact heap_alloc_at
  · rw [heap_alloc_lt (by simp [World.size_alloc]), heap_alloc_lt (by simp [World.size_alloc]), heap_alloc_lt (by simp [World.size_alloc])]
    exact heap_alloc_at' (by simp [World.size_alloc])
  · rw [heap_alloc_lt (by simp [World.size_alloc]), heap_alloc_lt (by simp [World.size_alloc])]
    exact heap_alloc_at' (by simp [World.size_alloc])
  · rw [heap_alloc_lt (by simp [World.size_alloc])]
    exact heap_alloc_at' (by simp [World.size_alloc])
  · exact heap_alloc_at' (by simp [World.size_alloc])
/-- What has been done when the closure is through. -/
structure Through (w w1 : World) (p : Nat) (LA : Option Addr) (n lc : Nat) : Prop where
  step : Step (fun k => k = w.heap.size + 2) (inTry w p LA n lc) w1
theorem Through.kept {w w1 : World} {p n lc : Nat} {LA : Option Addr} (h : Through w w1 p LA n lc) : Kept (atTry w p LA n lc) w1 := by
  obtain ⟨_, _, _, h3, h4⟩ := inTry_heap w p LA n lc
  unfold Kept
  rw [atTry_size]
  exact ⟨h.step.keeps h3 (by omega), h.step.keeps h4 (by omega)⟩
theorem Through.below {w w1 : World} {p n lc : Nat} {LA : Option Addr} {u v : Value} (h : Through w w1 p LA n lc) : Below w.heap.size w ((w1.setCell ⟨(atTry w p LA n lc).heap.size, 0, none⟩ u).setCell ⟨(atTry w p LA n lc).heap.size + 1, 0, none⟩ v) := by
  rw [atTry_size]
  have hs := ((inTry_step w p LA n lc).mono (G := fun k => w.heap.size ≤ k) (fun _ _ f => f.elim)).trans (G := fun k => k = w.heap.size + 2) h.step (fun i hi e => by omega)
  refine (Step.below (B := w.heap.size) (F := fun k => w.heap.size ≤ k) ?_ (fun _ h => h) (Nat.le_refl _))
  exact (hs.setCell (p := ⟨w.heap.size + 3, 0, none⟩) (.inl (by show w.heap.size ≤ w.heap.size + 3; omega)) _).setCell (p := ⟨w.heap.size + 3 + 1, 0, none⟩) (.inl (by show w.heap.size ≤ w.heap.size + 3 + 1; omega)) _
theorem all_in (w : World) (p bs M : Nat) (fv : Value) (A : AM Int) (l vs : List Int) (d lc : Nat) (LA : Option Addr) (har : Ar w p bs fv A) (ok : A.Ok M)
    (hsrc : ∀ (j : Nat) (r : Int), l[j]? = some r → ∃ ad, LA = some ad ∧ w.cell? (ad.add j) = some (.int .i64 r))
    (hlen : l.length ≤ 1000000) (hrng : ∀ (j : Nat) (r : Int), l[j]? = some r → -9223372036854775808 ≤ r ∧ r ≤ 9223372036854775807)
    (hd : d ≤ l.length) (hvs : ∀ (j : Nat) (r : Int), j < d → l[j]? = some r → ∃ i, A.Live r i ∧ vs[j]? = some (A.v i)) (hend : d = l.length ∨ ∃ r, l[d]? = some r ∧ A.Dead r) :
    Calls Tryd.prog 40 #[.pointer (some ⟨w.heap.size + 1, 0, none⟩), .pointer (some ⟨w.heap.size + 1 + 1, 0, none⟩), .pointer (some ⟨w.heap.size, 0, none⟩)] (inTry w p LA l.length lc) fun e w1 => Through w w1 p LA l.length lc ∧
      ((d = l.length ∧ e = .returned (.tuple #[]) ∧ ∃ v, w1.heap[w.heap.size + 2]? = some (.cells #[v] 22 (0, 0)) ∧ w1.ownsRow (w.heap.size + 5) 3 1 v d (vals (vs.take d))) ∨ ∃ r, l[d]? = some r ∧ e = .panicked (gone r)) := by
  obtain ⟨h0, h1, h2, h3, h4⟩ := inTry_heap w p LA l.length lc
  have hs := inTry_step w p LA l.length lc
  have := all_walk (inTry w p LA l.length lc) (w.heap.size + 1) (w.heap.size + 2) w.heap.size p bs M fv A l vs d lc LA (har.step hs fun _ _ h => h) ok (by rw [cell_of h1]; rfl) (by rw [cell_of h0]; rfl) h2 (fun j r hj => by
    obtain ⟨ad, e1, e2⟩ := hsrc j r hj
    exact ⟨ad, e1, cell_step hs e2 fun h => h, by have := cell_lt e2; omega⟩) hlen hrng (by omega) (by omega) (fun k hk => by have := har.lt k hk; omega) hd hvs hend
  refine this.mono ?_
  rintro e w1 ⟨g1, g2⟩
  refine ⟨⟨g1⟩, ?_⟩
  rcases g2 with ⟨a1, a2, v, a3, a4⟩ | g2
  · rw [inTry_size] at a4
    exact .inl ⟨a1, a2, v, a3, a4⟩
  · exact .inr g2
theorem all_try (w : World) (p bs M : Nat) (fv : Value) (A : AM Int) (l vs : List Int) (d lc : Nat) (LA : Option Addr) (har : Ar w p bs fv A) (ok : A.Ok M)
    (hsrc : ∀ (j : Nat) (r : Int), l[j]? = some r → ∃ ad, LA = some ad ∧ w.cell? (ad.add j) = some (.int .i64 r))
    (hlen : l.length ≤ 1000000) (hrng : ∀ (j : Nat) (r : Int), l[j]? = some r → -9223372036854775808 ≤ r ∧ r ≤ 9223372036854775807)
    (hd : d ≤ l.length) (hvs : ∀ (j : Nat) (r : Int), j < d → l[j]? = some r → ∃ i, A.Live r i ∧ vs[j]? = some (A.v i)) (hend : d = l.length ∨ ∃ r, l[d]? = some r ∧ A.Dead r) :
    Calls Tryd.prog 39 #[.func (.func 40) #[] #[.pointer (some ⟨w.heap.size + 1, 0, none⟩), .pointer (some ⟨w.heap.size + 1 + 1, 0, none⟩), .pointer (some ⟨w.heap.size, 0, none⟩)]] (atTry w p LA l.length lc) fun e w' =>
      Below w.heap.size w w' ∧ ((d = l.length ∧ e = .returned (.tuple #[.int .i64 0, .bool false]) ∧ ∃ v, w'.cell? ⟨w.heap.size + 2, 0, none⟩ = some v ∧ w'.ownsRow (w.heap.size + 5) 3 1 v d (vals (vs.take d))) ∨ ∃ r, l[d]? = some r ∧ e = .returned (.tuple #[.int .i64 r, .bool true])) := by
  have hin := all_in w p bs M fv A l vs d lc LA har ok hsrc hlen hrng hd hvs hend
  rcases hend with hdl | ⟨r, hr, hdead⟩
  · refine (AllTry_ok _ _ (fun w1 => Through w w1 p LA l.length lc ∧ ∃ v, w1.heap[w.heap.size + 2]? = some (.cells #[v] 22 (0, 0)) ∧ w1.ownsRow (w.heap.size + 5) 3 1 v d (vals (vs.take d))) (fun w1 h => h.1.kept) (hin.mono ?_)).mono ?_
    · rintro e w1 ⟨g1, ⟨_, g2, g3⟩ | ⟨r, g2, _⟩⟩
      · exact ⟨g2, g1, g3⟩
      · rw [hdl, List.getElem?_eq_none (Nat.le_refl _)] at g2; cases g2
    · rintro e w' ⟨rfl, w1, ⟨g1, v, g2, g3⟩, rfl⟩
      refine ⟨g1.below, .inl ⟨hdl, rfl, v, ?_, ?_⟩⟩
      · rw [atTry_size, World.cell?_setCell_other _ _ _ _ (by intro e; injection e with e1; omega), World.cell?_setCell_other _ _ _ _ (by intro e; injection e with e1; omega), cell_of g2]; rfl
      · rw [atTry_size]
        exact ownsRow_setCell_below (ownsRow_setCell_below g3 (by show w.heap.size + 3 < _; omega) _) (by show w.heap.size + 3 + 1 < _; omega) _
  · refine (AllTry_dies r _ _ (fun w1 => Through w w1 p LA l.length lc) (fun w1 h => h.kept) (hin.mono ?_)).mono ?_
    · rintro e w1 ⟨g1, ⟨g2, _, _⟩ | ⟨r2, g2, g3⟩⟩
      · rw [g2, List.getElem?_eq_none (Nat.le_refl _)] at hr; cases hr
      · rw [hr] at g2; obtain rfl := Option.some.inj g2
        exact ⟨g3, g1⟩
    · rintro e w' ⟨rfl, w1, g1, rfl⟩
      exact ⟨g1.below, .inr ⟨r, hr, rfl⟩⟩
set_option maxRecDepth 100000 in
set_option maxHeartbeats 4000000 in
theorem all_calls (w : World) (p bs M : Nat) (fv : Value) (A : AM Int) (l vs : List Int) (d lc : Nat) (LA : Option Addr) (har : Ar w p bs fv A) (ok : A.Ok M)
    (hsrc : ∀ (j : Nat) (r : Int), l[j]? = some r → ∃ ad, LA = some ad ∧ w.cell? (ad.add j) = some (.int .i64 r))
    (hlen : l.length ≤ 1000000) (hrng : ∀ (j : Nat) (r : Int), l[j]? = some r → -9223372036854775808 ≤ r ∧ r ≤ 9223372036854775807)
    (hd : d ≤ l.length) (hvs : ∀ (j : Nat) (r : Int), j < d → l[j]? = some r → ∃ i, A.Live r i ∧ vs[j]? = some (A.v i)) (hend : d = l.length ∨ ∃ r, l[d]? = some r ∧ A.Dead r) :
    Calls Tryd.prog 24 #[.pointer (some ⟨p, 0, none⟩), .slice LA l.length lc] w fun e w' =>
      Below w.heap.size w w' ∧ ((d = l.length ∧ ∃ v, e = .returned (.tuple #[v, .int .i64 0, .int .i64 0]) ∧ w'.ownsRow w.heap.size 3 1 v d (vals (vs.take d))) ∨ ∃ r, l[d]? = some r ∧ e = .returned (.tuple #[.slice none 0 0, .int .i64 r, .int .i64 9])) := by
  go_enter Tryd.func24, Tryd.ntmps24
  have hmf : ∀ (fn : Fn) (first cap : Array Value) (w : World), (Instr.makeFunc fn first cap).run Tryd.prog w = .ok (.func fn first cap) w := fun _ _ _ _ => rfl
  have HT := Lib.hid (all_try w p bs M fv A l vs d lc LA har ok hsrc hlen hrng hd hvs hend)
  clear har hsrc hrng hvs hend
  go_wp2_with fail
  refine HT.out.mono ?_
  rintro e w' ⟨hb, ⟨g1, rfl, v, g2, g3⟩ | ⟨r, g1, rfl⟩⟩
  · have HB := Lib.hid hb
    have G3 := Lib.hid g3
    clear hb g3
    go_wp2
    go_ret3
    exact ⟨HB.out, .inl ⟨g1, v, rfl, row_base G3.out (by omega)⟩⟩
  · have HB := Lib.hid hb
    clear hb
    go_wp2
    go_ret3
    exact ⟨HB.out, .inr ⟨r, g1, rfl⟩⟩
end Go.Proofs.YtipdhjdlfdbkiaaDoor.Trap
