/- Layer 10: how a reference that is given up is told, and what 'caught' hands back. -/
import Derived.Test.YtipdhjdlfdbkiaaDoorTrapW
import Derived.Test.YtipdhjdlfdbkiaaDoorItoaB
import Derived.Test.YtipdhjdlfdbkiaaDoorItoa
namespace Go.Proofs.YtipdhjdlfdbkiaaDoor.TrapS
set_option linter.unusedSimpArgs false
set_option linter.unusedVariables false
open Go.RowKit Go.Proofs Go.Proofs.YtipdhjdlfdbkiaaDoor.Heap Go.Proofs.YtipdhjdlfdbkiaaDoor.Refs Go.Proofs.YtipdhjdlfdbkiaaDoor.ArenaM Go.Proofs.YtipdhjdlfdbkiaaDoor.ArenaInt Go.Proofs.YtipdhjdlfdbkiaaDoor.TOwn Go.Proofs.YtipdhjdlfdbkiaaDoor.RefArena Go.Proofs.YtipdhjdlfdbkiaaDoor.Trap
/-- The table of strconv's lies as its text lays it. -/
def Laid (w : World) : Prop := Go.Lib.TabIs Tryd.prog w "internal/strconv.uint64pow10" .u64 Go.Lib.pow10Tab
def staleS : ByteArray := ⟨#[115, 116, 97, 108, 101, 32]⟩
theorem below_grow {B : Nat} {a w : World} (h : Below B a w) (hs : B ≤ w.heap.size) (n : Nat) (os : Array Obj) : Below B a (Go.Sort.grow (w.drewN n) os) :=
  ⟨h.os, h.tape, h.output, by have := h.size; simp [Go.Sort.grow]; omega, fun k hk => by
    have : (Go.Sort.grow (w.drewN n) os).heap[k]? = w.heap[k]? := by
      show (w.heap ++ os)[k]? = _
      rw [Array.getElem?_append, if_pos (by omega)]
    rw [this]; exact h.block k hk⟩
theorem nd_le : ∀ (k u : Nat), u < 10 ^ k → Go.Lib.nDigits u ≤ k + 1
  | 0, u, h => by rw [Go.Lib.nDigits_small (by simp at h; omega)]; omega
  | k + 1, u, h => by
    by_cases h10 : u < 10
    · rw [Go.Lib.nDigits_small h10]; omega
    · rw [Go.Lib.nDigits_big h10]
      have := nd_le k (u / 10) ((Nat.div_lt_iff_lt_mul (by decide)).2 (by rw [Nat.pow_succ] at h; exact h))
      omega
theorem itoa_le (n : Int) (hr : -9223372036854775808 ≤ n ∧ n ≤ 9223372036854775807) : (Go.Lib.itoa n).length ≤ 21 := by
  have h : n.natAbs < 10 ^ 19 := Nat.lt_of_le_of_lt (show n.natAbs ≤ 9223372036854775808 by omega) (by decide)
  unfold Go.Lib.itoa
  have h1 := nd_le 19 n.natAbs h
  split
  · rw [List.length_cons, Go.Lib.decDigits_length]; omega
  · rw [Go.Lib.decDigits_length, show n.toNat = n.natAbs by omega]; omega
theorem kept_two (w : World) (nq : Nat) : Kept w (((w.alloc (.cells #[.int .i64 0] 30)).alloc (.cells #[.bool false] 4)).drewN nq) := by
  refine ⟨?_, ?_⟩
  · exact (heap_alloc_lt (w := w.alloc _) (by simp)).trans heap_alloc_at
  · exact heap_alloc_at' (w := w.alloc _) (by simp)
theorem stale_calls (w : World) (n : Int) (hr : -9223372036854775808 ≤ n ∧ n ≤ 9223372036854775807) (hl : ∀ w', Below w.heap.size w w' → Laid w') :
    Calls Tryd.prog 7 #[.agg #[.int .i64 n]] w fun e w' => e = .returned (.string (staleS ++ ⟨(Go.Lib.itoa n).toArray⟩)) ∧ Below w.heap.size w w' := by
  obtain ⟨s, hs⟩ : ∃ s : ByteArray, s = ⟨(Go.Lib.itoa n).toArray⟩ := ⟨_, rfl⟩
  have hsz : s.size ≤ 21 := by rw [hs]; simp only [ByteArray.size, List.size_toArray]; exact itoa_le n hr
  have H := Lib.hid (fun (W : World) (h : Laid W) => Lib2.Tryd.strconv_Itoa n hr.1 hr.2 W h)
  rw [← hs] at H ⊢
  clear hs
  have HL := Lib.hid hl
  clear hl
  go_enter Tryd.func7, Tryd.ntmps7
  go_wp2_with fail
  refine (H.out _ (HL.out _ ((Below.refl _ _).alloc (Nat.le_refl _) _))).mono ?_
  rintro e w' ⟨rfl, k, os, hw'⟩
  have HB := Lib.hid (show Below w.heap.size w w' by rw [hw']; exact below_grow ((Below.refl _ _).alloc (Nat.le_refl _) _) (by simp) _ _)
  clear hw'
  go_wp2
  go_ret
  exact ⟨rfl, HB.out⟩
set_option maxRecDepth 100000 in
/-- The deferred closure of caught: of a frame that panics with a Stale. -/
theorem caught_stale (r : Int) (P Q : Addr) (x : Int) (y : Bool) (w : World) (hp : w.cell? P = some (.int .i64 x)) (hq : w.cell? Q = some (.bool y)) (fp : w.frozen? P = false) (fq : w.frozen? Q = false) (hne : P ≠ Q) :
    CallsD Tryd.prog 21 #[.pointer (some P), .pointer (some Q)] (.panicking (gone r)) w fun e u' w' =>
      e = .returned (.tuple #[]) ∧ u' = .panicking [{ v := .iface 37 (.agg #[.int .i64 r]), recovered := true }] ∧ w' = (w.setCell P (.int .i64 r)).setCell Q (.bool true) := by
  refine callsD_of_wpS Tryd.func21 rfl fun c₀ cs hu => ?_
  apply wpS_seq
  apply wpS_region
  simp [wpOpsS, go_sem, recoverD, hu, Tryd.ntmps21, Exit.thenS, gone]
  apply wpS_seq
  apply wpS_region
  simp [wpOpsS, go_sem, Exit.thenS]
  refine wpS_cond (t := true) (by simp [Act.eval, Array.replicate]) ?_
  simp only [if_true]
  have hta : ∀ w : World, (Instr.typeAssert (.iface 37 (.agg #[.int .i64 r])) 20 37 false).run Tryd.prog w = .ok (.agg #[.int .i64 r]) w := fun _ => by kernel_rfl
  have hfd : ∀ w : World, (Instr.field 37 (.agg #[.int .i64 r]) 0).run Tryd.prog w = .ok (.int .i64 r) w := fun _ => by kernel_rfl
  refine wpS_of_wp ?_
  have hq2 : (w.setCell P (.int .i64 r)).cell? Q = some (.bool y) := by rw [World.cell?_setCell_other _ _ _ _ hne]; exact hq
  have fq2 : (w.setCell P (.int .i64 r)).frozen? Q = false := by rw [World.frozen?_setCell]; exact fq
  go_wp2
  cases c₀
  simp_all [bodyPostS, results, Tryd.results21]
set_option maxRecDepth 100000 in
theorem caught_idle (P Q : Addr) (w : World) :
    CallsD Tryd.prog 21 #[.pointer (some P), .pointer (some Q)] .returning w fun e u' w' => e = .returned (.tuple #[]) ∧ u' = .returning ∧ w' = w := by
  refine callsD_of_wpS Tryd.func21 rfl fun c₀ cs hu => ?_
  apply wpS_seq
  apply wpS_region
  simp [wpOpsS, go_sem, recoverD, hu, Tryd.ntmps21, Exit.thenS]
  apply wpS_seq
  apply wpS_region
  simp [wpOpsS, go_sem, Exit.thenS]
  refine wpS_cond (t := false) (by simp [Act.eval, Array.replicate]) ?_
  simp only [Bool.false_eq_true, if_false]
  refine wpS_of_wp (wp_skip ?_)
  cases c₀
  simp_all [bodyPostS, results, Tryd.results21]
set_option maxRecDepth 100000 in
set_option maxHeartbeats 1000000 in
theorem caught_live {w : World} {p bs M : Nat} {fv : Value} {A : AM Int} {r : Int} (h : Ar w p bs fv A) (ok : A.Ok M) (hw : -9223372036854775808 ≤ r ∧ r ≤ 9223372036854775807) {i : Nat} (hl : A.Live r i) :
    Calls Tryd.prog 6 #[.pointer (some ⟨p, 0, none⟩), .int .i64 r] w fun e w' => e = .returned (.tuple #[.int .i64 (A.v i), .int .i64 0, .bool false]) ∧ Below w.heap.size w w' := by
  have hmf : ∀ (fn : Fn) (first cap : Array Value) (w : World), (Instr.makeFunc fn first cap).run Tryd.prog w = .ok (.func fn first cap) w := fun _ _ _ _ => rfl
  have HK := Lib.hid (fun W (h' : Ar W p bs fv A) => must_live h' ok hw hl)
  have HA := Lib.hid (h.step (((Step.refl (fun _ => False) w).alloc (.cells #[.int .i64 0] 30)).alloc (.cells #[.bool false] 4)) (fun _ _ f => f))
  clear h
  go_enter_defers Tryd.func6, Tryd.ntmps6
  go_wp2_with fail
  refine (HK.out _ HA.out).mono ?_
  rintro e w1 ⟨rfl, nq, rfl⟩
  obtain ⟨w1, hw1⟩ : ∃ w1, w1 = ((w.alloc (.cells #[.int .i64 0] 30)).alloc (.cells #[.bool false] 4)).drewN nq := ⟨_, rfl⟩
  have hK : Kept w w1 := hw1 ▸ kept_two w nq
  have HB := Lib.hid (show Below w.heap.size w w1 from hw1 ▸ below_drewN (((Below.refl _ _).alloc (Nat.le_refl _) _).alloc (by simp) _) nq)
  rw [← hw1]
  clear hw1
  obtain ⟨c1, f1, c2, f2⟩ := hK.cells
  go_wp2
  obtain ⟨r1, r2⟩ := two_cells (u := .int .i64 0) (v := .bool false) c1 c2
  refine leaves_cons (f := 21) (args := #[.pointer (some ⟨w.heap.size, 0, none⟩), .pointer (some ⟨w.heap.size + 1, 0, none⟩)]) (by simp) (by simp [go_sem]) ?_
  refine (caught_idle _ _ _).mono ?_
  rintro e u' w'' ⟨rfl, rfl, rfl⟩
  simp [Leaves, settle, results, Tryd.results6, go_sem, r1, r2]
  exact (HB.out.setCell (Nat.le_refl _) _).setCell (by show _ ≤ w.heap.size + 1; omega) _
set_option maxRecDepth 100000 in
set_option maxHeartbeats 1000000 in
theorem caught_dead {w : World} {p bs M : Nat} {fv : Value} {A : AM Int} {r : Int} (h : Ar w p bs fv A) (ok : A.Ok M) (hw : -9223372036854775808 ≤ r ∧ r ≤ 9223372036854775807) (hd : A.Dead r) :
    Calls Tryd.prog 6 #[.pointer (some ⟨p, 0, none⟩), .int .i64 r] w fun e w' => e = .returned (.tuple #[.int .i64 0, .int .i64 r, .bool true]) ∧ Below w.heap.size w w' := by
  have hmf : ∀ (fn : Fn) (first cap : Array Value) (w : World), (Instr.makeFunc fn first cap).run Tryd.prog w = .ok (.func fn first cap) w := fun _ _ _ _ => rfl
  have HK := Lib.hid (fun W (h' : Ar W p bs fv A) => must_dead h' ok hw hd)
  have HA := Lib.hid (h.step (((Step.refl (fun _ => False) w).alloc (.cells #[.int .i64 0] 30)).alloc (.cells #[.bool false] 4)) (fun _ _ f => f))
  clear h
  go_enter_defers Tryd.func6, Tryd.ntmps6
  go_wp2_with fail
  refine (HK.out _ HA.out).mono ?_
  rintro e w1 ⟨rfl, nq, rfl⟩
  obtain ⟨w1, hw1⟩ : ∃ w1, w1 = ((w.alloc (.cells #[.int .i64 0] 30)).alloc (.cells #[.bool false] 4)).drewN nq := ⟨_, rfl⟩
  have hK : Kept w w1 := hw1 ▸ kept_two w nq
  have HB := Lib.hid (show Below w.heap.size w w1 from hw1 ▸ below_drewN (((Below.refl _ _).alloc (Nat.le_refl _) _).alloc (by simp) _) nq)
  rw [← hw1]
  clear hw1
  obtain ⟨c1, f1, c2, f2⟩ := hK.cells
  obtain ⟨r1, r2⟩ := two_cells (u := .int .i64 r) (v := .bool true) c1 c2
  refine leaves_cons (f := 21) (args := #[.pointer (some ⟨w.heap.size, 0, none⟩), .pointer (some ⟨w.heap.size + 1, 0, none⟩)]) (by simp) (by simp [go_sem]) ?_
  refine (caught_stale r _ _ _ _ _ c1 c2 f1 f2 (by intro e; injection e with e1; omega)).mono ?_
  rintro e u' w'' ⟨rfl, rfl, rfl⟩
  simp [Leaves, settle, results, Tryd.results6, go_sem, r1, r2]
  exact (HB.out.setCell (Nat.le_refl _) _).setCell (by show _ ≤ w.heap.size + 1; omega) _
end Go.Proofs.YtipdhjdlfdbkiaaDoor.TrapS
/- The law TrapMust: its walk. -/
namespace Go.Proofs.YtipdhjdlfdbkiaaDoor.TrapS
set_option linter.unusedSimpArgs false
set_option linter.unusedVariables false
open Go.RowKit Go.Proofs Go.Proofs.YtipdhjdlfdbkiaaDoor.Heap Go.Proofs.YtipdhjdlfdbkiaaDoor.Refs Go.Proofs.YtipdhjdlfdbkiaaDoor.ArenaM Go.Proofs.YtipdhjdlfdbkiaaDoor.ArenaInt Go.Proofs.YtipdhjdlfdbkiaaDoor.TOwn Go.Proofs.YtipdhjdlfdbkiaaDoor.RefArena Go.Proofs.YtipdhjdlfdbkiaaDoor.Trap
open Go.Proofs.YtipdhjdlfdbkiaaDoorW.PrintWords
theorem cellC {kk : IntKind} {w : World} {A : Option Addr} {n : Nat} {xs : List Int} (h : Kd.C (Kd.int kk) w A n xs) {j : Nat} {x : Int} (hx : xs[j]? = some x) : ∃ ad, A = some ad ∧ w.cell? (ad.add j) = some (.int kk x) := by
  obtain ⟨h1, h2, h3⟩ := h
  have hj := (List.getElem?_eq_some_iff.1 hx).1
  obtain ⟨ad, rfl, h4⟩ := h3 (by omega)
  obtain ⟨c, hc, hk, hu⟩ := h4 j x hx
  obtain rfl : c = [.int kk x] := hk
  have := hu 0 (.int kk x) rfl
  refine ⟨ad, rfl, ?_⟩
  have e : j * (Kd.int kk).sz + 0 = j := by show j * 1 + 0 = j; omega
  rw [e] at this
  exact this
def In64 (x : Int) : Prop := -9223372036854775808 ≤ x ∧ x ≤ 9223372036854775807
/-- The rest of the law, behind its first test. -/
theorem texts_same (w : World) (n : Int) (hr : In64 n) (hl : ∀ w', Below w.heap.size w w' → Laid w') : ∃ s : ByteArray, s.size ≤ 21 ∧
    Calls Tryd.prog 7 #[.agg #[.int .i64 n]] w (fun e w' => e = .returned (.string (staleS ++ s)) ∧ Below w.heap.size w w') ∧ ∀ w', Calls Tryd.prog 8 #[.int .i64 n] w' fun e w2 => e = .returned (.string s) ∧ Below w'.heap.size w' w2 :=
  ⟨⟨(Go.Lib.itoa n).toArray⟩, by simp only [ByteArray.size, List.size_toArray]; exact itoa_le n hr, stale_calls w n hr hl, fun w' => PTrapMust.boscagebase_Itoa.calls 21 n _ w' (ItoaB.itoa_tells n hr)⟩
set_option maxRecDepth 100000 in
set_option maxHeartbeats 8000000 in
theorem trapmust_walk (w : World) (AV AF : Option Addr) (lv lf : List Int) (cv cf : Nat) (r : Int) (hv : Kd.C (Kd.int .i64) w AV lv.length lv) (hf : Kd.C (Kd.int .u8) w AF lf.length lf)
    (hu8 : ∀ (j : Nat) (x : Int), lf[j]? = some x → 0 ≤ x ∧ x ≤ 255) (hi64 : ∀ (j : Nat) (x : Int), lv[j]? = some x → -9223372036854775808 ≤ x ∧ x ≤ 9223372036854775807) (hr : In64 r) (hl : ∀ w', Below w.heap.size w w' → Laid w') :
    Calls Tryd.prog 3 #[.slice AV lv.length cv, .slice AF lf.length cf, .int .i64 r] w fun e w' => e = .returned (.bool true) ∧ Below w.heap.size w w' := by
  have HM := Lib.hid (made_walk w AV AF lv lf cv cf (fun j x hx => cellC hv hx) (fun j x hx => by
      obtain ⟨ad, e1, e2⟩ := cellC hf hx
      exact ⟨ad, e1, e2, hu8 j x hx⟩) hv.2.1 hf.2.1)
  have HL := Lib.hid hl
  clear hv hf hu8 hi64 hl
  go_enter Tryd.func3, Tryd.ntmps3
  go_wp2_with fail
  refine HM.out.mono ?_
  rintro e w1 ⟨p, bs, fv, A, M, p2, bs2, fv2, q, bv, bi, bb, rv, rfl, hT, hM12, hvin⟩
  have HT := Lib.hid hT
  clear hT hvin
  rcases A.live_or r with ⟨i, hli⟩ | hd
  · go_wp2_with fail
    refine (r_at_live HT.out.br HT.out.own.ok hr hli).mono ?_
    rintro e w2 ⟨rfl, nq, rfl⟩
    have HT2 := Lib.hid (HT.out.drewN (n := nq))
    go_wp2_with fail
    refine (caught_live HT2.out.own.ar HT2.out.own.ok hr hli).mono ?_
    rintro e w3 ⟨rfl, hb3⟩
    have HT3 := Lib.hid (HT2.out.fresh hb3)
    clear HT HT2 hb3
    obtain ⟨c0, _, _, _, _⟩ := HT3.out.br.cells
    obtain ⟨s0, _, _, _, _, _⟩ := HT3.out.br.slot i hli.lt
    have hin := hli.lt
    have hi0 : ¬ ((i : Int) < 0) := by omega
    have hi1 : (0 : Int) ≤ i := by omega
    have hi2 : (i : Int) < A.n := by omega
    obtain ⟨s, hsz, hs1, hs2⟩ := texts_same w3 r hr (fun w' hb => HL.out w' (HT3.out.own.below.trans (hb.mono (Nat.le_trans HT3.out.own.size (Nat.le_refl _)))))
    have HS1 := Lib.hid hs1
    have HS2 := Lib.hid hs2
    clear hs1 hs2
    go_wp2_with fail
    refine HS1.out.mono ?_
    rintro e w4 ⟨rfl, hb4⟩
    have HT4 := Lib.hid (HT3.out.fresh hb4)
    clear hb4 HT3
    go_wp2_with fail
    refine (HS2.out _).mono ?_
    rintro e w5 ⟨rfl, hb5⟩
    have HT5 := Lib.hid (HT4.out.fresh hb5)
    clear hb5 HT4
    go_wp2_with fail
    refine (works_calls _).mono ?_
    rintro e w7 ⟨rfl, hb7⟩
    have HT7 := Lib.hid (HT5.out.fresh hb7)
    clear hb7 HT5
    go_wp2
    go_ret
    exact ⟨rfl, HT7.out.own.below⟩
  · go_wp2_with fail
    refine (r_at_dead HT.out.br HT.out.own.ok hr hd).mono ?_
    rintro e w2 ⟨rfl, nq, rfl⟩
    have HT2 := Lib.hid (HT.out.drewN (n := nq))
    go_wp2_with fail
    refine (caught_dead HT2.out.own.ar HT2.out.own.ok hr hd).mono ?_
    rintro e w3 ⟨rfl, hb3⟩
    have HT3 := Lib.hid (HT2.out.fresh hb3)
    clear HT HT2 hb3
    obtain ⟨s, hsz, hs1, hs2⟩ := texts_same w3 r hr (fun w' hb => HL.out w' (HT3.out.own.below.trans (hb.mono (Nat.le_trans HT3.out.own.size (Nat.le_refl _)))))
    have HS1 := Lib.hid hs1
    have HS2 := Lib.hid hs2
    clear hs1 hs2
    go_wp2_with fail
    refine HS1.out.mono ?_
    rintro e w4 ⟨rfl, hb4⟩
    have HT4 := Lib.hid (HT3.out.fresh hb4)
    clear hb4 HT3
    go_wp2_with fail
    refine (HS2.out _).mono ?_
    rintro e w5 ⟨rfl, hb5⟩
    have HT5 := Lib.hid (HT4.out.fresh hb5)
    clear hb5 HT4
    go_wp2_with fail
    refine (works_calls _).mono ?_
    rintro e w7 ⟨rfl, hb7⟩
    have HT7 := Lib.hid (HT5.out.fresh hb7)
    clear hb7 HT5
    go_wp2
    go_ret
    exact ⟨rfl, HT7.out.own.below⟩
end Go.Proofs.YtipdhjdlfdbkiaaDoor.TrapS
