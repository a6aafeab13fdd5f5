/- HistAhead's walk: by hand. -/
import Derived.Test.YtipdhjdlfdbkiaaPHistAheadx
import Derived.Test.YtipdhjdlfdbkiaaPureHistAhead
import Derived.Deep.QuietTactic
import Derived.BigQuiet
namespace Go.Proofs.Ytipdhjdlfdbkiaa.PHistAhead
open Go.RowKit Go.Proofs.YtipdhjdlfdbkiaaW.PrintWords Go.Proofs.YtipdhjdlfdbkiaaW.PrintLast Go.Proofs.YtipdhjdlfdbkiaaW.PrintMore
set_option linter.unusedVariables false
set_option linter.unusedSimpArgs false
/-- A world that comes of w by what turns no block of w's. -/
structure After (w : World) where
  at_ : World
  below : Below w.heap.size w at_
instance (w : World) : Nonempty (After w) := ⟨⟨w, Below.refl _ _⟩⟩
theorem wp_region_after {P : Program} {id : Nat} {Q : Exit → Act → World → Prop} {a : Act} {w : World} {l : List Oper} (hm : P.follows .mixedOrders = true) (hB : Region.lexB .any l.toArray = true)
    (h : wpQuiet P l.toArray (fun w' => ∃ p : After w, w' = p.at_) (fun a' => ∀ w', (∃ p : After w, w' = p.at_) → Q .normal a' w') l a) : (Code.region id l.toArray true).wp P Q a w :=
  wp_region_quiet (C := fun w' => ∃ p : After w, w' = p.at_) hm hB ⟨⟨w.drew, (Below.refl _ _).drew⟩, rfl⟩ (by simpa using h)
theorem after_of {P : Program} {f : FuncId} {args : Array Value} {w : World} {v : Value} (h : ∀ w', Calls P f args w' fun e w'' => e = .returned v ∧ Below w'.heap.size w' w'') (p : After w) : Calls P f args p.at_ fun e w'' => e = .returned v ∧ ∃ q : After w, w'' = q.at_ :=
  (h p.at_).mono fun _ _ ⟨he, hb⟩ => ⟨he, ⟨_, below_step p.below hb⟩, rfl⟩
theorem after_cell {w : World} {ad : Addr} {v : Value} (h : w.cell? ad = some v) (p : After w) : p.at_.cell? ad = some v := (p.below.cell (World.block_lt_of_cell? w _ h)).trans h
/-- An op as a value; a document's op. -/
def opV (x : S78) : Value := .agg #[.int .i64 x.f0, .int .i64 x.f1.f0, .string x.f1.f1, .string x.f1.f2, .string x.f1.f3, .int .i64 x.f1.f4, .int .i64 x.f2.f0, .bool x.f2.f1, .string x.f2.f2, .string x.f2.f3, .int .i64 x.f2.f4, .bool x.f3, .int .i64 x.f4, .int .i64 x.f5]
theorem ahead_calls (x y : S78) (w : World) : Calls Try.prog 48 #[opV x, opV y] w fun e w' => e = .returned (.bool (ahd x y)) ∧ Below w.heap.size w w' :=
  hist_Ahead.calls x.f0 x.f1.f0 x.f1.f1 x.f1.f2 x.f1.f3 x.f1.f4 x.f2.f0 x.f2.f1 x.f2.f2 x.f2.f3 x.f2.f4 x.f3 x.f4 x.f5 y.f0 y.f1.f0 y.f1.f1 y.f1.f2 y.f1.f3 y.f1.f4 y.f2.f0 y.f2.f1 y.f2.f2 y.f2.f3 y.f2.f4 y.f3 y.f4 y.f5 _ w (by
    unfold hist_Ahead.f ahd
    cases x.f3 <;> rfl)
theorem ref_calls (x y : S78) (w : World) : Calls Try.prog 49 #[opV x, opV y] w fun e w' => e = .returned (.bool (ahd x y)) ∧ Below w.heap.size w w' :=
  boscageref32_Ahead.calls x.f0 x.f1.f0 x.f1.f1 x.f1.f2 x.f1.f3 x.f1.f4 x.f2.f0 x.f2.f1 x.f2.f2 x.f2.f3 x.f2.f4 x.f3 x.f4 x.f5 y.f0 y.f1.f0 y.f1.f1 y.f1.f2 y.f1.f3 y.f1.f4 y.f2.f0 y.f2.f1 y.f2.f2 y.f2.f3 y.f2.f4 y.f3 y.f4 y.f5 _ w (by
    unfold boscageref32_Ahead.f ahd
    cases x.f3 <;> rfl)
theorem give_calls (x : S78) (w : World) : Calls Try.prog 47 #[opV x] w fun e w' => e = .returned (opV x) ∧ Below w.heap.size w w' :=
  boscagelaw32_Give.calls x.f0 x.f1.f0 x.f1.f1 x.f1.f2 x.f1.f3 x.f1.f4 x.f2.f0 x.f2.f1 x.f2.f2 x.f2.f3 x.f2.f4 x.f3 x.f4 x.f5 x.f0 x.f1.f0 x.f1.f1 x.f1.f2 x.f1.f3 x.f1.f4 x.f2.f0 x.f2.f1 x.f2.f2 x.f2.f3 x.f2.f4 x.f3 x.f4 x.f5 w rfl
theorem works_calls (w : World) : Calls Try.prog 44 #[] w fun e w' => e = .returned (.bool true) ∧ Below w.heap.size w w' :=
  boscagelaw32_works.calls 1000 true w (works_tells (by omega))
/-- The cells of an op that lies in memory. -/
def Cells (w : World) (b o : Nat) (x : S78) : Prop := w.cell? ⟨b, o, none⟩ = some (.int .i64 x.f0) ∧ w.cell? ⟨b, o + 1, none⟩ = some (.int .i64 x.f1.f0) ∧ w.cell? ⟨b, o + 2, none⟩ = some (.string x.f1.f1) ∧ w.cell? ⟨b, o + 3, none⟩ = some (.string x.f1.f2) ∧ w.cell? ⟨b, o + 4, none⟩ = some (.string x.f1.f3) ∧ w.cell? ⟨b, o + 5, none⟩ = some (.int .i64 x.f1.f4) ∧ w.cell? ⟨b, o + 6, none⟩ = some (.int .i64 x.f2.f0) ∧ w.cell? ⟨b, o + 7, none⟩ = some (.bool x.f2.f1) ∧ w.cell? ⟨b, o + 8, none⟩ = some (.string x.f2.f2) ∧ w.cell? ⟨b, o + 9, none⟩ = some (.string x.f2.f3) ∧ w.cell? ⟨b, o + 10, none⟩ = some (.int .i64 x.f2.f4) ∧ w.cell? ⟨b, o + 11, none⟩ = some (.bool x.f3) ∧ w.cell? ⟨b, o + 12, none⟩ = some (.int .i64 x.f4) ∧ w.cell? ⟨b, o + 13, none⟩ = some (.int .i64 x.f5)
theorem box_cells {w : World} {b : Nat} {t : TypeId} {x : S78} (h : w.heap[b]? = some (.cells #[.int .i64 x.f0, .int .i64 x.f1.f0, .string x.f1.f1, .string x.f1.f2, .string x.f1.f3, .int .i64 x.f1.f4, .int .i64 x.f2.f0, .bool x.f2.f1, .string x.f2.f2, .string x.f2.f3, .int .i64 x.f2.f4, .bool x.f3, .int .i64 x.f4, .int .i64 x.f5] t (0, 0))) : Cells w b 0 x := by
  refine ⟨?_, ?_, ?_, ?_, ?_, ?_, ?_, ?_, ?_, ?_, ?_, ?_, ?_, ?_⟩ <;> (rw [cell_row h]; rfl)
/-- An op's load, run in one piece. -/
theorem load_op (t : TypeId) (ht : t = 78 ∨ t = 80) {w : World} {ad : Addr} {x : S78} (h0 : w.cell? ad = some (.int .i64 x.f0)) (h1 : w.cell? ⟨ad.block, ad.off + 1, none⟩ = some (.int .i64 x.f1.f0)) (h2 : w.cell? ⟨ad.block, ad.off + 2, none⟩ = some (.string x.f1.f1)) (h3 : w.cell? ⟨ad.block, ad.off + 3, none⟩ = some (.string x.f1.f2)) (h4 : w.cell? ⟨ad.block, ad.off + 4, none⟩ = some (.string x.f1.f3)) (h5 : w.cell? ⟨ad.block, ad.off + 5, none⟩ = some (.int .i64 x.f1.f4)) (h6 : w.cell? ⟨ad.block, ad.off + 6, none⟩ = some (.int .i64 x.f2.f0)) (h7 : w.cell? ⟨ad.block, ad.off + 7, none⟩ = some (.bool x.f2.f1)) (h8 : w.cell? ⟨ad.block, ad.off + 8, none⟩ = some (.string x.f2.f2)) (h9 : w.cell? ⟨ad.block, ad.off + 9, none⟩ = some (.string x.f2.f3)) (h10 : w.cell? ⟨ad.block, ad.off + 10, none⟩ = some (.int .i64 x.f2.f4)) (h11 : w.cell? ⟨ad.block, ad.off + 11, none⟩ = some (.bool x.f3)) (h12 : w.cell? ⟨ad.block, ad.off + 12, none⟩ = some (.int .i64 x.f4)) (h13 : w.cell? ⟨ad.block, ad.off + 13, none⟩ = some (.int .i64 x.f5)) : (Instr.loadAt t (.pointer (some ad))).run Try.prog w = .ok (opV x) w := by
  unfold opV
  rcases ht with rfl | rfl <;> go_simp
/-- An op's load, behind a name that the walk does not open. -/
noncomputable def ldW (t : TypeId) (p : Value) : Sem Value := Instr.loadAt t p
theorem ldW_op (p : Value) : Instr.loadAt 78 p = ldW 78 p := rfl
theorem ldW_ref (p : Value) : Instr.loadAt 80 p = ldW 80 p := rfl
/-- .. in each world that turns none of w's blocks. -/
theorem load_at {w : World} {A : Option Addr} {n : Nat} {xs : List S78} (h : Kd.C k78 w A n xs) (i : Nat) (hi : i < n) (hl : n = xs.length) : ∃ (ad : Addr) (x : S78), A = some ad ∧ xs[i]? = some x ∧ (∀ p : After w, (ldW 78 (.pointer (some (ad.add (i * 14))))).run Try.prog p.at_ = .ok (opV x) p.at_) ∧ (∀ p : After w, p.at_.cell? (ad.add (i * 14)) = some (.int .i64 x.f0)) := by
  obtain ⟨ad, hA, q⟩ := at_T78 h (i : Int) (by omega) (by omega)
  simp only [Int.toNat_natCast] at q
  obtain ⟨q0, q1, q2, q3, q4, q5, q6, q7, q8, q9, q10, q11, q12, q13⟩ := q
  refine ⟨ad, rd_T78 xs (i : Int), hA, ?_, fun p => load_op _ (.inl rfl) (after_cell q0 p) (after_cell q1 p) (after_cell q2 p) (after_cell q3 p) (after_cell q4 p) (after_cell q5 p) (after_cell q6 p) (after_cell q7 p) (after_cell q8 p) (after_cell q9 p) (after_cell q10 p) (after_cell q11 p) (after_cell q12 p) (after_cell q13 p), after_cell q0⟩
  unfold rd_T78
  rw [Int.toNat_natCast, List.getD_eq_getElem?_getD, List.getElem?_eq_getElem (by omega)]; rfl
theorem load_box {w : World} {b : Nat} {x : S78} (h : Cells w b 0 x) (p : After w) : (ldW 80 (.pointer (some ⟨b, 0, none⟩))).run Try.prog p.at_ = .ok (opV x) p.at_ := by
  obtain ⟨q0, q1, q2, q3, q4, q5, q6, q7, q8, q9, q10, q11, q12, q13⟩ := h
  exact load_op _ (.inr rfl) (after_cell q0 p) (after_cell q1 p) (after_cell q2 p) (after_cell q3 p) (after_cell q4 p) (after_cell q5 p) (after_cell q6 p) (after_cell q7 p) (after_cell q8 p) (after_cell q9 p) (after_cell q10 p) (after_cell q11 p) (after_cell q12 p) (after_cell q13 p)
attribute [local go_sem ↓] ldW_op ldW_ref
set_option maxHeartbeats 16000000 in
set_option maxRecDepth 100000 in
theorem law_calls (A0 : Option Addr) (c0 : Nat) (l0 : List S127) (a b : S78) (w : World) (hr0 : Kd.C k127 w A0 l0.length l0) (hc0 : l0.length ≤ c0) :
    Calls Try.prog 10 #[.slice A0 l0.length c0, opV a, opV b] w fun e w' => e = .returned (.bool true) ∧ Below w.heap.size w w' := by
  have HR0 := Aside0.mk hr0
  clear hr0
  obtain ⟨W, hW⟩ : ∃ W, W = (w.alloc (.cells #[.int .i64 a.f0, .int .i64 a.f1.f0, .string a.f1.f1, .string a.f1.f2, .string a.f1.f3, .int .i64 a.f1.f4, .int .i64 a.f2.f0, .bool a.f2.f1, .string a.f2.f2, .string a.f2.f3, .int .i64 a.f2.f4, .bool a.f3, .int .i64 a.f4, .int .i64 a.f5] 80)).alloc (.cells #[.int .i64 b.f0, .int .i64 b.f1.f0, .string b.f1.f1, .string b.f1.f2, .string b.f1.f3, .int .i64 b.f1.f4, .int .i64 b.f2.f0, .bool b.f2.f1, .string b.f2.f2, .string b.f2.f3, .int .i64 b.f2.f4, .bool b.f3, .int .i64 b.f4, .int .i64 b.f5] 80) := ⟨_, rfl⟩
  have hbW : Below w.heap.size w W := hW ▸ ((Below.refl _ _).alloc (Nat.le_refl _) _).alloc (by simp) _
  have ca : Cells W w.heap.size 0 a := box_cells (t := 80) (by rw [hW, Below.heap_alloc _ _ _ (by simp)]; exact alloc_at)
  have cb : Cells W (w.heap.size + 1) 0 b := box_cells (t := 80) (by rw [hW]; have := alloc_at (w := w.alloc (.cells #[.int .i64 a.f0, .int .i64 a.f1.f0, .string a.f1.f1, .string a.f1.f2, .string a.f1.f3, .int .i64 a.f1.f4, .int .i64 a.f2.f0, .bool a.f2.f1, .string a.f2.f2, .string a.f2.f3, .int .i64 a.f2.f4, .bool a.f3, .int .i64 a.f4, .int .i64 a.f5] 80)) (o := .cells #[.int .i64 b.f0, .int .i64 b.f1.f0, .string b.f1.f1, .string b.f1.f2, .string b.f1.f3, .int .i64 b.f1.f4, .int .i64 b.f2.f0, .bool b.f2.f1, .string b.f2.f2, .string b.f2.f3, .int .i64 b.f2.f4, .bool b.f3, .int .i64 b.f4, .int .i64 b.f5] 80 (0, 0)); rw [show (w.alloc (.cells #[.int .i64 a.f0, .int .i64 a.f1.f0, .string a.f1.f1, .string a.f1.f2, .string a.f1.f3, .int .i64 a.f1.f4, .int .i64 a.f2.f0, .bool a.f2.f1, .string a.f2.f2, .string a.f2.f3, .int .i64 a.f2.f4, .bool a.f3, .int .i64 a.f4, .int .i64 a.f5] 80)).heap.size = w.heap.size + 1 by simp] at this; exact this)
  have la := load_box ca
  have lb := load_box cb
  clear ca cb
  have HBW := Aside0.mk hbW
  clear hbW
  obtain ⟨rr, hrr⟩ : ∃ rr, rr = ahd a b := ⟨_, rfl⟩
  have CA := Aside0.mk (after_of (w := W) (ahead_calls a b))
  have CR := Aside0.mk (after_of (w := W) (ref_calls a b))
  have CG1 := Aside0.mk (after_of (w := W) (give_calls a))
  have CG2 := Aside0.mk (after_of (w := W) (give_calls b))
  have CW := Aside0.mk (after_of (w := W) works_calls)
  rw [← hrr] at CA CR
  clear hrr
  rw [show opV a = .agg #[.int .i64 a.f0, .int .i64 a.f1.f0, .string a.f1.f1, .string a.f1.f2, .string a.f1.f3, .int .i64 a.f1.f4, .int .i64 a.f2.f0, .bool a.f2.f1, .string a.f2.f2, .string a.f2.f3, .int .i64 a.f2.f4, .bool a.f3, .int .i64 a.f4, .int .i64 a.f5] from rfl, show opV b = .agg #[.int .i64 b.f0, .int .i64 b.f1.f0, .string b.f1.f1, .string b.f1.f2, .string b.f1.f3, .int .i64 b.f1.f4, .int .i64 b.f2.f0, .bool b.f2.f1, .string b.f2.f2, .string b.f2.f3, .int .i64 b.f2.f4, .bool b.f3, .int .i64 b.f4, .int .i64 b.f5] from rfl]
  go_enter Try.func10, Try.ntmps10
  go_wp2
  rw [← hW]
  clear hW
  refine wp_region_after (by kernel_rfl) (by kernel_rfl) ?_
  repeat (go_big_quiet_step (with_reducible first | exact CW.out _ | exact CG1.out _ | exact CG2.out _ | exact CA.out _ | exact CR.out _))
  refine wpQuiet_nil ?_
  rintro W2 ⟨⟨_, hb2⟩, rfl⟩
  clear la lb
  clear CA CR CG1 CG2 CW
  have HB2 := Aside0.mk (below_step HBW.out hb2)
  clear hb2
  go_wp2_with fail
  refine (boscagelaw32_few.calls A0 c0 l0 (l0.take 60) W2 (Kd.C_below HR0.out HB2.out) hc0 (few_tells l0)).mono ?_
  rintro e W3 ⟨v1, rfl, hR, hB⟩
  obtain ⟨A1, c1, rfl, hc1, hC1⟩ := Kd.R_reads hR
  have HB3 := Aside0.mk (below_step HB2.out hB)
  have HC1 := Aside0.mk hC1
  clear hR hB hC1
  obtain ⟨H, hH⟩ : ∃ H, H = l0.take 60 := ⟨_, rfl⟩
  have hHl : H.length ≤ 60 := by rw [hH, List.length_take]; omega
  rw [← hH] at HC1 hc1
  rw [← hH]
  clear hH
  obtain ⟨L, hL⟩ : ∃ L, L = (rdAll H).2.ops := ⟨_, rfl⟩
  obtain ⟨m, hm⟩ : ∃ m, m = (rdAll H).1 := ⟨_, rfl⟩
  have hO : hist_Ops.f H = some (L, m) := by unfold hist_Ops.f; rw [if_pos (by omega), hL, hm]
  have hOK : m = 0 → OpsOk L := fun h0 => by rw [hL]; exact ops_ok_all H (hm.symm.trans h0)
  have hLN : m = 0 → L.length ≤ 60 := fun h0 => by rw [hL]; have := ops_len_all H (hm.symm.trans h0); omega
  have CO := Aside0.mk (hist_Ops.calls A1 c1 H L m W3 HC1.out hc1 hO)
  have OK0 := Aside0.mk hOK
  have LN := Aside0.mk hLN
  clear hL hm hO hHl HC1 hc1 hOK hLN
  go_wp2_with fail
  refine CO.out.mono ?_
  rintro e W4 ⟨v2, rfl, hR, hB⟩
  obtain ⟨A2, c2, rfl, hc2, hC2⟩ := Kd.R_reads hR
  have HB4 := Aside0.mk (below_step HB3.out hB)
  have HC2 := Aside0.mk hC2
  clear hR hB hC2 CO
  by_cases hm : m = 0
  · subst hm
    have OK := Aside0.mk (OK0.out rfl)
    have hLl := LN.out rfl
    clear OK0 LN
    go_wp2
    go_loopw [9] (fun s9 wr => ∃ i : Nat, i ≤ L.length ∧ s9 = .int .i64 i ∧ Aside0 (Below W4.heap.size W4 wr)) (fun s9 _ => L.length - (intOf s9).toNat)
    case atStart => exact ⟨0, by omega, rfl, ⟨Below.refl _ _⟩⟩
    case round =>
      obtain ⟨i, hi, rfl, HBi⟩ := hrel
      by_cases hil : i < L.length
      · have i0 : (0 : Int) ≤ (i : Int) := by omega
        have i1 : (i : Int) < (L.length : Int) := by omega
        go_wp2
        go_loopw [10] (fun s10 wk => ∃ k : Nat, k ≤ L.length ∧ s10 = .int .i64 k ∧ Aside0 (Below W4.heap.size W4 wk)) (fun s10 _ => L.length - (intOf s10).toNat)
        case atStart => exact ⟨0, by omega, rfl, HBi⟩
        case round =>
          obtain ⟨k, hk, rfl, HBk⟩ := hrel
          by_cases hkl : k < L.length
          · have k0 : (0 : Int) ≤ (k : Int) := by omega
            have k1 : (k : Int) < (L.length : Int) := by omega
            obtain ⟨ad, x, hA, hx, lx, x0⟩ := load_at (Kd.C_below HC2.out HBk.out) i hil rfl
            subst hA
            obtain ⟨ad', y, hA, hy, ly, y0⟩ := load_at (Kd.C_below HC2.out HBk.out) k hkl rfl
            obtain rfl : ad = ad' := Option.some.inj hA
            have HX := Aside0.mk hx
            have HY := Aside0.mk hy
            clear hx hy hA
            go_upto_region 12 with fail
            go_cut [94] from 45 to 132 (fun s94 wx => s94 = .bool false ∧ Aside0 (Below W4.heap.size W4 wx))
            case first =>
              have C1 := Aside0.mk (after_of (w := wr) (ahead_calls x y))
              have C2 := Aside0.mk (after_of (w := wr) (ahead_calls y x))
              cases h1 : ahd x y with
              | true =>
                rw [h1] at C1
                rw [OK.out.anti HX.out HY.out h1] at C2
                clear h1
                by_cases hik : i < k
                · have d1 : decide ((i : Int) < (k : Int)) = true := decide_eq_true (by omega)
                  have d2 : (i : Int) < (k : Int) := by omega
                  cases hT : x.f0 == y.f0 with
                  | true =>
                    refine wp_region_after (by kernel_rfl) (by kernel_rfl) ?_
                    repeat (go_big_quiet_step (with_reducible first | exact C1.out _ | exact C2.out _))
                    refine wpQuiet_nil ?_
                    rintro wn ⟨⟨_, hbn⟩, rfl⟩
                    have HBN := Aside0.mk (below_step HBk.out hbn)
                    clear hbn
                    go_wp2
                    go_meet
                    case rel => exact ⟨rfl, HBN⟩
                  | false =>
                    refine wp_region_after (by kernel_rfl) (by kernel_rfl) ?_
                    repeat (go_big_quiet_step (with_reducible first | exact C1.out _ | exact C2.out _))
                    refine wpQuiet_nil ?_
                    rintro wn ⟨⟨_, hbn⟩, rfl⟩
                    have HBN := Aside0.mk (below_step HBk.out hbn)
                    clear hbn
                    go_wp2
                    go_meet
                    case rel => exact ⟨rfl, HBN⟩
                · have d1 : decide ((i : Int) < (k : Int)) = false := decide_eq_false (by omega)
                  have d2 : ¬ ((i : Int) < (k : Int)) := by omega
                  refine wp_region_after (by kernel_rfl) (by kernel_rfl) ?_
                  repeat (go_big_quiet_step (with_reducible first | exact C1.out _ | exact C2.out _))
                  refine wpQuiet_nil ?_
                  rintro wn ⟨⟨_, hbn⟩, rfl⟩
                  have HBN := Aside0.mk (below_step HBk.out hbn)
                  clear hbn
                  go_wp2
                  go_meet
                  case rel => exact ⟨rfl, HBN⟩
              | false =>
                by_cases hik : i < k
                · have d1 : decide ((i : Int) < (k : Int)) = true := decide_eq_true (by omega)
                  have d2 : (i : Int) < (k : Int) := by omega
                  cases hT : x.f0 == y.f0 with
                  | true =>
                    rw [OK.out.one hik HX.out HY.out (by simpa using hT)] at h1
                    cases h1
                  | false =>
                    rw [h1] at C1
                    clear h1
                    refine wp_region_after (by kernel_rfl) (by kernel_rfl) ?_
                    repeat (go_big_quiet_step (with_reducible first | exact C1.out _ | exact C2.out _))
                    refine wpQuiet_nil ?_
                    rintro wn ⟨⟨_, hbn⟩, rfl⟩
                    have HBN := Aside0.mk (below_step HBk.out hbn)
                    clear hbn
                    go_wp2
                    go_meet
                    case rel => exact ⟨rfl, HBN⟩
                · have d1 : decide ((i : Int) < (k : Int)) = false := decide_eq_false (by omega)
                  have d2 : ¬ ((i : Int) < (k : Int)) := by omega
                  rw [h1] at C1
                  clear h1
                  refine wp_region_after (by kernel_rfl) (by kernel_rfl) ?_
                  repeat (go_big_quiet_step (with_reducible first | exact C1.out _ | exact C2.out _))
                  refine wpQuiet_nil ?_
                  rintro wn ⟨⟨_, hbn⟩, rfl⟩
                  have HBN := Aside0.mk (below_step HBk.out hbn)
                  clear hbn
                  go_wp2
                  go_meet
                  case rel => exact ⟨rfl, HBN⟩
            case rest =>
              obtain ⟨rfl, HBc⟩ := hcut
              clear lx x0 ly y0
              go_wp2
              go_loopw [11] (fun s11 wj => ∃ j : Nat, j ≤ L.length ∧ s11 = .int .i64 j ∧ Aside0 (Below W4.heap.size W4 wj)) (fun s11 _ => L.length - (intOf s11).toNat)
              case atStart => exact ⟨0, by omega, rfl, HBc⟩
              case round =>
                obtain ⟨j, hj, rfl, HBj⟩ := hrel
                by_cases hjl : j < L.length
                · have j0 : (0 : Int) ≤ (j : Int) := by omega
                  have j1 : (j : Int) < (L.length : Int) := by omega
                  obtain ⟨ad1, x', hA, hx, lx, x0⟩ := load_at (Kd.C_below HC2.out HBj.out) i hil rfl
                  obtain rfl : ad = ad1 := Option.some.inj hA
                  obtain rfl : x = x' := Option.some.inj (HX.out.symm.trans hx)
                  obtain ⟨ad2, y', hA, hx, ly, y0⟩ := load_at (Kd.C_below HC2.out HBj.out) k hkl rfl
                  obtain rfl : ad = ad2 := Option.some.inj hA
                  obtain rfl : y = y' := Option.some.inj (HY.out.symm.trans hx)
                  obtain ⟨ad3, z, hA, hz, lz, z0⟩ := load_at (Kd.C_below HC2.out HBj.out) j hjl rfl
                  obtain rfl : ad = ad3 := Option.some.inj hA
                  have HZ := Aside0.mk hz
                  clear hz hA hx
                  go_upto_region 17 with fail
                  go_cut [132] from 101 to 132 (fun s132 wx => s132 = .bool false ∧ Aside0 (Below W4.heap.size W4 wx))
                  case first =>
                    have C1 := Aside0.mk (after_of (w := wr) (ahead_calls x y))
                    have C2 := Aside0.mk (after_of (w := wr) (ahead_calls y z))
                    have C3 := Aside0.mk (after_of (w := wr) (ahead_calls x z))
                    cases h1 : ahd x y with
                    | true =>
                      rw [h1] at C1
                      cases h2 : ahd y z with
                      | true =>
                        rw [h2] at C2
                        rw [OK.out.trans HX.out HY.out HZ.out h1 h2] at C3
                        clear h1 h2
                        refine wp_region_after (by kernel_rfl) (by kernel_rfl) ?_
                        repeat (go_big_quiet_step (with_reducible first | exact C1.out _ | exact C2.out _ | exact C3.out _))
                        refine wpQuiet_nil ?_
                        rintro wn ⟨⟨_, hbn⟩, rfl⟩
                        have HBN := Aside0.mk (below_step HBj.out hbn)
                        clear hbn
                        go_wp2
                        go_meet
                        case rel => exact ⟨rfl, HBN⟩
                      | false =>
                        rw [h2] at C2
                        clear h1 h2
                        refine wp_region_after (by kernel_rfl) (by kernel_rfl) ?_
                        repeat (go_big_quiet_step (with_reducible first | exact C1.out _ | exact C2.out _ | exact C3.out _))
                        refine wpQuiet_nil ?_
                        rintro wn ⟨⟨_, hbn⟩, rfl⟩
                        have HBN := Aside0.mk (below_step HBj.out hbn)
                        clear hbn
                        go_wp2
                        go_meet
                        case rel => exact ⟨rfl, HBN⟩
                    | false =>
                      rw [h1] at C1
                      clear h1
                      refine wp_region_after (by kernel_rfl) (by kernel_rfl) ?_
                      repeat (go_big_quiet_step (with_reducible first | exact C1.out _ | exact C2.out _ | exact C3.out _))
                      refine wpQuiet_nil ?_
                      rintro wn ⟨⟨_, hbn⟩, rfl⟩
                      have HBN := Aside0.mk (below_step HBj.out hbn)
                      clear hbn
                      go_wp2
                      go_meet
                      case rel => exact ⟨rfl, HBN⟩
                  case rest =>
                    obtain ⟨rfl, HBd⟩ := hcut
                    clear lx x0 ly y0 lz z0
                    go_wp2
                    go_roundw
                    case rel => exact ⟨j + 1, by omega, by go_num, HBd⟩
                    case measure => simp [intOf]; omega
                · obtain rfl : j = L.length := by omega
                  go_wp2
                  go_roundw
                  case rel => exact ⟨k + 1, by omega, by go_num, HBj⟩
                  case measure => simp [intOf]; omega
          · obtain rfl : k = L.length := by omega
            go_wp2
            go_roundw
            case rel => exact ⟨i + 1, by omega, by go_num, HBk⟩
            case measure => simp [intOf]; omega
      · obtain rfl : i = L.length := by omega
        go_wp2
        go_ret
        exact ⟨rfl, below_step HB4.out HBi.out⟩
  · have hmb : (m == 0) = false := by simpa using hm
    go_wp2
    go_ret
    exact ⟨rfl, HB4.out⟩
end Go.Proofs.Ytipdhjdlfdbkiaa.PHistAhead
