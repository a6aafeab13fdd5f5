-- printed by a program of the session (wip/hyb/mkprint.py)
import Derived.Test.YtipdhjdlfdbkiaaPHistAheadx0
namespace Go.Proofs.Ytipdhjdlfdbkiaa.PHistAhead
open Go.RowKit Go.Proofs.YtipdhjdlfdbkiaaW.PrintWords Go.Proofs.YtipdhjdlfdbkiaaW.PrintLast Go.Proofs.YtipdhjdlfdbkiaaW.PrintMore
attribute [local go_sem] max2_int min2_int max_two min_two max_three min_three max_four min_four   -- for this text's walks alone
set_option linter.unusedVariables false
set_option linter.unusedSimpArgs false

/-! ### boscagelaw32_few: function 39 -/
def boscagelaw32_few.f (l0 : List (S127)) : Option ((List (S127))) := (some (([] : List (S127)) : List (S127))).bind fun y101 => (if 0 ≤ (mn (l0.length : Int) 60) then (if (mn (l0.length : Int) 60) ≤ (l0.length : Int) then ((some (l0.take ((mn (l0.length : Int) 60) : Int).toNat : List (S127))).bind fun y104 => (if y101.length + y104.length < 1034834473200 then (some (y101 ++ y104)) else (none))) else (none)) else (none))
set_option maxHeartbeats 8000000 in
set_option maxRecDepth 100000 in
theorem boscagelaw32_few.calls (A0 : Option Addr) (c0 : Nat) (l0 : List (S127)) (r : List (S127)) (w : World) (hr0 : Kd.C k127 w A0 l0.length l0) (hc0 : l0.length ≤ c0) (h : boscagelaw32_few.f l0 = some r) :
    Calls Try.prog 39 #[.slice A0 l0.length c0] w fun e w' => ∃ v0_ : Value, e = .returned (v0_) ∧ Kd.R k127 127 w' w.heap.size (fun _ => True) v0_ r ∧ Below w.heap.size w w' := by
  have HR0 := Aside0.mk hr0
  have HC0 := Aside0.mk hc0
  clear hr0 hc0
  have HB := Aside0.mk (Below.refl w.heap.size w)
  have H : ((some (([] : List (S127)) : List (S127))).bind fun y101 => (if 0 ≤ (mn (l0.length : Int) 60) then (if (mn (l0.length : Int) 60) ≤ (l0.length : Int) then ((some (l0.take ((mn (l0.length : Int) 60) : Int).toNat : List (S127))).bind fun y104 => (if y101.length + y104.length < 1034834473200 then (some (y101 ++ y104)) else (none))) else (none)) else (none))) = some r := h
  clear h
  obtain ⟨y101, hy101⟩ : ∃ y_ : List (S127), y_ = (([] : List (S127))) := ⟨_, rfl⟩
  replace H : (if 0 ≤ (mn (l0.length : Int) 60) then (if (mn (l0.length : Int) 60) ≤ (l0.length : Int) then ((some (l0.take ((mn (l0.length : Int) 60) : Int).toNat : List (S127))).bind fun y104 => (if y101.length + y104.length < 1034834473200 then (some (y101 ++ y104)) else (none))) else (none)) else (none)) = some r := by first | (rw [hy101]; with_reducible exact H) | (have H2_ := (Option.bind_some _ _).symm.trans H; rw [hy101]; with_reducible exact H2_) | (have H2_ := (Option.bind_some _ _).symm.trans H; with_reducible exact H2_) | with_reducible exact H | (rw [hy101]; exact H) | exact H
  have Ny101 := Aside0.mk hy101
  clear hy101
  obtain ⟨ji2, hji2⟩ : ∃ j_ : Int, (mn (l0.length : Int) 60) = j_ := ⟨_, rfl⟩
  replace H : (if 0 ≤ (ji2) then (if (ji2) ≤ (l0.length : Int) then ((some (l0.take ((ji2) : Int).toNat : List (S127))).bind fun y104 => (if y101.length + y104.length < 1034834473200 then (some (y101 ++ y104)) else (none))) else (none)) else (none)) = some r := by first | (rw [hji2] at H; exact H) | (simp only [hji2] at H ⊢; exact H)
  (try (have hji2h : ji2 ≤ 60 := by (rw [← hji2]; unfold mn; (repeat' split) <;> omega)))
  (try (have hji2g : ji2 ≤ 64 := by omega))
  (try (have hji2l : 0 ≤ ji2 := by (rw [← hji2]; unfold mn; (repeat' split) <;> omega)))
  (try (have hji2m : 0 ≤ ji2 := by omega))
  have hji2_ : (if 60 < (l0.length : Int) then 60 else (l0.length : Int)) = ji2 := hji2
  by_cases c3 : 0 ≤ (ji2)
  · rw [if_pos c3] at H
    have c3b0 := eq_true c3
    have c3b1 : decide (0 ≤ (ji2)) = true := decide_eq_true c3
    clear c3
    by_cases c4 : (ji2) ≤ (l0.length : Int)
    · rw [if_pos c4] at H
      have c4b0 := eq_true c4
      have c4b1 : decide ((ji2) ≤ (l0.length : Int)) = true := decide_eq_true c4
      clear c4
      obtain ⟨y104, hy104⟩ : ∃ y_ : List (S127), y_ = (l0.take ((ji2) : Int).toNat) := ⟨_, rfl⟩
      replace H : (if y101.length + y104.length < 1034834473200 then (some (y101 ++ y104)) else (none)) = some r := by first | (rw [hy104]; with_reducible exact H) | (have H2_ := (Option.bind_some _ _).symm.trans H; rw [hy104]; with_reducible exact H2_) | (have H2_ := (Option.bind_some _ _).symm.trans H; with_reducible exact H2_) | with_reducible exact H | (rw [hy104]; exact H) | exact H
      have Ny104 := Aside0.mk hy104
      clear hy104
      by_cases c5 : y101.length + y104.length < 1034834473200
      · rw [if_pos c5] at H
        have LMc5 := Aside0.mk c5
        clear c5
        obtain ⟨y108, hy108⟩ : ∃ y_ : List (S127), y_ = (y101 ++ y104) := ⟨_, rfl⟩
        replace H : (some y108) = some r := by first | (rw [hy108]; with_reducible exact H) | (have H2_ := (Option.bind_some _ _).symm.trans H; rw [hy108]; with_reducible exact H2_) | (have H2_ := (Option.bind_some _ _).symm.trans H; with_reducible exact H2_) | with_reducible exact H | (rw [hy108]; exact H) | exact H
        have Ny108 := Aside0.mk hy108
        clear hy108
        obtain rfl := Option.some.inj H
        go_enter Try.func39, Try.ntmps39
        go_wp2_with (first | ((with_reducible refine gate_dst (N := 3) rfl ?_); refine Kd.R_lit k127 _ 127 ?hg (N := 3) ?hd (xs := ([] : List (S127))) (inner := []) (ok := fun _ => True) (okp := fun _ => True) ?hr ?hp (fun _ hk => hk) trivial (Below.refl _ _) (Nat.le_refl _) (by simp) ?_; (case hd => rfl); (case hg => rfl); (case hr => first | (go_simp; done) | (go_simp; rfl)); (case hp => exact (Reps.none _ _)); intro v102 w6 ho7 hb hg_ hnew_; clear hg_ hnew_; (first | rw [← Ny101.out] at ho7 | (simp only [Int.reduceToNat] at ho7; rw [← Ny101.out] at ho7)); have n0_ := Aside0.mk (Kd.R_lower ho7 (below_size (by repeat (first | (with_reducible first | exact HB.out | apply below_alloc | apply pw_below_drewN | apply below_drew1) | exact HB.out)))); have n1_ := Aside0.mk (below_step (by repeat (first | (with_reducible first | exact HB.out | apply below_alloc | apply pw_below_drewN | apply below_drew1) | exact HB.out)) hb); clear HB; have HO103 := n0_; have HB := n1_; clear n0_ n1_; clear hb ho7; have q8 : ((ji2) : Int) ≤ ((l0.length : Int) : Int) := of_decide_eq_true (by first | (with_reducible assumption) | assumption); obtain ⟨i08, hi08, _, hsz8, _⟩ := info_parts info127; have hroom8 : l0.length ≤ c0 := HC0.out; have hC8 : Kd.C k127 _ A0 l0.length l0 := HR0.out; have hcut8 := cut_to (P := Try.prog) 63 127 .i64 Try.underlying63 hi08 A0 l0.length c0 (ji2) (of_decide_eq_true (by first | (with_reducible assumption) | assumption)) q8 hroom8; have hr8 := Kd.C_take (m := ((ji2) : Int).toNat) hC8 (by omega); have hy8 : y104.length = ((ji2) : Int).toNat := (by rw [Ny104.out, List.length_take]; omega); rw [← Ny104.out] at hr8; rw [← hy8] at hcut8; have HR107 := Aside0.mk hr8; have HC107 := Aside0.mk (show y104.length ≤ c0 from by omega); clear hr8 hC8 hroom8 hi08 hsz8; have KY8 := Aside0.mk hy8; clear hy8; replace q8 := eq_true q8) | ((with_reducible refine gate_builtin (b := .append) (xs := #[.tmp 3, .tmp 8]) rfl ?_); at_builtin; refine Kd.R_append_rows k127 (w0 := w) w.heap.size rfl (.tmp 3) (.tmp 8) 63 127 (.agg #[(.bool false), (.int .i64 0), (.int .i64 0), (.string ⟨#[]⟩), (.string ⟨#[]⟩), (.string ⟨#[]⟩), (.int .i64 0), (.int .i64 0), (.bool false), (.string ⟨#[]⟩), (.string ⟨#[]⟩), (.int .i64 0)]) 136 rfl Try.underlying63 info127 rfl (by decide) (by omega) v102 y101 y104 _ _ _ (fun _ => True) (fun _ => False) rfl rfl ?aO ?aR (fun _ _ h => h) (fun _ h => h.elim) ?aF ?aB ?aS ?aL ?_; (case aR => repeat (first | exact (Kd.C_below HR107.out HB.out) | (with_reducible refine Kd.C_alloc ?_ _) | (with_reducible refine Kd.C_drewN ?_ _) | (with_reducible refine Kd.C_drew ?_))); (case aB => exact (by repeat (first | (with_reducible first | exact HB.out | apply below_alloc | apply pw_below_drewN | apply below_drew1) | exact HB.out))); (case aF => exact (fun _ _ => trivial)); (case aO => exact (by (with_reducible repeat (first | apply Kd.R_alloc | apply Kd.R_drewN | apply Kd.R_drew)); exact HO103.out)); (case aS => exact (below_size (by repeat (first | (with_reducible first | exact HB.out | apply below_alloc | apply pw_below_drewN | apply below_drew1) | exact HB.out)))); (case aL => have := LMc5.out; omega); intro v109 w9 ho hb hg hat; rw [← Ny108.out] at ho; have n0_ := Aside0.mk (hb); have n1_ := Aside0.mk (ho); clear HB; clear HO103; have HB := n0_; have HO110 := n1_; clear n0_ n1_; clear ho hb hg hat))
        go_ret
        exact ⟨_, by first | rfl | (simp [errW_none, errW_some] <;> rfl) | (simp only [← hji2]; first | rfl | (simp [errW_none, errW_some] <;> rfl)) | (simp [*, errW_none, errW_some] <;> rfl), by (with_reducible repeat (first | apply Kd.R_alloc | apply Kd.R_drewN | apply Kd.R_drew)); exact HO110.out, by repeat (first | (with_reducible first | exact HB.out | apply below_alloc | apply pw_below_drewN | apply below_drew1) | exact HB.out)⟩
      · rw [if_neg c5] at H
        exact absurd H (by simp)
    · rw [if_neg c4] at H
      exact absurd H (by simp)
  · rw [if_neg c3] at H
    exact absurd H (by simp)

/-! ### hist_May: function 43 -/
-- FULL boscage/hist.May
-- KIND rounds=0 making=1 kinds=78,127 infos=78
def hist_May.f (l0 : List S127) : Option Int := if l0.length ≤ 1000000 then some (rdAll l0).1 else none
theorem hKey : Go.Maps.Keyed Try.prog 3 := Go.Maps.int_keyed Try.underlying3
theorem hKeyOf {t : Int} (h : -9223372036854775808 ≤ t ∧ t ≤ 9223372036854775807) : keyOf Try.prog 3 (.int .i64 t) = some (.int .i64 t) := Go.Maps.keyOf_int_mk Try.underlying3 (WalkArith.wf_i64 h)
theorem hZero (w : World) : (zeroValue 3).run Try.prog w = .ok (.int .i64 0) w := by kernel_rfl
/-- The map's datum says where each thread's pending op stands. -/
def Tied (D : DataW Unit) (s : RS) : Prop := ∀ t : Int, Go.Maps.has D (.int .i64 t) = (s.opn t).isSome ∧ ∀ i, s.opn t = some i → i < s.ops.length ∧ ∀ zd, D.atKey (.int .i64 t) zd = .lit (.int .i64 (i : Int))
/-- A reader in memory of the call's own. -/
structure RdIs (w0 w : World) (p mb n : Nat) (many : Int) (s : RS) : Prop where
  head : ∃ v, w.heap[p]? = some (.cells #[v, .map (some mb), .int .i64 many] 124 (0, 0)) ∧ Kd.R k78 78 w w0.heap.size (fun _ => True) v s.ops
  mapd : ∃ D : DataW Unit, w.ownsMap Try.prog 3 (plainElem Try.prog 3) mb n D ∧ Tied D s
  ne : p ≠ mb
  pge : w0.heap.size ≤ p
  mge : w0.heap.size ≤ mb
  len : s.ops.length ≤ n
  below : Below w0.heap.size w0 w
attribute [local go_sem high] hEqC hEqA
/-- The event as an argument. -/
def evV (e : S127) : Value := .agg #[.bool e.f0, .int .i64 e.f1, .int .i64 e.f2.f0, .string e.f2.f1, .string e.f2.f2, .string e.f2.f3, .int .i64 e.f2.f4, .int .i64 e.f3.f0, .bool e.f3.f1, .string e.f3.f2, .string e.f3.f3, .int .i64 e.f3.f4]
theorem RdIs.step {w0 w w1 : World} {p mb n : Nat} {many : Int} {s : RS} (h : RdIs w0 w p mb n many s) (hb : Below w.heap.size w w1) : RdIs w0 w1 p mb n many s := by
  obtain ⟨v, h1, h2⟩ := h.head
  obtain ⟨D, h3, h4⟩ := h.mapd
  have hlt : p < w.heap.size := by
    rcases Nat.lt_or_ge p w.heap.size with h' | h'
    · exact h'
    · rw [Array.getElem?_eq_none h'] at h1; cases h1
  exact ⟨⟨v, (hb.block p hlt).trans h1, Kd.R_below h2 hb⟩, ⟨D, h3.kept (row := none) ⟨hb.os, hb.tape, hb.output, hb.size, fun k hk _ => hb.block k hk⟩ (by simp), h4⟩, h.ne, h.pge, h.mge, h.len, below_step h.below hb⟩
set_option maxHeartbeats 4000000 in
set_option maxRecDepth 100000 in
theorem event_arg (w0 w : World) (p mb n : Nat) (many frm : Int) (s : RS) (e : S127) (h : RdIs w0 w p mb n many s) (he : e.f1 < 0 ∨ 64 ≤ e.f1) :
    Calls Try.prog 103 #[.pointer (some ⟨p, 0, none⟩), .int .i64 frm, evV e] w fun e' w' => e' = .returned (.int .i64 2) ∧ Below w.heap.size w w' := by
  clear h
  have he' : e.f1 < 0 ∨ (0 ≤ e.f1 ∧ 64 ≤ e.f1) := by omega
  clear he
  rcases he' with he | ⟨he1, he⟩
  all_goals
    unfold evV
    go_enter Try.func103, Try.ntmps103
    go_wp2
    go_ret
    exact ⟨rfl, (Below.refl _ _).alloc (Nat.le_refl _) _⟩
def lkv (s : RS) (t : Int) : Int := match s.opn t with
  | some i => (i : Int)
  | none => 0
set_option maxRecDepth 100000 in
theorem look_at {w0 w : World} {p mb n : Nat} {many : Int} {s : RS} (h : RdIs w0 w p mb n many s) {t : Int} (ht : -9223372036854775808 ≤ t ∧ t ≤ 9223372036854775807) :
    (Instr.lookup 122 (.map (some mb)) (.int .i64 t) true).run Try.prog w = .ok (.tuple #[.int .i64 (lkv s t), .bool (s.opn t).isSome]) w := by
  obtain ⟨D, h1, h2⟩ := h.mapd
  obtain ⟨v, ps, hr, hv⟩ := h1.look_ok hKey Try.underlying122 (hZero w) (plainElem_int (H := Unit) Try.underlying3 (a := 0) (by decide)) (hKeyOf ht)
  obtain ⟨c, rfl, hz, _⟩ := plainElem_int_inv Try.underlying3 hv
  have hc : c = lkv s t := by
    unfold lkv
    cases ho : s.opn t with
    | none =>
      have hn : Go.Maps.has D (.int .i64 t) = false := by rw [(h2 t).1, ho]; rfl
      rw [Go.Maps.atKey_of_not_has hn] at hz
      injection hz with hz _
      injection hz with hz
      injection hz with _ hz
      exact hz.symm
    | some i =>
      rw [((h2 t).2 i ho).2 (.lit (.int .i64 0))] at hz
      injection hz with hz _
      injection hz with hz
      injection hz with _ hz
      exact hz.symm
  rw [hr, (h2 t).1, hc]
theorem RdIs.cells {w0 w : World} {p mb n : Nat} {many : Int} {s : RS} (h : RdIs w0 w p mb n many s) : ∃ A c, w.cell? ⟨p, 0, none⟩ = some (.slice A s.ops.length c) ∧ w.cell? ⟨p, 1, none⟩ = some (.map (some mb)) ∧ w.cell? ⟨p, 2, none⟩ = some (.int .i64 many) ∧ w.frozen? ⟨p, 0, none⟩ = false ∧ p < w.heap.size ∧ s.ops.length ≤ c ∧ Kd.C k78 w A s.ops.length s.ops := by
  obtain ⟨v, h1, h2⟩ := h.head
  obtain ⟨A, c, rfl, hc, hC⟩ := Kd.R_reads h2
  refine ⟨A, c, ?_, ?_, ?_, ?_, ?_, hc, hC⟩
  · rw [cell_row h1]; rfl
  · rw [cell_row h1]; rfl
  · rw [cell_row h1]; rfl
  · simp [World.frozen?, h1]
  · rcases Nat.lt_or_ge p w.heap.size with h' | h'
    · exact h'
    · rw [Array.getElem?_eq_none h'] at h1; cases h1
set_option maxHeartbeats 4000000 in
set_option maxRecDepth 100000 in
theorem event_form (w0 w : World) (p mb n : Nat) (many frm : Int) (s : RS) (e : S127) (h : RdIs w0 w p mb n many s) (he : ¬ (e.f1 < 0 ∨ 64 ≤ e.f1)) (hf : (s.opn e.f1).isSome ≠ e.f0) :
    Calls Try.prog 103 #[.pointer (some ⟨p, 0, none⟩), .int .i64 frm, evV e] w fun e' w' => e' = .returned (.int .i64 4) ∧ Below w.heap.size w w' := by
  obtain ⟨res, tt, ⟨o, k1, k2, k3, hh⟩, ⟨cd, hs, a1, a2, nn⟩⟩ := e
  dsimp only at *
  have he1 : 0 ≤ tt := by omega
  have he2 : tt < 64 := by omega
  obtain ⟨W1, hW1⟩ : ∃ W1, W1 = w.alloc (.cells #[.bool res, .int .i64 tt, .int .i64 o, .string k1, .string k2, .string k3, .int .i64 hh, .int .i64 cd, .bool hs, .string a1, .string a2, .int .i64 nn] 127) := ⟨_, rfl⟩
  have hbW : Below w.heap.size w W1 := hW1 ▸ (Below.refl _ _).alloc (Nat.le_refl _) _
  have h1 := h.step hbW
  obtain ⟨A, c, p0, p1, p2, p3, plt, hc, hC⟩ := h1.cells
  have hbox : W1.heap[w.heap.size]? = some (.cells #[.bool res, .int .i64 tt, .int .i64 o, .string k1, .string k2, .string k3, .int .i64 hh, .int .i64 cd, .bool hs, .string a1, .string a2, .int .i64 nn] 127 (0, 0)) := by rw [hW1]; exact alloc_at
  have b0 := (cell_row (i := 0) hbox).trans rfl
  have b1 := (cell_row (i := 1) hbox).trans rfl
  have b2 := (cell_row (i := 2) hbox).trans rfl
  have b3 := (cell_row (i := 3) hbox).trans rfl
  have b4 := (cell_row (i := 4) hbox).trans rfl
  have b5 := (cell_row (i := 5) hbox).trans rfl
  have b6 := (cell_row (i := 6) hbox).trans rfl
  have b7 := (cell_row (i := 7) hbox).trans rfl
  have b8 := (cell_row (i := 8) hbox).trans rfl
  have b9 := (cell_row (i := 9) hbox).trans rfl
  have b10 := (cell_row (i := 10) hbox).trans rfl
  have b11 := (cell_row (i := 11) hbox).trans rfl
  have hlk : ∀ nq, (Instr.lookup 122 (.map (some mb)) (.int .i64 tt) true).run Try.prog (W1.drewN nq) = .ok (.tuple #[.int .i64 (lkv s tt), .bool (s.opn tt).isSome]) (W1.drewN nq) := fun nq => look_at (h1.step (pw_below_drewN (Below.refl _ _) nq)) (by omega)
  have HB1 := Aside0.mk hbW
  have H1 := Aside0.mk h1
  have HC := Aside0.mk hC
  have HBX := Aside0.mk hbox
  have HP3 := Aside0.mk p3
  clear hbW h1 hC hbox h he p3
  obtain ⟨y, hy⟩ : ∃ y, y = (s.opn tt).isSome := ⟨_, rfl⟩
  rw [← hy] at hlk hf
  clear hy
  cases res <;> cases y
  · exact absurd rfl hf
  · clear hf
    unfold evV
    go_enter Try.func103, Try.ntmps103
    go_wp2
    rw [← hW1]
    clear hW1
    go_quiet (fail)
    go_wp2
    go_quiet (fail)
    go_wp2
    go_ret
    exact ⟨rfl, pw_below_drewN (pw_below_drewN HB1.out _) _⟩
  · clear hf
    unfold evV
    go_enter Try.func103, Try.ntmps103
    go_wp2
    rw [← hW1]
    clear hW1
    go_quiet (fail)
    go_wp2
    go_quiet (fail)
    go_wp2
    go_ret
    exact ⟨rfl, pw_below_drewN (pw_below_drewN HB1.out _) _⟩
  · exact absurd rfl hf
set_option maxHeartbeats 4000000 in
set_option maxRecDepth 100000 in
theorem event_formA (w0 w : World) (p mb n : Nat) (many frm : Int) (s : RS) (e : S127) (h : RdIs w0 w p mb n many s) (he : ¬ (e.f1 < 0 ∨ 64 ≤ e.f1)) (hf : s.opn e.f1 = none) (hr : e.f0 = false) (hA : difA e.f3 = true) :
    Calls Try.prog 103 #[.pointer (some ⟨p, 0, none⟩), .int .i64 frm, evV e] w fun e' w' => e' = .returned (.int .i64 4) ∧ Below w.heap.size w w' := by
  obtain ⟨res, tt, ⟨o, k1, k2, k3, hh⟩, ⟨cd, hs, a1, a2, nn⟩⟩ := e
  dsimp only at *
  have he1 : 0 ≤ tt := by omega
  have he2 : tt < 64 := by omega
  obtain ⟨W1, hW1⟩ : ∃ W1, W1 = w.alloc (.cells #[.bool res, .int .i64 tt, .int .i64 o, .string k1, .string k2, .string k3, .int .i64 hh, .int .i64 cd, .bool hs, .string a1, .string a2, .int .i64 nn] 127) := ⟨_, rfl⟩
  have hbW : Below w.heap.size w W1 := hW1 ▸ (Below.refl _ _).alloc (Nat.le_refl _) _
  have h1 := h.step hbW
  obtain ⟨A, c, p0, p1, p2, p3, plt, hc, hC⟩ := h1.cells
  have hbox : W1.heap[w.heap.size]? = some (.cells #[.bool res, .int .i64 tt, .int .i64 o, .string k1, .string k2, .string k3, .int .i64 hh, .int .i64 cd, .bool hs, .string a1, .string a2, .int .i64 nn] 127 (0, 0)) := by rw [hW1]; exact alloc_at
  have b0 := (cell_row (i := 0) hbox).trans rfl
  have b1 := (cell_row (i := 1) hbox).trans rfl
  have b2 := (cell_row (i := 2) hbox).trans rfl
  have b3 := (cell_row (i := 3) hbox).trans rfl
  have b4 := (cell_row (i := 4) hbox).trans rfl
  have b5 := (cell_row (i := 5) hbox).trans rfl
  have b6 := (cell_row (i := 6) hbox).trans rfl
  have b7 := (cell_row (i := 7) hbox).trans rfl
  have b8 := (cell_row (i := 8) hbox).trans rfl
  have b9 := (cell_row (i := 9) hbox).trans rfl
  have b10 := (cell_row (i := 10) hbox).trans rfl
  have b11 := (cell_row (i := 11) hbox).trans rfl
  have hlk : ∀ nq, (Instr.lookup 122 (.map (some mb)) (.int .i64 tt) true).run Try.prog (W1.drewN nq) = .ok (.tuple #[.int .i64 (lkv s tt), .bool (s.opn tt).isSome]) (W1.drewN nq) := fun nq => look_at (h1.step (pw_below_drewN (Below.refl _ _) nq)) (by omega)
  have HB1 := Aside0.mk hbW
  have H1 := Aside0.mk h1
  have HC := Aside0.mk hC
  have HBX := Aside0.mk hbox
  have HP3 := Aside0.mk p3
  clear hbW h1 hC hbox h he p3
  subst hr
  rw [hf] at hlk
  clear hf
  unfold difA at hA
  dsimp only [Option.isSome_none] at hlk hA
  unfold evV
  go_enter Try.func103, Try.ntmps103
  go_wp2
  rw [← hW1]
  clear hW1
  go_quiet (fail)
  go_wp2
  go_quiet (fail)
  go_wp2
  go_ret
  exact ⟨rfl, pw_below_drewN (pw_below_drewN HB1.out _) _⟩
set_option maxHeartbeats 4000000 in
set_option maxRecDepth 100000 in
theorem event_formC (w0 w : World) (p mb n : Nat) (many frm : Int) (s : RS) (e : S127) (h : RdIs w0 w p mb n many s) (he : ¬ (e.f1 < 0 ∨ 64 ≤ e.f1)) (i : Nat) (x : S78) (hf : s.opn e.f1 = some i) (hx : s.ops[i]? = some x) (hr : e.f0 = true) (hA : difC x.f1 e.f2 = true) :
    Calls Try.prog 103 #[.pointer (some ⟨p, 0, none⟩), .int .i64 frm, evV e] w fun e' w' => e' = .returned (.int .i64 4) ∧ Below w.heap.size w w' := by
  obtain ⟨res, tt, ⟨o, k1, k2, k3, hh⟩, ⟨cd, hs, a1, a2, nn⟩⟩ := e
  dsimp only at *
  have he1 : 0 ≤ tt := by omega
  have he2 : tt < 64 := by omega
  obtain ⟨W1, hW1⟩ : ∃ W1, W1 = w.alloc (.cells #[.bool res, .int .i64 tt, .int .i64 o, .string k1, .string k2, .string k3, .int .i64 hh, .int .i64 cd, .bool hs, .string a1, .string a2, .int .i64 nn] 127) := ⟨_, rfl⟩
  have hbW : Below w.heap.size w W1 := hW1 ▸ (Below.refl _ _).alloc (Nat.le_refl _) _
  have h1 := h.step hbW
  obtain ⟨A, c, p0, p1, p2, p3, plt, hc, hC⟩ := h1.cells
  have hbox : W1.heap[w.heap.size]? = some (.cells #[.bool res, .int .i64 tt, .int .i64 o, .string k1, .string k2, .string k3, .int .i64 hh, .int .i64 cd, .bool hs, .string a1, .string a2, .int .i64 nn] 127 (0, 0)) := by rw [hW1]; exact alloc_at
  have b0 := (cell_row (i := 0) hbox).trans rfl
  have b1 := (cell_row (i := 1) hbox).trans rfl
  have b2 := (cell_row (i := 2) hbox).trans rfl
  have b3 := (cell_row (i := 3) hbox).trans rfl
  have b4 := (cell_row (i := 4) hbox).trans rfl
  have b5 := (cell_row (i := 5) hbox).trans rfl
  have b6 := (cell_row (i := 6) hbox).trans rfl
  have b7 := (cell_row (i := 7) hbox).trans rfl
  have b8 := (cell_row (i := 8) hbox).trans rfl
  have b9 := (cell_row (i := 9) hbox).trans rfl
  have b10 := (cell_row (i := 10) hbox).trans rfl
  have b11 := (cell_row (i := 11) hbox).trans rfl
  have hlk : ∀ nq, (Instr.lookup 122 (.map (some mb)) (.int .i64 tt) true).run Try.prog (W1.drewN nq) = .ok (.tuple #[.int .i64 (lkv s tt), .bool (s.opn tt).isSome]) (W1.drewN nq) := fun nq => look_at (h1.step (pw_below_drewN (Below.refl _ _) nq)) (by omega)
  have HB1 := Aside0.mk hbW
  have H1 := Aside0.mk h1
  have HC := Aside0.mk hC
  have HBX := Aside0.mk hbox
  have HP3 := Aside0.mk p3
  clear hbW h1 hC hbox h he p3
  subst hr
  have hin : i < s.ops.length := by
    obtain ⟨D, _, hT⟩ := H1.out.mapd
    exact ((hT tt).2 i hf).1
  have hlv : lkv s tt = (i : Int) := by unfold lkv; rw [hf]
  rw [hf, hlv] at hlk
  dsimp only [Option.isSome_some] at hlk
  clear hf hlv
  obtain ⟨y, hy⟩ : ∃ y, y = rd_T78 s.ops (i : Int) := ⟨_, rfl⟩
  obtain ⟨ad, hAd, q⟩ := at_T78 HC.out (i : Int) (by omega) (by omega)
  subst hAd
  rw [← hy] at q
  simp only [Int.toNat_natCast] at q
  have hyg : s.ops[i]? = some y := by
    rw [hy]
    unfold rd_T78
    rw [Int.toNat_natCast, List.getD_eq_getElem?_getD, List.getElem?_eq_getElem hin]; rfl
  rw [hyg] at hx
  obtain rfl := Option.some.inj hx
  have HYG := Aside0.mk hyg
  clear hyg hy hx
  have i0 : (0 : Int) ≤ (i : Int) := by omega
  have i1 : (i : Int) < s.ops.length := by omega
  obtain ⟨q0, q1, q2, q3, q4, q5, q6, q7, q8, q9, q10, q11, q12, q13⟩ := q
  unfold difC at hA
  dsimp only at hA
  unfold evV
  go_enter Try.func103, Try.ntmps103
  go_wp2
  rw [← hW1]
  clear hW1
  go_quiet (fail)
  go_wp2
  go_quiet (fail)
  go_wp2
  go_ret
  exact ⟨rfl, pw_below_drewN (pw_below_drewN HB1.out _) _⟩
theorem R_map {α : Type} {d : Kd α} {e : Nat} {w w1 : World} {base mb : Nat} {ok : Nat → Prop} {v : Value} {xs : List α} {es : Array MapEntry} {c : Nat} (h : d.R e w base ok v xs) (hg : w.grownBy w1 (some mb)) (hm : w.heap[mb]? = some (.map es c)) : d.R e w1 base ok v xs :=
  Kd.R_mono (Kd.R_grown (Kd.R_bound h) hg (fun k hk e1 => by
    injection e1 with e1
    subst e1
    obtain ⟨_, _, _, q, _, cells, hc⟩ := hk
    rw [hm] at hc
    cases hc)) (fun _ hk => hk.1)
theorem heap_set_same {w : World} {b i : Nat} {v : Value} {cs : Array Value} {t : TypeId} {fr : Nat × Nat} (h : w.heap[b]? = some (.cells cs t fr)) :
    (w.setCell ⟨b, i, none⟩ v).heap[b]? = some (.cells (cs.setIfInBounds i v) t fr) := by
  simp [World.setCell, Array.getElem?_modify, h]
theorem map_ne {α : Type} {d : Kd α} {e : Nat} {w : World} {base n mb : Nat} {ok : Nat → Prop} {v : Value} {xs : List α} {D : DataW Unit} (hD : w.ownsMap Try.prog 3 (plainElem Try.prog 3) mb n D) (h : d.R e w base ok v xs) : some mb ≠ v.ownBlock := by
  obtain ⟨_, inner, ho, _⟩ := h
  obtain ⟨es, clock, hb, _⟩ := hD
  intro e1
  obtain ⟨cells, hc⟩ := own_typed ho mb e1.symm
  rw [hb] at hc
  cases hc
theorem isKey {u : Int} : WideAt.IsKeyLit (.int .i64 u) := by simp [WideAt.IsKeyLit]
theorem tied_new {D : DataW Unit} {s : RS} (h : Tied D s) (hm : Go.Maps.IsMap D) {t : Int} (x : S78) : Tied (D.put (.int .i64 t) (.lit (.int .i64 (s.ops.length : Int)))) ⟨s.ops ++ [x], RS.set s.opn t (some s.ops.length)⟩ := by
  intro u
  by_cases hu : u = t
  · subst hu
    refine ⟨by rw [Go.Maps.has_put_same hm isKey]; simp [RS.set], fun i hi => ?_⟩
    have hi : i = s.ops.length := by simpa [RS.set, eq_comm] using hi
    subst hi
    exact ⟨by simp, fun zd => by rw [Go.Maps.atKey_put_same hm isKey]⟩
  · have hne : (Lit.int .i64 u) ≠ .int .i64 t := fun e => hu (by injection e)
    refine ⟨by rw [Go.Maps.has_put_other hne, (h u).1]; simp [RS.set, hu], fun i hi => ?_⟩
    have hi : s.opn u = some i := by simpa [RS.set, hu] using hi
    obtain ⟨h1, h2⟩ := (h u).2 i hi
    exact ⟨by simp; omega, fun zd => by rw [Go.Maps.atKey_put_other hne]; exact h2 zd⟩
theorem hturn_grown {w w' : World} {b : Nat} (h : w.drew.mapTurned w' b) : w.grownBy w' (some b) := by
  obtain ⟨h1, h2, h3, h4, h5⟩ := h.grown
  exact ⟨h1, h2, h3, h4, h5⟩
theorem H2ne {w0 w : World} {p mb n g : Nat} {many : Int} {s : RS} {cs : Array Value} {t : TypeId} {fr : Nat × Nat} (h : RdIs w0 w p mb n many s) (hb : w.heap[g]? = some (.cells cs t fr)) (e : g = mb) : False := by
  obtain ⟨D, hD, _⟩ := h.mapd
  obtain ⟨es, clock, hb2, _⟩ := hD
  rw [← e, hb] at hb2
  cases hb2
theorem heap_lt {w : World} {b : Nat} {o : Obj} (h : w.heap[b]? = some o) : b < w.heap.size := by
  rcases Nat.lt_or_ge b w.heap.size with h' | h'
  · exact h'
  · rw [Array.getElem?_eq_none h'] at h; cases h
/-- What the append of a new op leaves. -/
structure NewOp (w0 W3 w4 : World) (p : Nat) (many : Int) (mb : Nat) (s : RS) (x : S78) (A4 : Option Addr) (c4 : Nat) (v : Value) : Prop where
  row : Kd.R k78 78 w4 w0.heap.size (fun _ => True) (.slice A4 (s.ops.length + 1) c4) (s.ops ++ [x])
  below : Below w0.heap.size w0 w4
  grown : W3.drew.grownBy w4 v.ownBlock
  head : w4.heap[p]? = some (.cells #[v, .map (some mb), .int .i64 many] 124 (0, 0))
def opCells (x : S78) : List Value := [.int .i64 x.f0, .int .i64 x.f1.f0, .string x.f1.f1, .string x.f1.f2, .string x.f1.f3, .int .i64 x.f1.f4, .int .i64 x.f2.f0, .bool x.f2.f1, .string x.f2.f2, .string x.f2.f3, .int .i64 x.f2.f4, .bool x.f3, .int .i64 x.f4, .int .i64 x.f5]
theorem step_new {ops : Array Oper} {o : Oper} {a : Act} {K : Act → World → Prop} {Q : Exit → Act → World → Prop} {w0 W3 : World} {p mb : Nat} {many : Int} {s : RS} {x : S78} {Av : Option Addr} {cv : Nat} {cs : Array Value}
    (hw : Region.wanted o (yielded ops a.tmps) = true) (ho : o.op = .call { callee := .builtin .append, args := #[.tmp 42, .tmp 53], argTypes := #[66, 66] })
    (hs : a.eval (.tmp 42) = .slice Av s.ops.length cv) (hx : a.eval (.tmp 53) = .slice (some ⟨W3.heap.size, 0, none⟩) 1 1) (hcs : cs = (opCells x).toArray) (hR : Kd.R k78 78 W3 w0.heap.size (fun _ => True) (.slice Av s.ops.length cv) s.ops) (hB : Below w0.heap.size w0 W3.drew)
    (hV : W3.heap[p]? = some (.cells #[.slice Av s.ops.length cv, .map (some mb), .int .i64 many] 124 (0, 0))) (hsz : w0.heap.size ≤ W3.heap.size) (hlen : s.ops.length < 1000000)
    (h : ∀ A4 c4 w4, w4.cell? ⟨p, 0, none⟩ = some (.slice Av s.ops.length cv) → w4.frozen? ⟨p, 0, none⟩ = false → NewOp w0 W3 w4 p many mb s x A4 c4 (.slice Av s.ops.length cv) → K (a.put o.dst (.slice A4 (s.ops.length + 1) c4)) w4) :
    if Region.wanted o (yielded ops a.tmps) = true then Oper.wp Try.prog o a (W3.drew.alloc (.cells cs 78)) K Q else K (a.put o.dst undef) (W3.drew.alloc (.cells cs 78)) := by
  subst hcs
  refine Kd.R_append_step k78 (w0 := w0) (W := W3.drew) w0.heap.size hw (.tmp 42) (.tmp 53) 66 78 (.agg #[(.int .i64 0), (.int .i64 0), (.string ⟨#[]⟩), (.string ⟨#[]⟩), (.string ⟨#[]⟩), (.int .i64 0), (.int .i64 0), (.bool false), (.string ⟨#[]⟩), (.string ⟨#[]⟩), (.int .i64 0), (.bool false), (.int .i64 0), (.int .i64 0)]) 152 ho Try.underlying66 info78 rfl (by decide) (by decide) (.slice Av s.ops.length cv) s.ops x (opCells x) (fun _ => True) (fun _ => False) hs hx (k78_mkM _ _ _ _) (fun _ h => h.elim) (fun _ _ => trivial) (Kd.R_drew hR) hB hsz (by omega) ?_
  intro v4 w4 hR4 hB4 hG4 hat4
  obtain ⟨A4, c4, hv4, _⟩ := Kd.R_reads hR4
  rw [List.length_append, List.length_singleton] at hv4
  subst hv4
  have zp := (hG4.block p (heap_lt hV) (Kd.R_ne hR hV (by decide))).trans hV
  exact h A4 c4 w4 ((cell_row (i := 0) zp).trans rfl) (by simp [World.frozen?, zp]) ⟨hR4, hB4, hG4, zp⟩
/-- A row of ops, cell by cell. -/
def OpRow (inner : List Value) (ops : List S78) : Prop := inner.length = ops.length * 14 ∧ ∀ j x, ops[j]? = some x → ∀ q, q < 14 → inner[j * 14 + q]? = (opCells x)[q]?
theorem op_row {w : World} {base : Nat} {v : Value} {ops : List S78} (h : Kd.R k78 78 w base (fun _ => True) v ops) (hl : 0 < ops.length) :
    ∃ (g cap : Nat) (cur : Array Value) (inner : List Value), v = .slice (some ⟨g, 0, none⟩) ops.length cap ∧ base ≤ g ∧ w.heap[g]? = some (.cells cur 78 (0, 0)) ∧ ops.length ≤ cap ∧ cap ≤ maxLen ∧ cur.size = cap * 14 ∧ cur.toList.take (ops.length * 14) = inner ∧ OpRow inner ops := by
  obtain ⟨_, inner, ho, hr⟩ := h
  rcases own_cases ho with ⟨_, h0, _⟩ | ⟨g, cap, cur, hv, hg1, hg2, hg3, hg4, hg5, hg6⟩
  · omega
  · refine ⟨g, cap, cur, inner, hv, hg1, hg2, hg3, hg4, hg5, hg6, hr.1, fun j x hx q hq => ?_⟩
    have := hr.2 j x hx
    have e := k78_openM this
    have e2 : ((inner.drop (j * 14)).take 14)[q]? = (opCells x)[q]? := by rw [show (inner.drop (j * 14)).take 14 = opCells x from e]
    rw [List.getElem?_take, if_pos hq, List.getElem?_drop] at e2
    exact e2
theorem arr_some (cur : Array Value) (j : Nat) (h : j < cur.size) : ∃ u, cur[j]? = some u := ⟨_, Array.getElem?_eq_getElem h⟩
def setEnd (W : World) (g k : Nat) (cd : Int) (hs : Bool) (a1 a2 : ByteArray) (nn frm : Int) : World :=
  (((((((W.setCell ⟨g, k + 6, none⟩ (.int .i64 cd)).setCell ⟨g, k + 6 + 1, none⟩ (.bool hs)).setCell ⟨g, k + 6 + 2, none⟩ (.string a1)).setCell ⟨g, k + 6 + 3, none⟩ (.string a2)).setCell ⟨g, k + 6 + 4, none⟩ (.int .i64 nn)).setCell ⟨g, k + 11, none⟩ (.bool true)).setCell ⟨g, k + 13, none⟩ (.int .i64 frm))
set_option maxHeartbeats 1000000 in
theorem setEnd_heap {W : World} {g k : Nat} (cd : Int) (hs : Bool) (a1 a2 : ByteArray) (nn frm : Int) {cur : Array Value} {t : TypeId} (h : W.heap[g]? = some (.cells cur t (0, 0))) :
    (setEnd W g k cd hs a1 a2 nn frm).heap[g]? = some (.cells (((((((cur.setIfInBounds (k + 6) (.int .i64 cd)).setIfInBounds (k + 6 + 1) (.bool hs)).setIfInBounds (k + 6 + 2) (.string a1)).setIfInBounds (k + 6 + 3) (.string a2)).setIfInBounds (k + 6 + 4) (.int .i64 nn)).setIfInBounds (k + 11) (.bool true)).setIfInBounds (k + 13) (.int .i64 frm)) t (0, 0)) := by
  unfold setEnd
  have h1 := heap_set_same (i := k + 6) (v := .int .i64 cd) h
  have h2 := heap_set_same (i := k + 6 + 1) (v := .bool hs) h1
  have h3 := heap_set_same (i := k + 6 + 2) (v := .string a1) h2
  have h4 := heap_set_same (i := k + 6 + 3) (v := .string a2) h3
  have h5 := heap_set_same (i := k + 6 + 4) (v := .int .i64 nn) h4
  have h6 := heap_set_same (i := k + 11) (v := .bool true) h5
  exact heap_set_same (i := k + 13) (v := .int .i64 frm) h6
theorem setEnd_other {W : World} {g k j : Nat} (cd : Int) (hs : Bool) (a1 a2 : ByteArray) (nn frm : Int) (h : j ≠ g) : (setEnd W g k cd hs a1 a2 nn frm).heap[j]? = W.heap[j]? := by
  unfold setEnd
  rw [Below.heap_setCell _ _ _ _ h, Below.heap_setCell _ _ _ _ h, Below.heap_setCell _ _ _ _ h, Below.heap_setCell _ _ _ _ h, Below.heap_setCell _ _ _ _ h, Below.heap_setCell _ _ _ _ h, Below.heap_setCell _ _ _ _ h]
theorem setEnd_below {W w0 : World} {B g k : Nat} (cd : Int) (hs : Bool) (a1 a2 : ByteArray) (nn frm : Int) (h : Below B w0 W) (hg : B ≤ g) : Below B w0 (setEnd W g k cd hs a1 a2 nn frm) := by
  unfold setEnd
  have h1 := h.setCell (p := ⟨g, k + 6, none⟩) hg (.int .i64 cd)
  have h2 := h1.setCell (p := ⟨g, k + 6 + 1, none⟩) hg (.bool hs)
  have h3 := h2.setCell (p := ⟨g, k + 6 + 2, none⟩) hg (.string a1)
  have h4 := h3.setCell (p := ⟨g, k + 6 + 3, none⟩) hg (.string a2)
  have h5 := h4.setCell (p := ⟨g, k + 6 + 4, none⟩) hg (.int .i64 nn)
  have h6 := h5.setCell (p := ⟨g, k + 11, none⟩) hg (.bool true)
  exact h6.setCell (p := ⟨g, k + 13, none⟩) hg (.int .i64 frm)
theorem drew_heap (w : World) : w.drew.heap = w.heap := rfl
theorem map_move {w w1 : World} {mb n : Nat} {D : DataW Unit} (h : w.ownsMap Try.prog 3 (plainElem Try.prog 3) mb n D) (hm : w1.heap[mb]? = w.heap[mb]?) : w1.ownsMap Try.prog 3 (plainElem Try.prog 3) mb n D := by
  obtain ⟨es, ck, hb, r⟩ := h
  exact ⟨es, ck, hm.trans hb, r⟩
theorem tied_end {D : DataW Unit} {s : RS} (h : Tied D s) {t : Int} {i : Nat} {x : S78} : Tied (D.del (.int .i64 t)) ⟨s.ops.set i x, RS.set s.opn t none⟩ := by
  intro u
  by_cases hu : u = t
  · subst hu
    refine ⟨by rw [Go.Maps.has_del_same]; simp [RS.set], fun i hi => ?_⟩
    simp [RS.set] at hi
  · have hne : (Lit.int .i64 u) ≠ .int .i64 t := fun e => hu (by injection e)
    refine ⟨by rw [Go.Maps.has_del_other hne, (h u).1]; simp [RS.set, hu], fun i hi => ?_⟩
    have hi : s.opn u = some i := by simpa [RS.set, hu] using hi
    obtain ⟨h1, h2⟩ := (h u).2 i hi
    exact ⟨by simp; omega, fun zd => by rw [Go.Maps.atKey_del_other hne]; exact h2 zd⟩
theorem op_set {inner : List Value} {ops : List S78} (h : OpRow inner ops) {i : Nat} {y : S78} (hy : ops[i]? = some y) (cd : Int) (hs : Bool) (a1 a2 : ByteArray) (nn frm : Int) :
    OpRow (((((((inner.set (i * 14 + 6) (.int .i64 cd)).set (i * 14 + 6 + 1) (.bool hs)).set (i * 14 + 6 + 2) (.string a1)).set (i * 14 + 6 + 3) (.string a2)).set (i * 14 + 6 + 4) (.int .i64 nn)).set (i * 14 + 11) (.bool true)).set (i * 14 + 13) (.int .i64 frm)) (ops.set i (opEnd y ⟨cd, hs, a1, a2, nn⟩ frm)) := by
  have hi := (List.getElem?_eq_some_iff.1 hy).1
  have hl := h.1
  refine ⟨by simp only [List.length_set]; exact hl, fun j x hx q hq => ?_⟩
  by_cases hj : j = i
  · subst hj
    rw [List.getElem?_set_self hi] at hx
    obtain rfl := Option.some.inj hx
    have hc := h.2 j y hy q hq
    have h14 : q = 0 ∨ q = 1 ∨ q = 2 ∨ q = 3 ∨ q = 4 ∨ q = 5 ∨ q = 6 ∨ q = 7 ∨ q = 8 ∨ q = 9 ∨ q = 10 ∨ q = 11 ∨ q = 12 ∨ q = 13 := by omega
    rcases h14 with rfl | rfl | rfl | rfl | rfl | rfl | rfl | rfl | rfl | rfl | rfl | rfl | rfl | rfl
    all_goals
      (repeat rw [List.getElem?_set_ne (by omega)])
      first
        | exact hc
        | (rw [List.getElem?_set_self (by (try simp only [List.length_set]); omega)]; rfl)
  · rw [List.getElem?_set_ne (fun e => hj e.symm)] at hx
    have hjl := (List.getElem?_eq_some_iff.1 hx).1
    rw [List.getElem?_set_ne (by omega), List.getElem?_set_ne (by omega), List.getElem?_set_ne (by omega), List.getElem?_set_ne (by omega), List.getElem?_set_ne (by omega), List.getElem?_set_ne (by omega), List.getElem?_set_ne (by omega)]
    exact h.2 j x hx q hq
theorem op_reps {inner : List Value} {ops : List S78} (h : OpRow inner ops) (w : World) (base : Nat) (ok : Nat → Prop) : Reps (k78.M w base ok) 14 ops inner := by
  refine ⟨h.1, fun j x hx => ?_⟩
  have e : (inner.drop (j * 14)).take 14 = opCells x := by
    apply List.ext_getElem?
    intro q
    rw [List.getElem?_take]
    split
    · rw [List.getElem?_drop]; exact h.2 j x hx q (by assumption)
    · rw [List.getElem?_eq_none]; simp [opCells]; omega
  rw [e]
  exact k78_mkM _ _ _ x
theorem op_put {W3 : World} {base g cap i : Nat} {cur : Array Value} {inner : List Value} {ops : List S78} {y y' : S78} {cd : Int} {hs : Bool} {a1 a2 : ByteArray} {nn frm : Int}
    (hg : W3.heap[g]? = some (.cells (((((((cur.setIfInBounds (i * 14 + 6) (.int .i64 cd)).setIfInBounds (i * 14 + 6 + 1) (.bool hs)).setIfInBounds (i * 14 + 6 + 2) (.string a1)).setIfInBounds (i * 14 + 6 + 3) (.string a2)).setIfInBounds (i * 14 + 6 + 4) (.int .i64 nn)).setIfInBounds (i * 14 + 11) (.bool true)).setIfInBounds (i * 14 + 13) (.int .i64 frm)) 78 (0, 0)))
    (hb : base ≤ g) (hcap : ops.length ≤ cap) (hcm : cap ≤ maxLen) (hcs : cur.size = cap * 14) (hci : cur.toList.take (ops.length * 14) = inner) (hin : OpRow inner ops) (hy : ops[i]? = some y) (hy' : y' = opEnd y ⟨cd, hs, a1, a2, nn⟩ frm) :
    Kd.R k78 78 W3 base (fun _ => True) (.slice (some ⟨g, 0, none⟩) ops.length cap) (ops.set i y') := by
  subst hy'
  have hs' := op_set hin hy cd hs a1 a2 nn frm
  refine ⟨fun _ _ => trivial, _, ⟨?_, .inr ⟨g, cap, _, by rw [List.length_set], hb, hg, by rw [List.length_set]; exact hcap, hcm, by simp only [Array.size_setIfInBounds]; exact hcs, ?_⟩⟩, op_reps hs' _ _ _⟩
  · exact hs'.1
  · rw [List.length_set]
    have e : k78.sz = 14 := rfl
    rw [e]
    simp only [Array.toList_setIfInBounds, List.take_set]
    rw [hci]
set_option maxHeartbeats 4000000 in
set_option maxRecDepth 100000 in
theorem event_end (w0 w : World) (p mb n : Nat) (many frm : Int) (s : RS) (e : S127) (h : RdIs w0 w p mb n many s) (he : ¬ (e.f1 < 0 ∨ 64 ≤ e.f1)) (i : Nat) (x : S78) (hf : s.opn e.f1 = some i) (hx : s.ops[i]? = some x) (hr : e.f0 = true) (hA : difC x.f1 e.f2 = false) :
    Calls Try.prog 103 #[.pointer (some ⟨p, 0, none⟩), .int .i64 frm, evV e] w fun e' w' => e' = .returned (.int .i64 0) ∧ RdIs w0 w' p mb n many ⟨s.ops.set i (opEnd x e.f3 frm), RS.set s.opn e.f1 none⟩ := by
  obtain ⟨res, tt, ⟨o, k1, k2, k3, hh⟩, ⟨cd, hs, a1, a2, nn⟩⟩ := e
  dsimp only at *
  have he1 : 0 ≤ tt := by omega
  have he2 : tt < 64 := by omega
  obtain ⟨W1, hW1⟩ : ∃ W1, W1 = w.alloc (.cells #[.bool res, .int .i64 tt, .int .i64 o, .string k1, .string k2, .string k3, .int .i64 hh, .int .i64 cd, .bool hs, .string a1, .string a2, .int .i64 nn] 127) := ⟨_, rfl⟩
  have hbW : Below w.heap.size w W1 := hW1 ▸ (Below.refl _ _).alloc (Nat.le_refl _) _
  have h1 := h.step hbW
  obtain ⟨A, c, p0, p1, p2, p3, plt, hc, hC⟩ := h1.cells
  have hbox : W1.heap[w.heap.size]? = some (.cells #[.bool res, .int .i64 tt, .int .i64 o, .string k1, .string k2, .string k3, .int .i64 hh, .int .i64 cd, .bool hs, .string a1, .string a2, .int .i64 nn] 127 (0, 0)) := by rw [hW1]; exact alloc_at
  have b0 := (cell_row (i := 0) hbox).trans rfl
  have b1 := (cell_row (i := 1) hbox).trans rfl
  have b2 := (cell_row (i := 2) hbox).trans rfl
  have b3 := (cell_row (i := 3) hbox).trans rfl
  have b4 := (cell_row (i := 4) hbox).trans rfl
  have b5 := (cell_row (i := 5) hbox).trans rfl
  have b6 := (cell_row (i := 6) hbox).trans rfl
  have b7 := (cell_row (i := 7) hbox).trans rfl
  have b8 := (cell_row (i := 8) hbox).trans rfl
  have b9 := (cell_row (i := 9) hbox).trans rfl
  have b10 := (cell_row (i := 10) hbox).trans rfl
  have b11 := (cell_row (i := 11) hbox).trans rfl
  have hlk : ∀ nq, (Instr.lookup 122 (.map (some mb)) (.int .i64 tt) true).run Try.prog (W1.drewN nq) = .ok (.tuple #[.int .i64 (lkv s tt), .bool (s.opn tt).isSome]) (W1.drewN nq) := fun nq => look_at (h1.step (pw_below_drewN (Below.refl _ _) nq)) (by omega)
  have HB1 := Aside0.mk hbW
  have H1 := Aside0.mk h1
  have HC := Aside0.mk hC
  have HBX := Aside0.mk hbox
  have HP3 := Aside0.mk p3
  clear hbW h1 hC hbox h he p3
  subst hr
  have hin : i < s.ops.length := by
    obtain ⟨D, _, hT⟩ := H1.out.mapd
    exact ((hT tt).2 i hf).1
  have hlv : lkv s tt = (i : Int) := by unfold lkv; rw [hf]
  rw [hf, hlv] at hlk
  dsimp only [Option.isSome_some] at hlk
  clear hf hlv
  obtain ⟨y, hy⟩ : ∃ y, y = rd_T78 s.ops (i : Int) := ⟨_, rfl⟩
  obtain ⟨ad, hAd, q⟩ := at_T78 HC.out (i : Int) (by omega) (by omega)
  subst hAd
  rw [← hy] at q
  simp only [Int.toNat_natCast] at q
  have hyg : s.ops[i]? = some y := by
    rw [hy]
    unfold rd_T78
    rw [Int.toNat_natCast, List.getD_eq_getElem?_getD, List.getElem?_eq_getElem hin]; rfl
  rw [hyg] at hx
  obtain rfl := Option.some.inj hx
  have HYG := Aside0.mk hyg
  clear hyg hy hx
  have i0 : (0 : Int) ≤ (i : Int) := by omega
  have i1 : (i : Int) < s.ops.length := by omega
  obtain ⟨q0, q1, q2, q3, q4, q5, q6, q7, q8, q9, q10, q11, q12, q13⟩ := q
  unfold difC at hA
  dsimp only at hA
  unfold evV
  go_enter Try.func103, Try.ntmps103
  go_wp2
  rw [← hW1]
  clear hW1
  go_quiet (fail)
  go_wp2
  obtain ⟨n1, hn1⟩ : ∃ n1, n1 = nq := ⟨_, rfl⟩
  rw [← hn1]
  clear hn1
  go_quiet (fail)
  go_wp2
  obtain ⟨W2, hW2⟩ : ∃ W2, W2 = W1.drewN (n1 + nq) := ⟨_, rfl⟩
  rw [← hW2]
  have hb2 : Below W1.heap.size W1 W2 := hW2 ▸ pw_below_drewN (Below.refl _ _) _
  have h2 := H1.out.step hb2
  have hbx2 := (hb2.block _ (heap_lt HBX.out)).trans HBX.out
  clear b0 b1 b2 b3 b4 b5 b6 b7 b8 b9 b10 b11 p0 p1 p2 hlk hW2 hb2 q0 q1 q2 q3 q4 q5 q6 q7 q8 q9 q10 q11 q12 q13 hc i0 i1
  obtain ⟨v, hv1, hv2⟩ := h2.head
  have HV1 := Aside0.mk hv1
  have H2 := Aside0.mk h2
  have HBX2 := Aside0.mk hbx2
  obtain ⟨g, cap, cur, inner, hv, hgb, hg, hcap, hcm, hcs, hci, hin2⟩ := op_row hv2 (by have := hin; omega)
  have HV2 := Aside0.mk hv2
  subst hv
  have HCI := Aside0.mk hci
  have HIN := Aside0.mk hin2
  have HCS := Aside0.mk hcs
  have HG := Aside0.mk hg
  clear hv1 hv2 h2 hbx2 hci hin2 hcs
  have b1 := (cell_row (i := 1) HBX2.out).trans rfl
  have b7 := (cell_row (i := 7) HBX2.out).trans rfl
  have b8 := (cell_row (i := 8) HBX2.out).trans rfl
  have b9 := (cell_row (i := 9) HBX2.out).trans rfl
  have b10 := (cell_row (i := 10) HBX2.out).trans rfl
  have b11 := (cell_row (i := 11) HBX2.out).trans rfl
  have p0 := (cell_row (i := 0) HV1.out).trans rfl
  have p1 := (cell_row (i := 1) HV1.out).trans rfl
  have gf : ∀ j, W2.frozen? ⟨g, j, none⟩ = false := fun j => by simp [World.frozen?, HG.out]
  obtain ⟨u6, hu6⟩ := arr_some cur (i * 14 + 6) (by have := HCS.out; omega)
  obtain ⟨u7, hu7⟩ := arr_some cur (i * 14 + 7) (by have := HCS.out; omega)
  obtain ⟨u8, hu8⟩ := arr_some cur (i * 14 + 8) (by have := HCS.out; omega)
  obtain ⟨u9, hu9⟩ := arr_some cur (i * 14 + 9) (by have := HCS.out; omega)
  obtain ⟨u10, hu10⟩ := arr_some cur (i * 14 + 10) (by have := HCS.out; omega)
  obtain ⟨u11, hu11⟩ := arr_some cur (i * 14 + 11) (by have := HCS.out; omega)
  obtain ⟨u13, hu13⟩ := arr_some cur (i * 14 + 13) (by have := HCS.out; omega)
  have z6 := (cell_row (i := i * 14 + 6) hg).trans hu6
  have z7 := (cell_row (i := i * 14 + 7) hg).trans hu7
  have z8 := (cell_row (i := i * 14 + 8) hg).trans hu8
  have z9 := (cell_row (i := i * 14 + 9) hg).trans hu9
  have z10 := (cell_row (i := i * 14 + 10) hg).trans hu10
  have z11 := (cell_row (i := i * 14 + 11) hg).trans hu11
  have z13 := (cell_row (i := i * 14 + 13) hg).trans hu13
  have i0 : (0 : Int) ≤ (i : Int) := by omega
  have i1 : (i : Int) < (s.ops.length : Int) := by omega
  clear hu6 hu7 hu8 hu9 hu10 hu11 hu13 hg
  go_region
  go_wp2
  obtain ⟨W3, hW3⟩ : ∃ W3, W3 = (setEnd W2 g (i * 14) cd hs a1 a2 nn frm).drew := ⟨_, rfl⟩
  have hW3' := hW3
  unfold setEnd at hW3'
  rw [← hW3']
  clear hW3'
  have hg3 := setEnd_heap (k := i * 14) cd hs a1 a2 nn frm HG.out
  have ho3 : ∀ k, k ≠ g → (setEnd W2 g (i * 14) cd hs a1 a2 nn frm).heap[k]? = W2.heap[k]? := fun k hk => setEnd_other cd hs a1 a2 nn frm hk
  have hb3 := below_drew1 (setEnd_below (k := i * 14) cd hs a1 a2 nn frm H2.out.below hgb)
  have hdr : W3.heap = (setEnd W2 g (i * 14) cd hs a1 a2 nn frm).heap := (congrArg World.heap hW3).trans (drew_heap _)
  rw [← hdr] at hg3
  rw [← hW3] at hb3
  simp only [← hdr] at ho3
  have hpg : p ≠ g := fun e => by
    have h1 := HV1.out
    rw [e, HG.out] at h1
    injection h1 with h1
    injection h1 with _ h1
    exact absurd h1 (by decide)
  have hbg : w.heap.size ≠ g := fun e => by
    have h1 := HBX2.out
    rw [e, HG.out] at h1
    injection h1 with h1
    injection h1 with _ h1
    exact absurd h1 (by decide)
  have hv3 := (ho3 p hpg).trans HV1.out
  have hbx3 := (ho3 _ hbg).trans HBX2.out
  have hR3 := op_put (y := y) (y' := opEnd y ⟨cd, hs, a1, a2, nn⟩ frm) hg3 hgb hcap hcm HCS.out HCI.out HIN.out HYG.out rfl
  obtain ⟨D, hD, hT⟩ := H2.out.mapd
  have hD3 : W3.ownsMap Try.prog 3 (plainElem Try.prog 3) mb n D := map_move hD (ho3 mb (fun e => by
    obtain ⟨es, ck, hb, _⟩ := hD
    rw [e, HG.out] at hb
    cases hb))
  obtain ⟨W4, hrun, hD4, hturn⟩ := (hD3.drew).drop hKey Try.underlying122 (key := .int .i64 tt) (hKeyOf (by omega)) 0
  have b1' := (cell_row (i := 1) hbx3).trans rfl
  have p1' := (cell_row (i := 1) hv3).trans rfl
  have HV3 := Aside0.mk hv3
  have HR3 := Aside0.mk hR3
  have HB3 := Aside0.mk hb3
  have HT := Aside0.mk hT
  have HD4 := Aside0.mk hD4
  have HTU := Aside0.mk hturn
  obtain ⟨es0, ck0, hDmap, _⟩ := id hD3
  have HDM := Aside0.mk hDmap
  clear hg3 ho3 hb3 hdr hv3 hbx3 hR3 hD hT hD3 hD4 hturn hDmap hW3 z6 z7 z8 z9 z10 z11 z13 b1 b7 b8 b9 b10 b11 p0 p1 gf
  go_still_tail 6, (by kernel_rfl)
  change wpList _ _ _ _ _ W3.drew
  go_wp2
  go_ret
  have hg34 := hturn_grown HTU.out
  exact ⟨rfl, ⟨⟨_, (hg34.block p (heap_lt HV3.out) (by intro e; injection e with e; exact H2.out.ne e)).trans HV3.out, R_map HR3.out hg34 HDM.out⟩, ⟨_, HD4.out, tied_end HT.out⟩, H2.out.ne, H2.out.pge, H2.out.mge, by rw [List.length_set]; exact H2.out.len, HB3.out.grown hg34 (below_size HB3.out) (fun k hk => by injection hk with hk; have := H2.out.mge; omega)⟩⟩
set_option maxHeartbeats 4000000 in
set_option maxRecDepth 100000 in
theorem event_new (w0 w : World) (p mb n : Nat) (many frm : Int) (s : RS) (e : S127) (h : RdIs w0 w p mb n many s) (he : ¬ (e.f1 < 0 ∨ 64 ≤ e.f1)) (hn : n < 1000000) (hmany : -9223372036854775808 ≤ many ∧ many ≤ 9223372036854775807) (hf : s.opn e.f1 = none) (hr : e.f0 = false) (hA : difA e.f3 = false) :
    Calls Try.prog 103 #[.pointer (some ⟨p, 0, none⟩), .int .i64 frm, evV e] w fun e' w' => e' = .returned (.int .i64 0) ∧ RdIs w0 w' p mb (n + 1) many ⟨s.ops ++ [opNew e frm many], RS.set s.opn e.f1 (some s.ops.length)⟩ := by
  obtain ⟨res, tt, ⟨o, k1, k2, k3, hh⟩, ⟨cd, hs, a1, a2, nn⟩⟩ := e
  dsimp only at *
  have he1 : 0 ≤ tt := by omega
  have he2 : tt < 64 := by omega
  obtain ⟨W1, hW1⟩ : ∃ W1, W1 = w.alloc (.cells #[.bool res, .int .i64 tt, .int .i64 o, .string k1, .string k2, .string k3, .int .i64 hh, .int .i64 cd, .bool hs, .string a1, .string a2, .int .i64 nn] 127) := ⟨_, rfl⟩
  have hbW : Below w.heap.size w W1 := hW1 ▸ (Below.refl _ _).alloc (Nat.le_refl _) _
  have h1 := h.step hbW
  obtain ⟨A, c, p0, p1, p2, p3, plt, hc, hC⟩ := h1.cells
  have hbox : W1.heap[w.heap.size]? = some (.cells #[.bool res, .int .i64 tt, .int .i64 o, .string k1, .string k2, .string k3, .int .i64 hh, .int .i64 cd, .bool hs, .string a1, .string a2, .int .i64 nn] 127 (0, 0)) := by rw [hW1]; exact alloc_at
  have b0 := (cell_row (i := 0) hbox).trans rfl
  have b1 := (cell_row (i := 1) hbox).trans rfl
  have b2 := (cell_row (i := 2) hbox).trans rfl
  have b3 := (cell_row (i := 3) hbox).trans rfl
  have b4 := (cell_row (i := 4) hbox).trans rfl
  have b5 := (cell_row (i := 5) hbox).trans rfl
  have b6 := (cell_row (i := 6) hbox).trans rfl
  have b7 := (cell_row (i := 7) hbox).trans rfl
  have b8 := (cell_row (i := 8) hbox).trans rfl
  have b9 := (cell_row (i := 9) hbox).trans rfl
  have b10 := (cell_row (i := 10) hbox).trans rfl
  have b11 := (cell_row (i := 11) hbox).trans rfl
  have hlk : ∀ nq, (Instr.lookup 122 (.map (some mb)) (.int .i64 tt) true).run Try.prog (W1.drewN nq) = .ok (.tuple #[.int .i64 (lkv s tt), .bool (s.opn tt).isSome]) (W1.drewN nq) := fun nq => look_at (h1.step (pw_below_drewN (Below.refl _ _) nq)) (by omega)
  have HB1 := Aside0.mk hbW
  have H1 := Aside0.mk h1
  have HC := Aside0.mk hC
  have HBX := Aside0.mk hbox
  have HP3 := Aside0.mk p3
  clear hbW h1 hC hbox h he p3
  subst hr
  rw [hf] at hlk
  clear hf
  unfold difA at hA
  dsimp only [Option.isSome_none] at hlk hA
  unfold evV
  go_enter Try.func103, Try.ntmps103
  go_wp2
  rw [← hW1]
  clear hW1
  go_quiet (fail)
  go_wp2
  obtain ⟨n1, hn1⟩ : ∃ n1, n1 = nq := ⟨_, rfl⟩
  rw [← hn1]
  clear hn1
  go_quiet (fail)
  go_wp2
  obtain ⟨W2, hW2⟩ : ∃ W2, W2 = W1.drewN (n1 + nq) := ⟨_, rfl⟩
  rw [← hW2]
  have hb2 : Below W1.heap.size W1 W2 := hW2 ▸ pw_below_drewN (Below.refl _ _) _
  have h2 := H1.out.step hb2
  have hbx2 := (hb2.block _ (heap_lt HBX.out)).trans HBX.out
  have HB2 := Aside0.mk (below_step HB1.out hb2)
  clear b0 b1 b2 b3 b4 b5 b6 b7 b8 b9 b10 b11 p0 p1 p2 hlk hW2 hb2
  obtain ⟨D, hD, hT⟩ := h2.mapd
  have HT := Aside0.mk hT
  have H2 := Aside0.mk h2
  have HBX2 := Aside0.mk hbx2
  obtain ⟨W3, hrun, hD3, hturn⟩ := (hD.drew).store hKey Try.underlying122 (n := n) (by unfold maxLen; omega) (key := .int .i64 tt) (val := .int .i64 (s.ops.length : Int)) (hKeyOf (by omega)) (plainElem_int (H := Unit) Try.underlying3 (WalkArith.wf_i64 (by have := h2.len; omega)))
  have HD3 := Aside0.mk hD3
  have hmp := hD.isMap
  obtain ⟨es0, ck0, hDmap, _⟩ := id hD
  have HTU := Aside0.mk hturn
  have b1 := (cell_row (i := 1) hbx2).trans rfl
  obtain ⟨A2, c2, p0, p1, p2, p3, plt2, hc2, hC2⟩ := h2.cells
  clear hT h2 hbx2 hD hD3 hturn hC2 p3
  go_still_tail 11, (by kernel_rfl)
  change wpList _ _ _ _ _ W2.drew
  go_wp2
  have hg23 := hturn_grown HTU.out
  have HG := Aside0.mk hg23
  have hbx3 := (hg23.block w.heap.size (heap_lt HBX2.out) (by intro e; injection e with e; exact H2ne H2.out HBX2.out e)).trans HBX2.out
  obtain ⟨v, hv1, hv2⟩ := H2.out.head
  have hv3 := (hg23.block p plt2 (by intro e; injection e with e; exact H2.out.ne e)).trans hv1
  have HV2 := Aside0.mk hv2
  have HV3 := Aside0.mk hv3
  have hr3 : Kd.R k78 78 W3 w0.heap.size (fun _ => True) v s.ops := R_map hv2 hg23 hDmap
  have HR3 := Aside0.mk hr3
  clear p0 p1 p2 b1 hrun hg23 hv1 hv2
  have HBX3 := Aside0.mk hbx3
  have b1 := (cell_row (i := 1) hbx3).trans rfl
  have b2 := (cell_row (i := 2) hbx3).trans rfl
  have b3 := (cell_row (i := 3) hbx3).trans rfl
  have b4 := (cell_row (i := 4) hbx3).trans rfl
  have b5 := (cell_row (i := 5) hbx3).trans rfl
  have b6 := (cell_row (i := 6) hbx3).trans rfl
  have p0 := (cell_row (i := 0) hv3).trans rfl
  have p2 := (cell_row (i := 2) hv3).trans rfl
  have pf : W3.frozen? ⟨p, 0, none⟩ = false := by simp [World.frozen?, hv3]
  clear hbx3 hv3 hr3
  obtain ⟨Av, cv, hvs, _⟩ := Kd.R_reads HR3.out
  subst hvs
  have hlen := H2.out.len
  have HSZ := Aside0.mk (show w0.heap.size ≤ W3.heap.size from Nat.le_trans (below_size H2.out.below) HG.out.size)
  have HB3 := Aside0.mk (show Below w0.heap.size w0 W3.drew from below_drew1 (H2.out.below.grown HG.out (below_size H2.out.below) (fun k hk => by injection hk with hk; have := H2.out.mge; omega)))
  have HPL := Aside0.mk (show p < W3.drew.heap.size from heap_lt HV3.out)
  have HNE := Aside0.mk (Kd.R_ne HR3.out HV3.out (by decide))
  have HNM := Aside0.mk (map_ne HD3.out HR3.out)
  have HMP := Aside0.mk hmp
  have za : ∀ o, (W3.alloc o).cell? ⟨p, 0, none⟩ = some (.slice Av s.ops.length cv) := fun o => (World.cell?_alloc_lt _ _ _ HPL.out).trans p0
  clear hmp
  go_region_law (refine step_new (w0 := w0) (W3 := W3) (p := p) (many := many) (mb := mb) (s := s) (x := ⟨tt, ⟨o, k1, k2, k3, hh⟩, zA, false, frm, many⟩) (by simp [Region.wanted]) rfl (by simp [Act.eval, Act.put]) (by simp [Act.eval, Act.put]) rfl HR3.out HB3.out HV3.out HSZ.out (by omega) ?_; intro A4 c4 w4 z0 zf hN; have HN := Aside0.mk hN; clear hN)
  all_goals
    go_wp2
    go_ret
    exact ⟨rfl, ⟨⟨_, (heap_set_same (i := 0) HN.out.head).trans rfl, Kd.R_set HN.out.row HN.out.head (by decide) 0 _⟩, ⟨_, ((HD3.out.drew).kept HN.out.grown HNM.out).setCell (by show mb ≠ p; exact fun e => H1.out.ne e.symm) _, tied_new HT.out HMP.out _⟩, H1.out.ne, H1.out.pge, H1.out.mge, by simp only [List.length_append, List.length_singleton]; have := H1.out.len; omega, HN.out.below.setCell H1.out.pge _⟩⟩
theorem RdIs.more {w0 w : World} {p mb n n' : Nat} {many : Int} {s : RS} (h : RdIs w0 w p mb n many s) (hn : n ≤ n') : RdIs w0 w p mb n' many s := by
  obtain ⟨D, h1, h2⟩ := h.mapd
  exact ⟨h.head, ⟨D, h1.mono hn, h2⟩, h.ne, h.pge, h.mge, Nat.le_trans h.len hn, h.below⟩
/-- What event answers, and leaves. -/
def EvIs (w0 w w' : World) (p mb n : Nat) (many : Int) (x : Int × RS) (e' : Ending) : Prop :=
  e' = .returned (.int .i64 x.1) ∧ ((x.1 = 0 ∧ RdIs w0 w' p mb (n + 1) many x.2) ∨ ((x.1 = 2 ∨ x.1 = 4) ∧ Below w.heap.size w w'))
theorem event_calls (w0 w : World) (p mb n : Nat) (many frm : Int) (s : RS) (e : S127) (h : RdIs w0 w p mb n many s) (hn : n < 1000000) (hmany : -9223372036854775808 ≤ many ∧ many ≤ 9223372036854775807) :
    Calls Try.prog 103 #[.pointer (some ⟨p, 0, none⟩), .int .i64 frm, evV e] w fun e' w' => EvIs w0 w w' p mb n many (evStep many frm e s) e' := by
  by_cases he : e.f1 < 0 ∨ 64 ≤ e.f1
  · have hx : evStep many frm e s = (2, s) := by unfold evStep; rw [if_pos he]
    rw [hx]
    exact (event_arg w0 w p mb n many frm s e h he).mono fun e' w' ⟨h1, h2⟩ => ⟨h1, .inr ⟨.inl rfl, h2⟩⟩
  · cases ho : s.opn e.f1 with
    | none =>
      cases hr : e.f0 with
      | true =>
        have hx : evStep many frm e s = (4, s) := by unfold evStep; rw [if_neg he, ho, hr]
        rw [hx]
        exact (event_form w0 w p mb n many frm s e h he (by rw [ho, hr]; simp)).mono fun e' w' ⟨h1, h2⟩ => ⟨h1, .inr ⟨.inr rfl, h2⟩⟩
      | false =>
        cases hA : difA e.f3 with
        | true =>
          have hx : evStep many frm e s = (4, s) := by unfold evStep; rw [if_neg he, ho, hr]; dsimp only; rw [if_pos hA]
          rw [hx]
          exact (event_formA w0 w p mb n many frm s e h he ho hr hA).mono fun e' w' ⟨h1, h2⟩ => ⟨h1, .inr ⟨.inr rfl, h2⟩⟩
        | false =>
          have hx : evStep many frm e s = (0, ⟨s.ops ++ [opNew e frm many], RS.set s.opn e.f1 (some s.ops.length)⟩) := by unfold evStep; rw [if_neg he, ho, hr]; dsimp only; rw [if_neg (by rw [hA]; decide)]
          rw [hx]
          exact (event_new w0 w p mb n many frm s e h he hn hmany ho hr hA).mono fun e' w' ⟨h1, h2⟩ => ⟨h1, .inl ⟨rfl, h2⟩⟩
    | some i =>
      cases hr : e.f0 with
      | false =>
        have hx : evStep many frm e s = (4, s) := by unfold evStep; rw [if_neg he, ho, hr]
        rw [hx]
        exact (event_form w0 w p mb n many frm s e h he (by rw [ho, hr]; simp)).mono fun e' w' ⟨h1, h2⟩ => ⟨h1, .inr ⟨.inr rfl, h2⟩⟩
      | true =>
        have hin : i < s.ops.length := by
          obtain ⟨D, _, hT⟩ := h.mapd
          exact ((hT e.f1).2 i ho).1
        have hg : s.ops[i]? = some s.ops[i] := List.getElem?_eq_getElem hin
        cases hA : difC (s.ops[i]).f1 e.f2 with
        | true =>
          have hx : evStep many frm e s = (4, s) := by unfold evStep; rw [if_neg he, ho, hr]; dsimp only; rw [hg]; dsimp only; rw [if_pos hA]
          rw [hx]
          exact (event_formC w0 w p mb n many frm s e h he i _ ho hg hr hA).mono fun e' w' ⟨h1, h2⟩ => ⟨h1, .inr ⟨.inr rfl, h2⟩⟩
        | false =>
          have hx : evStep many frm e s = (0, ⟨s.ops.set i (opEnd s.ops[i] e.f3 frm), RS.set s.opn e.f1 none⟩) := by unfold evStep; rw [if_neg he, ho, hr]; dsimp only; rw [hg]; dsimp only; rw [if_neg (by rw [hA]; decide)]
          rw [hx]
          exact (event_end w0 w p mb n many frm s e h he i _ ho hg hr hA).mono fun e' w' ⟨h1, h2⟩ => ⟨h1, .inl ⟨rfl, h2.more (Nat.le_succ n)⟩⟩
/-- What read leaves: a reader that has read all; or one that holds nothing. -/
def RdOut (w w' : World) (p : Nat) (x : Int × RS) : Prop :=
  (x.1 = 0 ∧ ∃ mb n many, n ≤ 1000000 ∧ RdIs w w' p mb n many x.2) ∨ (x.1 ≠ 0 ∧ x.2 = RS.none ∧ w'.heap[p]? = some (.cells #[.slice none 0 0, .map none, .int .i64 0] 124 (0, 0)) ∧ Below w.heap.size w w')
theorem rdis_new (w : World) (many : Int) : RdIs w ((w.alloc (.map #[] 0)).alloc (.cells #[.slice none 0 0, .map (some w.heap.size), .int .i64 many] 124)) (w.heap.size + 1) w.heap.size 0 many RS.none := by
  refine ⟨⟨_, ?_, Kd.R_nil _ _ _ _ _⟩, ⟨.map [], (World.ownsMap_made w _ _ _).alloc _, fun t => ⟨rfl, fun i hi => by cases hi⟩⟩, by omega, by omega, Nat.le_refl _, Nat.le_refl _, ((Below.refl _ _).alloc (Nat.le_refl _) _).alloc (by simp) _⟩
  have := alloc_at (w := w.alloc (.map #[] 0)) (o := .cells #[.slice none 0 0, .map (some w.heap.size), .int .i64 many] 124 (0, 0))
  rw [show (w.alloc (.map #[] 0)).heap.size = w.heap.size + 1 by simp] at this
  exact this
set_option maxHeartbeats 8000000 in
set_option maxRecDepth 100000 in
theorem read_calls (A0 : Option Addr) (c0 : Nat) (l : List S127) (w : World) (hr0 : Kd.C k127 w A0 l.length l) (hc0 : l.length ≤ c0) (hlen : l.length ≤ 1000000) :
    Calls Try.prog 80 #[.slice A0 l.length c0] w fun e w' => ∃ p, e = .returned (.tuple #[.pointer (some ⟨p, 0, none⟩), .int .i64 (rdAll l).1]) ∧ RdOut w w' p (rdAll l) := by
  have HR0 := Aside0.mk hr0
  have HN := Aside0.mk (rdis_new w l.length)
  have hmm := @run_makeMap Try.prog
  clear hr0
  go_enter Try.func80, Try.ntmps80
  go_wp2
  go_loopw [15] (fun s15 wr => ∃ (k : Nat) (s : RS), k ≤ l.length ∧ s15 = .int .i64 k ∧ Aside0 (RdIs w wr (w.heap.size + 1) w.heap.size k l.length s) ∧ Aside0 (rdAll l = rdFrom l.length (l.drop k) k s)) (fun s15 _ => l.length - (intOf s15).toNat)
  case atStart => exact ⟨0, _, by omega, rfl, HN, ⟨rfl⟩⟩
  case round =>
    obtain ⟨k, s, hk, rfl, HS, HF⟩ := hrel
    clear HN
    by_cases hkl : k < l.length
    · obtain ⟨ad, hAd, q⟩ := at_T127 (Kd.C_below HR0.out HS.out.below) (k : Int) (by omega) (by omega)
      subst hAd
      obtain ⟨ev, hev⟩ : ∃ ev, ev = rd_T127 l (k : Int) := ⟨_, rfl⟩
      rw [← hev] at q
      simp only [Int.toNat_natCast] at q
      have hdrop : l.drop k = ev :: l.drop (k + 1) := by
        rw [List.drop_eq_getElem_cons hkl, hev]
        congr 1
        unfold rd_T127
        rw [Int.toNat_natCast, List.getD_eq_getElem?_getD, List.getElem?_eq_getElem hkl]; rfl
      have HF2 : Aside0 (rdAll l = rdFrom l.length (ev :: l.drop (k + 1)) k s) := ⟨by rw [← hdrop]; exact HF.out⟩
      clear hev hdrop HF
      obtain ⟨q0, q1, q2, q3, q4, q5, q6, q7, q8, q9, q10, q11⟩ := q
      have i0 : (0 : Int) ≤ (k : Int) := by omega
      have i1 : (k : Int) < (l.length : Int) := by omega
      go_wp2_with fail
      have HE := fun (W : World) (h : RdIs w W (w.heap.size + 1) w.heap.size k l.length s) => event_calls w W (w.heap.size + 1) w.heap.size k l.length k s ev h (by omega) (by omega)
      unfold evV at HE
      refine (HE _ (HS.out.step ((Below.refl _ _).alloc (Nat.le_refl _) _))).mono ?_
      rintro e' w' ⟨rfl, ⟨h0, h1⟩ | ⟨h0, h1⟩⟩
      · have H1 := Aside0.mk h1
        have HF3 : Aside0 (rdAll l = rdFrom l.length (l.drop (k + 1)) ((k + 1 : Nat) : Int) (evStep l.length k ev s).2) := ⟨by rw [HF2.out]; show (if _ then _ else _) = _; rw [if_pos h0]; rfl⟩
        rw [h0]
        clear h0 h1 HF2
        go_wp2
        go_roundw
        case rel => exact ⟨k + 1, _, by omega, by go_num, H1, HF3⟩
        case measure => simp [intOf]; omega
      · have hne : (evStep l.length k ev s).1 ≠ 0 := by omega
        have HF3 : Aside0 (rdAll l = ((evStep l.length k ev s).1, RS.none)) := ⟨by rw [HF2.out]; show (if _ then _ else _) = _; rw [if_neg hne]⟩
        have hb := below_step HS.out.below (below_step ((Below.refl wr.heap.size wr).alloc (Nat.le_refl _) _) h1)
        have HB := Aside0.mk hb
        generalize (evStep l.length k ev s).1 = er at h0 hne HF3 ⊢
        clear h1 hb HF2
        rcases h0 with rfl | rfl
        all_goals
          go_wp2
          go_ret2
          exact ⟨w'.heap.size, by rw [HF3.out]; rfl, .inr ⟨by rw [HF3.out]; decide, by rw [HF3.out], alloc_at, below_alloc HB.out _⟩⟩
    · have hke : k = l.length := by omega
      subst hke
      have HF2 : Aside0 (rdAll l = (0, s)) := ⟨by rw [HF.out, List.drop_length]; rfl⟩
      go_wp2
      go_ret2
      exact ⟨w.heap.size + 1, by rw [HF2.out]; rfl, .inl ⟨by rw [HF2.out], _, _, _, hlen, by rw [HF2.out]; exact HS.out⟩⟩
theorem RdOut.below {w w' : World} {p : Nat} {x : Int × RS} (h : RdOut w w' p x) : Below w.heap.size w w' := by
  rcases h with ⟨_, mb, n, many, _, h⟩ | ⟨_, _, _, h⟩
  · exact h.below
  · exact h
set_option maxHeartbeats 1000000 in
theorem hist_May.calls (A0 : Option Addr) (c0 : Nat) (l0 : List S127) (r : Int) (w : World) (hr0 : Kd.C k127 w A0 l0.length l0) (hc0 : l0.length ≤ c0) (h : hist_May.f l0 = some r) :
    Calls Try.prog 43 #[.slice A0 l0.length c0] w fun e w' => e = .returned (.int .i64 r) ∧ Below w.heap.size w w' := by
  unfold hist_May.f at h
  split at h
  · rename_i hlen
    obtain rfl := Option.some.inj h
    have HR := Aside0.mk (read_calls A0 c0 l0 w hr0 hc0 hlen)
    clear hr0 h
    go_enter Try.func43, Try.ntmps43
    go_wp2_with fail
    refine HR.out.mono ?_
    rintro e w' ⟨p, rfl, ho⟩
    have HB := Aside0.mk ho.below
    clear ho
    go_wp2
    go_ret
    exact ⟨rfl, HB.out⟩
  · cases h

end Go.Proofs.Ytipdhjdlfdbkiaa.PHistAhead
