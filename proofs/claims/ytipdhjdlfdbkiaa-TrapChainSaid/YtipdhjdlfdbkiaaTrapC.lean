/- Layer 10: Chain over an arena of references: the references from one to the next; Must; the closure; the function. -/
import Derived.Test.YtipdhjdlfdbkiaaTrapM
import Derived.Deep.LoopGhost
namespace Go.Proofs.Ytipdhjdlfdbkiaa.TrapS
set_option linter.unusedSimpArgs false
set_option linter.unusedVariables false
open Go.RowKit Go.Proofs Go.Proofs.Ytipdhjdlfdbkiaa.Heap Go.Proofs.Ytipdhjdlfdbkiaa.Refs Go.Proofs.Ytipdhjdlfdbkiaa.ArenaM Go.Proofs.Ytipdhjdlfdbkiaa.ArenaInt Go.Proofs.Ytipdhjdlfdbkiaa.TOwn Go.Proofs.Ytipdhjdlfdbkiaa.RefArena Go.Proofs.Ytipdhjdlfdbkiaa.Trap
/-- The reference behind one, and the one k steps on. -/
def nx (A : AM Int) (r : Int) : Int := A.v (slotI r - 1).toNat
def it (A : AM Int) (r : Int) : Nat → Int
  | 0 => r
  | k + 1 => nx A (it A r k)
def its (A : AM Int) (r : Int) (k : Nat) : List Int := (List.range k).map (it A r)
theorem nx_live {A : AM Int} {r : Int} {i : Nat} (h : A.Live r i) : nx A r = A.v i := by unfold nx; rw [h.slot]; congr 1; omega
theorem it_succ (A : AM Int) (r : Int) : ∀ k, it A r (k + 1) = it A (nx A r) k
  | 0 => rfl
  | k + 1 => by show nx A (it A r (k + 1)) = nx A (it A (nx A r) k); rw [it_succ A r k]
theorem its_len (A : AM Int) (r : Int) (k : Nat) : (its A r k).length = k := by simp [its]
theorem its_succ (A : AM Int) (r : Int) (k : Nat) : vals (its A r (k + 1)) = vals (its A r k) ++ [.int .i64 (it A r k)] := by simp [its, vals, List.range_succ]
/-- Where the way from r ends: at none; at one too many; at one that is not live. -/
structure Way (A : AM Int) (r : Int) (m d : Nat) : Prop where
  le : d ≤ m
  go : ∀ j, j < d → it A r j ≠ 0 ∧ ∃ i, A.Live (it A r j) i
  stop : it A r d = 0 ∨ it A r d ≠ 0 ∧ (d = m ∨ d < m ∧ A.Dead (it A r d))
theorem way_ex (A : AM Int) : ∀ (m : Nat) (r : Int), ∃ d, Way A r m d
  | 0, r => ⟨0, Nat.le_refl _, fun j hj => by omega, by
    by_cases h : it A r 0 = 0
    · exact .inl h
    · exact .inr ⟨h, .inl rfl⟩⟩
  | m + 1, r => by
    by_cases h : r = 0
    · exact ⟨0, by omega, fun j hj => by omega, .inl h⟩
    · rcases A.live_or r with hl | hd
      · obtain ⟨d, h1, h2, h3⟩ := way_ex A m (nx A r)
        refine ⟨d + 1, by omega, fun j hj => ?_, ?_⟩
        · cases j with
          | zero => exact ⟨h, hl⟩
          | succ j => rw [it_succ]; exact h2 j (by omega)
        · rw [it_succ]
          rcases h3 with h3 | ⟨h3, h4 | ⟨h4, h5⟩⟩
          · exact .inl h3
          · exact .inr ⟨h3, .inl (by omega)⟩
          · exact .inr ⟨h3, .inr ⟨by omega, h5⟩⟩
      · exact ⟨0, by omega, fun j hj => by omega, .inr ⟨h, .inr ⟨by omega, hd⟩⟩⟩
/-- What holds at step k of the way. -/
theorem Way.at {A : AM Int} {r : Int} {m d : Nat} (h : Way A r m d) {k : Nat} (hk : k ≤ d) :
    (k = d ∧ it A r k = 0) ∨ (k = d ∧ it A r k ≠ 0 ∧ k = m) ∨ (k < m ∧ it A r k ≠ 0 ∧ k = d ∧ A.Dead (it A r k)) ∨ (k < m ∧ it A r k ≠ 0 ∧ k < d ∧ ∃ i, A.Live (it A r k) i ∧ it A r (k + 1) = A.v i) := by
  have hle := h.le
  rcases Nat.lt_or_ge k d with hkd | hkd
  · obtain ⟨h1, i, h2⟩ := h.go k hkd
    exact .inr (.inr (.inr ⟨by omega, h1, hkd, i, h2, nx_live h2⟩))
  · obtain rfl : k = d := by omega
    rcases h.stop with h3 | ⟨h3, h4 | ⟨h4, h5⟩⟩
    · exact .inl ⟨rfl, h3⟩
    · exact .inr (.inl ⟨rfl, h3, h4⟩)
    · exact .inr (.inr (.inl ⟨h4, h3, rfl, h5⟩))
def In64 (x : Int) : Prop := -9223372036854775808 ≤ x ∧ x ≤ 9223372036854775807
theorem it_in {A : AM Int} {r : Int} (h : In64 r) (hv : ∀ i, In64 (A.v i)) : ∀ k, In64 (it A r k)
  | 0 => h
  | _ + 1 => hv _
section
variable {w : World} {p bs M : Nat} {fv : Value} {A : AM Int} {r : Int}
theorem mustR_live (h : ArenaRef.Ar w p bs fv A) (ok : A.Ok M) (hw : -9223372036854775808 ≤ r ∧ r ≤ 9223372036854775807) {i : Nat} (hl : A.Live r i) :
    Calls Try.prog 69 #[.pointer (some ⟨p, 0, none⟩), .int .i64 r] w fun e w' => e = .returned (.int .i64 (A.v i)) ∧ ∃ nq, w' = w.drewN nq := by
  have HC := Lib.hid (fun w' (h' : ArenaRef.Ar w' p bs fv A) => ArenaRef.c_get h' ok hw hl)
  have H := Lib.hid h
  clear h
  go_enter Try.func69, Try.ntmps69
  go_wp2_with (go_at_call 98; refine (HC.out _ H.out).mono ?_; rintro e w1 ⟨rfl, nq, rfl⟩)
  go_ret
  exact ⟨rfl, nq, rfl⟩
theorem mustR_dead (h : ArenaRef.Ar w p bs fv A) (ok : A.Ok M) (hw : -9223372036854775808 ≤ r ∧ r ≤ 9223372036854775807) (hd : A.Dead r) :
    Calls Try.prog 69 #[.pointer (some ⟨p, 0, none⟩), .int .i64 r] w fun e w' => e = .panicked (gone r) ∧ ∃ nq, w' = w.drewN nq := by
  have HC := Lib.hid (fun w' (h' : ArenaRef.Ar w' p bs fv A) => ArenaRef.c_get_dead h' ok hw hd)
  have H := Lib.hid h
  clear h
  go_enter Try.func69, Try.ntmps69
  go_wp2_with (go_at_call 98; refine (HC.out _ H.out).mono ?_; rintro e w1 ⟨rfl, nq, rfl⟩)
  exact ⟨rfl, rfl, nq, rfl⟩
end
theorem info_ref : (Try.prog.info? 30).map (fun i => (i.zero, i.size, i.bytes)) = some (some (.int .i64 0), 1, 8) := by kernel_rfl
/-- What the closure leaves. -/
def ChainIs (w w' : World) (co ce : Nat) (A : AM Int) (r : Int) (m d : Nat) (e : Ending) : Prop :=
  Step (fun k => k = co ∨ k = ce) w w' ∧ ((it A r d = 0 ∧ e = .returned (.tuple #[]) ∧ (∃ v, w'.heap[co]? = some (.cells #[v] 34 (0, 0)) ∧ w'.ownsRow w.heap.size 30 1 v d (vals (its A r d))) ∧ w'.heap[ce]? = some (.cells #[.bool false] 4 (0, 0))) ∨
    (it A r d ≠ 0 ∧ d = m ∧ e = .returned (.tuple #[]) ∧ w'.heap[ce]? = some (.cells #[.bool true] 4 (0, 0))) ∨ (it A r d ≠ 0 ∧ d < m ∧ e = .panicked (gone (it A r d)) ∧ w'.heap[ce]? = some (.cells #[.bool false] 4 (0, 0))))
set_option maxRecDepth 100000 in
set_option maxHeartbeats 8000000 in
theorem chain_walk (w : World) (cf ca co cm ce p bs M : Nat) (fv : Value) (A : AM Int) (r : Int) (m d : Nat) (har : ArenaRef.Ar w p bs fv A) (ok : A.Ok M) (hway : Way A r m d) (hm : m ≤ 30)
    (hF : w.cell? ⟨cf, 0, none⟩ = some (.int .i64 r)) (hA : w.cell? ⟨ca, 0, none⟩ = some (.pointer (some ⟨p, 0, none⟩))) (hM : w.cell? ⟨cm, 0, none⟩ = some (.int .i64 m))
    (hO : w.heap[co]? = some (.cells #[.slice none 0 0] 34 (0, 0))) (hE : w.heap[ce]? = some (.cells #[.bool false] 4 (0, 0)))
    (hrng : ∀ k, In64 (it A r k)) (n1 : ca ≠ co) (n2 : ca ≠ ce) (n3 : cm ≠ co) (n4 : cm ≠ ce) (n5 : co ≠ ce) (n6 : ∀ k, ArenaRef.Foot p bs fv k → ¬ (k = co ∨ k = ce)) :
    Calls Try.prog 68 #[.pointer (some ⟨cf, 0, none⟩), .pointer (some ⟨ca, 0, none⟩), .pointer (some ⟨co, 0, none⟩), .pointer (some ⟨cm, 0, none⟩), .pointer (some ⟨ce, 0, none⟩)] w fun e w' => ChainIs w w' co ce A r m d e := by
  have HAR := Lib.hid har
  have HO := Lib.hid hO
  have HE := Lib.hid hE
  have HRNG := Lib.hid hrng
  have HN6 := Lib.hid n6
  have HAA := Lib.hid hA
  have HMM := Lib.hid hM
  have HWAY := Lib.hid hway
  have z0 : it A r 0 = r := rfl
  have HZ := Lib.hid z0
  clear har hO hE hrng n6 hA hM hway z0
  go_enter Try.func68, Try.ntmps68
  go_wp2
  go_loopg [5] (d + 1) (fun g s wr => ∃ k : Nat, g + k = d + 1 ∧ k ≤ d ∧ s = .int .i64 (it A r k) ∧ Hid (Step (fun k => k = co ∨ k = ce) w wr) ∧ Hid (wr.heap[ce]? = some (.cells #[.bool false] 4 (0, 0))) ∧ ∃ v, Hid (wr.heap[co]? = some (.cells #[v] 34 (0, 0))) ∧ Hid (wr.ownsRow w.heap.size 30 1 v k (vals (its A r k))))
  case atStart => exact ⟨0, by omega, by omega, rfl, Lib.hid (Step.refl _ _), HE, _, HO, Lib.hid ⟨rfl, .inl ⟨rfl, rfl⟩⟩⟩
  case round =>
    obtain ⟨k, hg, hk, rfl, HS, HEV, v, HV, HR⟩ := hrel
    have hi := HRNG.out k
    obtain ⟨ua, uc, rfl⟩ := row_form HR.out
    have zo : wr.cell? ⟨co, 0, none⟩ = some (.slice ua k uc) := by have := cell_of (i := 0) HV.out; simpa using this
    have ze : wr.cell? ⟨ce, 0, none⟩ = some (.bool false) := by have := cell_of (i := 0) HEV.out; simpa using this
    have za : wr.cell? ⟨ca, 0, none⟩ = some (.pointer (some ⟨p, 0, none⟩)) := cell_step HS.out HAA.out (by show ¬ (ca = co ∨ ca = ce); omega)
    have zm : wr.cell? ⟨cm, 0, none⟩ = some (.int .i64 m) := cell_step HS.out HMM.out (by show ¬ (cm = co ∨ cm = ce); omega)
    have fo : wr.frozen? ⟨co, 0, none⟩ = false := frozen_of HV.out
    have fe : wr.frozen? ⟨ce, 0, none⟩ = false := frozen_of HEV.out
    have HAT := Lib.hid (HWAY.out.at hk)
    obtain ⟨x, hx⟩ : ∃ x, x = it A r k := ⟨_, rfl⟩
    have HX := Lib.hid hx
    rw [← hx] at hi ⊢
    clear hx
    rcases HAT.out with ⟨hkd, h0⟩ | ⟨hkd, h0, hkm⟩ | ⟨hkm, h0, hkd, hdead⟩ | ⟨hkm, h0, hkd, i, hl, hn⟩
    · subst hkd
      obtain rfl : x = 0 := HX.out.trans h0
      have H0 := Lib.hid h0
      clear h0
      go_wp2
      go_end0
      exact ⟨HS.out, .inl ⟨H0.out, rfl, ⟨_, HV.out, HR.out⟩, HEV.out⟩⟩
    · subst hkd
      subst hkm
      have x0 : ¬ (x = 0) := fun e => h0 (HX.out.symm.trans e)
      have H0 := Lib.hid h0
      clear h0
      go_wp2
      refine bodyPost_ret (results_none rfl _ _ _) rfl ?_
      have q := heap_set_at (i := 0) (v := .bool true) HEV.out
      exact ⟨Step.setCell (F := fun k => k = co ∨ k = ce) (p := ⟨ce, 0, none⟩) HS.out (.inl (.inr rfl)) _, .inr (.inl ⟨H0.out, rfl, rfl, q⟩)⟩
    · subst hkd
      have x0 : ¬ (x = 0) := fun e => h0 (HX.out.symm.trans e)
      have km : ¬ (k = m) := by omega
      have H0 := Lib.hid h0
      clear h0
      have HAW := Lib.hid (HAR.out.step HS.out HN6.out)
      obtain ⟨i0, hit, hz0, hz1, hz2⟩ := info_parts info_ref
      have HI := Lib.hid hit
      have HZ0 := Lib.hid hz0
      have HZ1 := Lib.hid hz1
      have HZ2 := Lib.hid hz2
      clear hit hz0 hz1 hz2
      have hws := HS.out.size
      have hco := lt_of HO.out
      have hce := lt_of HE.out
      have K3 := Lib.hid (ownsRow_setCell_below HR.out (a := ⟨ce, 0, none⟩) hce (.bool false))
      have hsz0 : (wr.setCell ⟨ce, 0, none⟩ (.bool false)).heap.size = wr.heap.size := by simp [World.setCell]
      have K4 := Lib.hid (show ((wr.setCell ⟨ce, 0, none⟩ (.bool false)).alloc (.cells #[.int .i64 x] 30)).heap.size = wr.heap.size + 1 by rw [World.size_alloc, hsz0])
      have K5 := Lib.hid (show ((wr.setCell ⟨ce, 0, none⟩ (.bool false)).alloc (.cells #[.int .i64 x] 30)).cell? ⟨wr.heap.size, 0, none⟩ = some (.int .i64 x) by rw [← hsz0]; exact (cell_of heap_alloc_at).trans rfl)
      have K6 := Lib.hid (show ((wr.setCell ⟨ce, 0, none⟩ (.bool false)).alloc (.cells #[.int .i64 x] 30)).cell? ⟨co, 0, none⟩ = some (.slice ua k uc) from (World.cell?_alloc_lt _ _ _ (by show co < _; rw [hsz0]; omega)).trans ((World.cell?_setCell_other _ _ _ _ (by intro e; injection e with e1; omega)).trans zo))
      have K7 := Lib.hid (show ((wr.setCell ⟨ce, 0, none⟩ (.bool false)).alloc (.cells #[.int .i64 x] 30)).frozen? ⟨co, 0, none⟩ = false from (World.frozen?_alloc_old _ _ _ (by show co ≠ _; rw [hsz0]; omega)).trans (by rw [World.frozen?_setCell]; exact fo))
      clear hsz0
      go_wp2_with ((at_builtin; go_loud (refine wpList_append_src _ rfl (.tmp 17) (.tmp 19) 34 rfl w.heap.size 30 i0 (.int .i64 0) 1 8 Try.underlying34 HI.out HZ0.out HZ1.out HZ2.out rfl (by decide) (.slice ua k uc) k (vals (its A r k)) rfl (K3.out.alloc _) (some ⟨wr.heap.size, 0, none⟩) 1 1 [.int .i64 x] rfl rfl (.inr ⟨_, rfl, news_one K5.out⟩) (by intro u hu; simp at hu; subst hu; rfl) (by unfold maxLen; omega) (by omega) (by rw [K4.out]; omega) ?_); go_loud (intro v2 w2 hown2 hgrow2 hat2; obtain ⟨ua2, uc2, rfl⟩ := row_form hown2); go_loud (have hb := hgrow2.block co (by rw [K4.out]; omega) (fun e => by have := (HR.out.lt co e.symm).1; omega)); go_loud (have zo2 : w2.cell? ⟨co, 0, none⟩ = some (.slice ua k uc) := (World.cell?_of_block (a := ⟨co, 0, none⟩) hb).trans K6.out); go_loud (have fo2 : w2.frozen? ⟨co, 0, none⟩ = false := (World.frozen?_of_block (a := ⟨co, 0, none⟩) hb).trans K7.out); go_loud (have HST := Lib.hid (Step.setCell (F := fun k => k = co ∨ k = ce) (p := ⟨co, 0, none⟩) (Step.grown (Step.alloc (Step.setCell (F := fun k => k = co ∨ k = ce) (p := ⟨ce, 0, none⟩) HS.out (.inl (.inr rfl)) (.bool false)) _) hgrow2 (fun j hj => .inr (HR.out.lt j hj).1)) (.inl (.inl rfl)) (.slice ua2 (k + 1) uc2))); go_loud (have za2 := cell_step HST.out HAA.out (by show ¬ (ca = co ∨ ca = ce); omega)); go_loud (have HBC := Lib.hid hb); go_loud (have HB2 := Lib.hid ((hgrow2.block ce (by rw [K4.out]; omega) (fun e => by have := (HR.out.lt ce e.symm).1; omega)).trans (heap_alloc_lt (by show ce < (wr.setCell ⟨ce, 0, none⟩ (.bool false)).heap.size; simp [World.setCell]; omega)))); go_loud (have Q1 := Lib.hid hown2); go_loud (have Q2 := Lib.hid hgrow2); go_loud (clear hown2 hgrow2 hat2 hb zo za zm)))
      refine (mustR_dead (HAR.out.step HST.out HN6.out) ok hi (HX.out ▸ hdead)).mono ?_
      rintro e w' ⟨rfl, nq, rfl⟩
      have q3 := (heap_set_ne (v := .slice ua2 (k + 1) uc2) (a := ⟨co, 0, none⟩) (by show ce ≠ co; omega)).trans (HB2.out.trans (heap_set_at (i := 0) (v := .bool false) HEV.out))
      exact ⟨rfl, HST.out.drewN nq, .inr (.inr ⟨H0.out, hkm, by rw [← HX.out], q3⟩)⟩
    · have x0 : ¬ (x = 0) := fun e => h0 (HX.out.symm.trans e)
      have km : ¬ (k = m) := by omega
      have H0 := Lib.hid h0
      clear h0
      have HAW := Lib.hid (HAR.out.step HS.out HN6.out)
      obtain ⟨i0, hit, hz0, hz1, hz2⟩ := info_parts info_ref
      have HI := Lib.hid hit
      have HZ0 := Lib.hid hz0
      have HZ1 := Lib.hid hz1
      have HZ2 := Lib.hid hz2
      clear hit hz0 hz1 hz2
      have hws := HS.out.size
      have hco := lt_of HO.out
      have hce := lt_of HE.out
      have K3 := Lib.hid (ownsRow_setCell_below HR.out (a := ⟨ce, 0, none⟩) hce (.bool false))
      have hsz0 : (wr.setCell ⟨ce, 0, none⟩ (.bool false)).heap.size = wr.heap.size := by simp [World.setCell]
      have K4 := Lib.hid (show ((wr.setCell ⟨ce, 0, none⟩ (.bool false)).alloc (.cells #[.int .i64 x] 30)).heap.size = wr.heap.size + 1 by rw [World.size_alloc, hsz0])
      have K5 := Lib.hid (show ((wr.setCell ⟨ce, 0, none⟩ (.bool false)).alloc (.cells #[.int .i64 x] 30)).cell? ⟨wr.heap.size, 0, none⟩ = some (.int .i64 x) by rw [← hsz0]; exact (cell_of heap_alloc_at).trans rfl)
      have K6 := Lib.hid (show ((wr.setCell ⟨ce, 0, none⟩ (.bool false)).alloc (.cells #[.int .i64 x] 30)).cell? ⟨co, 0, none⟩ = some (.slice ua k uc) from (World.cell?_alloc_lt _ _ _ (by show co < _; rw [hsz0]; omega)).trans ((World.cell?_setCell_other _ _ _ _ (by intro e; injection e with e1; omega)).trans zo))
      have K7 := Lib.hid (show ((wr.setCell ⟨ce, 0, none⟩ (.bool false)).alloc (.cells #[.int .i64 x] 30)).frozen? ⟨co, 0, none⟩ = false from (World.frozen?_alloc_old _ _ _ (by show co ≠ _; rw [hsz0]; omega)).trans (by rw [World.frozen?_setCell]; exact fo))
      clear hsz0
      go_wp2_with ((at_builtin; go_loud (refine wpList_append_src _ rfl (.tmp 17) (.tmp 19) 34 rfl w.heap.size 30 i0 (.int .i64 0) 1 8 Try.underlying34 HI.out HZ0.out HZ1.out HZ2.out rfl (by decide) (.slice ua k uc) k (vals (its A r k)) rfl (K3.out.alloc _) (some ⟨wr.heap.size, 0, none⟩) 1 1 [.int .i64 x] rfl rfl (.inr ⟨_, rfl, news_one K5.out⟩) (by intro u hu; simp at hu; subst hu; rfl) (by unfold maxLen; omega) (by omega) (by rw [K4.out]; omega) ?_); go_loud (intro v2 w2 hown2 hgrow2 hat2; obtain ⟨ua2, uc2, rfl⟩ := row_form hown2); go_loud (have hb := hgrow2.block co (by rw [K4.out]; omega) (fun e => by have := (HR.out.lt co e.symm).1; omega)); go_loud (have zo2 : w2.cell? ⟨co, 0, none⟩ = some (.slice ua k uc) := (World.cell?_of_block (a := ⟨co, 0, none⟩) hb).trans K6.out); go_loud (have fo2 : w2.frozen? ⟨co, 0, none⟩ = false := (World.frozen?_of_block (a := ⟨co, 0, none⟩) hb).trans K7.out); go_loud (have HST := Lib.hid (Step.setCell (F := fun k => k = co ∨ k = ce) (p := ⟨co, 0, none⟩) (Step.grown (Step.alloc (Step.setCell (F := fun k => k = co ∨ k = ce) (p := ⟨ce, 0, none⟩) HS.out (.inl (.inr rfl)) (.bool false)) _) hgrow2 (fun j hj => .inr (HR.out.lt j hj).1)) (.inl (.inl rfl)) (.slice ua2 (k + 1) uc2))); go_loud (have za2 := cell_step HST.out HAA.out (by show ¬ (ca = co ∨ ca = ce); omega)); go_loud (have HBC := Lib.hid hb); go_loud (have HB2 := Lib.hid ((hgrow2.block ce (by rw [K4.out]; omega) (fun e => by have := (HR.out.lt ce e.symm).1; omega)).trans (heap_alloc_lt (by show ce < (wr.setCell ⟨ce, 0, none⟩ (.bool false)).heap.size; simp [World.setCell]; omega)))); go_loud (have Q1 := Lib.hid hown2); go_loud (have Q2 := Lib.hid hgrow2); go_loud (clear hown2 hgrow2 hat2 hb zo za zm)))
      refine (mustR_live (HAR.out.step HST.out HN6.out) ok hi (HX.out ▸ hl)).mono ?_
      rintro e w' ⟨rfl, nq, rfl⟩
      go_wp2
      go_roundg (gk - 1)
      case measure => omega
      case rel =>
        have q3 := (heap_set_ne (v := .slice ua2 (k + 1) uc2) (a := ⟨co, 0, none⟩) (by show ce ≠ co; omega)).trans (HB2.out.trans (heap_set_at (i := 0) (v := .bool false) HEV.out))
        have q1 := HBC.out.trans ((heap_alloc_lt (by show co < (wr.setCell ⟨ce, 0, none⟩ (.bool false)).heap.size; simp [World.setCell]; omega)).trans ((heap_set_ne (a := ⟨ce, 0, none⟩) (v := .bool false) (by show co ≠ ce; omega)).trans HV.out))
        have q2 := heap_set_at (i := 0) (v := .slice ua2 (k + 1) uc2) q1
        refine ⟨k + 1, by omega, by omega, by rw [hn], Lib.hid (HST.out.drewN nq), Lib.hid q3, _, Lib.hid q2, Lib.hid ?_⟩
        rw [its_succ, ← HX.out]
        exact row_drewN (ownsRow_setCell_below Q1.out (a := ⟨co, 0, none⟩) hco _)
/-- The world in which Chain calls try. -/
def atTryC (w : World) (p : Nat) (r : Int) (m : Nat) : World := ((((w.alloc (.cells #[.pointer (some ⟨p, 0, none⟩)] 26)).alloc (.cells #[.int .i64 r] 30)).alloc (.cells #[.int .i64 m] 3)).alloc (.cells #[.slice none 0 0] 34)).alloc (.cells #[.bool false] 4)
def inTryC (w : World) (p : Nat) (r : Int) (m : Nat) : World := ((atTryC w p r m).alloc (.cells #[.int .i64 0] 30)).alloc (.cells #[.bool false] 4)
theorem atTryC_size (w : World) (p : Nat) (r : Int) (m : Nat) : (atTryC w p r m).heap.size = w.heap.size + 5 := by simp [atTryC, World.size_alloc]
theorem inTryC_size (w : World) (p : Nat) (r : Int) (m : Nat) : (inTryC w p r m).heap.size = w.heap.size + 7 := by simp [inTryC, atTryC, World.size_alloc]
theorem inTryC_step (w : World) (p : Nat) (r : Int) (m : Nat) : Step (fun _ => False) w (inTryC w p r m) := (((((((Step.refl _ w).alloc _).alloc _).alloc _).alloc _).alloc _).alloc _).alloc _
theorem heap_al {w : World} {o : Obj} {k : Nat} : (w.alloc o).heap[k]? = if k = w.heap.size then some o else w.heap[k]? := Array.getElem?_push
theorem inTryC_heap (w : World) (p : Nat) (r : Int) (m : Nat) :
    (inTryC w p r m).heap[w.heap.size]? = some (.cells #[.pointer (some ⟨p, 0, none⟩)] 26 (0, 0)) ∧ (inTryC w p r m).heap[w.heap.size + 1]? = some (.cells #[.int .i64 r] 30 (0, 0)) ∧
    (inTryC w p r m).heap[w.heap.size + 2]? = some (.cells #[.int .i64 m] 3 (0, 0)) ∧ (inTryC w p r m).heap[w.heap.size + 3]? = some (.cells #[.slice none 0 0] 34 (0, 0)) ∧ (inTryC w p r m).heap[w.heap.size + 4]? = some (.cells #[.bool false] 4 (0, 0)) ∧
    (inTryC w p r m).heap[w.heap.size + 5]? = some (.cells #[.int .i64 0] 30 (0, 0)) ∧ (inTryC w p r m).heap[w.heap.size + 6]? = some (.cells #[.bool false] 4 (0, 0)) := by
  refine ⟨?_, ?_, ?_, ?_, ?_, ?_, ?_⟩ <;> simp only [inTryC, atTryC, heap_al, World.size_alloc] <;> (repeat (first | rw [if_neg (by omega)] | rw [if_pos trivial] | rw [if_pos (by omega)]))
structure ThroughC (w w1 : World) (p : Nat) (r : Int) (m : Nat) : Prop where
  step : Step (fun k => k = w.heap.size + 3 ∨ k = w.heap.size + 4) (inTryC w p r m) w1
theorem ThroughC.kept {w w1 : World} {p m : Nat} {r : Int} (h : ThroughC w w1 p r m) : Kept (atTryC w p r m) w1 := by
  obtain ⟨_, _, _, _, _, h3, h4⟩ := inTryC_heap w p r m
  unfold Kept
  rw [atTryC_size]
  exact ⟨h.step.keeps h3 (by omega), h.step.keeps h4 (by omega)⟩
theorem ThroughC.below {w w1 : World} {p m : Nat} {r : Int} {u v : Value} (h : ThroughC w w1 p r m) : Below w.heap.size w ((w1.setCell ⟨(atTryC w p r m).heap.size, 0, none⟩ u).setCell ⟨(atTryC w p r m).heap.size + 1, 0, none⟩ v) := by
  rw [atTryC_size]
  have hs := ((inTryC_step w p r m).mono (G := fun k => w.heap.size ≤ k) (fun _ _ f => f.elim)).trans (G := fun k => k = w.heap.size + 3 ∨ k = w.heap.size + 4) h.step (fun i hi e => by omega)
  refine (Step.below (B := w.heap.size) (F := fun k => w.heap.size ≤ k) ?_ (fun _ h => h) (Nat.le_refl _))
  exact (hs.setCell (p := ⟨w.heap.size + 5, 0, none⟩) (.inl (by show w.heap.size ≤ w.heap.size + 5; omega)) _).setCell (p := ⟨w.heap.size + 5 + 1, 0, none⟩) (.inl (by show w.heap.size ≤ w.heap.size + 5 + 1; omega)) _
theorem two_other {w1 : World} {g k : Nat} {u v : Value} (h1 : k ≠ g) (h2 : k ≠ g + 1) : ((w1.setCell ⟨g, 0, none⟩ u).setCell ⟨g + 1, 0, none⟩ v).heap[k]? = w1.heap[k]? :=
  (heap_set_ne (by show k ≠ g + 1; omega)).trans (heap_set_ne (by show k ≠ g; omega))
/-- What the call of try leaves. -/
def ChainTried (w w' : World) (A : AM Int) (r : Int) (m d : Nat) (e : Ending) : Prop :=
  Below w.heap.size w w' ∧ ((it A r d = 0 ∧ e = .returned (.tuple #[.int .i64 0, .bool false]) ∧ (∃ v, w'.cell? ⟨w.heap.size + 3, 0, none⟩ = some v ∧ w'.ownsRow w.heap.size 30 1 v d (vals (its A r d))) ∧ w'.cell? ⟨w.heap.size + 4, 0, none⟩ = some (.bool false)) ∨
    (it A r d ≠ 0 ∧ d = m ∧ e = .returned (.tuple #[.int .i64 0, .bool false]) ∧ w'.cell? ⟨w.heap.size + 4, 0, none⟩ = some (.bool true)) ∨
    (it A r d ≠ 0 ∧ d < m ∧ e = .returned (.tuple #[.int .i64 (it A r d), .bool true]) ∧ w'.cell? ⟨w.heap.size + 4, 0, none⟩ = some (.bool false)))
theorem chain_try (w : World) (p bs M : Nat) (fv : Value) (A : AM Int) (r : Int) (m d : Nat) (har : ArenaRef.Ar w p bs fv A) (ok : A.Ok M) (hway : Way A r m d) (hm : m ≤ 30) (hrng : ∀ k, In64 (it A r k)) :
    Calls Try.prog 64 #[.func (.func 68) #[] #[.pointer (some ⟨w.heap.size + 1, 0, none⟩), .pointer (some ⟨w.heap.size, 0, none⟩), .pointer (some ⟨w.heap.size + 3, 0, none⟩), .pointer (some ⟨w.heap.size + 2, 0, none⟩), .pointer (some ⟨w.heap.size + 4, 0, none⟩)]] (atTryC w p r m) fun e w' => ChainTried w w' A r m d e := by
  obtain ⟨h0, h1, h2, h3, h4, h5, h6⟩ := inTryC_heap w p r m
  have hs := inTryC_step w p r m
  have hin := chain_walk (inTryC w p r m) (w.heap.size + 1) w.heap.size (w.heap.size + 3) (w.heap.size + 2) (w.heap.size + 4) p bs M fv A r m d (har.step hs fun _ _ h => h) ok hway hm (by rw [cell_of h1]; rfl) (by rw [cell_of h0]; rfl) (by rw [cell_of h2]; rfl) h3 h4 hrng (by omega) (by omega) (by omega) (by omega) (by omega) (fun k hk => by have := har.lt k hk; omega)
  have hsz : w.heap.size ≤ (inTryC w p r m).heap.size := by rw [inTryC_size]; omega
  rcases hway.stop with hz | ⟨hz, hd | ⟨hd, hdead⟩⟩
  · refine (ChainTry_ok _ _ (fun w1 => ThroughC w w1 p r m ∧ (∃ v, w1.heap[w.heap.size + 3]? = some (.cells #[v] 34 (0, 0)) ∧ w1.ownsRow (inTryC w p r m).heap.size 30 1 v d (vals (its A r d))) ∧ w1.heap[w.heap.size + 4]? = some (.cells #[.bool false] 4 (0, 0))) (fun w1 h => h.1.kept) (hin.mono ?_)).mono ?_
    · rintro e w1 ⟨g1, ⟨_, g2, g3, g4⟩ | ⟨g2, _⟩ | ⟨g2, _⟩⟩
      · exact ⟨g2, ⟨g1⟩, g3, g4⟩
      · exact absurd hz g2
      · exact absurd hz g2
    · rintro e w' ⟨rfl, w1, ⟨g1, ⟨v, g2, g3⟩, g4⟩, rfl⟩
      refine ⟨g1.below, .inl ⟨hz, rfl, ⟨v, ?_, ?_⟩, ?_⟩⟩
      · rw [atTryC_size]
        exact (World.cell?_of_block (a := ⟨w.heap.size + 3, 0, none⟩) (two_other (k := w.heap.size + 3) (by omega) (by omega))).trans ((cell_of g2).trans rfl)
      · rw [atTryC_size]
        rw [inTryC_size] at g3
        exact row_base (ownsRow_setCell_below (ownsRow_setCell_below g3 (by show w.heap.size + 5 < _; omega) _) (by show w.heap.size + 5 + 1 < _; omega) _) (by omega)
      · rw [atTryC_size]
        exact (World.cell?_of_block (a := ⟨w.heap.size + 4, 0, none⟩) (two_other (k := w.heap.size + 4) (by omega) (by omega))).trans ((cell_of g4).trans rfl)
  · refine (ChainTry_ok _ _ (fun w1 => ThroughC w w1 p r m ∧ w1.heap[w.heap.size + 4]? = some (.cells #[.bool true] 4 (0, 0))) (fun w1 h => h.1.kept) (hin.mono ?_)).mono ?_
    · rintro e w1 ⟨g1, ⟨g2, _⟩ | ⟨_, _, g2, g4⟩ | ⟨_, g2, _⟩⟩
      · exact absurd g2 hz
      · exact ⟨g2, ⟨g1⟩, g4⟩
      · omega
    · rintro e w' ⟨rfl, w1, ⟨g1, g4⟩, rfl⟩
      refine ⟨g1.below, .inr (.inl ⟨hz, hd, rfl, ?_⟩)⟩
      rw [atTryC_size]
      exact (World.cell?_of_block (a := ⟨w.heap.size + 4, 0, none⟩) (two_other (k := w.heap.size + 4) (by omega) (by omega))).trans ((cell_of g4).trans rfl)
  · refine (ChainTry_dies (it A r d) _ _ (fun w1 => ThroughC w w1 p r m ∧ w1.heap[w.heap.size + 4]? = some (.cells #[.bool false] 4 (0, 0))) (fun w1 h => h.1.kept) (hin.mono ?_)).mono ?_
    · rintro e w1 ⟨g1, ⟨g2, _⟩ | ⟨_, g2, _⟩ | ⟨_, _, g2, g4⟩⟩
      · exact absurd g2 hz
      · omega
      · exact ⟨g2, ⟨g1⟩, g4⟩
    · rintro e w' ⟨rfl, w1, ⟨g1, g4⟩, rfl⟩
      refine ⟨g1.below, .inr (.inr ⟨hz, hd, rfl, ?_⟩)⟩
      rw [atTryC_size]
      exact (World.cell?_of_block (a := ⟨w.heap.size + 4, 0, none⟩) (two_other (k := w.heap.size + 4) (by omega) (by omega))).trans ((cell_of g4).trans rfl)
/-- What Chain answers. -/
def ChainSays (w w' : World) (A : AM Int) (r : Int) (m d : Nat) (e : Ending) : Prop :=
  Below w.heap.size w w' ∧ ((it A r d = 0 ∧ ∃ v, e = .returned (.tuple #[v, .int .i64 0]) ∧ w'.ownsRow w.heap.size 30 1 v d (vals (its A r d))) ∨ (it A r d ≠ 0 ∧ d = m ∧ e = .returned (.tuple #[.slice none 0 0, .int .i64 7])) ∨ (it A r d ≠ 0 ∧ d < m ∧ e = .returned (.tuple #[.slice none 0 0, .int .i64 9])))
set_option maxRecDepth 100000 in
set_option maxHeartbeats 4000000 in
theorem chain_calls (w : World) (p bs M : Nat) (fv : Value) (A : AM Int) (r : Int) (m d : Nat) (har : ArenaRef.Ar w p bs fv A) (ok : A.Ok M) (hway : Way A r m d) (hm : m ≤ 30) (hrng : ∀ k, In64 (it A r k)) :
    Calls Try.prog 19 #[.pointer (some ⟨p, 0, none⟩), .int .i64 r, .int .i64 m] w fun e w' => ChainSays w w' A r m d e := by
  have hmf : ∀ (fn : Fn) (first cap : Array Value) (w : World), (Instr.makeFunc fn first cap).run Try.prog w = .ok (.func fn first cap) w := fun _ _ _ _ => rfl
  have HT := Lib.hid (chain_try w p bs M fv A r m d har ok hway hm hrng)
  clear har hrng hway
  go_enter Try.func19, Try.ntmps19
  go_wp2_with fail
  refine HT.out.mono ?_
  rintro e w' ⟨hb, ⟨g1, rfl, ⟨v, g2, g3⟩, g4⟩ | ⟨g1, g2, rfl, g4⟩ | ⟨g1, g2, rfl, g4⟩⟩
  · have HB := Lib.hid hb
    have G3 := Lib.hid g3
    have G1 := Lib.hid g1
    clear hb g3 g1
    go_wp2
    go_ret2
    exact ⟨HB.out, .inl ⟨G1.out, v, rfl, G3.out⟩⟩
  · have HB := Lib.hid hb
    have G1 := Lib.hid g1
    have G2 := Lib.hid g2
    clear hb g1 g2
    go_wp2
    go_ret2
    exact ⟨HB.out, .inr (.inl ⟨G1.out, G2.out, rfl⟩)⟩
  · have HB := Lib.hid hb
    have G1 := Lib.hid g1
    clear hb g1
    go_wp2
    go_ret2
    exact ⟨HB.out, .inr (.inr ⟨G1.out, g2, rfl⟩)⟩
theorem chain_bad (w : World) (v : Option Addr) (r m : Int) (hm : m < 0) :
    Calls Try.prog 19 #[.pointer v, .int .i64 r, .int .i64 m] w fun e w' => e = .returned (.tuple #[.slice none 0 0, .int .i64 2]) ∧ Below w.heap.size w w' := by
  go_enter Try.func19, Try.ntmps19
  go_wp2
  go_ret2
  exact ⟨rfl, (((Below.refl _ _).alloc (Nat.le_refl _) _).alloc (by simp) _).alloc (by simp; omega) _⟩
end Go.Proofs.Ytipdhjdlfdbkiaa.TrapS
