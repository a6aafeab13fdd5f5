/- ArenaPlays: what lies in memory at the head of a round: the arena, the reference's arena, the references taken; the steps that keep it; SameRefs. -/
import Derived.Test.YtbbdhefipbepdaaRefArenaC
import Derived.Test.YtbbdhefipbepdaaNeverS
import Derived.Test.YtbbdhefipbepdaaStop
namespace Go.Proofs.Ytbbdhefipbepdaa.Plays
set_option linter.unusedSimpArgs false
set_option linter.unusedVariables false
open Go.RowKit Go.Proofs Go.Proofs.Ytbbdhefipbepdaa.Heap Go.Proofs.Ytbbdhefipbepdaa.Refs Go.Proofs.Ytbbdhefipbepdaa.ArenaM Go.Proofs.Ytbbdhefipbepdaa.ArenaInt Go.Proofs.Ytbbdhefipbepdaa.Law09 Go.Proofs.Ytbbdhefipbepdaa.RefArena Go.Proofs.Ytbbdhefipbepdaa.Never

structure PSt (B : Nat) (W w : World) (p bs : Nat) (fv : Value) (A : AM Int) (M : Nat) (q bv bi bb : Nat) (rv : Value) (A2 : AM Int) (tv : Value) (Ts : List Int) : Prop where
  own : Own B W w p bs fv A M
  br : Br w q bv bi bb rv A2
  rfoot : ∀ k, RFoot q bv bi bb rv k → B ≤ k
  taken : w.ownsRow B 22 1 tv Ts.length (vals Ts)
  d1 : ∀ k, Foot p bs fv k → ¬ RFoot q bv bi bb rv k
  d2 : ∀ k, tv.ownBlock = some k → ¬ Foot p bs fv k
  d3 : ∀ k, tv.ownBlock = some k → ¬ RFoot q bv bi bb rv k

section
variable {B M : Nat} {W w w1 : World} {p bs q bv bi bb : Nat} {fv rv tv : Value} {A A2 : AM Int} {Ts : List Int}

theorem PSt.arena {M' : Nat} {A' : AM Int} (h : PSt B W w p bs fv A M q bv bi bb rv A2 tv Ts) (ha : After p bs fv A' w w1) (ok : A'.Ok M') : ∃ fv', PSt B W w1 p bs fv' A' M' q bv bi bb rv A2 tv Ts := by
  obtain ⟨fv', h1, h2, h3⟩ := ha
  refine ⟨fv', ⟨h1, ok, ?_, h.own.below.trans (h2.below h.own.foot h.own.size), Nat.le_trans h.own.size h2.size⟩, h.br.step h2 (fun k hk hf => h.d1 k hf hk), h.rfoot, h2.row h.taken fun k hk => h.d2 k hk, ?_, ?_, h.d3⟩
  · intro k hk
    rcases h3 k hk with h4 | h4
    · exact h.own.foot k h4
    · have := h.own.size; omega
  · intro k hk hr
    rcases h3 k hk with h4 | h4
    · exact h.d1 k h4 hr
    · have := h.br.lt k hr; omega
  · intro k hk hf
    rcases h3 k hf with h4 | h4
    · exact h.d2 k hk h4
    · have := (h.taken.lt k hk).2; omega

theorem PSt.ref {A' : AM Int} (h : PSt B W w p bs fv A M q bv bi bb rv A2 tv Ts) (ha : RAfter q bv bi bb rv A' w w1) : ∃ rv', PSt B W w1 p bs fv A M q bv bi bb rv' A' tv Ts := by
  obtain ⟨rv', h1, h2, h3⟩ := ha
  refine ⟨rv', Own.step h.own h2 (fun k hk hr => h.d1 k hk hr) h.rfoot, h1, ?_, h2.row h.taken fun k hk => h.d3 k hk, ?_, h.d2, ?_⟩
  · intro k hk
    rcases h3 k hk with h4 | h4
    · exact h.rfoot k h4
    · have := h.own.size; omega
  · intro k hk hr
    rcases h3 k hr with h4 | h4
    · exact h.d1 k hk h4
    · have := h.own.ar.lt k hk; omega
  · intro k hk hf
    rcases h3 k hf with h4 | h4
    · exact h.d3 k hk h4
    · have := (h.taken.lt k hk).2; omega

theorem PSt.drewN {n : Nat} (h : PSt B W w p bs fv A M q bv bi bb rv A2 tv Ts) : PSt B W (w.drewN n) p bs fv A M q bv bi bb rv A2 tv Ts := ⟨h.own.drewN, h.br.drewN, h.rfoot, row_drewN h.taken, h.d1, h.d2, h.d3⟩

theorem PSt.drew (h : PSt B W w p bs fv A M q bv bi bb rv A2 tv Ts) : PSt B W w.drew p bs fv A M q bv bi bb rv A2 tv Ts := h.drewN (n := 1)

theorem PSt.fresh (h : PSt B W w p bs fv A M q bv bi bb rv A2 tv Ts) (hb : Below w.heap.size w w1) : PSt B W w1 p bs fv A M q bv bi bb rv A2 tv Ts := by
  have hs : Step (fun _ => False) w w1 := Step.ofBelow hb fun k hk hk2 => by omega
  exact ⟨Own.step h.own hs (fun _ _ hf => hf) (fun _ hf => hf.elim), h.br.step hs (fun _ _ hf => hf), h.rfoot, hs.row h.taken fun _ _ hf => hf, h.d1, h.d2, h.d3⟩
theorem PSt.alloc (h : PSt B W w p bs fv A M q bv bi bb rv A2 tv Ts) (o : Obj) : PSt B W (w.alloc o) p bs fv A M q bv bi bb rv A2 tv Ts := h.fresh ((Below.refl _ _).alloc (Nat.le_refl _) o)

theorem PSt.put {tv' : Value} {Ts' : List Int} (h : PSt B W w p bs fv A M q bv bi bb rv A2 tv Ts) (hg : w.grownBy w1 tv.ownBlock) (ho : w1.ownsRow B 22 1 tv' Ts'.length (vals Ts')) (hat : tv'.ownBlock = tv.ownBlock ∨ tv'.ownBlock = some w.heap.size) :
    PSt B W w1 p bs fv A M q bv bi bb rv A2 tv' Ts' := by
  have hs := step_of_grown hg
  refine ⟨Own.step h.own hs (fun k hk e => h.d2 k e hk) (fun k e => (h.taken.lt k e).1), h.br.step hs (fun k hk e => h.d3 k e hk), h.rfoot, ho, h.d1, ?_, ?_⟩
  · intro k hk
    rcases hat with e | e
    · exact h.d2 k (e ▸ hk)
    · intro hf
      have := h.own.ar.lt k hf
      rw [e] at hk
      have := Option.some.inj hk
      omega
  · intro k hk
    rcases hat with e | e
    · exact h.d3 k (e ▸ hk)
    · intro hf
      have := h.br.lt k hf
      rw [e] at hk
      have := Option.some.inj hk
      omega

/-- The law's own store into the reference's values. -/
theorem PSt.store {A' : AM Int} {i : Nat} {x : Int} (h : PSt B W w p bs fv A M q bv bi bb rv A2 tv Ts) (hi : i < A2.n) : ∃ rv', PSt B W (w.setCell ⟨bv, i, none⟩ (.int .i64 x)) p bs fv A M q bv bi bb rv' (A2.set i x) tv Ts := by
  refine h.ref ⟨rv, ?_, (Step.refl _ w).setCell (.inl (.inr (.inl rfl))) _, fun k hk => .inl hk⟩
  obtain ⟨n1, n2, n3, n4, n5, n6⟩ := h.br.ne
  obtain ⟨c1, g1, k1⟩ := h.br.vs
  obtain ⟨c2, g2, k2⟩ := h.br.is
  obtain ⟨c3, g3, k3⟩ := h.br.us
  exact ⟨(heap_set_ne (k := q) n1).trans h.br.head, ⟨_, heap_set_at g1, k1.set hi x⟩, ⟨c2, (heap_set_ne (k := bi) (fun e => n4 e.symm)).trans g2, k2⟩, ⟨c3, (heap_set_ne (k := bb) (fun e => n5 e.symm)).trans g3, k3⟩, ownsRow_setCell_below h.br.freed (by show bv < _; omega) _, h.br.ne⟩
end

theorem filter_not_len (p : Nat → Bool) : ∀ l : List Nat, (l.filter p).length + (l.filter fun i => !p i).length = l.length
  | [] => rfl
  | a :: l => by
    have := filter_not_len p l
    cases h : p a <;> simp [List.filter_cons, h] <;> omega
theorem same_len {l1 l2 : List Nat} (h1 : l1.Nodup) (h2 : l2.Nodup) (h : ∀ i, i ∈ l1 ↔ i ∈ l2) : l1.length = l2.length := by
  apply List.Perm.length_eq
  rw [List.perm_iff_count]
  intro a
  rw [List.Nodup.count h1, List.Nodup.count h2]
  simp [h a]
theorem filter_range_len (p : Nat → Bool) (b n : Nat) (hb : b ≤ n) (h : ∀ i, p i = true → i < b) : ((List.range n).filter p).length = ((List.range b).filter p).length := by
  obtain ⟨d, rfl⟩ : ∃ d, n = b + d := ⟨n - b, by omega⟩
  rw [List.range_add, List.filter_append, List.length_append]
  have : (List.map (fun x => b + x) (List.range d)).filter p = [] := by
    rw [List.filter_eq_nil_iff]
    intro a ha hp
    simp only [List.mem_map] at ha
    obtain ⟨x, _, rfl⟩ := ha
    have := h _ hp
    omega
  rw [this]; simp
theorem all_used {A : AM Int} {M : Nat} (ok : A.Ok M) : A.all.length = A.used := by
  unfold AM.all
  rw [List.length_map, filter_range_len A.us A.begun A.n ok.begun_le ok.us_lt]
  have h1 := filter_not_len A.us (List.range A.begun)
  have h2 := same_len (l1 := (List.range A.begun).filter fun i => !A.us i) (l2 := A.freed) (List.nodup_range.filter _) ok.nodup (fun i => by
    simp only [List.mem_filter, List.mem_range, Bool.not_eq_true']
    exact ⟨fun h => ok.free_mem i h.1 h.2, fun h => ok.freed_lt i h⟩)
  have := ok.count
  simp only [List.length_range] at h1
  omega

set_option maxHeartbeats 1000000 in
/-- SameRefs of two rows with the same numbers. -/
theorem same_calls {w : World} {b1 b2 : Nat} {v1 v2 : Value} {l : List Int} (h1 : w.ownsRow b1 22 1 v1 l.length (vals l)) (h2 : w.ownsRow b2 22 1 v2 l.length (vals l)) (hl : l.length ≤ 1000000) :
    Calls Try.prog 50 #[v1, v2] w fun e w' => e = .returned (.bool true) ∧ ∃ nq, w' = w.drewN nq := by
  obtain ⟨a1, c1, rfl⟩ := row_form h1
  obtain ⟨a2, c2, rfl⟩ := row_form h2
  have H1 := Lib.hid h1
  have H2 := Lib.hid h2
  clear h1 h2
  go_enter Try.func50, Try.ntmps50
  have hb : ((l.length : Int) != (l.length : Int)) = false := by simp
  go_wp2
  go_loopw [5] (fun i wr => ∃ k nq : Nat, k ≤ l.length ∧ i = .int .i64 k ∧ wr = w.drewN nq) (fun i _ => l.length - (intOf i).toNat)
  case atStart => exact ⟨0, 0, Nat.zero_le _, rfl, rfl⟩
  case round =>
    obtain ⟨k, nq, hk, rfl, rfl⟩ := hrel
    by_cases hkl : k < l.length
    · obtain ⟨r, hr⟩ : ∃ r, l[k]? = some r := ⟨l[k], List.getElem?_eq_getElem hkl⟩
      obtain ⟨g1, p1, e1, x1, _, _⟩ := vals_cell H1.out rfl hr
      obtain ⟨g2, p2, e2, x2, _, _⟩ := vals_cell H2.out rfl hr
      simp only [Value.slice.injEq, true_and] at e1 e2
      obtain ⟨e1, f1⟩ := e1
      obtain ⟨e2, f2⟩ := e2
      subst e1 f1 e2 f2
      have hi : (k : Int) < (l.length : Int) := by omega
      have hrb : (r != r) = false := by simp
      go_wp2
      go_quiet (fail)
      go_wp2
      go_roundw
      case rel => exact ⟨k + 1, _, by omega, by go_num, rfl⟩
      case measure => simp [intOf]; omega
    · go_wp2
      go_ret
      exact ⟨rfl, _, rfl⟩
end Go.Proofs.Ytbbdhefipbepdaa.Plays
