/- Arenas of a law's own: what keeps them; a row of numbers; an append at a step of a region that draws. -/
import Derived.Test.YtipdhjdlfdbkiaaDoorArenaIntC
import Derived.Maps.AppendAt
import Derived.Deep.AppendLies
namespace Go.Proofs.YtipdhjdlfdbkiaaDoor.TOwn
set_option linter.unusedSimpArgs false
set_option linter.unusedVariables false
open Go.RowKit Go.Proofs Go.Proofs.YtipdhjdlfdbkiaaDoor.Heap Go.Proofs.YtipdhjdlfdbkiaaDoor.Refs Go.Proofs.YtipdhjdlfdbkiaaDoor.ArenaM Go.Proofs.YtipdhjdlfdbkiaaDoor.ArenaInt

def vals (l : List Int) : List Value := l.map (Value.int .i64)
/-- An arena in memory of the law's own, from block B on; nothing below B has changed since W. -/
structure Own (B : Nat) (W w : World) (p bs : Nat) (fv : Value) (A : AM Int) (M : Nat) : Prop where
  ar : Ar w p bs fv A
  ok : A.Ok M
  foot : ∀ k, Foot p bs fv k → B ≤ k
  below : Below B W w
  size : B ≤ w.heap.size

theorem Own.after {B : Nat} {W w w' : World} {p bs M M' : Nat} {fv : Value} {A A' : AM Int} (h : Own B W w p bs fv A M) (ha : After p bs fv A' w w') (ok : A'.Ok M') : ∃ fv', Own B W w' p bs fv' A' M' := by
  obtain ⟨fv', h1, h2, h3⟩ := ha
  refine ⟨fv', h1, ok, fun k hk => ?_, h.below.trans (h2.below h.foot h.size), Nat.le_trans h.size h2.size⟩
  rcases h3 k hk with h4 | h4
  · exact h.foot k h4
  · have := h.size; omega
theorem Own.drewN {B : Nat} {W w : World} {p bs M n : Nat} {fv : Value} {A : AM Int} (h : Own B W w p bs fv A M) : Own B W (w.drewN n) p bs fv A M := ⟨h.ar.drewN, h.ok, h.foot, below_drewN h.below n, h.size⟩

theorem own_new {w : World} (n : Nat) (hn : n ≤ 1000) :
    Calls Tryd.prog 10 #[.int .i64 n] w fun e w' => ∃ p bs fv, e = .returned (.tuple #[.pointer (some ⟨p, 0, none⟩), .int .i64 0]) ∧ Own w.heap.size w w' p bs fv (AM.init n 0) 0 := by
  refine (c_new n hn).mono ?_
  rintro e w' ⟨p, bs, he, ha, hb, h1, h2⟩
  refine ⟨p, bs, _, he, ha, AM.init_ok n 0 hn 0, ?_, hb, hb.size⟩
  intro k hk
  rcases hk with rfl | rfl | hk
  · exact h1
  · exact h2
  · cases hk

theorem own_take {B : Nat} {W w : World} {p bs M : Nat} {fv : Value} {A : AM Int} (h : Own B W w p bs fv A M) (hM : M < 4503599627370496) {i : Nat} {x v : Int} (hi : nextI A = some i) (hv : (taken A i x).ref i = v) :
    Calls Tryd.prog 13 #[.pointer (some ⟨p, 0, none⟩), .int .i64 x] w fun e w' => e = .returned (.tuple #[.int .i64 v, .int .i64 0]) ∧ ∃ fv', Own B W w' p bs fv' (taken A i x) (M + 1) := by
  subst hv
  exact (c_take h.ar h.ok hM hi).mono fun e w' ⟨he, ha⟩ => ⟨he, h.after ha (taken_ok h.ok x hi)⟩
theorem own_take_full {B : Nat} {W w : World} {p bs M : Nat} {fv : Value} {A : AM Int} (h : Own B W w p bs fv A M) {x : Int} (hi : nextI A = none) :
    Calls Tryd.prog 13 #[.pointer (some ⟨p, 0, none⟩), .int .i64 x] w fun e w' => e = .returned (.tuple #[.int .i64 0, .int .i64 7]) ∧ ∃ fv', Own B W w' p bs fv' A M :=
  (c_take_full h.ar h.ok hi).mono fun e w' ⟨he, ha⟩ => ⟨he, h.after ha h.ok⟩
theorem own_free {B : Nat} {W w : World} {p bs M : Nat} {fv : Value} {A : AM Int} (h : Own B W w p bs fv A M) {r : Int} (hw : -9223372036854775808 ≤ r ∧ r ≤ 9223372036854775807) {i : Nat} (hl : A.Live r i) :
    Calls Tryd.prog 16 #[.pointer (some ⟨p, 0, none⟩), .int .i64 r] w fun e w' => e = .returned (.int .i64 0) ∧ ∃ fv', Own B W w' p bs fv' (A.free i 0) M :=
  (c_free h.ar h.ok hw hl).mono fun e w' ⟨he, ha⟩ => ⟨he, h.after ha (AM.free_ok h.ok i 0 hl.us)⟩
theorem own_free_dead {B : Nat} {W w : World} {p bs M : Nat} {fv : Value} {A : AM Int} (h : Own B W w p bs fv A M) {r : Int} (hw : -9223372036854775808 ≤ r ∧ r ≤ 9223372036854775807) (hd : A.Dead r) :
    Calls Tryd.prog 16 #[.pointer (some ⟨p, 0, none⟩), .int .i64 r] w fun e w' => e = .returned (.int .i64 9) ∧ ∃ fv', Own B W w' p bs fv' A M :=
  (c_free_dead h.ar h.ok hw hd).mono fun e w' ⟨he, ha⟩ => ⟨he, h.after ha h.ok⟩

section
variable {B M : Nat} {W w w1 : World} {p bs : Nat} {fv lv gv : Value} {A : AM Int}
theorem Own.step {F : Nat → Prop} (h : Own B W w p bs fv A M) (hs : Step F w w1) (hd : ∀ k, Foot p bs fv k → ¬ F k) (hF : ∀ k, F k → B ≤ k) : Own B W w1 p bs fv A M :=
  ⟨h.ar.step hs hd, h.ok, h.foot, h.below.trans (hs.below hF h.size), Nat.le_trans h.size hs.size⟩
theorem step_of_grown {row : Option Nat} (hg : w.grownBy w1 row) : Step (fun k => row = some k) w w1 := (Step.refl _ w).grown hg fun k hk => .inl hk
end
theorem vals_cell {w : World} {B e n : Nat} {v : Value} {l : List Int} (h : w.ownsRow B e 1 v n (vals l)) (hn : n = l.length) {k : Nat} {r : Int} (hk : l[k]? = some r) :
    ∃ g cap, v = .slice (some ⟨g, 0, none⟩) n cap ∧ w.cell? ⟨g, k, none⟩ = some (.int .i64 r) ∧ n ≤ cap ∧ cap ≤ maxLen := by
  have hlt : k < l.length := by
    rcases Nat.lt_or_ge k l.length with h | h
    · exact h
    · rw [List.getElem?_eq_none h] at hk; cases hk
  rcases row_cases h with ⟨_, h0, _⟩ | ⟨g, cap, rfl, hg, hc, hm, hcell, _, _⟩
  · omega
  · refine ⟨g, cap, rfl, ?_, hc, hm⟩
    rw [hcell k (by omega)]
    simp [vals, hk]

/-- An append at a step of a region that draws its order: whatever is appended, nothing too. -/
theorem step_append_at {P : Program} {ops : Array Oper} {o : Oper} {a : Act} {w : World} {K : Act → World → Prop} {Q : Exit → Act → World → Prop} {E : Prop} (hgd : o.guard = none) (s x : Operand) (t : TypeId)
    (ho : o.op = .call { callee := .builtin .append, args := #[s, x], argTypes := #[t, t] })
    (base : Nat) (e : TypeId) (i : TypeInfo) (z : Value) (size bytes : Nat) (ht : P.underlying t = some (.slice e)) (hi : P.info? e = some i) (hz : i.zero = some z)
    (hsize : i.size = size) (hby : i.bytes = bytes) (hzs : z.cells.size = size) (hsz : 0 < size)
    (v : Value) (n : Nat) (xs : List Value) (hs : a.eval s = v) (hown : w.ownsRow base e size v n xs)
    (ad : Addr) (m c : Nat) (news : List Value) (hx : a.eval x = .slice (some ad) m c) (hl : news.length = m * size) (hnews : ∀ j u, news[j]? = some u → w.cell? (ad.add j) = some u) (h1 : ∀ u ∈ news, u.oneCell' = true)
    (h63 : n + m ≤ maxLen) (hbytes : (n + m) * bytes ≤ 140737488355328) (hbase : base ≤ w.heap.size)
    (h : ∀ v' w', w'.ownsRow base e size v' (n + m) (xs ++ news) → w.grownBy w' v.ownBlock → (v'.ownBlock = v.ownBlock ∨ v'.ownBlock = some w.heap.size) → K (a.put o.dst v') w') :
    if Region.wanted o (yielded ops a.tmps) = true then Oper.wp P o a w K Q else E := by
  have hw : Region.wanted o (yielded ops a.tmps) = true := by simp [Region.wanted, hgd]
  rw [if_pos hw]
  obtain ⟨v', w', hr, h2, h3, _, h5⟩ := run_append_own_at (P := P) w base t o.type e i z size bytes ht hi hz hsize hby hzs hsz v n xs hown ad m c news hl hnews h1 h63 hbytes hbase
  unfold Oper.wp execOp
  simp only [ho, resolve, invoke, builtin, Sem.run_bind, Sem.run_pure, Result.andThen_ok, List.map_toArray, List.map_cons, List.map_nil, hs, hx, hr]
  exact h v' w' h2 h3 h5
end Go.Proofs.YtipdhjdlfdbkiaaDoor.TOwn
