/- ArenaNever: what lies in memory at the head of a round: the arena, the live references, those that are gone; and the steps that keep it. -/
import Derived.Test.YtbbdhefipbepdaaLaw09b
import Derived.Test.YtbbdhefipbepdaaNeverP
import Derived.Test.YtbbdhefipbepdaaBase
import Derived.Maps.AppendAt
import Derived.Deep.AppendLies
namespace Go.Proofs.Ytbbdhefipbepdaa.Never
set_option linter.unusedSimpArgs false
set_option linter.unusedVariables false
open Go.RowKit Go.Proofs Go.Proofs.Ytbbdhefipbepdaa.Heap Go.Proofs.Ytbbdhefipbepdaa.Refs Go.Proofs.Ytbbdhefipbepdaa.ArenaM Go.Proofs.Ytbbdhefipbepdaa.ArenaInt Go.Proofs.Ytbbdhefipbepdaa.Law09

structure St (B : Nat) (W w : World) (p bs : Nat) (fv : Value) (A : AM Int) (M : Nat) (lv : Value) (Ls : List Int) (gv : Value) (Gs : List Int) : Prop where
  own : Own B W w p bs fv A M
  live : w.ownsRow B 22 1 lv Ls.length (vals Ls)
  gone : w.ownsRow B 22 1 gv Gs.length (vals Gs)
  d1 : ∀ k, lv.ownBlock = some k → ¬ Foot p bs fv k
  d2 : ∀ k, gv.ownBlock = some k → ¬ Foot p bs fv k
  d3 : ∀ k, lv.ownBlock = some k → gv.ownBlock ≠ some k

section
variable {B M : Nat} {W w w1 : World} {p bs : Nat} {fv lv gv : Value} {A : AM Int} {Ls Gs : List Int}

theorem St.after {M' : Nat} {A' : AM Int} (h : St B W w p bs fv A M lv Ls gv Gs) (ha : After p bs fv A' w w1) (ok : A'.Ok M') : ∃ fv', St B W w1 p bs fv' A' M' lv Ls gv Gs := by
  obtain ⟨fv', h1, h2, h3⟩ := ha
  refine ⟨fv', ⟨h1, ok, ?_, h.own.below.trans (h2.below h.own.foot h.own.size), Nat.le_trans h.own.size h2.size⟩, h2.row h.live fun k hk => h.d1 k hk, h2.row h.gone fun k hk => h.d2 k hk, ?_, ?_, h.d3⟩
  · intro k hk
    rcases h3 k hk with h4 | h4
    · exact h.own.foot k h4
    · have := h.own.size; omega
  · intro k hk hf
    rcases h3 k hf with h4 | h4
    · exact h.d1 k hk h4
    · have := (h.live.lt k hk).2; omega
  · intro k hk hf
    rcases h3 k hf with h4 | h4
    · exact h.d2 k hk h4
    · have := (h.gone.lt k hk).2; omega

theorem St.drewN {n : Nat} (h : St B W w p bs fv A M lv Ls gv Gs) : St B W (w.drewN n) p bs fv A M lv Ls gv Gs := ⟨h.own.drewN, row_drewN h.live, row_drewN h.gone, h.d1, h.d2, h.d3⟩

/-- A step that writes only blocks of F keeps what has no block of F. -/
theorem Own.step {F : Nat → Prop} (h : Own B W w p bs fv A M) (hs : Step F w w1) (hd : ∀ k, Foot p bs fv k → ¬ F k) (hF : ∀ k, F k → B ≤ k) : Own B W w1 p bs fv A M :=
  ⟨h.ar.step hs hd, h.ok, h.foot, h.below.trans (hs.below hF h.size), Nat.le_trans h.size hs.size⟩
theorem St.alloc (h : St B W w p bs fv A M lv Ls gv Gs) (o : Obj) : St B W (w.alloc o) p bs fv A M lv Ls gv Gs :=
  ⟨Own.step h.own ((Step.refl (fun _ => False) w).alloc o) (fun _ _ hf => hf) (fun _ hf => hf.elim), h.live.alloc o, h.gone.alloc o, h.d1, h.d2, h.d3⟩

theorem step_of_grown {row : Option Nat} (hg : w.grownBy w1 row) : Step (fun k => row = some k) w w1 := (Step.refl _ w).grown hg fun k hk => .inl hk

theorem St.putLive {lv' : Value} {Ls' : List Int} (h : St B W w p bs fv A M lv Ls gv Gs) (hg : w.grownBy w1 lv.ownBlock) (ho : w1.ownsRow B 22 1 lv' Ls'.length (vals Ls')) (hat : lv'.ownBlock = lv.ownBlock ∨ lv'.ownBlock = some w.heap.size) :
    St B W w1 p bs fv A M lv' Ls' gv Gs := by
  have hs := step_of_grown hg
  refine ⟨Own.step h.own hs (fun k hk e => h.d1 k e hk) (fun k e => (h.live.lt k e).1), ho, hs.row h.gone fun k hk e => h.d3 k e hk, ?_, h.d2, ?_⟩
  · intro k hk
    rcases hat with e | e
    · exact h.d1 k (e ▸ hk)
    · intro hf
      have := h.own.ar.lt k hf
      rw [e] at hk
      have := Option.some.inj hk
      omega
  · intro k hk hk2
    rcases hat with e | e
    · exact h.d3 k (e ▸ hk) hk2
    · have := (h.gone.lt k hk2).2
      rw [e] at hk
      have := Option.some.inj hk
      omega

theorem St.putGone {gv' : Value} {Gs' : List Int} (h : St B W w p bs fv A M lv Ls gv Gs) (hg : w.grownBy w1 gv.ownBlock) (ho : w1.ownsRow B 22 1 gv' Gs'.length (vals Gs')) (hat : gv'.ownBlock = gv.ownBlock ∨ gv'.ownBlock = some w.heap.size) :
    St B W w1 p bs fv A M lv Ls gv' Gs' := by
  have hs := step_of_grown hg
  refine ⟨Own.step h.own hs (fun k hk e => h.d2 k e hk) (fun k e => (h.gone.lt k e).1), hs.row h.live fun k hk e => h.d3 k hk e, ho, h.d1, ?_, ?_⟩
  · intro k hk
    rcases hat with e | e
    · exact h.d2 k (e ▸ hk)
    · intro hf
      have := h.own.ar.lt k hf
      rw [e] at hk
      have := Option.some.inj hk
      omega
  · intro k hk hk2
    rcases hat with e | e
    · exact h.d3 k hk (e ▸ hk2)
    · have := (h.live.lt k hk).2
      rw [e] at hk2
      have := Option.some.inj hk2
      omega

theorem St.newLive {lv' : Value} {Ls' : List Int} (h : St B W w p bs fv A M lv Ls gv Gs) (hb : Below w.heap.size w w1) (ho : w1.ownsRow B 22 1 lv' Ls'.length (vals Ls')) (hnew : ∀ k, lv'.ownBlock = some k → w.heap.size ≤ k) :
    St B W w1 p bs fv A M lv' Ls' gv Gs := by
  have hs : Step (fun _ => False) w w1 := Step.ofBelow hb fun k hk hk2 => by omega
  refine ⟨Own.step h.own hs (fun _ _ hf => hf) (fun _ hf => hf.elim), ho, hs.row h.gone fun _ _ hf => hf, ?_, h.d2, ?_⟩
  · intro k hk hf
    have := h.own.ar.lt k hf
    have := hnew k hk
    omega
  · intro k hk hk2
    have := (h.gone.lt k hk2).2
    have := hnew k hk
    omega
end

/-- The value of a row that owns something, and its cells. -/
theorem vals_cell {w : World} {B e n : Nat} {v : Value} {l : List Int} (h : w.ownsRow B e 1 v n (vals l)) (hn : n = l.length) {k : Nat} {r : Int} (hk : l[k]? = some r) :
    ∃ g cap, v = .slice (some ⟨g, 0, none⟩) n cap ∧ w.cell? ⟨g, k, none⟩ = some (.int .i64 r) ∧ n ≤ cap ∧ cap ≤ maxLen := by
  have hlt : k < l.length := by
    rcases Nat.lt_or_ge k l.length with h | h
    · exact h
    · rw [List.getElem?_eq_none h] at hk; cases hk
  rcases row_cases h with ⟨_, h0, _⟩ | ⟨g, cap, rfl, hg, hc, hm, hcell, _, _⟩
  · omega
  · refine ⟨g, cap, rfl, ?_, hc, hm⟩
    rw [hcell k (by omega)]
    simp [vals, hk]

/-- An append at a step of a region that draws its order: whatever is appended, nothing too. -/
theorem step_append_at {P : Program} {ops : Array Oper} {o : Oper} {a : Act} {w : World} {K : Act → World → Prop} {Q : Exit → Act → World → Prop} {E : Prop} (hgd : o.guard = none) (s x : Operand) (t : TypeId)
    (ho : o.op = .call { callee := .builtin .append, args := #[s, x], argTypes := #[t, t] })
    (base : Nat) (e : TypeId) (i : TypeInfo) (z : Value) (size bytes : Nat) (ht : P.underlying t = some (.slice e)) (hi : P.info? e = some i) (hz : i.zero = some z)
    (hsize : i.size = size) (hby : i.bytes = bytes) (hzs : z.cells.size = size) (hsz : 0 < size)
    (v : Value) (n : Nat) (xs : List Value) (hs : a.eval s = v) (hown : w.ownsRow base e size v n xs)
    (ad : Addr) (m c : Nat) (news : List Value) (hx : a.eval x = .slice (some ad) m c) (hl : news.length = m * size) (hnews : ∀ j u, news[j]? = some u → w.cell? (ad.add j) = some u) (h1 : ∀ u ∈ news, u.oneCell' = true)
    (h63 : n + m ≤ maxLen) (hbytes : (n + m) * bytes ≤ 140737488355328) (hbase : base ≤ w.heap.size)
    (h : ∀ v' w', w'.ownsRow base e size v' (n + m) (xs ++ news) → w.grownBy w' v.ownBlock → (v'.ownBlock = v.ownBlock ∨ v'.ownBlock = some w.heap.size) → K (a.put o.dst v') w') :
    if Region.wanted o (yielded ops a.tmps) = true then Oper.wp P o a w K Q else E := by
  have hw : Region.wanted o (yielded ops a.tmps) = true := by simp [Region.wanted, hgd]
  rw [if_pos hw]
  obtain ⟨v', w', hr, h2, h3, _, h5⟩ := run_append_own_at (P := P) w base t o.type e i z size bytes ht hi hz hsize hby hzs hsz v n xs hown ad m c news hl hnews h1 h63 hbytes hbase
  unfold Oper.wp execOp
  simp only [ho, resolve, invoke, builtin, Sem.run_bind, Sem.run_pure, Result.andThen_ok, List.map_toArray, List.map_cons, List.map_nil, hs, hx, hr]
  exact h v' w' h2 h3 h5
end Go.Proofs.Ytbbdhefipbepdaa.Never
