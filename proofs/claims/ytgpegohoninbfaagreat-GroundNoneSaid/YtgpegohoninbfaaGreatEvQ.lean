/- The mill, part Q: renaming, and other ways to see a state. -/
import Derived.Test.YtgpegohoninbfaaGreatEvP
namespace Go.Ev
set_option linter.unusedVariables false
set_option linter.unusedSimpArgs false
open Go.RowKit
variable {A : Nat → Nat → Prop}
set_option linter.unusedVariables false

/-- The same world, seen with less. -/
structure Sub (C D : Ctx) : Prop where
  w : D.w = C.w
  wr : ∀ b o, D.wr b o → C.wr b o

theorem RG.sub {C D : Ctx} (h : Sub C D) : ∀ (x : G) (v : Value), RG C x v → RG D x v
  | .c _, _, e => e
  | .sl sz n at_, v, ⟨a, c, e, h1, h2, h3⟩ => ⟨a, c, e, h1, h2, fun i hi j hj => by
      obtain ⟨ad, u, e1, e2, e3, e4, e5, e6⟩ := h3 i hi j hj
      exact ⟨ad, u, e1, e2, by rw [h.w]; exact e3, e4, fun hw => e5 (h.wr _ _ hw), RG.sub h _ _ e6⟩⟩

def idx : List Nat → Nat → Nat → Option Nat
  | [], _, _ => none
  | a :: l, id, n => match Nat.beq a id with
    | true => some n
    | false => idx l id (n + 1)
theorem idx_spec : ∀ (l : List Nat) (id n q : Nat), idx l id n = some q → n ≤ q ∧ l[q - n]? = some id
  | [], _, _, _, h => by simp [idx] at h
  | a :: l, id, n, q, h => by
    simp only [idx] at h
    split at h
    · rename_i hb
      have := Nat.eq_of_beq_eq_true hb
      cases h
      exact ⟨Nat.le_refl _, by simp [this]⟩
    · obtain ⟨h1, h2⟩ := idx_spec l id (n + 1) q h
      refine ⟨by omega, ?_⟩
      rw [show q - n = (q - (n + 1)) + 1 by omega]
      simpa using h2

mutual
def renAV (keep : Nat → Option Nat) : AV → AV
  | .g x => .g x
  | .p id sz i j => match keep id with
    | some q => .p q sz i j
    | none => .junk
  | .rp n at_ => .rp n at_
  | .sl id sz off len cap => match keep id with
    | some q => .sl q sz off len cap
    | none => .junk
  | .nz => .nz
  | .agg cs => .agg (renL keep cs)
  | .tup cs => .tup (renL keep cs)
  | .fn f fs cs => .fn f (renL keep fs) (renL keep cs)
  | .ifc t x => .ifc t (renAV keep x)
  | .m id => match keep id with
    | some q => .m q
    | none => .junk
  | .junk => .junk
def renL (keep : Nat → Option Nat) : List AV → List AV
  | [] => []
  | x :: xs => renAV keep x :: renL keep xs
end
def renM (keep : Nat → Option Nat) : List ((Nat × Value) × AV) → List ((Nat × Value) × AV)
  | [] => []
  | p :: ps => (p.1, renAV keep p.2) :: renM keep ps
def renObj (keep : Nat → Option Nat) : AObj → AObj
  | .box t cs => .box t (renL keep cs)
  | .row t sz n at_ fz => .row t sz n (fun i j => renAV keep (at_ i j)) fz
  | .map es clk => .map (renM keep es) clk
  | .iter m => .iter (match m with
    | some i => keep i
    | none => none)
  | .dead => .dead
def hget : AHeap → Nat → AObj
  | [], _ => .dead
  | x :: _, 0 => x
  | _ :: H, n + 1 => hget H n
theorem hget_eq : ∀ (H : AHeap) (n : Nat), hget H n = H.getD n .dead
  | [], n => by simp [hget]
  | x :: _, 0 => by simp [hget]
  | _ :: H, n + 1 => by simp only [hget]; rw [hget_eq H n]; simp
def renH (keep : Nat → Option Nat) (H : AHeap) : List Nat → AHeap
  | [] => []
  | id :: l => renObj keep (hget H id) :: renH keep H l
theorem renH_eq (keep : Nat → Option Nat) (H : AHeap) : ∀ l, renH keep H l = l.map fun id => renObj keep (H.getD id .dead)
  | [] => rfl
  | id :: l => by simp only [renH, List.map_cons, hget_eq, renH_eq keep H l]

/-- What a renaming asks of two contexts. -/
structure RenC (keep : Nat → Option Nat) (C D : Ctx) : Prop extends Sub C D where
  id : ∀ (i q : Nat) b, keep i = some q → C.r[i]? = some b → D.r[q]? = some b

mutual
theorem RV.ren {keep : Nat → Option Nat} {C D : Ctx} (h : RenC keep C D) : ∀ (x : AV) (v : Value), RV C x v → RV D (renAV keep x) v
  | .g x, v, e => by simp only [RV, renAV] at e ⊢; exact RG.sub h.toSub x v e
  | .p id sz i j, v, e => by
    simp only [RV] at e
    obtain ⟨b, e1, e2⟩ := e
    simp only [renAV]
    split
    · rename_i q hq; simp only [RV]; exact ⟨b, h.id _ _ _ hq e1, e2⟩
    · simp only [RV]
  | .rp n at_, v, e => by
    simp only [RV, renAV] at e ⊢
    obtain ⟨b, o, e1, e2⟩ := e
    refine ⟨b, o, e1, fun j hj => ?_⟩
    obtain ⟨u, a1, a2, a3, a4⟩ := e2 j hj
    exact ⟨u, by rw [h.w]; exact a1, a2, fun hw => a3 (h.wr _ _ hw), RG.sub h.toSub _ _ a4⟩
  | .sl id sz off len cap, v, e => by
    simp only [RV] at e
    obtain ⟨a, c, e1, e2, e3, e4⟩ := e
    simp only [renAV]
    split
    · rename_i q hq
      simp only [RV]
      refine ⟨a, c, e1, e2, e3, ?_⟩
      rcases e4 with ⟨b, b1, b2, b3⟩ | b1
      · refine .inl ⟨b, h.id _ _ _ hq b1, b2, ?_⟩
        cases cap with
        | some k => exact b3
        | none => obtain ⟨vs, t, f, c1, c2⟩ := b3; exact ⟨vs, t, f, by rw [h.w]; exact c1, c2⟩
      · exact .inr ⟨b1.1, b1.2.1, b1.2.2.1, b1.2.2.2.imp (fun e => h.id _ _ _ hq e) (fun e => e)⟩
    · simp only [RV]
  | .nz, v, e => by simp only [RV, renAV] at e ⊢; exact e
  | .agg cs, v, e => by
    simp only [RV, renAV] at e ⊢
    obtain ⟨vs, e1, e2⟩ := e
    exact ⟨vs, e1, RVs.ren h cs vs e2⟩
  | .tup cs, v, e => by
    simp only [RV, renAV] at e ⊢
    obtain ⟨vs, e1, e2⟩ := e
    exact ⟨vs, e1, RVs.ren h cs vs e2⟩
  | .fn f fs cs, v, e => by
    simp only [RV, renAV] at e ⊢
    obtain ⟨xs, ys, e1, e2, e3⟩ := e
    exact ⟨xs, ys, e1, RVs.ren h fs xs e2, RVs.ren h cs ys e3⟩
  | .ifc t x, v, e => by
    simp only [RV, renAV] at e ⊢
    obtain ⟨u, e1, e2⟩ := e
    exact ⟨u, e1, RV.ren h x u e2⟩
  | .m id, v, e => by
    simp only [RV] at e
    obtain ⟨b, e1, e2⟩ := e
    simp only [renAV]
    split
    · rename_i q hq; simp only [RV]; exact ⟨b, h.id _ _ _ hq e1, e2⟩
    · simp only [RV]
  | .junk, _, _ => by simp only [RV, renAV]
theorem RVs.ren {keep : Nat → Option Nat} {C D : Ctx} (h : RenC keep C D) : ∀ (xs : List AV) (vs : List Value), RVs C xs vs → RVs D (renL keep xs) vs
  | [], vs, e => by simp only [RVs, renL] at e ⊢; exact e
  | x :: xs, vs, e => by
    simp only [RVs, renL] at e ⊢
    obtain ⟨v, us, e1, e2, e3⟩ := e
    exact ⟨v, us, e1, RV.ren h x v e2, RVs.ren h xs us e3⟩
end

theorem RM.ren {keep : Nat → Option Nat} {C D : Ctx} (h : RenC keep C D) : ∀ (ps : List ((Nat × Value) × AV)) (l : List MapEntry), RM C ps l → RM D (renM keep ps) l
  | [], l, e => e
  | p :: ps, l, ⟨e, es, h1, h2, h3, h4⟩ => ⟨e, es, h1, h2, RV.ren h _ _ h3, RM.ren h ps es h4⟩
theorem ObjOK.ren {keep : Nat → Option Nat} {C D : Ctx} (h : RenC keep C D) {b : Option Nat} {x : AObj} (hx : ObjOK C b x) : ObjOK D b (renObj keep x) := by
  cases b with
  | none => cases x <;> exact hx
  | some b =>
    cases x with
    | dead => trivial
    | box t cs =>
      obtain ⟨vs, h1, h2, h3⟩ := hx
      exact ⟨vs, by rw [h.w]; exact h1, RVs.ren h _ _ h2, h3⟩
    | row t sz n at_ fz =>
      obtain ⟨h0, vs, h1, h2, h3⟩ := hx
      refine ⟨h0, vs, by rw [h.w]; exact h1, h2, fun i hi j hj => ?_⟩
      obtain ⟨v, e1, e2, e3⟩ := h3 i hi j hj
      exact ⟨v, e1, e2, RV.ren h _ _ e3⟩
    | map es clk =>
      obtain ⟨en, h1, h2⟩ := hx
      exact ⟨en, by rw [h.w]; exact h1, RM.ren h _ _ h2⟩
    | iter m =>
      obtain ⟨bm, s, l, h1, h2⟩ := hx
      refine ⟨bm, s, l, by rw [h.w]; exact h1, fun i hi => ?_⟩
      cases m with
      | none => cases hi
      | some j => exact h.id j i _ hi (h2 j rfl)

/-- Values on a heap, seen in another way (the first n0 objects keep their numbers). -/
structure AbsC (n0 : Nat) (xs : List AV) (H : AHeap) (K : List AV → AHeap → Prop) : Prop where
  out : ∀ (A : Nat → Nat → Prop) (C0 : Ctx) (r : List (Option Nat)) (w : World) (us : List Value), C0.r.length = n0 → Le C0 (ctx A r H w) → Inv A r H w → RVs (ctx A r H w) xs us →
    ∃ xs' H' r', K xs' H' ∧ Inv A r' H' w ∧ RVs (ctx A r' H' w) xs' us ∧ Le C0 (ctx A r' H' w) ∧ Sub (ctx A r H w) (ctx A r' H' w)

theorem AbsC.done {n0 : Nat} {xs : List AV} {H : AHeap} {K : List AV → AHeap → Prop} (h : K xs H) : AbsC n0 xs H K :=
  ⟨fun A C0 r w us _ h1 h2 h3 => ⟨xs, H, r, h, h2, h3, h1, ⟨rfl, fun _ _ h => h⟩⟩⟩

/-- The numbers 0, 1, .. at the head. -/
def headIs : Nat → Nat → List Nat → Bool
  | 0, _, _ => true
  | _ + 1, _, [] => false
  | n + 1, i, a :: l => Nat.beq a i && headIs n (i + 1) l
theorem headIs_spec : ∀ (n i : Nat) (l : List Nat), headIs n i l = true → ∀ j, j < n → l[j]? = some (i + j)
  | 0, _, _, _, j, hj => by omega
  | _ + 1, _, [], h, _, _ => by simp [headIs] at h
  | n + 1, i, a :: l, h, j, hj => by
    simp only [headIs, Bool.and_eq_true] at h
    have h1 := Nat.eq_of_beq_eq_true h.1
    cases j with
    | zero => simp [h1]
    | succ j =>
      have := headIs_spec n (i + 1) l h.2 j (by omega)
      simpa [Nat.add_assoc, Nat.add_comm 1 j] using this
def nodup : List Nat → Bool
  | [] => true
  | a :: l => !l.contains a && nodup l
theorem nodup_spec : ∀ (l : List Nat), nodup l = true → ∀ (i j a : Nat), l[i]? = some a → l[j]? = some a → i = j
  | [], _, i, j, a, h, _ => by simp at h
  | b :: l, h, i, j, a, hi, hj => by
    simp only [nodup, Bool.and_eq_true, Bool.not_eq_true'] at h
    have hn : b ∉ l := by simpa using h.1
    cases i with
    | zero =>
      cases j with
      | zero => rfl
      | succ j =>
        simp at hi hj; subst hi
        exact absurd (List.mem_of_getElem? hj) hn
    | succ i =>
      cases j with
      | zero =>
        simp at hi hj; subst hj
        exact absurd (List.mem_of_getElem? hi) hn
      | succ j =>
        simp at hi hj
        rw [nodup_spec l h.2 i j a hi hj]
def allLt : List Nat → AHeap → Bool
  | [], _ => true
  | a :: l, H => Nat.blt a H.length && allLt l H
theorem allLt_spec : ∀ (l : List Nat) (H : AHeap), allLt l H = true → ∀ a ∈ l, a < H.length
  | [], _, _, a, ha => by simp at ha
  | b :: l, H, h, a, ha => by
    simp only [allLt, Bool.and_eq_true] at h
    rcases List.mem_cons.1 ha with rfl | ha
    · have := Nat.le_of_ble_eq_true (show Nat.ble (a + 1) H.length = true from h.1); omega
    · exact allLt_spec l H h.2 a ha

theorem AbsC.ren (keep : List Nat) {n0 : Nat} {xs : List AV} {H : AHeap} {K : List AV → AHeap → Prop} (hc : (headIs n0 0 keep && (nodup keep && allLt keep H)) = true) (h : AbsC n0 (renL (fun i => idx keep i 0) xs) (renH (fun i => idx keep i 0) H keep) K) : AbsC n0 xs H K := by
  simp only [Bool.and_eq_true] at hc
  obtain ⟨c1, c2, c3⟩ := hc
  have c1' := headIs_spec _ _ _ c1
  have c2' := nodup_spec _ c2
  have c3' := allLt_spec _ _ c3
  refine ⟨fun A C0 r w us hl hle hi hx => ?_⟩
  have hgr : ∀ (q id : Nat), keep[q]? = some id → (keep.map fun id => r.getD id none)[q]? = r[id]? := by
    intro q id hq
    have hlt : id < r.length := by rw [hi.len]; exact c3' id (List.mem_of_getElem? hq)
    simp [hq, List.getElem?_eq_getElem hlt]
  have hgH : ∀ (q : Nat) (y : AObj), (renH (fun i => idx keep i 0) H keep)[q]? = some y → ∃ id x, keep[q]? = some id ∧ H[id]? = some x ∧ y = renObj (fun i => idx keep i 0) x := by
    intro q y hy
    rw [renH_eq] at hy
    rw [List.getElem?_map] at hy
    cases hk : keep[q]? with
    | none => rw [hk] at hy; simp at hy
    | some id =>
      rw [hk] at hy
      simp only [Option.map_some, Option.some.injEq] at hy
      have hlt : id < H.length := c3' id (List.mem_of_getElem? hk)
      refine ⟨id, H[id], rfl, List.getElem?_eq_getElem hlt, ?_⟩
      rw [← hy]; simp [List.getD, List.getElem?_eq_getElem hlt]
  have hfree : ∀ (x : AObj) o, (renObj (fun i => idx keep i 0) x).free o → x.free o := by intro x o; cases x <;> exact fun h => h
  have hlive : ∀ (x : AObj), (renObj (fun i => idx keep i 0) x).live → x.live := by intro x; cases x <;> exact fun h => h
  have hown : ∀ b, Own (keep.map fun id => r.getD id none) (renH (fun i => idx keep i 0) H keep) b → Own r H b := by
    rintro b ⟨q, y, h1, h2, h3⟩
    obtain ⟨id, x, e1, e2, rfl⟩ := hgH q y h1
    rw [hgr q id e1] at h2
    exact ⟨id, x, e2, h2, hlive x h3⟩
  have hwr : ∀ b o, Wr (keep.map fun id => r.getD id none) (renH (fun i => idx keep i 0) H keep) b o → Wr r H b o := by
    rintro b o ⟨q, y, h1, h2, h3⟩
    obtain ⟨id, x, e1, e2, rfl⟩ := hgH q y h1
    rw [hgr q id e1] at h2
    exact ⟨id, x, e2, h2, hfree x o h3⟩
  have hren : RenC (fun i => idx keep i 0) (ctx A r H w) (ctx A (keep.map fun id => r.getD id none) (renH (fun i => idx keep i 0) H keep) w) := by
    refine ⟨⟨rfl, ?_⟩, ?_⟩
    · rintro b o (hw | ha)
      · exact .inl (hwr b o hw)
      · exact .inr ha
    · intro i q b hq hb
      obtain ⟨_, hk⟩ := idx_spec _ _ _ _ hq
      show (keep.map fun id => r.getD id none)[q]? = _
      rw [hgr q i (by simpa using hk)]
      exact hb
  have hinv : Inv A (keep.map fun id => r.getD id none) (renH (fun i => idx keep i 0) H keep) w := by
    refine ⟨by rw [renH_eq]; simp, ?_, ?_, fun b o hb => ⟨(hi.amb b o hb).1, fun ho => (hi.amb b o hb).2 (hown b ho)⟩⟩
    · intro q y b h1 h2
      obtain ⟨id, x, e1, e2, rfl⟩ := hgH q y h1
      rw [hgr q id e1] at h2
      exact ObjOK.ren hren (hi.obj id x b e2 h2)
    · intro q p y z b h1 h2 l1 l2 r1 r2
      obtain ⟨id, x, e1, e2, rfl⟩ := hgH q y h1
      obtain ⟨id', x', f1, f2, rfl⟩ := hgH p z h2
      rw [hgr q id e1] at r1
      rw [hgr p id' f1] at r2
      have := hi.inj id id' x x' b e2 f2 (hlive _ l1) (hlive _ l2) r1 r2
      subst this
      exact c2' q p id e1 f1
  have hle' : Le C0 (ctx A (keep.map fun id => r.getD id none) (renH (fun i => idx keep i 0) H keep) w) := by
    refine ⟨?_, hle.cell, hle.size, fun b o hb hw => hle.shrink b o hb (hren.wr b o hw), hle.heap, fun b hb ho => hle.own b hb (hown b ho), hle.frame, hle.os, hle.tape, hle.output⟩
    intro id b hb
    have hlt : id < n0 := by rw [← hl]; exact (List.getElem?_eq_some_iff.1 hb).1
    have hk := c1' id hlt
    rw [Nat.zero_add] at hk
    show (keep.map fun id => r.getD id none)[id]? = _
    rw [hgr id id hk]
    exact hle.rho id b hb
  obtain ⟨xs', H', r', k1, k2, k3, k4, k5⟩ := h.out A C0 _ w us hl hle' hinv (RVs.ren hren _ _ hx)
  exact ⟨xs', H', r', k1, k2, k3, k4, ⟨k5.w.trans hren.w, fun b o hw => hren.wr b o (k5.wr b o hw)⟩⟩
end Go.Ev
