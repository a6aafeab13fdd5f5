/- The mill, part U: a contract at its call. -/
import Derived.Test.YtgpegohoninbfaaGreatEvT
namespace Go.Ev
set_option linter.unusedVariables false
set_option linter.unusedSimpArgs false
open Go.RowKit
variable {A : Nat → Nat → Prop}
set_option linter.unusedVariables false

mutual
/-- What stays so where the numbers stay, and less may be written. -/
theorem RV.lift {C D : Ctx} (h : Sub C D) (h0 : ∀ (id : Nat) b, C.r[id]? = some b → D.r[id]? = some b) : ∀ (x : AV) (v : Value), RV C x v → RV D x v
  | .g x, v, e => by simp only [RV] at e ⊢; exact RG.sub h x v e
  | .p id sz i j, v, e => by
    simp only [RV] at e ⊢
    obtain ⟨b, e1, e2⟩ := e
    exact ⟨b, h0 _ _ e1, e2⟩
  | .rp n at_, v, e => by
    simp only [RV] at e ⊢
    obtain ⟨b, o, e1, e2⟩ := e
    refine ⟨b, o, e1, fun j hj => ?_⟩
    obtain ⟨u, a1, a2, a3, a4⟩ := e2 j hj
    exact ⟨u, by rw [h.w]; exact a1, a2, fun hw => a3 (h.wr _ _ hw), RG.sub h _ _ a4⟩
  | .sl id sz off len cap, v, e => by
    simp only [RV] at e ⊢
    obtain ⟨a, c, e1, e2, e3, e4⟩ := e
    refine ⟨a, c, e1, e2, e3, ?_⟩
    rcases e4 with ⟨b, b1, b2, b3⟩ | b1
    · refine .inl ⟨b, h0 _ _ b1, b2, ?_⟩
      cases cap with
      | some k => exact b3
      | none => obtain ⟨vs, t, f, c1, c2⟩ := b3; exact ⟨vs, t, f, by rw [h.w]; exact c1, c2⟩
    · exact .inr ⟨b1.1, b1.2.1, b1.2.2.1, b1.2.2.2.imp (fun e => h0 _ _ e) (fun e => e)⟩
  | .nz, v, e => by simp only [RV] at e ⊢; exact e
  | .agg cs, v, e => by
    simp only [RV] at e ⊢
    obtain ⟨vs, e1, e2⟩ := e
    exact ⟨vs, e1, RVs.lift h h0 cs vs e2⟩
  | .tup cs, v, e => by
    simp only [RV] at e ⊢
    obtain ⟨vs, e1, e2⟩ := e
    exact ⟨vs, e1, RVs.lift h h0 cs vs e2⟩
  | .fn f fs cs, v, e => by
    simp only [RV] at e ⊢
    obtain ⟨xs, ys, e1, e2, e3⟩ := e
    exact ⟨xs, ys, e1, RVs.lift h h0 fs xs e2, RVs.lift h h0 cs ys e3⟩
  | .ifc t x, v, e => by
    simp only [RV] at e ⊢
    obtain ⟨u, e1, e2⟩ := e
    exact ⟨u, e1, RV.lift h h0 x u e2⟩
  | .m id, v, e => by
    simp only [RV] at e ⊢
    obtain ⟨b, e1, e2⟩ := e
    exact ⟨b, h0 _ _ e1, e2⟩
  | .junk, _, _ => by simp only [RV]
theorem RVs.lift {C D : Ctx} (h : Sub C D) (h0 : ∀ (id : Nat) b, C.r[id]? = some b → D.r[id]? = some b) : ∀ (xs : List AV) (vs : List Value), RVs C xs vs → RVs D xs vs
  | [], vs, e => by simp only [RVs] at e ⊢; exact e
  | x :: xs, vs, e => by
    simp only [RVs] at e ⊢
    obtain ⟨v, us, e1, e2, e3⟩ := e
    exact ⟨v, us, e1, RV.lift h h0 x v e2, RVs.lift h h0 xs us e3⟩
end

theorem CallC.mono {T : Tab} {f : FuncId} {xs : List AV} {H : AHeap} {k k' : AV → AHeap → List Nat → Prop} (h : CallC T f xs H k) (hk : ∀ a H X, k a H X → k' a H X) : CallC T f xs H k' :=
  ⟨fun A r w vs hi hl hx => (h.out A r w vs hi hl hx).mono fun e w' ⟨v, x, H', X, r', h1, h2, h3⟩ => ⟨v, x, H', X, r', h1, hk _ _ _ h2, h3⟩⟩

/-- A contract that needs nothing of the heap. -/
theorem CallC.pureE {T : Tab} {f : FuncId} {xs : List AV} {H : AHeap} {k : AV → AHeap → List Nat → Prop} (h : CallC T f (renL (fun _ => none) xs) [] fun a H' _ => H' = [] ∧ k a H []) : CallC T f xs H k := by
  refine ⟨fun A r w vs hi hl hx => ?_⟩
  have hinv : Inv (fun b o => A b o ∨ Wr r H b o) [] [] w := by
    refine ⟨rfl, fun id x b h1 => by simp at h1, fun i j x y b h1 => by simp at h1, fun b o hb => ⟨?_, ?_⟩⟩
    · rcases hb with hb | hb
      · exact (hi.amb b o hb).1
      · exact Wr.lt hi hb
    · rintro ⟨id, x, h1, _⟩; simp at h1
  have hsub : Sub (ctx A r H w) (ctx (fun b o => A b o ∨ Wr r H b o) [] [] w) := by
    refine ⟨rfl, ?_⟩
    rintro b o (⟨id, x, h1, _⟩ | ha | hw)
    · simp at h1
    · exact .inr ha
    · exact .inl hw
  refine (h.out _ [] w vs hinv (hl.sub hsub) (RVs.ren ⟨hsub, fun i q b hq => by simp at hq⟩ _ _ hx)).mono ?_
  rintro e w' ⟨v, x, H', X, r', rfl, ⟨rfl, hk⟩, hs, hv⟩
  have hr : r' = [] := List.eq_nil_of_length_eq_zero hs.inv.len
  subst hr
  have hframe : ∀ b, b < w.heap.size → w'.heap[b]? = w.heap[b]? := fun b hb => hs.le.frame b hb (by rintro ⟨id, x, h1, _⟩; simp at h1)
  have hle : Le (ctx A r H w) (ctx A r H w') := by
    refine ⟨fun _ _ h => h, fun b o u hu _ => ?_, fun b us t f hb => ?_, fun _ _ _ h => h, hs.le.heap, fun _ _ h => h, fun b hb _ => hframe b hb, hs.le.os, hs.le.tape, hs.le.output⟩
    · have hlt := cell_lt hu
      have hu' : w.cell? ⟨b, o, none⟩ = some u := hu
      show w'.cell? _ = _
      rw [World.cell?_of_block (w := w) (hframe b hlt)]; exact hu'
    · have hlt := lt_of_block (w := w) hb
      exact ⟨us, (hframe b hlt).trans hb, rfl⟩
  have hinv' : Inv A r H w' := ⟨hi.len, fun id x b h1 h2 => ObjOK.mono hle (fun k hk hl => by subst hk; exact hframe k (ObjOK.lt (hi.obj id x _ h1 h2) hl)) (hi.obj id x b h1 h2), hi.inj, amb_mono hle hi.amb⟩
  refine ⟨v, x, H, [], r, rfl, hk, ⟨hle, hinv', fun id x b h1 h2 _ h4 => hframe b (ObjOK.lt (hi.obj id x _ h1 h4) h2), fun _ _ h _ => h⟩, ?_⟩
  refine RV.lift (C := ctx (fun b o => A b o ∨ Wr r H b o) [] [] w') (D := ctx A r H w') ⟨rfl, ?_⟩ (fun id b h => by simp [ctx] at h) x v hv
  rintro b o (hw | ha)
  · exact .inr (.inr hw)
  · exact .inr (.inl ha)

theorem CallC.pure {T : Tab} {f : FuncId} {xs : List AV} {H : AHeap} {k : AV → AHeap → List Nat → Prop} {v : AV} (h : CallC T f (renL (fun _ => none) xs) [] fun a H' _ => a = v ∧ H' = []) (hk : k v H []) : CallC T f xs H k :=
  CallC.pureE (h.mono fun a H' X ⟨e1, e2⟩ => ⟨e2, e1 ▸ hk⟩)

/-- An argument that is an owned row, frozen for the call (and ever after). -/
theorem CallC.freeze (q fz' : Nat) (gat : Nat → Nat → G) {T : Tab} {f : FuncId} {xs : List AV} {H : AHeap} {k : AV → AHeap → List Nat → Prop} {id sz off len : Nat} {cap : Option Nat} {t : TypeId} {n fz : Nat} {at_ : Nat → Nat → AV}
    (hx : xs[q]? = some (.sl id sz off len cap)) (hH : H[id]? = some (.row t sz n at_ fz)) (hn : off + len ≤ n) (hz : fz ≤ fz' ∧ (off + len) * sz ≤ fz')
    (he : ∀ i, i < len → ∀ j, j < sz → at_ (off + i) j = .g (gat i j)) (h : CallC T f (xs.set q (.g (.sl sz len gat))) (H.set id (.row t sz n at_ fz')) fun a H1 X => k a H1 (id :: X)) : CallC T f xs H k := by
  refine ⟨fun A r w vs hi hl hxs => ?_⟩
  obtain ⟨k1, k2, k3, k4⟩ := freeze_step hi fz' gat (cap := cap) hH hn hz he
  obtain ⟨v, hv, hvx⟩ := hxs.get q _ hx
  refine (h.out A r w vs k2 (hl.mono k1) ((RVs.mono k1 _ _ hxs).set hv (k4 v hvx))).mono ?_
  rintro e w' ⟨v, x, H', X, r', rfl, hk, hs, hv⟩
  refine ⟨v, x, H', id :: X, r', rfl, hk, ⟨k1.trans hs.le, hs.inv, fun i y b h1 h2 h3 h4 => ?_, fun i y h1 h3 => ?_⟩, hv⟩
  · simp only [List.mem_cons, not_or] at h3
    exact hs.same i y b (by rw [List.getElem?_set_ne (Ne.symm h3.1)]; exact h1) h2 h3.2 h4
  · simp only [List.mem_cons, not_or] at h3
    exact hs.keep i y (by rw [List.getElem?_set_ne (Ne.symm h3.1)]; exact h1) h3.2
end Go.Ev
