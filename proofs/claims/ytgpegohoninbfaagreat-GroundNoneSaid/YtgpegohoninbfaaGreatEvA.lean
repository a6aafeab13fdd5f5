/- The mill, part A: abstract values, what they stand for in a world, and what stays so. -/
import Derived.OrdersHeld
import Derived.Below
import Derived.OneCell
import Derived.Laws.AppendOwn
namespace Go.Ev
set_option linter.unusedVariables false
set_option linter.unusedSimpArgs false
open Go.RowKit
variable {A : Nat → Nat → Prop}

/-- Ground data: an exact value; a slice that nobody writes (by value). -/
inductive G where
  | c (v : Value)
  | sl (sz n : Nat) (at_ : Nat → Nat → G)

/-- Abstract values: ids are numbers of the abstract heap's objects. -/
inductive AV where
  | g (x : G)
  | p (id sz i j : Nat)
  | rp (n : Nat) (at_ : Nat → G)
  | sl (id sz off len : Nat) (cap : Option Nat)
  | nz
  | agg (cs : List AV)
  | tup (cs : List AV)
  | fn (f : Fn) (fs cs : List AV)
  | ifc (t : TypeId) (x : AV)
  | m (id : Nat)
  | junk

/-- Abstract objects: a block known whole; a row whose first n elements are known, written from cell fz on; a map, its entries in their order; what goes over a map, at its start; none. -/
inductive AObj where
  | box (t : TypeId) (cs : List AV)
  | row (t : TypeId) (sz n : Nat) (at_ : Nat → Nat → AV) (fz : Nat)
  | map (es : List ((Nat × Value) × AV)) (clk : Nat)
  | iter (m : Option Nat)
  | dead

abbrev AHeap := List AObj

/-- What an abstract value speaks of: the blocks of the ids, the cells that may be written, the world. -/
structure Ctx where
  r : List (Option Nat)
  own : Nat → Prop
  wr : Nat → Nat → Prop
  w : World

def RG (C : Ctx) : G → Value → Prop
  | .c v, x => x = v
  | .sl sz n at_, x => ∃ a c, x = .slice a n c ∧ n ≤ c ∧ c ≤ maxLen ∧ ∀ i, i < n → ∀ j, j < sz → ∃ ad v, a = some ad ∧ ad.spot = none ∧
      C.w.cell? ⟨ad.block, ad.off + (i * sz + j), none⟩ = some v ∧ v.oneCell' = true ∧ ¬ C.wr ad.block (ad.off + (i * sz + j)) ∧ RG C (at_ i j) v

mutual
def RV (C : Ctx) : AV → Value → Prop
  | .g x, v => RG C x v
  | .p id sz i j, v => ∃ b, C.r[id]? = some (some b) ∧ v = .pointer (some ⟨b, i * sz + j, none⟩)
  | .rp n at_, v => ∃ b o, v = .pointer (some ⟨b, o, none⟩) ∧ ∀ j, j < n → ∃ u, C.w.cell? ⟨b, o + j, none⟩ = some u ∧ u.oneCell' = true ∧ ¬ C.wr b (o + j) ∧ RG C (at_ j) u
  | .sl id sz off len cap, v => ∃ a c, v = .slice a len c ∧ len ≤ c ∧ c ≤ maxLen ∧
      ((∃ b, C.r[id]? = some (some b) ∧ a = some ⟨b, off * sz, none⟩ ∧
        (match cap with
         | some k => c = k
         | none => ∃ vs t f, C.w.heap[b]? = some (.cells vs t f) ∧ vs.size = (off + c) * sz)) ∨
       (len = 0 ∧ c = 0 ∧ (∀ k, cap = some k → k = 0) ∧ (C.r[id]? = some none ∨ 0 < off)))
  | .nz, v => ∃ a, v = .slice a 0 0
  | .agg cs, v => ∃ vs : List Value, v = .agg vs.toArray ∧ RVs C cs vs
  | .tup cs, v => ∃ vs : List Value, v = .tuple vs.toArray ∧ RVs C cs vs
  | .fn f fs cs, v => ∃ xs ys : List Value, v = .func f xs.toArray ys.toArray ∧ RVs C fs xs ∧ RVs C cs ys
  | .ifc t x, v => ∃ u, v = .iface t u ∧ RV C x u
  | .m id, v => ∃ b, C.r[id]? = some (some b) ∧ v = .map (some b)
  | .junk, _ => True
def RVs (C : Ctx) : List AV → List Value → Prop
  | [], l => l = []
  | x :: xs, l => ∃ v vs, l = v :: vs ∧ RV C x v ∧ RVs C xs vs
end

/-- One context goes over into another one. -/
structure Le (C D : Ctx) : Prop where
  rho : ∀ (id : Nat) b, C.r[id]? = some b → D.r[id]? = some b
  cell : ∀ b o v, C.w.cell? ⟨b, o, none⟩ = some v → ¬ C.wr b o → D.w.cell? ⟨b, o, none⟩ = some v
  size : ∀ (b : Nat) vs t f, C.w.heap[b]? = some (.cells vs t f) → ∃ vs', D.w.heap[b]? = some (.cells vs' t f) ∧ vs'.size = vs.size
  shrink : ∀ b o, b < C.w.heap.size → D.wr b o → C.wr b o
  heap : C.w.heap.size ≤ D.w.heap.size
  own : ∀ b, b < C.w.heap.size → D.own b → C.own b
  frame : ∀ b, b < C.w.heap.size → ¬ C.own b → D.w.heap[b]? = C.w.heap[b]?
  os : D.w.os = C.w.os
  tape : D.w.tape = C.w.tape
  output : D.w.output = C.w.output

theorem Le.refl (C : Ctx) : Le C C := ⟨fun _ _ h => h, fun _ _ _ h _ => h, fun _ vs _ _ h => ⟨vs, h, rfl⟩, fun _ _ _ h => h, Nat.le_refl _, fun _ _ h => h, fun _ _ _ => rfl, rfl, rfl, rfl⟩

theorem cell_lt {w : World} {b o : Nat} {v : Value} (h : w.cell? ⟨b, o, none⟩ = some v) : b < w.heap.size := World.block_lt_of_cell? w _ h

theorem Le.trans {A B C : Ctx} (h : Le A B) (k : Le B C) : Le A C where
  rho id b hb := k.rho id b (h.rho id b hb)
  cell b o v hv hw := k.cell b o v (h.cell b o v hv hw) (fun hw' => hw (h.shrink b o (cell_lt hv) hw'))
  size b vs t f hb := by
    obtain ⟨vs', h1, h2⟩ := h.size b vs t f hb
    obtain ⟨vs'', h3, h4⟩ := k.size b vs' t f h1
    exact ⟨vs'', h3, h4.trans h2⟩
  shrink b o hb hw := h.shrink b o hb (k.shrink b o (Nat.lt_of_lt_of_le hb h.heap) hw)
  heap := Nat.le_trans h.heap k.heap
  own b hb ho := h.own b hb (k.own b (Nat.lt_of_lt_of_le hb h.heap) ho)
  frame b hb ho := (k.frame b (Nat.lt_of_lt_of_le hb h.heap) (fun ho' => ho (h.own b hb ho'))).trans (h.frame b hb ho)
  os := k.os.trans h.os
  tape := k.tape.trans h.tape
  output := k.output.trans h.output

theorem RG.mono {C D : Ctx} (h : Le C D) : ∀ (x : G) (v : Value), RG C x v → RG D x v
  | .c _, _, e => e
  | .sl sz n at_, v, ⟨a, c, e, h1, h2, h3⟩ => ⟨a, c, e, h1, h2, fun i hi j hj => by
      obtain ⟨ad, u, e1, e2, e3, e4, e5, e6⟩ := h3 i hi j hj
      exact ⟨ad, u, e1, e2, h.cell _ _ _ e3 e5, e4, fun hw => e5 (h.shrink _ _ (cell_lt e3) hw), RG.mono h _ _ e6⟩⟩

mutual
theorem RV.mono {C D : Ctx} (h : Le C D) : ∀ (x : AV) (v : Value), RV C x v → RV D x v
  | .g x, v, e => by simp only [RV] at e ⊢; exact RG.mono h x v e
  | .p id sz i j, v, e => by
    simp only [RV] at e ⊢
    obtain ⟨b, e1, e2⟩ := e
    exact ⟨b, h.rho _ _ e1, e2⟩
  | .rp n at_, v, e => by
    simp only [RV] at e ⊢
    obtain ⟨b, o, e1, e2⟩ := e
    refine ⟨b, o, e1, fun j hj => ?_⟩
    obtain ⟨u, a1, a2, a3, a4⟩ := e2 j hj
    exact ⟨u, h.cell _ _ _ a1 a3, a2, fun hw => a3 (h.shrink _ _ (cell_lt a1) hw), RG.mono h _ _ a4⟩
  | .sl id sz off len cap, v, e => by
    simp only [RV] at e ⊢
    obtain ⟨a, c, e1, e2, e3, e4⟩ := e
    refine ⟨a, c, e1, e2, e3, ?_⟩
    rcases e4 with ⟨b, b1, b2, b3⟩ | b1
    · refine .inl ⟨b, h.rho _ _ b1, b2, ?_⟩
      cases cap with
      | some k => exact b3
      | none =>
        obtain ⟨vs, t, f, c1, c2⟩ := b3
        obtain ⟨vs', d1, d2⟩ := h.size _ _ _ _ c1
        exact ⟨vs', t, f, d1, d2.trans c2⟩
    · exact .inr ⟨b1.1, b1.2.1, b1.2.2.1, b1.2.2.2.imp (fun e => h.rho _ _ e) (fun e => e)⟩
  | .nz, v, e => by simp only [RV] at e ⊢; exact e
  | .agg cs, v, e => by
    simp only [RV] at e ⊢
    obtain ⟨vs, e1, e2⟩ := e
    exact ⟨vs, e1, RVs.mono h cs vs e2⟩
  | .tup cs, v, e => by
    simp only [RV] at e ⊢
    obtain ⟨vs, e1, e2⟩ := e
    exact ⟨vs, e1, RVs.mono h cs vs e2⟩
  | .fn f fs cs, v, e => by
    simp only [RV] at e ⊢
    obtain ⟨xs, ys, e1, e2, e3⟩ := e
    exact ⟨xs, ys, e1, RVs.mono h fs xs e2, RVs.mono h cs ys e3⟩
  | .ifc t x, v, e => by
    simp only [RV] at e ⊢
    obtain ⟨u, e1, e2⟩ := e
    exact ⟨u, e1, RV.mono h x u e2⟩
  | .m id, v, e => by
    simp only [RV] at e ⊢
    obtain ⟨b, e1, e2⟩ := e
    exact ⟨b, h.rho _ _ e1, e2⟩
  | .junk, _, _ => by simp only [RV]
theorem RVs.mono {C D : Ctx} (h : Le C D) : ∀ (xs : List AV) (vs : List Value), RVs C xs vs → RVs D xs vs
  | [], vs, e => by simp only [RVs] at e ⊢; exact e
  | x :: xs, vs, e => by
    simp only [RVs] at e ⊢
    obtain ⟨v, us, e1, e2, e3⟩ := e
    exact ⟨v, us, e1, RV.mono h x v e2, RVs.mono h xs us e3⟩
end

theorem RVs.length {C : Ctx} : ∀ {xs : List AV} {vs : List Value}, RVs C xs vs → vs.length = xs.length
  | [], vs, h => by simp only [RVs] at h; simp [h]
  | x :: xs, vs, h => by
    simp only [RVs] at h
    obtain ⟨v, us, rfl, _, h3⟩ := h
    simp [RVs.length h3]

theorem RVs.get {C : Ctx} : ∀ {xs : List AV} {vs : List Value}, RVs C xs vs → ∀ (i : Nat) (x : AV), xs[i]? = some x → ∃ v, vs[i]? = some v ∧ RV C x v
  | [], _, _, i, x, hx => by simp at hx
  | y :: xs, vs, h, i, x, hx => by
    simp only [RVs] at h
    obtain ⟨v, us, rfl, h2, h3⟩ := h
    cases i with
    | zero => simp at hx; subst hx; exact ⟨v, by simp, h2⟩
    | succ i => simp at hx; simpa using RVs.get h3 i x hx

theorem RVs.of_get {C : Ctx} : ∀ {xs : List AV} {vs : List Value}, vs.length = xs.length → (∀ (i : Nat) (x : AV) (v : Value), xs[i]? = some x → vs[i]? = some v → RV C x v) → RVs C xs vs
  | [], vs, hl, _ => by simp only [RVs]; exact List.eq_nil_of_length_eq_zero hl
  | x :: xs, vs, hl, h => by
    simp only [RVs]
    cases vs with
    | nil => simp at hl
    | cons v vs => exact ⟨v, vs, rfl, h 0 x v (by simp) (by simp), RVs.of_get (by simpa using hl) (fun i y u hy hu => h (i + 1) y u (by simpa using hy) (by simpa using hu))⟩

theorem RVs.append {C : Ctx} {xs ys : List AV} {us vs : List Value} (h : RVs C xs us) (k : RVs C ys vs) : RVs C (xs ++ ys) (us ++ vs) := by
  induction xs generalizing us with
  | nil => simp only [RVs] at h; subst h; exact k
  | cons x xs ih =>
    simp only [RVs] at h
    obtain ⟨v, ws, rfl, h2, h3⟩ := h
    simp only [List.cons_append, RVs]
    exact ⟨v, _, rfl, h2, ih h3⟩

/-! ### the abstract heap -/

def AObj.live : AObj → Prop
  | .dead => False
  | _ => True

/-- May this cell of an object be written? -/
def AObj.free : AObj → Nat → Prop
  | .box _ _, _ => True
  | .row _ _ _ _ fz, o => fz ≤ o
  | .map _ _, _ => False
  | .iter _, _ => False
  | .dead, _ => False

theorem AObj.live_of_free {x : AObj} {o : Nat} (h : x.free o) : x.live := by cases x <;> simp_all [AObj.free, AObj.live]

def Wr (r : List (Option Nat)) (H : AHeap) (b o : Nat) : Prop := ∃ (id : Nat) (x : AObj), H[id]? = some x ∧ r[id]? = some (some b) ∧ x.free o

def Own (r : List (Option Nat)) (H : AHeap) (b : Nat) : Prop := ∃ (id : Nat) (x : AObj), H[id]? = some x ∧ r[id]? = some (some b) ∧ x.live

theorem Wr.own {r : List (Option Nat)} {H : AHeap} {b o : Nat} (h : Wr r H b o) : Own r H b := by
  obtain ⟨id, x, h1, h2, h3⟩ := h
  exact ⟨id, x, h1, h2, AObj.live_of_free h3⟩

def ctx (A : Nat → Nat → Prop) (r : List (Option Nat)) (H : AHeap) (w : World) : Ctx := ⟨r, Own r H, fun b o => Wr r H b o ∨ A b o, w⟩

/-- A map's entries. -/
def RM (C : Ctx) : List ((Nat × Value) × AV) → List MapEntry → Prop
  | [], l => l = []
  | p :: ps, l => ∃ e es, l = e :: es ∧ (e.born = p.1.1 ∧ e.key = p.1.2) ∧ RV C p.2 e.val ∧ RM C ps es
theorem RM.mono {C D : Ctx} (h : Le C D) : ∀ (ps : List ((Nat × Value) × AV)) (l : List MapEntry), RM C ps l → RM D ps l
  | [], l, e => e
  | p :: ps, l, ⟨e, es, h1, h2, h3, h4⟩ => ⟨e, es, h1, h2, RV.mono h _ _ h3, RM.mono h ps es h4⟩

/-- What an object says of its block (none: there is no block, and it is an empty row). -/
def ObjOK (C : Ctx) : Option Nat → AObj → Prop
  | some b, .box t cs => ∃ vs : List Value, C.w.heap[b]? = some (.cells vs.toArray t (0, 0)) ∧ RVs C cs vs ∧ ∀ v ∈ vs, v.oneCell' = true
  | some b, .row t sz n at_ _ => 0 < sz ∧ ∃ vs : List Value, C.w.heap[b]? = some (.cells vs.toArray t (0, 0)) ∧ n * sz ≤ vs.length ∧
      ∀ i, i < n → ∀ j, j < sz → ∃ v, vs[i * sz + j]? = some v ∧ v.oneCell' = true ∧ RV C (at_ i j) v
  | none, .row _ sz n _ _ => 0 < sz ∧ n = 0
  | none, .box _ _ => False
  | some b, .map es clk => ∃ en : List MapEntry, C.w.heap[b]? = some (.map en.toArray clk) ∧ RM C es en
  | some b, .iter m => ∃ bm s l, C.w.heap[b]? = some (.mapIter (some bm) s #[] l) ∧ ∀ i, m = some i → C.r[i]? = some (some bm)
  | none, .map _ _ => False
  | none, .iter _ => False
  | _, .dead => True

structure Inv (A : Nat → Nat → Prop) (r : List (Option Nat)) (H : AHeap) (w : World) : Prop where
  len : r.length = H.length
  obj : ∀ (id : Nat) (x : AObj) b, H[id]? = some x → r[id]? = some b → ObjOK (ctx A r H w) b x
  inj : ∀ (i j : Nat) (x y : AObj) (b : Nat), H[i]? = some x → H[j]? = some y → x.live → y.live → r[i]? = some (some b) → r[j]? = some (some b) → i = j
  amb : ∀ b o, A b o → b < w.heap.size ∧ ¬ Own r H b

theorem amb_mono {r r' : List (Option Nat)} {H H' : AHeap} {w w' : World} (h : Le (ctx A r H w) (ctx A r' H' w')) (ha : ∀ b o, A b o → b < w.heap.size ∧ ¬ Own r H b) : ∀ b o, A b o → b < w'.heap.size ∧ ¬ Own r' H' b := fun b o hb =>
  ⟨Nat.lt_of_lt_of_le (ha b o hb).1 h.heap, fun ho => (ha b o hb).2 (h.own b (ha b o hb).1 ho)⟩

theorem ObjOK.mono {C D : Ctx} (h : Le C D) {b : Option Nat} {x : AObj} (hk : ∀ (k : Nat), b = some k → x.live → D.w.heap[k]? = C.w.heap[k]?) (hx : ObjOK C b x) : ObjOK D b x := by
  cases b with
  | none => cases x <;> exact hx
  | some b =>
    cases x with
    | dead => trivial
    | box t cs =>
      obtain ⟨vs, h1, h2, h3⟩ := hx
      exact ⟨vs, by rw [hk b rfl trivial]; exact h1, RVs.mono h _ _ h2, h3⟩
    | row t sz n at_ fz =>
      obtain ⟨h0, vs, h1, h2, h3⟩ := hx
      refine ⟨h0, vs, by rw [hk b rfl trivial]; exact h1, h2, fun i hi j hj => ?_⟩
      obtain ⟨v, e1, e2, e3⟩ := h3 i hi j hj
      exact ⟨v, e1, e2, RV.mono h _ _ e3⟩
    | map es clk =>
      obtain ⟨en, h1, h2⟩ := hx
      exact ⟨en, by rw [hk b rfl trivial]; exact h1, RM.mono h _ _ h2⟩
    | iter m =>
      obtain ⟨bm, s, l, h1, h2⟩ := hx
      exact ⟨bm, s, l, by rw [hk b rfl trivial]; exact h1, fun i hi => h.rho _ _ (h2 i hi)⟩

theorem Inv.get {r : List (Option Nat)} {H : AHeap} {w : World} (h : Inv A r H w) {id : Nat} {x : AObj} (hx : H[id]? = some x) : ∃ b, r[id]? = some b ∧ ObjOK (ctx A r H w) b x := by
  have hlt : id < r.length := by rw [h.len]; exact (List.getElem?_eq_some_iff.1 hx).1
  exact ⟨r[id], List.getElem?_eq_getElem hlt, h.obj id x _ hx (List.getElem?_eq_getElem hlt)⟩

theorem ObjOK.lt {C : Ctx} {b : Nat} {x : AObj} (h : ObjOK C (some b) x) (hl : x.live) : b < C.w.heap.size := by
  cases x with
  | dead => exact hl.elim
  | box t cs => obtain ⟨vs, h1, _⟩ := h; exact lt_of_block h1
  | row t sz n at_ fz => obtain ⟨_, vs, h1, _⟩ := h; exact lt_of_block h1
  | map es clk => obtain ⟨_, h1, _⟩ := h; exact (Array.getElem?_eq_some_iff.1 h1).1
  | iter m => obtain ⟨_, _, _, h1, _⟩ := h; exact (Array.getElem?_eq_some_iff.1 h1).1

theorem Wr.lt {r : List (Option Nat)} {H : AHeap} {w : World} (h : Inv A r H w) {b o : Nat} (hw : Wr r H b o) : b < w.heap.size := by
  obtain ⟨id, x, h1, h2, h3⟩ := hw
  exact ObjOK.lt (h.obj id x _ h1 h2) (AObj.live_of_free h3)
end Go.Ev
