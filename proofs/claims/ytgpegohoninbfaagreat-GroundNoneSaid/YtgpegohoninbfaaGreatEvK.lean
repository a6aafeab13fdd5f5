/- The mill, part K: operations that make memory, or write it. -/
import Derived.Test.YtgpegohoninbfaaGreatEvJ
namespace Go.Ev
set_option linter.unusedVariables false
set_option linter.unusedSimpArgs false
set_option linter.unusedVariables false
theorem get_set_ne {α : Type} {l : List α} {id i : Nat} {x y : α} (h : l[i]? = some y) (hn : i ∉ [id]) : (l.set id x)[i]? = some y := by
  rw [List.getElem?_set_ne (fun e => hn (by simp [e]))]; exact h
open Go.RowKit
variable {A : Nat → Nat → Prop}

/-- What has become of the world: objects that are not in X stand as they stood. -/
structure StepOK (A : Nat → Nat → Prop) (r : List (Option Nat)) (H : AHeap) (w : World) (r' : List (Option Nat)) (H' : AHeap) (w' : World) (X : List Nat) : Prop where
  le : Le (ctx A r H w) (ctx A r' H' w')
  inv : Inv A r' H' w'
  same : ∀ (id : Nat) x b, H[id]? = some x → x.live → id ∉ X → r[id]? = some (some b) → w'.heap[b]? = w.heap[b]?
  keep : ∀ (id : Nat) x, H[id]? = some x → id ∉ X → H'[id]? = some x

theorem StepOK.agree {r : List (Option Nat)} {H : AHeap} {w : World} {r' : List (Option Nat)} {H' : AHeap} {w' : World} {X : List Nat} (h : StepOK A r H w r' H' w' X) : Agree A r H X w w' :=
  ⟨fun b o v hv hw => h.le.cell b o v hv hw, h.same⟩

/-- A value comes, and the abstract heap goes over. -/
def Eff (P : Program) (A : Nat → Nat → Prop) (r : List (Option Nat)) (H : AHeap) (w : World) (k : AV → AHeap → List Nat → Prop) (s : Sem Value) : Prop :=
  ∃ x v H' X r' w', s.run P w = .ok v w' ∧ k x H' X ∧ StepOK A r H w r' H' w' X ∧ RV (ctx A r' H' w') x v

theorem oneCell_of {C : Ctx} {x : AV} {v : Value} (h : cellish x = true) (hx : RV C x v) : v.oneCell' = true := by
  cases x with
  | agg _ => simp [cellish] at h
  | tup _ => simp [cellish] at h
  | junk => simp [cellish] at h
  | g x =>
    cases x with
    | c u => simp only [RV, RG] at hx; subst hx; cases v <;> simp_all [cellish, Value.oneCell']
    | sl sz n at_ => simp only [RV, RG] at hx; obtain ⟨a, c, rfl, _⟩ := hx; rfl
  | p id sz i j => simp only [RV] at hx; obtain ⟨b, _, rfl⟩ := hx; rfl
  | rp n at_ => simp only [RV] at hx; obtain ⟨b, o, rfl, _⟩ := hx; rfl
  | sl id sz off len cap => simp only [RV] at hx; obtain ⟨a, c, rfl, _⟩ := hx; rfl
  | nz => simp only [RV] at hx; obtain ⟨a, rfl⟩ := hx; rfl
  | fn f fs cs => simp only [RV] at hx; obtain ⟨a, b, rfl, _⟩ := hx; rfl
  | ifc t x => simp only [RV] at hx; obtain ⟨a, rfl, _⟩ := hx; rfl
  | m id => simp only [RV] at hx; obtain ⟨b, _, rfl⟩ := hx; rfl

def allCellish : List AV → Bool
  | [] => true
  | x :: xs => cellish x && allCellish xs
theorem oneCells_of {C : Ctx} : ∀ {xs : List AV} {vs : List Value}, allCellish xs = true → RVs C xs vs → ∀ v ∈ vs, v.oneCell' = true
  | [], vs, _, hr => by simp only [RVs] at hr; subst hr; simp
  | x :: xs, vs, h, hr => by
    simp only [RVs] at hr
    obtain ⟨v, us, rfl, h2, h3⟩ := hr
    simp only [allCellish, Bool.and_eq_true] at h
    intro u hu
    rcases List.mem_cons.1 hu with rfl | hu
    · exact oneCell_of h.1 h2
    · exact oneCells_of h.2 h3 u hu

def hset (H : AHeap) (id : Nat) (x : AObj) (k : AHeap → Prop) : Prop :=
  match H, id with
  | [], _ => k []
  | _ :: H, 0 => k (x :: H)
  | y :: H, id + 1 => hset H id x fun H' => k (y :: H')
theorem hset_eq : ∀ (H : AHeap) (id : Nat) (x : AObj) (k : AHeap → Prop), hset H id x k = k (H.set id x)
  | [], _, _, _ => by simp [hset]
  | _ :: H, 0, x, k => rfl
  | y :: H, id + 1, x, k => by simp only [hset, List.set_cons_succ]; exact hset_eq H id x _
def hpush (H : AHeap) (x : AObj) (k : Nat → AHeap → Prop) : Prop :=
  match H with
  | [] => k 0 [x]
  | y :: H => hpush H x fun n H' => k (n + 1) (y :: H')
theorem hpush_eq : ∀ (H : AHeap) (x : AObj) (k : Nat → AHeap → Prop), hpush H x k = k H.length (H ++ [x])
  | [], _, _ => rfl
  | y :: H, x, k => by simp only [hpush, List.length_cons, List.cons_append]; exact hpush_eq H x _

/-- A row's element, written. -/
def updRow (at_ : Nat → Nat → AV) (i j : Nat) (ys : List AV) : Nat → Nat → AV := fun a b => if a = i then (if j ≤ b then (match ys[b - j]? with | some y => y | none => at_ a b) else at_ a b) else at_ a b

def evAlloc (T : Tab) (H : AHeap) (t : TypeId) (k : AV → AHeap → List Nat → Prop) : Prop :=
  match T.inf t with
  | some (_, _, z) => gcK z.cells.toList fun cs => match allCellish cs with
    | true => hpush H (.box t cs) fun id H' => k (.p id 0 0 0) H' []
    | false => False
  | none => False
def evBox (H : AHeap) (t : TypeId) (x : AV) (k : AV → AHeap → List Nat → Prop) : Prop :=
  cellsK x fun cs => match allCellish cs with
    | true => hpush H (.box t cs) fun id H' => k (.p id 0 0 0) H' []
    | false => False
def evStore (T : Tab) (H : AHeap) (t : TypeId) (a x : AV) (k : AV → AHeap → List Nat → Prop) : Prop :=
  match a, T.inf t with
  | .p id sz i j, some (s, _, _) => cellsK x fun ys => match allCellish ys, Nat.beq ys.length s, H[id]? with
    | true, true, some (.box t' cs) => match Nat.beq sz 0, Nat.ble (j + ys.length) cs.length with
      | true, true => putK cs j ys fun cs' => hset H id (.box t' cs') fun H' => k .junk H' [id]
      | _, _ => False
    | true, true, some (.row t' sz' n at_ fz) => match Nat.beq sz sz', Nat.ble (j + ys.length) sz with
      | true, true => (i < n ∧ fz ≤ i * sz) ∧ hset H id (.row t' sz n (updRow at_ i j ys) fz) fun H' => k .junk H' [id]
      | _, _ => False
    | _, _, _ => False
  | _, _ => False

section
variable {r : List (Option Nat)} {H : AHeap} {w : World}

theorem step_new (h : Inv A r H w) (o : Obj) (x : AObj) (hx : ObjOK (ctx A (r ++ [some w.heap.size]) (H ++ [x]) (w.alloc o)) (some w.heap.size) x) :
    StepOK A r H w (r ++ [some w.heap.size]) (H ++ [x]) (w.alloc o) [] :=
  ⟨le_new h o x, inv_new h o x hx, fun id y b h1 h2 _ h4 => Below.heap_alloc _ _ _ (ObjOK.lt (h.obj id y _ h1 h4) h2), fun id y h1 _ => get_snoc_old _ h1⟩

theorem new_box (h : Inv A r H w) {t : TypeId} {cs : List AV} {vs : List Value} (hr : RVs (ctx A r H w) cs vs) (h1 : ∀ v ∈ vs, v.oneCell' = true) :
    StepOK A r H w (r ++ [some w.heap.size]) (H ++ [.box t cs]) (w.alloc (.cells vs.toArray t)) [] ∧
    RV (ctx A (r ++ [some w.heap.size]) (H ++ [.box t cs]) (w.alloc (.cells vs.toArray t))) (.p H.length 0 0 0) (.pointer (some ⟨w.heap.size, 0, none⟩)) := by
  refine ⟨step_new h _ _ ⟨vs, heap_alloc_new w _, RVs.mono (le_new h _ _) _ _ hr, h1⟩, ?_⟩
  simp only [RV]
  refine ⟨w.heap.size, ?_, by simp⟩
  show (r ++ [some w.heap.size])[H.length]? = _
  rw [← h.len]; simp

theorem new_row (h : Inv A r H w) {t : TypeId} {sz n len : Nat} {at_ : Nat → Nat → AV} {vs : List Value} (hsz : 0 < sz) (hl : vs.length = n * sz) (hn : len ≤ n) (hm : n ≤ maxLen)
    (hr : ∀ i, i < n → ∀ j, j < sz → ∃ v, vs[i * sz + j]? = some v ∧ v.oneCell' = true ∧ RV (ctx A r H w) (at_ i j) v) :
    StepOK A r H w (r ++ [some w.heap.size]) (H ++ [.row t sz n at_ 0]) (w.alloc (.cells vs.toArray t)) [] ∧
    RV (ctx A (r ++ [some w.heap.size]) (H ++ [.row t sz n at_ 0]) (w.alloc (.cells vs.toArray t))) (.sl H.length sz 0 len (some n)) (.slice (some ⟨w.heap.size, 0, none⟩) len n) := by
  refine ⟨step_new h _ _ ⟨hsz, vs, heap_alloc_new w _, by omega, fun i hi j hj => ?_⟩, ?_⟩
  · obtain ⟨v, e1, e2, e3⟩ := hr i hi j hj
    exact ⟨v, e1, e2, RV.mono (le_new h _ _) _ _ e3⟩
  · simp only [RV]
    refine ⟨_, _, rfl, hn, hm, .inl ⟨w.heap.size, ?_, by simp, rfl⟩⟩
    show (r ++ [some w.heap.size])[H.length]? = _
    rw [← h.len]; simp
end

section
variable {T : Tab} (hT : T.OK) {r : List (Option Nat)} {H : AHeap} {w : World} {k : AV → AHeap → List Nat → Prop}
include hT

theorem eff_alloc (hi : Inv A r H w) {t : TypeId} (h : evAlloc T H t k) : Eff T.P A r H w k (Instr.alloc t true (.tuple #[])) := by
  unfold evAlloc at h
  split at h
  · rename_i s q z hinf
    rw [gcK_eq] at h
    split at h
    · rename_i hc
      rw [hpush_eq] at h
      have hr := RVs.exacts (C := ctx A r H w) z.cells.toList
      obtain ⟨h1, h2⟩ := new_box (t := t) hi hr (oneCells_of hc hr)
      exact ⟨_, _, _, _, _, _, by simp [Instr.alloc, run_zero hT hinf, newVar, newRow], h, h1, h2⟩
    · exact h.elim
  · exact h.elim

omit hT in
theorem eff_box {P : Program} (hi : Inv A r H w) {t : TypeId} {x : AV} {v : Value} (h : evBox H t x k) (hx : RV (ctx A r H w) x v) : Eff P A r H w k (Instr.box t v) := by
  unfold evBox at h
  obtain ⟨cs, h, hr⟩ := cellsK_rv h hx
  split at h
  · rename_i hc
    rw [hpush_eq] at h
    obtain ⟨h1, h2⟩ := new_box (t := t) hi hr (oneCells_of hc hr)
    exact ⟨_, _, _, _, _, _, by simp [Instr.box, newVar, newRow], h, h1, h2⟩
  · exact h.elim

omit hT in
/-- Cells stored one behind the other into a block. -/
theorem run_storeCells_row {P : Program} {b : Nat} {t : TypeId} : ∀ (ys : List Value) (j off : Nat) (vs : List Value) (w : World), w.heap[b]? = some (.cells vs.toArray t (0, 0)) → off + j + ys.length ≤ vs.length → (∀ v ∈ ys, v.oneCell' = true) →
    ∃ w', (storeCells ⟨b, off, none⟩ ys j).run P w = .ok () w' ∧ w'.heap[b]? = some (.cells (put vs (off + j) ys).toArray t (0, 0)) ∧ (∀ q, q ≠ b → w'.heap[q]? = w.heap[q]?) ∧ w'.heap.size = w.heap.size ∧ w'.os = w.os ∧ w'.tape = w.tape ∧ w'.output = w.output
  | [], j, off, vs, w, hb, hl, _ => by
    have : put vs (off + j) [] = vs := by
      apply List.ext_getElem?
      intro i
      rw [getElem?_put _ _ _ _ (by simpa using hl)]
      rw [if_neg (by simp only [List.length_nil]; omega)]
    exact ⟨w, by simp [storeCells], by rw [this]; exact hb, fun _ _ => rfl, rfl, rfl, rfl, rfl⟩
  | y :: ys, j, off, vs, w, hb, hl, ho => by
    simp only [List.length_cons] at hl
    have hlt : off + j < vs.length := by omega
    have hc : w.cell? ⟨b, off + j, none⟩ = some vs[off + j] := by rw [cell_of_block hb]; exact List.getElem?_eq_getElem hlt
    have hf : w.frozen? ⟨b, off + j, none⟩ = false := by simp [World.frozen?, hb]
    have hb' : (w.setCell ⟨b, off + j, none⟩ y).heap[b]? = some (.cells (vs.set (off + j) y).toArray t (0, 0)) := by
      simp [World.setCell, Array.getElem?_modify, hb]
    obtain ⟨w', e1, e2, e3, e4, e5, e6, e7⟩ := run_storeCells_row (P := P) ys (j + 1) off (vs.set (off + j) y) (w.setCell ⟨b, off + j, none⟩ y) hb' (by simp; omega) (fun v hv => ho v (List.mem_cons_of_mem _ hv))
    refine ⟨w', ?_, ?_, fun q hq => (e3 q hq).trans (Below.heap_setCell _ _ _ _ hq), by rw [e4]; simp [World.setCell], e5, e6, e7⟩
    · have hs := run_store P w ⟨b, off + j, none⟩ y .plain (ho y (List.mem_cons_self ..))
      simp only [storeCells, Sem.run_bind, addr_add]
      have : (store ⟨b, off + j, none⟩ y).run P w = .ok () (w.setCell ⟨b, off + j, none⟩ y) := by
        have h0 := hs
        simp [hc, hf] at h0
        exact h0
      rw [this]
      exact e1
    · rw [e2]
      congr 2
      apply congrArg
      apply List.ext_getElem?
      intro i
      rw [getElem?_put _ _ _ _ (by simp; omega), getElem?_put _ _ _ _ (by simp; omega)]
      simp only [List.length_cons]
      by_cases h1 : off + (j + 1) ≤ i ∧ i < off + (j + 1) + ys.length
      · rw [if_pos h1, if_pos (by omega), show i - (off + j) = (i - (off + (j + 1))) + 1 by omega]
        simp
      · rw [if_neg h1]
        by_cases h2 : i = off + j
        · subst h2
          rw [if_pos (by omega), List.getElem?_set_self (by omega)]
          simp
        · rw [if_neg (by omega), List.getElem?_set_ne (by omega)]

theorem run_storeVar {t : TypeId} {s : Nat} {b0 : Nat} {z : Value} (hs : T.inf t = some (s, b0, z)) {b o : Nat} {vs : List Value} {tt : TypeId} {v : Value} (hv : v.cells.size = s) (hb : w.heap[b]? = some (.cells vs.toArray tt (0, 0)))
    (hl : o + s ≤ vs.length) (ho : ∀ u ∈ v.cells.toList, u.oneCell' = true) :
    ∃ w', (Instr.storeAt t (.pointer (some ⟨b, o, none⟩)) v).run T.P w = .ok () w' ∧ w'.heap[b]? = some (.cells (put vs o v.cells.toList).toArray tt (0, 0)) ∧ (∀ q, q ≠ b → w'.heap[q]? = w.heap[q]?) ∧ w'.heap.size = w.heap.size ∧ w'.os = w.os ∧ w'.tape = w.tape ∧ w'.output = w.output := by
  obtain ⟨w', e1, e2⟩ := run_storeCells_row (P := T.P) v.cells.toList 0 o vs w hb (by simp; omega) ho
  refine ⟨w', ?_, by simpa using e2⟩
  simp [Instr.storeAt, Instr.sureAddr, storeVar, run_size hT hs, hv]
  exact e1

theorem eff_store (hi : Inv A r H w) {t : TypeId} {a x : AV} {u v : Value} (h : evStore T H t a x k) (ha : RV (ctx A r H w) a u) (hx : RV (ctx A r H w) x v) :
    ∃ w' H' X, (Instr.storeAt t u v).run T.P w = .ok () w' ∧ k .junk H' X ∧ StepOK A r H w r H' w' X := by
  unfold evStore at h
  split at h
  · rename_i id sz i j s _ _ hs
    simp only [RV] at ha
    obtain ⟨b, hr, rfl⟩ := ha
    replace hr : r[id]? = some (some b) := hr
    obtain ⟨ys, g, hy⟩ := cellsK_rv h hx
    clear h
    have h := g
    clear g
    have l2 := hy.length
    split at h
    · rename_i t' cs hc hsz hH
      have hsz' := Nat.eq_of_beq_eq_true hsz
      obtain ⟨vs, hb, hvs, hone⟩ := hi.obj id _ _ hH hr
      replace hb : w.heap[b]? = _ := hb
      have l1 := hvs.length
      split at h
      · rename_i hz hle
        have hz' := Nat.eq_of_beq_eq_true hz
        have hle' := Nat.le_of_ble_eq_true hle
        subst hz'
        rw [putK_eq, hset_eq] at h
        have hvone := oneCells_of hc hy
        obtain ⟨w', e1, e2, e3, e4, e5, e6, e7⟩ := run_storeVar hT hs (b := b) (o := i * 0 + j) (v := v) (by simp at l2; omega) hb (by simp; omega) hvone
        simp only [Nat.mul_zero, Nat.zero_add] at e1 e2
        have hle : Le (ctx A r H w) (ctx A r (H.set id (.box t' (put cs j ys))) w') :=
          le_block (x := .box t' cs) hH hr trivial hb e2 (length_put _ _ _) (fun o hf => (hf trivial).elim) e3 e4 e5 e6 e7 (fun o _ => trivial)
        have hpv : RVs (ctx A r H w) (put cs j ys) (put vs j v.cells.toList) := RVs.put hvs hy (by omega)
        refine ⟨w', _, _, by simpa using e1, h, hle, ?_, ?_, fun i x h1 h2 => get_set_ne h1 h2⟩
        · refine inv_block hi hH hr trivial hle e3 ⟨_, e2, RVs.mono hle _ _ hpv, ?_⟩
          intro q hq
          obtain ⟨n, hn⟩ := List.getElem?_of_mem hq
          rw [getElem?_put _ _ _ _ (by omega)] at hn
          split at hn
          · exact hvone q (List.mem_of_getElem? hn)
          · exact hone q (List.mem_of_getElem? hn)
        · intro id' x' b' h1 h2 h3 h4
          refine e3 b' fun e => h3 ?_
          subst e
          simp [hi.inj id' id x' _ _ h1 hH h2 trivial h4 hr]
      · exact h.elim
    · rename_i t' sz' n at_ fz hc hsz hH
      have hsz' := Nat.eq_of_beq_eq_true hsz
      obtain ⟨h0, vs, hb, hlen, hvs⟩ := hi.obj id _ _ hH hr
      replace hb : w.heap[b]? = _ := hb
      split at h
      · rename_i hz hle
        have hz' := Nat.eq_of_beq_eq_true hz
        have hle' := Nat.le_of_ble_eq_true hle
        subst hz'
        obtain ⟨⟨hin, hfz⟩, h⟩ := h
        rw [hset_eq] at h
        have hvone := oneCells_of hc hy
        have hmul : i * sz + sz ≤ n * sz := by
          have := Nat.mul_le_mul_right sz (show i + 1 ≤ n by omega)
          rwa [Nat.add_mul, Nat.one_mul] at this
        obtain ⟨w', e1, e2, e3, e4, e5, e6, e7⟩ := run_storeVar hT hs (b := b) (o := i * sz + j) (v := v) (by simp at l2; omega) hb (by omega) hvone
        have hput : ∀ o, (put vs (i * sz + j) v.cells.toList)[o]? = if i * sz + j ≤ o ∧ o < i * sz + j + v.cells.toList.length then v.cells.toList[o - (i * sz + j)]? else vs[o]? := fun o => getElem?_put _ _ _ _ (by omega)
        have hle : Le (ctx A r H w) (ctx A r (H.set id (.row t' sz n (updRow at_ i j ys) fz)) w') :=
          le_block (x := .row t' sz n at_ fz) hH hr trivial hb e2 (length_put _ _ _) (fun o hf => by
            rw [hput, if_neg]
            simp only [AObj.free, Nat.not_le] at hf
            omega) e3 e4 e5 e6 e7 (fun o hf => hf)
        refine ⟨w', _, _, e1, h, hle, ?_, ?_, fun i x h1 h2 => get_set_ne h1 h2⟩
        · refine inv_block hi hH hr trivial hle e3 ⟨h0, _, e2, by rw [length_put]; exact hlen, fun p hp q hq => ?_⟩
          obtain ⟨v1, f1, f2, f3⟩ := hvs p hp q hq
          rw [hput]
          by_cases hpi : p = i
          · subst hpi
            by_cases hjq : j ≤ q
            · by_cases hql : q < j + ys.length
              · rw [if_pos (by omega), show p * sz + q - (p * sz + j) = q - j by omega]
                have hyq : ys[q - j]? = some ys[q - j] := List.getElem?_eq_getElem (by omega)
                obtain ⟨v2, g1, g2⟩ := hy.get _ _ hyq
                exact ⟨v2, g1, hvone v2 (List.mem_of_getElem? g1), by simp only [updRow, if_true, if_pos hjq, hyq]; exact RV.mono hle _ _ g2⟩
              · rw [if_neg (by omega)]
                have : ys[q - j]? = none := List.getElem?_eq_none (by omega)
                exact ⟨v1, f1, f2, by simp only [updRow, if_true, if_pos hjq, this]; exact RV.mono hle _ _ f3⟩
            · rw [if_neg (by omega)]
              exact ⟨v1, f1, f2, by simp only [updRow, if_true, if_neg hjq]; exact RV.mono hle _ _ f3⟩
          · have hne : ¬ (i * sz + j ≤ p * sz + q ∧ p * sz + q < i * sz + j + v.cells.toList.length) := by
              rintro ⟨a1, a2⟩
              rcases Nat.lt_or_gt_of_ne hpi with hlt | hgt
              · have := Nat.mul_le_mul_right sz (show p + 1 ≤ i by omega)
                rw [Nat.add_mul, Nat.one_mul] at this
                omega
              · have := Nat.mul_le_mul_right sz (show i + 1 ≤ p by omega)
                rw [Nat.add_mul, Nat.one_mul] at this
                omega
            rw [if_neg hne]
            exact ⟨v1, f1, f2, by simp only [updRow, if_neg hpi]; exact RV.mono hle _ _ f3⟩
        · intro id' x' b' h1 h2 h3 h4
          refine e3 b' fun e => h3 ?_
          subst e
          simp [hi.inj id' id x' _ _ h1 hH h2 trivial h4 hr]
      · exact h.elim
    · exact h.elim
  · exact h.elim
end
end Go.Ev
