/- The mill, part N: rows that are made, copied, cleared. -/
import Derived.Test.YtgpegohoninbfaaGreatEvM
namespace Go.Ev
set_option linter.unusedVariables false
set_option linter.unusedSimpArgs false
open Go.RowKit
variable {A : Nat → Nat → Prop}
set_option linter.unusedVariables false

def rep (zs : List AV) : Nat → List AV
  | 0 => []
  | n + 1 => zs ++ rep zs n
def litAt (sz : Nat) (cs : List AV) : Nat → Nat → AV := fun i j => cs.getD (i * sz + j) .junk
def evBuildSlice (T : Tab) (H : AHeap) (t : TypeId) (len : Nat) (parts : List (Nat × AV)) (k : AV → AHeap → List Nat → Prop) : Prop :=
  match T.und t with
  | some (.slice el) => match T.inf el with
    | some (s, _, z) => match Nat.beq s 0, Nat.ble (len * s) 16777216 with
      | false, true => gcK z.cells.toList fun zs => evFill (fun i => some (i * s, s)) (rep zs len) parts fun cs => match allCellish cs with
        | true => hpush H (.row el s len (litAt s cs) 0) fun id H' => k (.sl id s 0 len (some len)) H' []
        | false => False
      | _, _ => False
    | none => False
  | _ => False
def evMakeSlice (T : Tab) (H : AHeap) (t : TypeId) (l c : AV) (k : AV → AHeap → List Nat → Prop) : Prop :=
  match T.und t, l, c with
  | some (.slice el), .g (.c (.int _ l)), .g (.c (.int _ c)) => match T.inf el with
    | some (s, b, z) => match Nat.beq s 0 with
      | false => gcK z.cells.toList fun zs => match allCellish zs with
        | true => (0 ≤ l ∧ l ≤ c ∧ c ≤ 1099511627776 ∧ (b : Int) * c ≤ 281474976710656) ∧ hpush H (.row el s c.toNat (fun _ j => zs.getD j .junk) 0) fun id H' => k (.sl id s 0 l.toNat (some c.toNat)) H' []
        | false => False
      | true => False
    | none => False
  | _, _, _ => False

theorem length_rep (zs : List AV) : ∀ n, (rep zs n).length = n * zs.length
  | 0 => by simp [rep]
  | n + 1 => by simp [rep, length_rep zs n, Nat.add_mul, Nat.add_comm]
theorem rep_get (zs : List AV) (h0 : 0 < zs.length) : ∀ n i, i < n * zs.length → (rep zs n)[i]? = zs[i % zs.length]?
  | 0, i, h => by simp at h
  | n + 1, i, h => by
    simp only [rep]
    by_cases hi : i < zs.length
    · rw [List.getElem?_append_left hi, Nat.mod_eq_of_lt hi]
    · rw [List.getElem?_append_right (by omega), rep_get zs h0 n (i - zs.length) (by rw [Nat.add_mul, Nat.one_mul] at h; omega)]
      congr 1
      conv => rhs; rw [show i = i - zs.length + zs.length by omega, Nat.add_mod_right]

theorem getD_of {α : Type} {l : List α} {i : Nat} {x d : α} (h : l[i]? = some x) : l.getD i d = x := by simp [List.getD, h]

theorem zeroCells_get (z : Array Value) (n i : Nat) (h0 : 0 < z.size) (hi : i < n * z.size) : ((Array.range (n * z.size)).map (z[· % z.size]!))[i]? = z[i % z.size]? := by
  have hm : i % z.size < z.size := Nat.mod_lt _ h0
  simp [hi, hm]

section
variable {T : Tab} (hT : T.OK) {r : List (Option Nat)} {H : AHeap} {w : World} {k : AV → AHeap → List Nat → Prop}
include hT

omit hT in
theorem zero_rep {C : Ctx} {z : Array Value} (h0 : 0 < z.size) (n : Nat) : RVs C (rep (z.toList.map fun v => .g (.c v)) n) ((Array.range (n * z.size)).map (z[· % z.size]!)).toList := by
  refine RVs.of_get (by rw [length_rep]; simp) fun i x v hx hv => ?_
  have hi : i < n * z.size := by
    have := (List.getElem?_eq_some_iff.1 hv).1
    simpa using this
  rw [rep_get _ (by simpa using h0) n i (by simpa using hi)] at hx
  have := zeroCells_get z n i h0 hi
  rw [Array.getElem?_toList] at hv
  rw [hv] at this
  simp only [List.getElem?_map, List.length_map, Array.length_toList, Array.getElem?_toList, ← this, Option.map_some, Option.some.injEq] at hx
  subst hx
  simp [RV, RG]

theorem eff_buildSlice (hi : Inv A r H w) {t : TypeId} {len : Nat} {parts : List (Nat × AV)} {vals : Array (Nat × Value)} (h : evBuildSlice T H t len parts k) (hp : PR (ctx A r H w) parts vals.toList) :
    Eff T.P A r H w k (Instr.buildSlice t len vals) := by
  unfold evBuildSlice at h
  split at h
  · rename_i el hu
    have hP := hT.und _ _ hu
    split at h
    · rename_i s b z hinf
      obtain ⟨i, i1, i2, i3, i4, i5⟩ := hT.inf _ _ _ _ hinf
      split at h
      · rename_i hz hle
        have hle' := Nat.le_of_ble_eq_true hle
        have h0 : 0 < s := by
          rcases Nat.eq_zero_or_pos s with e | e
          · rw [e] at hz; simp at hz
          · exact e
        rw [gcK_eq] at h
        have hzr := zero_rep (C := ctx A r H w) (z := z.cells) (by omega) len
        obtain ⟨cs, us, h1, h2, h3, h4⟩ := fill_ok parts vals.toList _ ((Array.range (len * z.cells.size)).map (z.cells[· % z.cells.size]!)) _ h hzr hp
        split at h1
        · rename_i hc
          rw [hpush_eq] at h1
          have hus : us.size = len * s := by rw [h4]; simp [i5]
          have hone := oneCells_of hc h3
          obtain ⟨g1, g2⟩ := new_row (H := H) (t := el) (len := len) (n := len) (at_ := litAt s cs) hi h0 (vs := us.toList) (by simpa using hus) (Nat.le_refl _) (by
            unfold maxLen
            have : len ≤ len * s := Nat.le_mul_of_pos_right _ h0
            omega) (fun p hp' j hj => by
            have hlt : p * s + j < us.toList.length := by rw [Array.length_toList, hus]; exact idx_lt hp' hj
            refine ⟨us.toList[p * s + j], List.getElem?_eq_getElem hlt, hone _ (List.getElem_mem _), ?_⟩
            have hlt2 : p * s + j < cs.length := by rw [← h3.length]; exact hlt
            obtain ⟨v, e1, e2⟩ := h3.get _ _ (List.getElem?_eq_getElem hlt2)
            rw [List.getElem?_eq_getElem hlt] at e1
            cases e1
            unfold litAt
            rw [getD_of (List.getElem?_eq_getElem hlt2)]
            exact e2)
          refine ⟨_, _, _, _, _, _, ?_, h1, g1, g2⟩
          have h24 : ¬ (16777216 < len * s) := by omega
          simp only [Instr.buildSlice, Sem.run_bind, run_underlying hP, Result.andThen_ok, run_size hT hinf]
          rw [if_neg (by simpa using h24)]
          by_cases hls : len * s = 0
          · rw [if_pos hls]
            have e0 : Array.range 0 = #[] := rfl
            have hf : Instr.fill (fun i => some (i * s, s)) #[] vals.toList = some us := by
              rw [i5, hls, e0] at h2
              simpa using h2
            simp [hls, e0, hf, newRow]
          · rw [if_neg hls]
            rw [i5] at h2
            simp [run_zero hT hinf, i5, h2, newRow]
        · exact h1.elim
      · exact h.elim
    · exact h.elim
  · exact h.elim

theorem eff_makeSlice (hi : Inv A r H w) {t : TypeId} {l c : AV} {lv cv : Value} (h : evMakeSlice T H t l c k) (hl : RV (ctx A r H w) l lv) (hc : RV (ctx A r H w) c cv) : Eff T.P A r H w k (Instr.makeSlice t lv cv) := by
  unfold evMakeSlice at h
  split at h
  · rename_i el k1 l k2 c hu
    have hP := hT.und _ _ hu
    simp only [RV, RG] at hl hc
    subst hl hc
    split at h
    · rename_i s b z hinf
      obtain ⟨i, i1, i2, i3, i4, i5⟩ := hT.inf _ _ _ _ hinf
      split at h
      · rename_i hz
        have h0 : 0 < s := by
          rcases Nat.eq_zero_or_pos s with e | e
          · rw [e] at hz; simp at hz
          · exact e
        rw [gcK_eq] at h
        split at h
        · rename_i hcc
          obtain ⟨⟨a1, a2, a3, a4⟩, h⟩ := h
          rw [hpush_eq] at h
          have hzr := zero_rep (C := ctx A r H w) (z := z.cells) (by omega) c.toNat
          have hex := RVs.exacts (C := ctx A r H w) z.cells.toList
          have hone := oneCells_of hcc hex
          obtain ⟨g1, g2⟩ := new_row (H := H) (t := el) (len := l.toNat) (n := c.toNat) (at_ := fun _ j => (z.cells.toList.map fun v => AV.g (G.c v)).getD j .junk) hi h0 (vs := ((Array.range (c.toNat * z.cells.size)).map (z.cells[· % z.cells.size]!)).toList) (by simp [i5]) (by omega)
            (by unfold maxLen; omega) (fun p hp j hj => by
            have hlt := idx_lt hp hj
            have e := zeroCells_get z.cells c.toNat (p * s + j) (by omega) (by rw [i5]; exact hlt)
            rw [i5, (divmod_of hj).2] at e
            have hj' : j < z.cells.size := by omega
            refine ⟨z.cells[j], ?_, ?_, ?_⟩
            · rw [Array.getElem?_toList, i5, e]; exact Array.getElem?_eq_getElem hj'
            · exact hone _ (Array.getElem_mem_toList hj')
            · rw [getD_of (x := AV.g (G.c z.cells[j])) (by simp [hj'])]
              simp [RV, RG])
          refine ⟨_, _, _, _, _, _, ?_, h, g1, g2⟩
          have w1 : IntKind.i64.wrap l = l := IntWalk.i64_in l (by omega)
          have w2 : IntKind.i64.wrap c = c := IntWalk.i64_in c (by omega)
          have t1 : ¬ c < 0 := by omega
          have t2 : ¬ (281474976710656 < (b : Int) * c) := by omega
          have t3 : ¬ l < 0 := by omega
          have t4 : ¬ c < l := by omega
          simp only [Instr.makeSlice, Sem.run_bind, run_underlying hP, Result.andThen_ok, asInt, asIntOf]
          by_cases hcz : c.toNat * s = 0
          · have hc0 : c.toNat = 0 := by rcases Nat.mul_eq_zero.1 hcz with e | e <;> omega
            simp [typeInfo, i1, i2, i3, w1, w2, t1, t2, t3, t4, sizeOf, hc0, newRow, show Array.range 0 = #[] from rfl]
          · simp [typeInfo, i1, i2, i3, w1, w2, t1, t2, t3, t4, sizeOf, hcz, run_zero hT hinf, i5, newRow]
            refine congrArg (fun x => w.alloc (Obj.cells x el (0, 0))) ?_
            apply Array.ext'
            simp
        · exact h.elim
      · exact h.elim
    · exact h.elim
  · exact h.elim
end

/-- Elements of a row, put over others. -/
def putRow (at_ : Nat → Nat → AV) (off m : Nat) (news : Nat → Nat → AV) : Nat → Nat → AV := fun i j => if off ≤ i ∧ i < off + m then news (i - off) j else at_ i j

section
variable {r : List (Option Nat)} {H : AHeap} {w : World}
theorem row_put (hi : Inv A r H w) {id b sz n off m fz : Nat} {t : TypeId} {at_ news : Nat → Nat → AV} {vs nv : List Value} {w' : World} (hH : H[id]? = some (.row t sz n at_ fz)) (hq : r[id]? = some (some b))
    (hb1 : w.heap[b]? = some (.cells vs.toArray t (0, 0))) (n1 : nv.length = m * sz) (hmn : off + m ≤ n) (hfz : fz ≤ off * sz) (n3 : ∀ u ∈ nv, u.oneCell' = true)
    (n4 : ∀ i, i < m → ∀ j, j < sz → ∃ u, nv[i * sz + j]? = some u ∧ RV (ctx A r H w) (news i j) u)
    (e2 : w'.heap[b]? = some (.cells (put vs (off * sz) nv).toArray t (0, 0))) (e3 : ∀ q, q ≠ b → w'.heap[q]? = w.heap[q]?) (e4 : w'.heap.size = w.heap.size) (e5 : w'.os = w.os) (e6 : w'.tape = w.tape) (e7 : w'.output = w.output) :
    StepOK A r H w r (H.set id (.row t sz n (putRow at_ off m news) fz)) w' [id] := by
  obtain ⟨h0, vs0, hb0, hb2, hb3⟩ := hi.obj id _ _ hH hq
  have hvs : vs0 = vs := by
    have hb0' : w.heap[b]? = _ := hb0
    rw [hb1] at hb0'; cases hb0'; rfl
  subst hvs
  have hfit : off * sz + nv.length ≤ vs0.length := by rw [n1, ← Nat.add_mul]; exact Nat.le_trans (Nat.mul_le_mul_right _ hmn) hb2
  have hput : ∀ o, (put vs0 (off * sz) nv)[o]? = if off * sz ≤ o ∧ o < off * sz + nv.length then nv[o - off * sz]? else vs0[o]? := fun o => getElem?_put _ _ _ _ hfit
  have hle : Le (ctx A r H w) (ctx A r (H.set id (.row t sz n (putRow at_ off m news) fz)) w') :=
    le_block (x := .row t sz n at_ fz) hH hq trivial hb1 e2 (length_put _ _ _) (fun o hf => by
      rw [hput, if_neg]
      simp only [AObj.free, Nat.not_le] at hf
      omega) e3 e4 e5 e6 e7 (fun o hf => hf)
  have hinv := inv_block hi (x' := .row t sz n (putRow at_ off m news) fz) hH hq trivial hle e3 ⟨h0, _, e2, by rw [length_put]; exact hb2, fun p hp j hj => by
    rw [hput]
    by_cases hpl : off ≤ p ∧ p < off + m
    · obtain ⟨v, f1, f2⟩ := n4 (p - off) (by omega) j hj
      have h2 : p * sz + j = off * sz + ((p - off) * sz + j) := by
        rw [← Nat.add_assoc, ← Nat.add_mul]; congr 2; omega
      have h3 := (List.getElem?_eq_some_iff.1 f1).1
      rw [if_pos (by omega), h2, Nat.add_sub_cancel_left]
      exact ⟨v, f1, n3 v (List.mem_of_getElem? f1), by simp only [putRow, if_pos hpl]; exact RV.mono hle _ _ f2⟩
    · have hne : ¬ (off * sz ≤ p * sz + j ∧ p * sz + j < off * sz + nv.length) := by
        rintro ⟨a1, a2⟩
        rw [n1, ← Nat.add_mul] at a2
        rcases Nat.lt_or_ge p off with hlt | hge
        · have := idx_lt hlt hj; omega
        · have := Nat.mul_le_mul_right sz (show off + m ≤ p by omega)
          omega
      rw [if_neg hne]
      obtain ⟨v, f1, f2, f3⟩ := hb3 p hp j hj
      exact ⟨v, f1, f2, by simp only [putRow, if_neg hpl]; exact RV.mono hle _ _ f3⟩⟩
  refine ⟨hle, hinv, fun id' x b' h1 h2 h3 h4 => e3 b' fun e => h3 ?_, fun i x h1 h2 => get_set_ne h1 h2⟩
  subst e
  simp [hi.inj id' id x _ _ h1 hH h2 trivial h4 hq]

/-- Nothing is put: the row, told with other words. -/
theorem row_same (hi : Inv A r H w) {id sz n off fz : Nat} {t : TypeId} {at_ news : Nat → Nat → AV} (hH : H[id]? = some (.row t sz n at_ fz)) : StepOK A r H w r (H.set id (.row t sz n (putRow at_ off 0 news) fz)) w [id] := by
  have e : putRow at_ off 0 news = at_ := by
    funext i j
    unfold putRow
    rw [if_neg (by omega)]
  rw [e]
  have hlt := (List.getElem?_eq_some_iff.1 hH).1
  have : H.set id (.row t sz n at_ fz) = H := by
    apply List.ext_getElem?
    intro i
    by_cases h : i = id
    · subst h; rw [List.getElem?_set_self hlt, hH]
    · rw [List.getElem?_set_ne (Ne.symm h)]
  rw [this]
  exact (StepOK.refl hi).weaken (by simp)
end

def evClear (T : Tab) (H : AHeap) (t : TypeId) (x : AV) (k : AV → AHeap → List Nat → Prop) : Prop :=
  match T.und t, x with
  | some (.slice el), .sl id sz' off len _ => match T.inf el, H[id]? with
    | some (sz, _, z), some (.row t' sz'' n at_ fz) => match Nat.beq sz sz', Nat.beq sz sz'' with
      | true, true => gcK z.cells.toList fun zs => match allCellish zs with
        | true => (off + len ≤ n ∧ fz ≤ off * sz) ∧ hset H id (.row t' sz n (putRow at_ off len fun _ j => zs.getD j .junk) fz) fun H' => k (.tup []) H' [id]
        | false => False
      | _, _ => False
    | _, _ => False
  | _, _ => False

def evCopy (T : Tab) (H : AHeap) (t : TypeId) (d s : AV) (k : AV → AHeap → List Nat → Prop) : Prop :=
  match T.und t, d with
  | some (.slice el), .sl id sz' off len _ => match T.inf el, H[id]? with
    | some (sz, _, _), some (.row t' sz'' n at_ fz) => match Nat.beq sz sz', Nat.beq sz sz'', Nat.beq sz 0 with
      | true, true, false => evSrc H sz s fun m news => (off + len ≤ n ∧ fz ≤ off * sz) ∧ hset H id (.row t' sz n (putRow at_ off (min m len) news) fz) fun H' => k (vint .i64 ((min m len : Nat) : Int)) H' [id]
      | _, _, _ => False
    | _, _ => False
  | _, _ => False

section
variable {T : Tab} (hT : T.OK) {r : List (Option Nat)} {H : AHeap} {w : World} {k : AV → AHeap → List Nat → Prop}
include hT

theorem eff_clear (hi : Inv A r H w) {t ty : TypeId} {ts : Array TypeId} {us : Array Value} {x : AV} {v : Value} (h : evClear T H t x k) (ht : ts[0]? = some t) (hu : us[0]? = some v) (hx : RV (ctx A r H w) x v) : Eff T.P A r H w k (Builtin.clear_ ts ty us) := by
  unfold evClear at h
  split at h
  · rename_i el id sz' off len cap hund
    have hP := hT.und _ _ hund
    split at h
    · rename_i sz bb z t' sz'' n at_ fz hinf hH
      obtain ⟨i, i1, i2, i3, i4, i5⟩ := hT.inf _ _ _ _ hinf
      split at h
      · rename_i b1 b2
        have b1' := Nat.eq_of_beq_eq_true b1
        have b2' := Nat.eq_of_beq_eq_true b2
        subst b1'
        subst b2'
        rw [gcK_eq] at h
        split at h
        · rename_i hc
          obtain ⟨⟨hn, hfz⟩, h⟩ := h
          rw [hset_eq] at h
          simp only [RV] at hx
          obtain ⟨a, c, rfl, c1, c2, hx⟩ := hx
          have hts : 0 < ts.size := (Array.getElem?_eq_some_iff.1 ht).1
          have hus : 0 < us.size := (Array.getElem?_eq_some_iff.1 hu).1
          rcases Nat.eq_zero_or_pos len with hl | hl
          · subst hl
            refine ⟨_, .tuple #[], _, _, r, w, ?_, h, row_same hi hH, by simp only [RV]; exact ⟨[], rfl, by simp [RVs]⟩⟩
            cases a <;> simp [Builtin.clear_, ht, hu, run_underlying hP]
          · rcases hx with ⟨b, hr, rfl, _⟩ | ⟨e, _⟩
            · obtain ⟨h0, vs, hb1, hb2, hb3⟩ := hi.obj id _ _ hH hr
              replace hb1 : w.heap[b]? = _ := hb1
              have hone := oneCells_of hc (RVs.exacts (C := ctx A r H w) z.cells.toList)
              have hzl : (Builtin.zeroCells z.cells len).toList.length = len * sz := by simp [Builtin.zeroCells, i5]
              have hzg : ∀ p, p < len → ∀ j, j < sz → ∃ hj : j < z.cells.size, (Builtin.zeroCells z.cells len).toList[p * sz + j]? = some z.cells[j] := by
                intro p hp j hj
                have hlt := idx_lt hp hj
                have e := zeroCells_get z.cells len (p * sz + j) (by omega) (by rw [i5]; exact hlt)
                rw [i5, (divmod_of hj).2] at e
                have hj' : j < z.cells.size := by omega
                refine ⟨hj', ?_⟩
                rw [Array.getElem?_toList]
                unfold Builtin.zeroCells
                rw [i5, e]; exact Array.getElem?_eq_getElem hj'
              have hzone : ∀ u ∈ (Builtin.zeroCells z.cells len).toList, u.oneCell' = true := by
                intro u hu'
                obtain ⟨p, hp⟩ := List.getElem?_of_mem hu'
                have hpl := (List.getElem?_eq_some_iff.1 hp).1
                rw [hzl] at hpl
                obtain ⟨d1, d2, d3⟩ := divmod_lt h0 hpl
                obtain ⟨hj, e⟩ := hzg _ d1 _ d2
                rw [d3, hp] at e
                cases e
                exact hone _ (Array.getElem_mem_toList hj)
              obtain ⟨w', e1, e2, e3, e4, e5, e6, e7⟩ := run_storeCells_row (P := T.P) (Builtin.zeroCells z.cells len).toList 0 (off * sz) vs w hb1 (by rw [hzl, Nat.add_zero, ← Nat.add_mul]; exact Nat.le_trans (Nat.mul_le_mul_right _ hn) hb2) hzone
              refine ⟨_, .tuple #[], _, _, r, w', ?_, h, row_put hi hH hr hb1 hzl hn hfz hzone (fun p hp j hj => ?_) (by simpa using e2) e3 e4 e5 e6 e7, by simp only [RV]; exact ⟨[], rfl, by simp [RVs]⟩⟩
              · obtain ⟨len, rfl⟩ : ∃ q, len = q + 1 := ⟨len - 1, by omega⟩
                simp [Builtin.clear_, ht, hu, run_underlying hP, run_zero hT hinf, e1]
              · obtain ⟨hj', e⟩ := hzg p hp j hj
                refine ⟨_, e, ?_⟩
                rw [getD_of (x := AV.g (G.c z.cells[j])) (by simp [hj'])]
                simp [RV, RG]
            · omega
        · exact h.elim
      · exact h.elim
    · exact h.elim
  · exact h.elim

theorem eff_copy (hi : Inv A r H w) {t u ty : TypeId} {d s : AV} {dv sv : Value} (h : evCopy T H t d s k) (hd : RV (ctx A r H w) d dv) (hs : RV (ctx A r H w) s sv) : Eff T.P A r H w k (Builtin.copy_ #[t, u] ty #[dv, sv]) := by
  unfold evCopy at h
  split at h
  · rename_i el id sz' off len cap hund
    have hP := hT.und _ _ hund
    split at h
    · rename_i sz bb z t' sz'' n at_ fz hinf hH
      obtain ⟨i, i1, i2, i3, i4, i5⟩ := hT.inf _ _ _ _ hinf
      split at h
      · rename_i b1 b2 b3
        have b1' := Nat.eq_of_beq_eq_true b1
        have b2' := Nat.eq_of_beq_eq_true b2
        subst b1'
        subst b2'
        have h0 : 0 < sz := by
          rcases Nat.eq_zero_or_pos sz with e | e
          · rw [e] at b3; simp at b3
          · exact e
        obtain ⟨m, news, h, hsrc⟩ := evSrc_ok hi h0 h hs
        obtain ⟨⟨hn, hfz⟩, h⟩ := h
        rw [hset_eq] at h
        obtain ⟨a', c', rfl, hsrc⟩ := hsrc
        simp only [RV] at hd
        obtain ⟨a, c, rfl, c1, c2, hd⟩ := hd
        rcases Nat.eq_zero_or_pos (min m len) with hl | hl
        · rw [hl] at h
          refine ⟨_, .int .i64 ((0 : Nat) : Int), _, _, r, w, ?_, h, row_same hi hH, by simp [RV, RG]⟩
          have hl' : Nat.min m len = 0 := hl
          cases a <;> cases a' <;> simp [Builtin.copy_, run_underlying hP, Builtin.lenOf, hl', run_size hT hinf, Builtin.firstCells, loadCells, loadCellsFrom, storeCells, goInt]
        · rcases hd with ⟨b, hr, rfl, _⟩ | ⟨e, _⟩
          · rcases hsrc with rfl | ⟨sb, so, rfl, nv, n1, n2, n3, n4⟩
            · omega
            · obtain ⟨_, vs, hb1, hb2, hb3⟩ := hi.obj id _ _ hH hr
              replace hb1 : w.heap[b]? = _ := hb1
              have hmm : min m len * sz ≤ nv.length := by rw [n1]; exact Nat.mul_le_mul_right _ (by omega)
              have htl : (nv.take (min m len * sz)).length = min m len * sz := by simp; omega
              have hone : ∀ u ∈ nv.take (min m len * sz), u.oneCell' = true := fun u hu => n3 u (List.mem_of_mem_take hu)
              have hf := run_firstCells_some (P := T.P) w sz (min m len) ⟨sb, so, none⟩ m c' (nv.take (min m len * sz)) htl (fun j v hv => by
                rw [addr_add]
                rw [List.getElem?_take] at hv
                split at hv
                · exact n2 j v hv
                · cases hv)
              obtain ⟨w', e1, e2, e3, e4, e5, e6, e7⟩ := run_storeCells_row (P := T.P) (nv.take (min m len * sz)) 0 (off * sz) vs w hb1 (by
                rw [htl, Nat.add_zero, ← Nat.add_mul]; exact Nat.le_trans (Nat.mul_le_mul_right _ (by omega)) hb2) hone
              refine ⟨_, .int .i64 ((min m len : Nat) : Int), _, _, r, w', ?_, h, row_put hi hH hr hb1 htl (by omega) hfz hone (fun p hp j hj => ?_) (by simpa using e2) e3 e4 e5 e6 e7, by simp [RV, RG]⟩
              · have hf' : (Builtin.firstCells sz (Nat.min m len) (.slice (some ⟨sb, so, none⟩) m c')).run T.P w = .ok (nv.take (min m len * sz)).toArray w := hf
                simp [Builtin.copy_, run_underlying hP, Builtin.lenOf, run_size hT hinf, hf', e1, goInt]
              · obtain ⟨u, f1, f2⟩ := n4 p (by omega) j hj
                exact ⟨u, by rw [List.getElem?_take, if_pos (idx_lt hp hj)]; exact f1, f2⟩
          · omega
      · exact h.elim
    · exact h.elim
  · exact h.elim
end
end Go.Ev
