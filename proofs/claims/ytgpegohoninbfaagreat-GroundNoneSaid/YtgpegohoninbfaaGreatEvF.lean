/- The mill, part F: the quiet operations. -/
import Derived.Test.YtgpegohoninbfaaGreatEvE
namespace Go.Ev
set_option linter.unusedVariables false
set_option linter.unusedSimpArgs false
open Go.RowKit
variable {A : Nat → Nat → Prop}

/-- Worlds in which nothing has turned of what w had, but what X's objects hold. -/
structure Agree (A : Nat → Nat → Prop) (r : List (Option Nat)) (H : AHeap) (X : List Nat) (w w' : World) : Prop where
  cell : ∀ b o v, w.cell? ⟨b, o, none⟩ = some v → ¬ (Wr r H b o ∨ A b o) → w'.cell? ⟨b, o, none⟩ = some v
  obj : ∀ (id : Nat) x b, H[id]? = some x → x.live → id ∉ X → r[id]? = some (some b) → w'.heap[b]? = w.heap[b]?
theorem Agree.refl (r : List (Option Nat)) (H : AHeap) (X : List Nat) (w : World) : Agree A r H X w w := ⟨fun _ _ _ h _ => h, fun _ _ _ _ _ _ _ => rfl⟩

/-- One cell (none), or so many. -/
def aggOf (T : Tab) (t : TypeId) : Option (Option Nat) :=
  match T.und t with
  | some (.struct _) => match T.inf t with
    | some (s, _, _) => some (some s)
    | none => none
  | some (.array _ _) => match T.inf t with
    | some (s, _, _) => some (some s)
    | none => none
  | some _ => some none
  | none => none

def cellsAt (at_ : Nat → AV) : Nat → Nat → List AV
  | _, 0 => []
  | j, s + 1 => at_ j :: cellsAt at_ (j + 1) s

def evField (T : Tab) (cs : List AV) (off : Nat) (t : TypeId) (k : AV → Prop) : Prop :=
  match aggOf T t with
  | some none => match cs[off]? with
    | some v => k v
    | none => False
  | some (some s) => k (.agg ((cs.drop off).take s))
  | none => False

def evLoad (T : Tab) (X : List Nat) (H : AHeap) (t : TypeId) (x : AV) (k : AV → Prop) : Prop :=
  match x with
  | .p id sz i j => match X.contains id, H[id]? with
    | false, some (.box _ cs) => match Nat.beq sz 0, aggOf T t with
      | true, some none => match cs[j]? with
        | some v => k v
        | none => False
      | true, some (some s) => match Nat.ble (j + s) cs.length with
        | true => k (.agg ((cs.drop j).take s))
        | false => False
      | _, _ => False
    | false, some (.row _ sz' n at_ _) => match Nat.beq sz sz', aggOf T t with
      | true, some none => match Nat.blt j sz with
        | true => i < n ∧ k (at_ i j)
        | false => False
      | true, some (some s) => match Nat.ble (j + s) sz with
        | true => i < n ∧ k (.agg (cellsAt (at_ i) j s))
        | false => False
      | _, _ => False
    | _, _ => False
  | .rp n at_ => match aggOf T t with
    | some none => match Nat.blt 0 n with
      | true => k (.g (at_ 0))
      | false => False
    | some (some s) => match Nat.ble s n with
      | true => k (.agg (cellsAt (fun j => .g (at_ j)) 0 s))
      | false => False
    | none => False
  | _ => False

theorem run_load_ok {P : Program} {w : World} {b o : Nat} {v : Value} (h : w.cell? ⟨b, o, none⟩ = some v) : (load ⟨b, o, none⟩).run P w = .ok v w := by
  simp [load, Sem.run, h]

theorem addr_add (b o j : Nat) : (⟨b, o, none⟩ : Addr).add j = ⟨b, o + j, none⟩ := by
  unfold Addr.add
  split
  · rename_i h; subst h; rfl
  · rfl

theorem cell_of_block {w : World} {b : Nat} {vs : List Value} {t : TypeId} {f : Nat × Nat} (h : w.heap[b]? = some (.cells vs.toArray t f)) (o : Nat) : w.cell? ⟨b, o, none⟩ = vs[o]? := by
  simp [World.cell?, h]

theorem RVs.cellsAt {C : Ctx} {at_ : Nat → AV} : ∀ (s j : Nat) (vs : List Value), vs.length = s → (∀ i v, vs[i]? = some v → RV C (at_ (j + i)) v) → RVs C (cellsAt at_ j s) vs
  | 0, _, vs, hl, _ => by simp only [Ev.cellsAt, RVs]; exact List.eq_nil_of_length_eq_zero hl
  | s + 1, j, vs, hl, h => by
    cases vs with
    | nil => simp at hl
    | cons v vs =>
      simp only [Ev.cellsAt, RVs]
      exact ⟨v, vs, rfl, h 0 v (by simp), RVs.cellsAt s (j + 1) vs (by simpa using hl) (fun i u hu => by rw [show j + 1 + i = j + (i + 1) by omega]; exact h (i + 1) u (by simpa using hu))⟩

/-- Cells that stand one behind the other, as a list. -/
theorem cells_list {w : World} {b o : Nat} {R : Nat → Value → Prop} : ∀ (s : Nat), (∀ j, j < s → ∃ v, w.cell? ⟨b, o + j, none⟩ = some v ∧ R j v) →
    ∃ vs : List Value, vs.length = s ∧ ∀ j v, vs[j]? = some v → w.cell? ⟨b, o + j, none⟩ = some v ∧ R j v
  | 0, _ => ⟨[], rfl, by simp⟩
  | s + 1, h => by
    obtain ⟨vs, h1, h2⟩ := cells_list s (fun j hj => h j (by omega))
    obtain ⟨v, h3, h4⟩ := h s (by omega)
    refine ⟨vs ++ [v], by simp [h1], fun j u hu => ?_⟩
    rcases getElem?_snoc _ _ _ _ hu with e | ⟨e, rfl⟩
    · exact h2 j u e
    · rw [h1] at e; subst e; exact ⟨h3, h4⟩

section
variable {T : Tab} (hT : T.OK) {r : List (Option Nat)} {H : AHeap} {X : List Nat} {w : World} {k : AV → Prop}
include hT

theorem aggOf_one {t : TypeId} (h : aggOf T t = some none) (w : World) : (isAgg t).run T.P w = .ok false w := by
  unfold aggOf at h
  split at h
  · split at h <;> cases h
  · split at h <;> cases h
  · rename_i d h1 h2 hd
    rw [run_isAgg hT hd]
    cases d <;> simp_all
  · cases h
theorem aggOf_agg {t : TypeId} {s : Nat} (h : aggOf T t = some (some s)) (w : World) : (isAgg t).run T.P w = .ok true w ∧ (sizeOf t).run T.P w = .ok s w := by
  unfold aggOf at h
  split at h
  · rename_i hd
    split at h
    · rename_i hi; cases h; exact ⟨by rw [run_isAgg hT hd], run_size hT hi w⟩
    · cases h
  · rename_i hd
    split at h
    · rename_i hi; cases h; exact ⟨by rw [run_isAgg hT hd], run_size hT hi w⟩
    · cases h
  · cases h
  · cases h

theorem yld_part {C : Ctx} {S : World → Prop} {cs : List AV} {vs : List Value} {off : Nat} {t : TypeId} (h : evField T cs off t k) (hv : RVs C cs vs) : Yld T.P C S k (part t vs.toArray off) := by
  unfold evField at h
  split at h
  · rename_i ha
    split at h
    · rename_i v hx
      obtain ⟨u, h1, h2⟩ := RVs.get hv _ _ hx
      exact ⟨_, u, h, h2, fun w _ => by simp [part, aggOf_one hT ha w, h1]⟩
    · exact h.elim
  · rename_i s ha
    refine ⟨_, .agg ((vs.drop off).take s).toArray, h, ?_, fun w _ => ?_⟩
    · simp only [RV]; exact ⟨_, rfl, (hv.drop off).take s⟩
    · simp [part, (aggOf_agg hT ha w).1, (aggOf_agg hT ha w).2, List.extract]
  · exact h.elim

theorem run_loadVar_one {t : TypeId} (h : aggOf T t = some none) {w : World} {b o : Nat} {v : Value} (hc : w.cell? ⟨b, o, none⟩ = some v) : (loadVar t ⟨b, o, none⟩).run T.P w = .ok v w := by
  simp [loadVar, aggOf_one hT h w, hc]
theorem run_loadVar_agg {t : TypeId} {s : Nat} (h : aggOf T t = some (some s)) {w : World} {b o : Nat} {vs : List Value} (hl : vs.length = s) (hc : ∀ j v, vs[j]? = some v → w.cell? ⟨b, o + j, none⟩ = some v) :
    (loadVar t ⟨b, o, none⟩).run T.P w = .ok (.agg vs.toArray) w := by
  have := run_loadCells_list (P := T.P) (w := w) ⟨b, o, none⟩ vs (fun j v hv => by rw [addr_add]; exact hc j v hv)
  rw [hl] at this
  simp [loadVar, (aggOf_agg hT h w).1, (aggOf_agg hT h w).2, this]

theorem yld_load (hi : Inv A r H w) {t : TypeId} {x : AV} {v : Value} (h : evLoad T X H t x k) (hx : RV (ctx A r H w) x v) : Yld T.P (ctx A r H w) (Agree A r H X w) k (Instr.loadAt t v) := by
  unfold evLoad at h
  split at h
  · rename_i id sz i j
    simp only [RV] at hx
    obtain ⟨b, hr, rfl⟩ := hx
    have fin : ∀ (s : Sem Value), Yld T.P (ctx A r H w) (Agree A r H X w) k (loadVar t ⟨b, i * sz + j, none⟩) → Yld T.P (ctx A r H w) (Agree A r H X w) k (Instr.loadAt t (.pointer (some ⟨b, i * sz + j, none⟩))) := by
      rintro _ ⟨a, u, h1, h2, h3⟩
      exact ⟨a, u, h1, h2, fun w' hw' => by simp [Instr.loadAt, Instr.sureAddr, h3 w' hw']⟩
    refine fin (.pure undef) ?_
    split at h
    · rename_i cs hX hH
      have hnX : id ∉ X := by simpa using hX
      obtain ⟨vs, hb, hvs, _⟩ := hi.obj id _ _ hH hr
      replace hb : w.heap[b]? = _ := hb
      have same : ∀ w', Agree A r H X w w' → w'.heap[b]? = some (.cells vs.toArray _ (0, 0)) := fun w' ha => (ha.obj id _ b hH trivial hnX hr).trans hb
      split at h
      · rename_i hz ha
        have hz' : sz = 0 := Nat.eq_of_beq_eq_true hz
        subst hz'
        split at h
        · rename_i u hu
          obtain ⟨v, e1, e2⟩ := RVs.get hvs _ _ hu
          refine ⟨_, v, h, e2, fun w' hw' => run_loadVar_one hT ha ?_⟩
          rw [cell_of_block (same w' hw')]; simpa using e1
        · exact h.elim
      · rename_i s hz ha
        have hz' : sz = 0 := Nat.eq_of_beq_eq_true hz
        subst hz'
        split at h
        · rename_i hle
          have hle' := Nat.le_of_ble_eq_true hle
          refine ⟨_, .agg ((vs.drop j).take s).toArray, h, ?_, fun w' hw' => run_loadVar_agg hT ha ?_ ?_⟩
          · simp only [RV]; exact ⟨_, rfl, (hvs.drop j).take s⟩
          · have := hvs.length; simp; omega
          · intro q u hu
            rw [cell_of_block (same w' hw')]
            rw [List.getElem?_take] at hu
            split at hu
            · simpa [List.getElem?_drop] using hu
            · cases hu
        · exact h.elim
      · exact h.elim
    · rename_i sz' n at_ fz hX hH
      have hnX : id ∉ X := by simpa using hX
      obtain ⟨h0, vs, hb, hlen, hvs⟩ := hi.obj id _ _ hH hr
      replace hb : w.heap[b]? = _ := hb
      have same : ∀ w', Agree A r H X w w' → w'.heap[b]? = some (.cells vs.toArray _ (0, 0)) := fun w' ha => (ha.obj id _ b hH trivial hnX hr).trans hb
      split at h
      · rename_i hz ha
        have hz' : sz = sz' := Nat.eq_of_beq_eq_true hz
        subst hz'
        split at h
        · rename_i hlt
          have hlt' : j < sz := by have := Nat.le_of_ble_eq_true (show Nat.ble (j + 1) sz = true from hlt); omega
          obtain ⟨v, e1, _, e2⟩ := hvs i h.1 j hlt'
          refine ⟨_, v, h.2, e2, fun w' hw' => run_loadVar_one hT ha ?_⟩
          rw [cell_of_block (same w' hw')]; exact e1
        · exact h.elim
      · rename_i s hz ha
        have hz' : sz = sz' := Nat.eq_of_beq_eq_true hz
        subst hz'
        split at h
        · rename_i hle
          have hle' := Nat.le_of_ble_eq_true hle
          obtain ⟨us, u1, u2⟩ := cells_list (w := w) (b := b) (o := i * sz + j) (R := fun q v => RV (ctx A r H w) (at_ i (j + q)) v) s (fun q hq => by
            obtain ⟨v, e1, _, e2⟩ := hvs i h.1 (j + q) (by omega)
            exact ⟨v, by rw [cell_of_block hb, ← e1, Nat.add_assoc], e2⟩)
          refine ⟨_, .agg us.toArray, h.2, ?_, fun w' hw' => run_loadVar_agg hT ha u1 (fun q v hv => ?_)⟩
          · simp only [RV]; exact ⟨_, rfl, RVs.cellsAt s j us u1 (fun q v hv => (u2 q v hv).2)⟩
          · have := (u2 q v hv).1
            rw [cell_of_block hb] at this
            rw [cell_of_block (same w' hw')]; exact this
        · exact h.elim
      · exact h.elim
    · exact h.elim
  · rename_i n at_
    simp only [RV] at hx
    obtain ⟨b, o, rfl, hx⟩ := hx
    split at h
    · rename_i ha
      split at h
      · rename_i hlt
        have hlt' : 0 < n := by have := Nat.le_of_ble_eq_true (show Nat.ble (0 + 1) n = true from hlt); omega
        obtain ⟨u, e1, _, e3, e4⟩ := hx 0 hlt'
        refine ⟨_, u, h, by simpa only [RV] using e4, fun w' hw' => ?_⟩
        have := run_loadVar_one hT ha (w := w') (b := b) (o := o) (hw'.cell _ _ _ e1 e3)
        simp [Instr.loadAt, Instr.sureAddr, this]
      · exact h.elim
    · rename_i s ha
      split at h
      · rename_i hle
        have hle' := Nat.le_of_ble_eq_true hle
        obtain ⟨us, u1, u2⟩ := cells_list (w := w) (b := b) (o := o) (R := fun q v => RG (ctx A r H w) (at_ q) v ∧ ¬ (Wr r H b (o + q) ∨ A b (o + q))) s (fun q hq => by
            obtain ⟨u, e1, _, e3, e4⟩ := hx q (by omega)
            exact ⟨u, e1, e4, e3⟩)
        refine ⟨_, .agg us.toArray, h, ?_, fun w' hw' => ?_⟩
        · simp only [RV]; exact ⟨_, rfl, RVs.cellsAt s 0 us u1 (fun q v hv => by simp only [RV]; rw [Nat.zero_add]; exact (u2 q v hv).2.1)⟩
        · have := run_loadVar_agg hT ha (w := w') (b := b) (o := o) u1 (fun q v hv => hw'.cell _ _ _ (u2 q v hv).1 (u2 q v hv).2.2)
          simp [Instr.loadAt, Instr.sureAddr, this]
      · exact h.elim
    · exact h.elim
  · exact h.elim
end
end Go.Ev
