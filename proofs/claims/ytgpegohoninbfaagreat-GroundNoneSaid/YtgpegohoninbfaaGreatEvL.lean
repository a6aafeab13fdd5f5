/- The mill, part L: append, and new rows. -/
import Derived.Test.YtgpegohoninbfaaGreatEvK
namespace Go.Ev
set_option linter.unusedVariables false
set_option linter.unusedSimpArgs false
open Go.RowKit
variable {A : Nat → Nat → Prop}
set_option linter.unusedVariables false

/-- The elements that are appended, or copied. -/
def evSrc (H : AHeap) (sz : Nat) (x : AV) (k : Nat → (Nat → Nat → AV) → Prop) : Prop :=
  match x with
  | .g (.sl sz' m at_) => match Nat.beq sz sz' with
    | true => k m (fun i j => .g (at_ i j))
    | false => False
  | .sl id sz' off m _ => match H[id]? with
    | some (.row _ sz'' n at_ _) => match Nat.beq sz sz', Nat.beq sz sz'' with
      | true, true => off + m ≤ n ∧ k m (fun i j => at_ (off + i) j)
      | _, _ => False
    | _ => False
  | .nz => k 0 (fun _ _ => .junk)
  | .g (.c (.slice none 0 0)) => k 0 (fun _ _ => .junk)
  | _ => False

/-- The cells of a source: their values, in the order in which they stand. -/
def Src (C : Ctx) (sz : Nat) (v : Value) (m : Nat) (news : Nat → Nat → AV) : Prop :=
  ∃ a c, v = .slice a m c ∧ (m = 0 ∨ ∃ b o, a = some ⟨b, o, none⟩ ∧ ∃ vs : List Value, vs.length = m * sz ∧ (∀ j u, vs[j]? = some u → C.w.cell? ⟨b, o + j, none⟩ = some u) ∧ (∀ u ∈ vs, u.oneCell' = true) ∧
    ∀ i, i < m → ∀ j, j < sz → ∃ u, vs[i * sz + j]? = some u ∧ RV C (news i j) u)

theorem divmod_lt {q m sz : Nat} (h0 : 0 < sz) (h : q < m * sz) : q / sz < m ∧ q % sz < sz ∧ q / sz * sz + q % sz = q := by
  refine ⟨(Nat.div_lt_iff_lt_mul h0).2 h, Nat.mod_lt _ h0, ?_⟩
  rw [Nat.mul_comm]; exact Nat.div_add_mod q sz
theorem divmod_of {i j sz : Nat} (h : j < sz) : (i * sz + j) / sz = i ∧ (i * sz + j) % sz = j := by
  have h0 : 0 < sz := by omega
  constructor
  · rw [Nat.mul_comm, Nat.mul_add_div h0, Nat.div_eq_of_lt h]; omega
  · rw [Nat.mul_comm, Nat.mul_add_mod]; exact Nat.mod_eq_of_lt h
theorem idx_lt {i j m sz : Nat} (hi : i < m) (hj : j < sz) : i * sz + j < m * sz := by
  have := Nat.mul_le_mul_right sz (show i + 1 ≤ m by omega)
  rw [Nat.add_mul, Nat.one_mul] at this
  omega

theorem src_of_cells {C : Ctx} {sz m b o c : Nat} {news : Nat → Nat → AV} (h0 : 0 < sz) (h : ∀ i, i < m → ∀ j, j < sz → ∃ u, C.w.cell? ⟨b, o + (i * sz + j), none⟩ = some u ∧ u.oneCell' = true ∧ RV C (news i j) u) :
    Src C sz (.slice (some ⟨b, o, none⟩) m c) m news := by
  obtain ⟨vs, h1, h2⟩ := cells_list (w := C.w) (b := b) (o := o) (R := fun q v => v.oneCell' = true ∧ RV C (news (q / sz) (q % sz)) v) (m * sz) (fun q hq => by
    obtain ⟨d1, d2, d3⟩ := divmod_lt h0 hq
    obtain ⟨u, e1, e2, e3⟩ := h _ d1 _ d2
    rw [d3] at e1
    exact ⟨u, e1, e2, e3⟩)
  refine ⟨_, c, rfl, .inr ⟨b, o, rfl, vs, h1, fun j u hu => (h2 j u hu).1, fun u hu => ?_, fun i hi j hj => ?_⟩⟩
  · obtain ⟨n, hn⟩ := List.getElem?_of_mem hu
    exact (h2 n u hn).2.1
  · have hlt : i * sz + j < vs.length := by rw [h1]; exact idx_lt hi hj
    refine ⟨vs[i * sz + j], List.getElem?_eq_getElem hlt, ?_⟩
    have := (h2 _ _ (List.getElem?_eq_getElem hlt)).2.2
    rwa [(divmod_of hj).1, (divmod_of hj).2] at this

theorem evSrc_ok {r : List (Option Nat)} {H : AHeap} {w : World} (hi : Inv A r H w) {sz : Nat} (h0 : 0 < sz) {x : AV} {v : Value} {k : Nat → (Nat → Nat → AV) → Prop} (h : evSrc H sz x k) (hx : RV (ctx A r H w) x v) : ∃ m news, k m news ∧ Src (ctx A r H w) sz v m news := by
  unfold evSrc at h
  split at h
  · rename_i sz' m at_
    split at h
    · rename_i hs
      have hs' := Nat.eq_of_beq_eq_true hs
      subst hs'
      simp only [RV, RG] at hx
      obtain ⟨a, c, rfl, _, _, hx⟩ := hx
      refine ⟨_, _, h, ?_⟩
      rcases Nat.eq_zero_or_pos m with rfl | hm
      · exact ⟨a, c, rfl, .inl rfl⟩
      · obtain ⟨ad, _, rfl, e2, _⟩ := hx 0 hm 0 h0
        obtain ⟨b, o, sp⟩ := ad
        simp only at e2
        subst e2
        refine src_of_cells h0 fun i hi j hj => ?_
        obtain ⟨ad', u, e1, _, e3, e4, _, e6⟩ := hx i hi j hj
        cases e1
        exact ⟨u, e3, e4, by simpa only [RV] using e6⟩
    · exact h.elim
  · rename_i id sz' off m cap
    split at h
    · rename_i t sz'' n at_ fz hH
      split at h
      · rename_i hs hs2
        have hs' := Nat.eq_of_beq_eq_true hs
        have hs2' := Nat.eq_of_beq_eq_true hs2
        subst hs'
        subst hs2'
        obtain ⟨hle, h⟩ := h
        simp only [RV] at hx
        obtain ⟨a, c, rfl, _, _, hx⟩ := hx
        refine ⟨_, _, h, ?_⟩
        rcases hx with ⟨b, hr, rfl, _⟩ | ⟨rfl, _⟩
        · obtain ⟨_, vs, hb, _, hvs⟩ := hi.obj id _ _ hH hr
          replace hb : w.heap[b]? = _ := hb
          refine src_of_cells h0 fun i hi j hj => ?_
          obtain ⟨u, e1, e2, e3⟩ := hvs (off + i) (by omega) j hj
          refine ⟨u, ?_, e2, e3⟩
          show w.cell? _ = _
          rw [cell_of_block hb, ← e1, Nat.add_mul, Nat.add_assoc]
        · exact ⟨a, c, rfl, .inl rfl⟩
      · exact h.elim
    · exact h.elim
  · simp only [RV] at hx; obtain ⟨a, rfl⟩ := hx
    exact ⟨_, _, h, a, 0, rfl, .inl rfl⟩
  · simp only [RV, RG] at hx; subst hx
    exact ⟨_, _, h, none, 0, rfl, .inl rfl⟩
  · exact h.elim

def appRow (at_ : Nat → Nat → AV) (len : Nat) (news : Nat → Nat → AV) : Nat → Nat → AV := fun i j => if i < len then at_ i j else news (i - len) j

/-- append: behind it the old row is given up, where its capacity is not known. -/
def evAppend (T : Tab) (H : AHeap) (t u : TypeId) (s x : AV) (k : AV → AHeap → List Nat → Prop) : Prop :=
  match T.und t, T.und u with
  | some (.slice el), some (.slice _) => match T.inf el with
    | some (sz, bytes, _) => match Nat.beq sz 0 with
      | false => evSrc H sz x fun m news => match s with
        | .g (.c (.slice none 0 0)) => (m = 0 → k s H []) ∧ (0 < m → (m * bytes ≤ 140737488355328 ∧ m ≤ maxLen) ∧ hpush H (.row el sz m news 0) fun id H' => k (.sl id sz 0 m none) H' [])
        | .nz => (m = 0 → k s H []) ∧ (0 < m → (m * bytes ≤ 140737488355328 ∧ m ≤ maxLen) ∧ hpush H (.row el sz m news 0) fun id H' => k (.sl id sz 0 m none) H' [])
        | .sl id sz' 0 len cap => (m = 0 → k s H []) ∧ (0 < m → match H[id]? with
          | some (.row t' sz'' n at_ fz) => match Nat.beq sz sz', Nat.beq sz sz'', Nat.beq t' el with
            | true, true, true => (len ≤ n ∧ fz ≤ len * sz ∧ (len + m) * bytes ≤ 140737488355328 ∧ len + m ≤ maxLen) ∧ (match cap with
              | none => (len + m ≤ n ∧ hset H id (.row t' sz n (fun i j => if len ≤ i ∧ i < len + m then news (i - len) j else at_ i j) fz) fun H' => k (.sl id sz 0 (len + m) none) H' [id]) ∨
                hset H id .dead fun H1 => hpush H1 (.row el sz (len + m) (appRow at_ len news) fz) fun id' H' => k (.sl id' sz 0 (len + m) none) H' [id]
              | some c => (len + m ≤ c → len + m ≤ n ∧ hset H id (.row t' sz n (fun i j => if len ≤ i ∧ i < len + m then news (i - len) j else at_ i j) fz) fun H' => k (.sl id sz 0 (len + m) (some c)) H' [id]) ∧
                (c < len + m → hpush H (.row el sz (len + m) (appRow at_ len news) fz) fun id' H' => k (.sl id' sz 0 (len + m) none) H' []))
            | _, _, _ => False
          | _ => False)
        | _ => False
      | true => False
    | none => False
  | _, _ => False

theorem append_types {P : Program} {t u e e' ty : TypeId} {i : TypeInfo} {a a' : Option Addr} {n c m c' : Nat} (ht : P.underlying t = some (.slice e)) (hu : P.underlying u = some (.slice e')) (hi : P.info? e = some i) (w : World) :
    (Builtin.append_ #[t, u] ty #[.slice a n c, .slice a' m c']).run P w = (Builtin.append_ #[t, t] ty #[.slice a n c, .slice a' m c']).run P w := by
  unfold Builtin.append_
  simp [run_underlying ht, run_underlying hu, sizeOf, typeInfo, hi, Builtin.lenOf]

theorem append_zero {P : Program} {t e ty : TypeId} {i : TypeInfo} {a a' : Option Addr} {n c c' : Nat} (ht : P.underlying t = some (.slice e)) (hi : P.info? e = some i) (hn : n ≤ c) (w : World) :
    (Builtin.append_ #[t, t] ty #[.slice a n c, .slice a' 0 c']).run P w = .ok (.slice a n c) w := by
  unfold Builtin.append_
  cases a <;> cases a' <;> simp [run_underlying ht, sizeOf, typeInfo, hi, Builtin.lenOf, Builtin.firstCells, loadCells, loadCellsFrom, storeCells, hn]

theorem append_grow {P : Program} {w : World} {t e ty : TypeId} {i : TypeInfo} {z : Value} (ht : P.underlying t = some (.slice e)) (hi : P.info? e = some i) (hz : i.zero = some z) {a : Option Addr} {n c m c' b o : Nat} {olds news : List Value}
    (hold : n = 0 ∧ olds = [] ∨ ∃ b' o', a = some ⟨b', o', none⟩ ∧ olds.length = n * i.size ∧ ∀ j v, olds[j]? = some v → w.cell? ⟨b', o' + j, none⟩ = some v)
    (hnl : news.length = m * i.size) (hnews : ∀ j v, news[j]? = some v → w.cell? ⟨b, o + j, none⟩ = some v) (hc : c < n + m) (hm : n + m ≤ maxLen) (hb : (n + m) * i.bytes ≤ 140737488355328) :
    (Builtin.append_ #[t, t] ty #[.slice a n c, .slice (some ⟨b, o, none⟩) m c']).run P w = .ok (.slice (some ⟨w.heap.size, 0, none⟩) (n + m) (grownCap w (n + m) c e)) (w.drew.alloc (.cells (olds.toArray ++ news.toArray ++ Builtin.zeroCells z.cells (grownCap w (n + m) c e - (n + m))) e)) := by
  have h63 : ¬ (9223372036854775807 < ((n : Int) + (m : Int))) := by simp only [maxLen] at hm; omega
  have hfit := growslice_fits hc hb
  have h48 : ¬ (281474976710656 < Builtin.nextslicecap (n + m) c * i.bytes) := by omega
  have hf : ∀ w' : World, w'.heap = w.heap → (Builtin.firstCells i.size m (.slice (some ⟨b, o, none⟩) m c')).run P w' = .ok news.toArray w' := fun w' hw' =>
    run_firstCells_some (P := P) w' i.size m ⟨b, o, none⟩ m c' news hnl (fun j v hv => by rw [addr_add]; have := hnews j v hv; simpa [World.cell?, hw'] using this)
  have ho : ∀ w' : World, w'.heap = w.heap → (Builtin.firstCells i.size n (.slice a n c)).run P w' = .ok olds.toArray w' := by
    intro w' hw'
    rcases hold with ⟨rfl, rfl⟩ | ⟨b', o', rfl, h1, h2⟩
    · cases a <;> simp [Builtin.firstCells, loadCells, loadCellsFrom]
    · exact run_firstCells_some (P := P) w' i.size n ⟨b', o', none⟩ n c olds h1 (fun j v hv => by rw [addr_add]; have := h2 j v hv; simpa [World.cell?, hw'] using this)
  have hn : ¬ (n + m ≤ c) := by omega
  have e1 := hf w.drew rfl
  have e2 := ho w.drew rfl
  unfold Builtin.append_
  simp [run_underlying ht, sizeOf, typeInfo, zeroValue, hi, hz, Builtin.lenOf, hn, h63, h48, Question.forced, e1, e2, newRow, grownCap]
  rw [← Array.append_assoc, show (olds ++ news).toArray = olds.toArray ++ news.toArray by simp]

theorem append_room {P : Program} {w : World} {t e ty : TypeId} {i : TypeInfo} (ht : P.underlying t = some (.slice e)) (hi : P.info? e = some i) {n c m c' b o g : Nat} {vs news : List Value} (hg : w.heap[g]? = some (.cells vs.toArray e (0, 0)))
    (hnl : news.length = m * i.size) (hnews : ∀ j v, news[j]? = some v → w.cell? ⟨b, o + j, none⟩ = some v) (ho : ∀ u ∈ news, u.oneCell' = true) (hc : n + m ≤ c) (hl : n * i.size + news.length ≤ vs.length) :
    ∃ w', (Builtin.append_ #[t, t] ty #[.slice (some ⟨g, 0, none⟩) n c, .slice (some ⟨b, o, none⟩) m c']).run P w = .ok (.slice (some ⟨g, 0, none⟩) (n + m) c) w' ∧
      w'.heap[g]? = some (.cells (put vs (n * i.size) news).toArray e (0, 0)) ∧ (∀ q, q ≠ g → w'.heap[q]? = w.heap[q]?) ∧ w'.heap.size = w.heap.size ∧ w'.os = w.os ∧ w'.tape = w.tape ∧ w'.output = w.output := by
  have hf := run_firstCells_some (P := P) w i.size m ⟨b, o, none⟩ m c' news hnl (fun j v hv => by rw [addr_add]; exact hnews j v hv)
  obtain ⟨w', e1, e2⟩ := run_storeCells_row (P := P) news 0 (n * i.size) vs w hg (by simpa using hl) ho
  refine ⟨w', ?_, by simpa using e2⟩
  unfold Builtin.append_
  simp [run_underlying ht, sizeOf, typeInfo, hi, Builtin.lenOf, hc, hf, addr_add, e1]
end Go.Ev
