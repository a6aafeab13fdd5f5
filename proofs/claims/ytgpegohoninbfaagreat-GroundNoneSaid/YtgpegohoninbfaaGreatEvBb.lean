/- The mill, part Bb: operations that make memory, or write it, with a Bool's answer; calls. -/
import Derived.Test.YtgpegohoninbfaaGreatEvBa
namespace Go.Ev
set_option linter.unusedVariables false
set_option linter.unusedSimpArgs false
open Go.RowKit
set_option linter.unusedVariables false

def evAllocB (T : Tab) (H : AHeap) (t : TypeId) (k : AV → AHeap → Bool) : Bool :=
  match T.inf t with
  | some (_, _, z) => gcB z.cells.toList fun cs => match allCellish cs with
    | true => hpushB H (.box t cs) fun id H' => k (.p id 0 0 0) H'
    | false => false
  | none => false
theorem evAllocB_ok {T : Tab} {H : AHeap} {t : TypeId} {k : AV → AHeap → Bool} (h : evAllocB T H t k = true) : evAlloc T H t (fun v H' _ => k v H' = true) := by
  unfold evAllocB at h
  unfold evAlloc
  split at h
  · rw [gcB_eq] at h
    (try simp only [*])
    rw [gcK_eq]
    split at h
    · rename_i hc; rw [hpushB_eq] at h; simp only [hc, hpush_eq]; first | exact h | (simp only [*]; done) | (simp only [*]; exact h)
    · cases h
  · cases h
def evBoxB (H : AHeap) (t : TypeId) (x : AV) (k : AV → AHeap → Bool) : Bool :=
  cellsB x fun cs => match allCellish cs with
    | true => hpushB H (.box t cs) fun id H' => k (.p id 0 0 0) H'
    | false => false
theorem evBoxB_ok {H : AHeap} {t : TypeId} {x : AV} {k : AV → AHeap → Bool} (h : evBoxB H t x k = true) : evBox H t x (fun v H' _ => k v H' = true) := by
  unfold evBoxB at h
  unfold evBox
  first | refine cellsK_mono (fun l h => ?_) (cellsB_ok h) | (simp only [*]; refine cellsK_mono (fun l h => ?_) (cellsB_ok h))
  split at h
  · rename_i hc; rw [hpushB_eq] at h; simp only [hc, hpush_eq]; first | exact h | (simp only [*]; done) | (simp only [*]; exact h)
  · cases h
def evStoreB (T : Tab) (H : AHeap) (t : TypeId) (a x : AV) (k : AV → AHeap → Bool) : Bool :=
  match a, T.inf t with
  | .p id sz i j, some (s, _, _) => cellsB x fun ys => match allCellish ys, Nat.beq ys.length s, H[id]? with
    | true, true, some (.box t' cs) => match Nat.beq sz 0, Nat.ble (j + ys.length) cs.length with
      | true, true => putB cs j ys fun cs' => hsetB H id (.box t' cs') fun H' => k .junk H'
      | _, _ => false
    | true, true, some (.row t' sz' n at_ fz) => match Nat.beq sz sz', Nat.ble (j + ys.length) sz with
      | true, true => match Nat.blt i n, Nat.ble fz (i * sz) with
        | true, true => hsetB H id (.row t' sz n (updRow at_ i j ys) fz) fun H' => k .junk H'
        | _, _ => false
      | _, _ => false
    | _, _, _ => false
  | _, _ => false
theorem evStoreB_ok {T : Tab} {H : AHeap} {t : TypeId} {a x : AV} {k : AV → AHeap → Bool} (h : evStoreB T H t a x k = true) : evStore T H t a x (fun v H' _ => k v H' = true) := by
  unfold evStoreB at h
  unfold evStore
  split at h
  · rename_i hi
    try simp only [hi]
    first | refine cellsK_mono (fun l h => ?_) (cellsB_ok h) | (simp only [*]; refine cellsK_mono (fun l h => ?_) (cellsB_ok h))
    split at h
    · rename_i h1 h2 h3
      try simp only [h1, h2, h3]
      split at h
      · rename_i h4 h5
        simp only [h4, h5, putK_eq, hset_eq]
        simpa only [putB_eq, hsetB_eq] using h
      · cases h
    · rename_i h1 h2 h3
      try simp only [h1, h2, h3]
      split at h
      · rename_i h4 h5
        simp only [h4, h5, hset_eq]
        split at h
        · rename_i h6 h7
          rw [hsetB_eq] at h
          first | exact ⟨⟨blt_lt h6, Nat.le_of_ble_eq_true h7⟩, h⟩ | (simp only [*]; done) | (simp only [*]; exact ⟨⟨blt_lt h6, Nat.le_of_ble_eq_true h7⟩, h⟩)
        · cases h
      · cases h
    · cases h
  · cases h
def evSrcB (H : AHeap) (sz : Nat) (x : AV) (k : Nat → (Nat → Nat → AV) → Bool) : Bool :=
  match x with
  | .g (.sl sz' m at_) => match Nat.beq sz sz' with
    | true => k m (fun i j => .g (at_ i j))
    | false => false
  | .sl id sz' off m _ => match H[id]? with
    | some (.row _ sz'' n at_ _) => match Nat.beq sz sz', Nat.beq sz sz'', Nat.ble (off + m) n with
      | true, true, true => k m (fun i j => at_ (off + i) j)
      | _, _, _ => false
    | _ => false
  | .nz => k 0 (fun _ _ => .junk)
  | .g (.c (.slice none 0 0)) => k 0 (fun _ _ => .junk)
  | _ => false
theorem evSrc_mono {H : AHeap} {sz : Nat} {x : AV} {k k' : Nat → (Nat → Nat → AV) → Prop} (hk : ∀ m f, k m f → k' m f) (h : evSrc H sz x k) : evSrc H sz x k' := by
  unfold evSrc at h ⊢
  split at h
  · split at h
    · exact hk _ _ h
    · exact h
  · split at h
    · split at h
      · exact ⟨h.1, hk _ _ h.2⟩
      · exact h
    · exact h
  · exact hk _ _ h
  · exact hk _ _ h
  · exact h
theorem evSrcB_ok {H : AHeap} {sz : Nat} {x : AV} {k : Nat → (Nat → Nat → AV) → Bool} (h : evSrcB H sz x k = true) : evSrc H sz x (fun m f => k m f = true) := by
  unfold evSrcB at h
  unfold evSrc
  split at h
  · split at h
    · first | exact h | (simp only [*]; done) | (simp only [*]; exact h)
    · cases h
  · split at h
    · rename_i hH
      split at h
      · rename_i h1 h2 h3; simp only [hH, h1, h2]; exact ⟨Nat.le_of_ble_eq_true h3, h⟩
      · cases h
    · cases h
  · first | exact h | (simp only [*]; done) | (simp only [*]; exact h)
  · first | exact h | (simp only [*]; done) | (simp only [*]; exact h)
  · cases h
/-- Above nothing. -/
def newB (H : AHeap) (el : TypeId) (sz bytes m : Nat) (news : Nat → Nat → AV) (s : AV) (k : AV → AHeap → Bool) : Bool :=
  match m with
  | 0 => k s H
  | Nat.succ m => match Nat.ble (Nat.succ m * bytes) 140737488355328, Nat.ble (Nat.succ m) maxLen with
    | true, true => hpushB H (.row el sz (Nat.succ m) news 0) fun id H' => k (.sl id sz 0 (Nat.succ m) none) H'
    | _, _ => false
theorem newB_ok {H : AHeap} {el : TypeId} {sz bytes m : Nat} {news : Nat → Nat → AV} {s : AV} {k : AV → AHeap → Bool} (h : newB H el sz bytes m news s k = true) :
    (m = 0 → k s H = true) ∧ (0 < m → (m * bytes ≤ 140737488355328 ∧ m ≤ maxLen) ∧ hpush H (.row el sz m news 0) fun id H' => k (.sl id sz 0 m none) H' = true) := by
  unfold newB at h
  split at h
  · first | exact ⟨fun _ => h, fun h => absurd h (by omega)⟩ | (simp only [*]; done) | (simp only [*]; exact ⟨fun _ => h, fun h => absurd h (by omega)⟩)
  · first | refine ⟨(fun h => by cases h), fun _ => ?_⟩ | (simp only [*]; refine ⟨(fun h => by cases h), fun _ => ?_⟩)
    split at h
    · rename_i h1 h2
      rw [hpushB_eq] at h
      rw [hpush_eq]
      first | exact ⟨⟨Nat.le_of_ble_eq_true h1, Nat.le_of_ble_eq_true h2⟩, h⟩ | (simp only [*]; done) | (simp only [*]; exact ⟨⟨Nat.le_of_ble_eq_true h1, Nat.le_of_ble_eq_true h2⟩, h⟩)
    · cases h
def evAppendB (T : Tab) (H : AHeap) (t u : TypeId) (s x : AV) (k : AV → AHeap → Bool) : Bool :=
  match T.und t, T.und u with
  | some (.slice el), some (.slice _) => match T.inf el with
    | some (sz, bytes, _) => match Nat.beq sz 0 with
      | false => evSrcB H sz x fun m news => match s with
        | .g (.c (.slice none 0 0)) => newB H el sz bytes m news s k
        | .nz => newB H el sz bytes m news s k
        | .sl id sz' 0 len cap => match m with
          | 0 => k s H
          | Nat.succ m => match H[id]? with
            | some (.row t' sz'' n at_ fz) => match Nat.beq sz sz', Nat.beq sz sz'', Nat.beq t' el with
              | true, true, true => match Nat.ble len n, Nat.ble fz (len * sz), Nat.ble ((len + Nat.succ m) * bytes) 140737488355328, Nat.ble (len + Nat.succ m) maxLen with
                | true, true, true, true => fN (len + Nat.succ m) fun l2 => match cap with
                  | none => hsetB H id .dead fun H1 => hpushB H1 (.row el sz l2 (appRow at_ len news) fz) fun id' H' => k (.sl id' sz 0 l2 none) H'
                  | some c => match Nat.ble l2 c with
                    | true => match Nat.ble l2 n with
                      | true => hsetB H id (.row t' sz n (fun i j => if len ≤ i ∧ i < len + Nat.succ m then news (i - len) j else at_ i j) fz) fun H' => k (.sl id sz 0 l2 (some c)) H'
                      | false => false
                    | false => hpushB H (.row el sz l2 (appRow at_ len news) fz) fun id' H' => k (.sl id' sz 0 l2 none) H'
                | _, _, _, _ => false
              | _, _, _ => false
            | _ => false
        | _ => false
      | true => false
    | none => false
  | _, _ => false
theorem evAppendB_ok {T : Tab} {H : AHeap} {t u : TypeId} {s x : AV} {k : AV → AHeap → Bool} (h : evAppendB T H t u s x k = true) : evAppend T H t u s x (fun v H' _ => k v H' = true) := by
  unfold evAppendB at h
  unfold evAppend
  split at h
  · split at h
    · rename_i el _ _ _ sz bytes _ _
      split at h
      · first | refine evSrc_mono (fun m news h => ?_) (evSrcB_ok h) | (simp only [*]; refine evSrc_mono (fun m news h => ?_) (evSrcB_ok h))
        split at h
        · first | exact newB_ok h | (simp only [*]; done) | (simp only [*]; exact newB_ok h)
        · first | exact newB_ok h | (simp only [*]; done) | (simp only [*]; exact newB_ok h)
        · rename_i id sz' len cap z0
          split at h
          · first | exact ⟨fun _ => h, fun h => absurd h (by omega)⟩ | (simp only [*]; done) | (simp only [*]; exact ⟨fun _ => h, fun h => absurd h (by omega)⟩)
          · rename_i m
            first | refine ⟨(fun h => by cases h), fun _ => ?_⟩ | (simp only [*]; refine ⟨(fun h => by cases h), fun _ => ?_⟩)
            split at h
            · rename_i hH
              try simp only [hH]
              split at h
              · rename_i h1 h2 h3
                try simp only [h1, h2, h3]
                split at h
                · rename_i g1 g2 g3 g4
                  first | refine ⟨⟨Nat.le_of_ble_eq_true g1, Nat.le_of_ble_eq_true g2, Nat.le_of_ble_eq_true g3, Nat.le_of_ble_eq_true g4⟩, ?_⟩ | (simp only [*]; refine ⟨⟨Nat.le_of_ble_eq_true g1, Nat.le_of_ble_eq_true g2, Nat.le_of_ble_eq_true g3, Nat.le_of_ble_eq_true g4⟩, ?_⟩)
                  rw [fN_eq] at h
                  split at h
                  · first | refine .inr ?_ | (simp only [*]; refine .inr ?_)
                    simp only [hset_eq, hpush_eq]
                    simpa only [hsetB_eq, hpushB_eq] using h
                  · rename_i c
                    simp only [hset_eq, hpush_eq]
                    split at h
                    · rename_i hc
                      have hc := Nat.le_of_ble_eq_true hc
                      split at h
                      · rename_i hn
                        rw [hsetB_eq] at h
                        first | exact ⟨fun _ => ⟨Nat.le_of_ble_eq_true hn, h⟩, fun h => absurd h (by omega)⟩ | (simp only [*]; done) | (simp only [*]; exact ⟨fun _ => ⟨Nat.le_of_ble_eq_true hn, h⟩, fun h => absurd h (by omega)⟩)
                      · cases h
                    · rename_i hc
                      have hc : ¬ len + Nat.succ m ≤ c := fun h => by rw [Nat.ble_eq_true_of_le h] at hc; cases hc
                      rw [hpushB_eq] at h
                      first | exact ⟨fun h => absurd h hc, fun _ => h⟩ | (simp only [*]; done) | (simp only [*]; exact ⟨fun h => absurd h hc, fun _ => h⟩)
                · cases h
              · cases h
            · cases h
        · cases h
      · cases h
    · cases h
  · cases h
def evBuildSliceB (T : Tab) (H : AHeap) (t : TypeId) (len : Nat) (parts : List (Nat × AV)) (k : AV → AHeap → Bool) : Bool :=
  match T.und t with
  | some (.slice el) => match T.inf el with
    | some (s, _, z) => match Nat.beq s 0, Nat.ble (len * s) 16777216 with
      | false, true => gcB z.cells.toList fun zs => evFillB (fun i => some (i * s, s)) (rep zs len) parts fun cs => match allCellish cs with
        | true => hpushB H (.row el s len (litAt s cs) 0) fun id H' => k (.sl id s 0 len (some len)) H'
        | false => false
      | _, _ => false
    | none => false
  | _ => false
theorem evBuildSliceB_ok {T : Tab} {H : AHeap} {t : TypeId} {len : Nat} {parts : List (Nat × AV)} {k : AV → AHeap → Bool} (h : evBuildSliceB T H t len parts k = true) : evBuildSlice T H t len parts (fun v H' _ => k v H' = true) := by
  unfold evBuildSliceB at h
  unfold evBuildSlice
  split at h
  · split at h
    · split at h
      · rename_i h1 h2
        try simp only [h1, h2]
        rw [gcB_eq] at h
        (try simp only [*])
        rw [gcK_eq]
        first | refine evFill_mono _ _ _ _ (fun l h => ?_) (evFillB_ok _ _ _ h) | (simp only [*]; refine evFill_mono _ _ _ _ (fun l h => ?_) (evFillB_ok _ _ _ h))
        split at h
        · rename_i hc; rw [hpushB_eq] at h; simp only [hc, hpush_eq]; first | exact h | (simp only [*]; done) | (simp only [*]; exact h)
        · cases h
      · cases h
    · cases h
  · cases h
def evMakeSliceB (T : Tab) (H : AHeap) (t : TypeId) (l c : AV) (k : AV → AHeap → Bool) : Bool :=
  match T.und t, l, c with
  | some (.slice el), .g (.c (.int _ (.ofNat l))), .g (.c (.int _ (.ofNat c))) => match T.inf el with
    | some (s, b, z) => match Nat.beq s 0 with
      | false => gcB z.cells.toList fun zs => match allCellish zs, Nat.ble l c, Nat.ble c 1099511627776, Nat.ble (b * c) 281474976710656 with
        | true, true, true, true => hpushB H (.row el s c (fun _ j => zs.getD j .junk) 0) fun id H' => k (.sl id s 0 l (some c)) H'
        | _, _, _, _ => false
      | true => false
    | none => false
  | _, _, _ => false
theorem evMakeSliceB_ok {T : Tab} {H : AHeap} {t : TypeId} {l c : AV} {k : AV → AHeap → Bool} (h : evMakeSliceB T H t l c k = true) : evMakeSlice T H t l c (fun v H' _ => k v H' = true) := by
  unfold evMakeSliceB at h
  unfold evMakeSlice
  split at h
  · rename_i hu
    try simp only [hu]
    split at h
    · rename_i hi
      try simp only [hi]
      split at h
      · rename_i hs
        try simp only [hs]
        rw [gcB_eq] at h
        (try simp only [*])
        rw [gcK_eq]
        split at h
        · rename_i h1 h2 h3 h4
          simp only [h1, hpush_eq]
          rw [hpushB_eq] at h
          have h2 := Nat.le_of_ble_eq_true h2
          have h3 := Nat.le_of_ble_eq_true h3
          have h4 := Nat.le_of_ble_eq_true h4
          refine ⟨⟨by simp, Int.ofNat_le.2 h2, Int.ofNat_le.2 h3, ?_⟩, ?_⟩
          · have := Int.ofNat_le.2 h4
            rw [Int.natCast_mul] at this
            exact this
          first | exact h | (simp only [*]; done) | (simp only [*]; exact h)
        · cases h
      · cases h
    · cases h
  · cases h
def evClearB (T : Tab) (H : AHeap) (t : TypeId) (x : AV) (k : AV → AHeap → Bool) : Bool :=
  match T.und t, x with
  | some (.slice el), .sl id sz' off len _ => match T.inf el, H[id]? with
    | some (sz, _, z), some (.row t' sz'' n at_ fz) => match Nat.beq sz sz', Nat.beq sz sz'' with
      | true, true => gcB z.cells.toList fun zs => match allCellish zs, Nat.ble (off + len) n, Nat.ble fz (off * sz) with
        | true, true, true => hsetB H id (.row t' sz n (putRow at_ off len fun _ j => zs.getD j .junk) fz) fun H' => k (.tup []) H'
        | _, _, _ => false
      | _, _ => false
    | _, _ => false
  | _, _ => false
theorem evClearB_ok {T : Tab} {H : AHeap} {t : TypeId} {x : AV} {k : AV → AHeap → Bool} (h : evClearB T H t x k = true) : evClear T H t x (fun v H' _ => k v H' = true) := by
  unfold evClearB at h
  unfold evClear
  split at h
  · rename_i hu
    try simp only [hu]
    split at h
    · rename_i hi hH
      try simp only [hi, hH]
      split at h
      · rename_i h1 h2
        try simp only [h1, h2]
        rw [gcB_eq] at h
        (try simp only [*])
        rw [gcK_eq]
        split at h
        · rename_i g1 g2 g3
          rw [hsetB_eq] at h
          try simp only [g1, hset_eq]
          first | exact ⟨⟨Nat.le_of_ble_eq_true g2, Nat.le_of_ble_eq_true g3⟩, h⟩ | (simp only [*]; done) | (simp only [*]; exact ⟨⟨Nat.le_of_ble_eq_true g2, Nat.le_of_ble_eq_true g3⟩, h⟩)
        · cases h
      · cases h
    · cases h
  · cases h
def evCopyB (T : Tab) (H : AHeap) (t : TypeId) (d s : AV) (k : AV → AHeap → Bool) : Bool :=
  match T.und t, d with
  | some (.slice el), .sl id sz' off len _ => match T.inf el, H[id]? with
    | some (sz, _, _), some (.row t' sz'' n at_ fz) => match Nat.beq sz sz', Nat.beq sz sz'', Nat.beq sz 0 with
      | true, true, false => evSrcB H sz s fun m news => match Nat.ble (off + len) n, Nat.ble fz (off * sz) with
        | true, true => fN (min m len) fun c => hsetB H id (.row t' sz n (putRow at_ off c news) fz) fun H' => k (vint .i64 (Int.ofNat c)) H'
        | _, _ => false
      | _, _, _ => false
    | _, _ => false
  | _, _ => false
theorem evCopyB_ok {T : Tab} {H : AHeap} {t : TypeId} {d s : AV} {k : AV → AHeap → Bool} (h : evCopyB T H t d s k = true) : evCopy T H t d s (fun v H' _ => k v H' = true) := by
  unfold evCopyB at h
  unfold evCopy
  split at h
  · rename_i hu
    try simp only [hu]
    split at h
    · rename_i hi hH
      try simp only [hi, hH]
      split at h
      · rename_i h1 h2 h3
        try simp only [h1, h2, h3]
        first | refine evSrc_mono (fun m news h => ?_) (evSrcB_ok h) | (simp only [*]; refine evSrc_mono (fun m news h => ?_) (evSrcB_ok h))
        split at h
        · rename_i g2 g3
          rw [fN_eq, hsetB_eq] at h
          rw [hset_eq]
          first | exact ⟨⟨Nat.le_of_ble_eq_true g2, Nat.le_of_ble_eq_true g3⟩, h⟩ | (simp only [*]; done) | (simp only [*]; exact ⟨⟨Nat.le_of_ble_eq_true g2, Nat.le_of_ble_eq_true g3⟩, h⟩)
        · cases h
      · cases h
    · cases h
  · cases h

/-! ### maps -/
def zeroB (z : Value) (k : AV → Bool) : Bool :=
  match z with
  | .agg cs => gcB cs.toList fun l => k (.agg l)
  | z => fV z fun z => k (.g (.c z))
theorem zeroB_ok {z : Value} {k : AV → Bool} (h : zeroB z k = true) : zeroK z (fun v => k v = true) := by
  unfold zeroB at h
  unfold zeroK
  split at h
  · rw [gcB_eq] at h; simp only [gcK_eq]; first | exact h | (simp only [*]; done) | (simp only [*]; exact h)
  · rename_i hz
    rw [fV_eq] at h
    split
    · first | exact (hz _ rfl).elim | (simp only [*]; done) | (simp only [*]; exact (hz _ rfl).elim)
    · first | exact h | (simp only [*]; done) | (simp only [*]; exact h)
theorem zeroK_mono {z : Value} {k k' : AV → Prop} (hk : ∀ v, k v → k' v) (h : zeroK z k) : zeroK z k' := by
  unfold zeroK at h ⊢
  split at h
  · rw [gcK_eq] at h ⊢; exact hk _ h
  · exact hk _ h
def commaB (ok : Bool) (x : AV) (is : Bool) (k : AV → Bool) : Bool :=
  match ok with
  | true => k (.tup [x, vbool is])
  | false => k x
theorem commaB_ok {ok : Bool} {x : AV} {is : Bool} {k : AV → Bool} (h : commaB ok x is k = true) : commaK ok x is (fun v => k v = true) := by
  unfold commaB at h
  unfold commaK
  split at h <;> first | exact h | (simp only [*]; done) | (simp only [*]; exact h)
def evLookupB (T : Tab) (H : AHeap) (t : TypeId) (x y : AV) (ok : Bool) (k : AV → Bool) : Bool :=
  match mapT T t, y with
  | some (d, _, z), .g (.c key) => match x with
    | .g (.c (.map none)) => zeroB z fun v => commaB ok v false k
    | .m id => match H[id]? with
      | some (.map es _) => match evFind d key es 0 with
        | some (some (_, v)) => commaB ok v true k
        | some none => zeroB z fun v => commaB ok v false k
        | none => false
      | _ => false
    | _ => false
  | _, _ => false
theorem evLookupB_ok {T : Tab} {H : AHeap} {t : TypeId} {x y : AV} {ok : Bool} {k : AV → Bool} (h : evLookupB T H t x y ok k = true) : evLookup T H t x y ok (fun v => k v = true) := by
  unfold evLookupB at h
  unfold evLookup
  split at h
  · rename_i hm
    try simp only [hm]
    split at h
    · first | exact zeroK_mono (fun v h => commaB_ok h) (zeroB_ok h) | (simp only [*]; done) | (simp only [*]; exact zeroK_mono (fun v h => commaB_ok h) (zeroB_ok h))
    · split at h
      · rename_i hH
        try simp only [hH]
        split at h
        · rename_i hf; try simp only [hf]; first | exact commaB_ok h | (simp only [*]; done) | (simp only [*]; exact commaB_ok h)
        · rename_i hf; try simp only [hf]; first | exact zeroK_mono (fun v h => commaB_ok h) (zeroB_ok h) | (simp only [*]; done) | (simp only [*]; exact zeroK_mono (fun v h => commaB_ok h) (zeroB_ok h))
        · cases h
      · cases h
    · cases h
  · cases h
def setMB (v : AV) : ME → Nat → (ME → Bool) → Bool
  | [], _, k => k []
  | p :: ps, 0, k => k ((p.1, v) :: ps)
  | p :: ps, Nat.succ n, k => setMB v ps n fun r => k (p :: r)
theorem setMB_eq (v : AV) : ∀ (ps : ME) (n : Nat) (k : ME → Bool), setMB v ps n k = k (setM v ps n)
  | [], _, _ => by simp [setMB, setM]
  | p :: ps, 0, _ => rfl
  | p :: ps, n + 1, k => by simp only [setMB, setM, setMB_eq v ps n]
def appMB : ME → ((Nat × Value) × AV) → (ME → Bool) → Bool
  | [], q, k => k [q]
  | p :: ps, q, k => appMB ps q fun r => k (p :: r)
theorem appMB_eq : ∀ (ps : ME) (q : (Nat × Value) × AV) (k : ME → Bool), appMB ps q k = k (appM ps q)
  | [], _, _ => rfl
  | p :: ps, q, k => by simp only [appMB, appM, appMB_eq ps q]
def evMapUpdateB (T : Tab) (H : AHeap) (t : TypeId) (x y v : AV) (k : AV → AHeap → Bool) : Bool :=
  match mapT T t, x, y with
  | some (d, _, _), .m id, .g (.c key) => match H[id]? with
    | some (.map es clk) => match evFind d key es 0 with
      | some (some (i, _)) => setMB v es i fun es' => hsetB H id (.map es' clk) fun H' => k .junk H'
      | some none => appMB es ((clk, key), v) fun es' => fN (clk + 1) fun c => hsetB H id (.map es' c) fun H' => k .junk H'
      | none => false
    | _ => false
  | _, _, _ => false
theorem evMapUpdateB_ok {T : Tab} {H : AHeap} {t : TypeId} {x y v : AV} {k : AV → AHeap → Bool} (h : evMapUpdateB T H t x y v k = true) : evMapUpdate T H t x y v (fun v H' _ => k v H' = true) := by
  unfold evMapUpdateB at h
  unfold evMapUpdate
  split at h
  · rename_i hm
    try simp only [hm]
    split at h
    · rename_i hH
      try simp only [hH]
      split at h
      · rename_i hf; simp only [hf, hset_eq]; simpa only [setMB_eq, hsetB_eq] using h
      · rename_i hf; simp only [hf, hset_eq]; simpa only [appMB_eq, fN_eq, hsetB_eq] using h
      · cases h
    · cases h
  · cases h
def evMapEntryB (T : Tab) (H : AHeap) (t : TypeId) (x y : AV) (k : AV → AHeap → Bool) : Bool :=
  match mapT T t, x, y with
  | some (d, _, z), .m id, .g (.c key) => match H[id]? with
    | some (.map es clk) => match evFind d key es 0 with
      | some (some (i, v)) => match es[i]? with
        | some ((b, _), _) => k (.tup [v, vint .i64 (Int.ofNat b)]) H
        | none => false
      | some none => zeroB z fun v => appMB es ((clk, key), v) fun es' => fN (clk + 1) fun c => hsetB H id (.map es' c) fun H' => k (.tup [v, vint .i64 (Int.ofNat clk)]) H'
      | none => false
    | _ => false
  | _, _, _ => false
theorem evMapEntryB_ok {T : Tab} {H : AHeap} {t : TypeId} {x y : AV} {k : AV → AHeap → Bool} (h : evMapEntryB T H t x y k = true) : evMapEntry T H t x y (fun v H' _ => k v H' = true) := by
  unfold evMapEntryB at h
  unfold evMapEntry
  split at h
  · rename_i hm
    try simp only [hm]
    split at h
    · rename_i hH
      try simp only [hH]
      split at h
      · rename_i hf
        try simp only [hf]
        split at h
        · rename_i he; try simp only [he]; first | exact h | (simp only [*]; done) | (simp only [*]; exact h)
        · cases h
      · rename_i hf
        simp only [hf, hset_eq]
        refine zeroK_mono (fun v h => ?_) (zeroB_ok h)
        rw [appMB_eq, fN_eq, hsetB_eq] at h
        exact h
      · cases h
    · cases h
  · cases h
def evEntryStoreB (H : AHeap) (x s v : AV) (k : AV → AHeap → Bool) : Bool :=
  match x, s with
  | .m id, .g (.c (.int _ n)) => match H[id]? with
    | some (.map es clk) => match idxM n es 0 with
      | some i => setMB v es i fun es' => hsetB H id (.map es' clk) fun H' => k .junk H'
      | none => false
    | _ => false
  | _, _ => false
theorem evEntryStoreB_ok {H : AHeap} {x s v : AV} {k : AV → AHeap → Bool} (h : evEntryStoreB H x s v k = true) : evEntryStore H x s v (fun v H' _ => k v H' = true) := by
  unfold evEntryStoreB at h
  unfold evEntryStore
  split at h
  · split at h
    · rename_i hH
      try simp only [hH]
      split at h
      · rename_i hf; simp only [hf, hset_eq]; simpa only [setMB_eq, hsetB_eq] using h
      · cases h
    · cases h
  · cases h
def evRangeB (T : Tab) (H : AHeap) (t : TypeId) (x : AV) (k : AV → AHeap → Bool) : Bool :=
  match T.und t, x with
  | some (.map _ _), .m id => match H[id]? with
    | some (.map _ _) => hpushB H (.iter (some id)) fun id' H' => k (.p id' 0 0 0) H'
    | _ => false
  | _, _ => false
theorem evRangeB_ok {T : Tab} {H : AHeap} {t : TypeId} {x : AV} {k : AV → AHeap → Bool} (h : evRangeB T H t x k = true) : evRange T H t x (fun v H' _ => k v H' = true) := by
  unfold evRangeB at h
  unfold evRange
  split at h
  · rename_i hu
    try simp only [hu]
    split at h
    · rename_i hH; rw [hpushB_eq] at h; simp only [hH, hpush_eq]; first | exact h | (simp only [*]; done) | (simp only [*]; exact h)
    · cases h
  · cases h
def evNextB (H : AHeap) (x : AV) (k : AV → Bool) : Bool :=
  match x with
  | .p id 0 0 0 => match H[id]? with
    | some (.iter (some m)) => match H[m]? with
      | some (.map [] _) => k (.tup [vbool false])
      | _ => false
    | _ => false
  | _ => false
theorem evNextB_ok {H : AHeap} {x : AV} {k : AV → Bool} (h : evNextB H x k = true) : evNext H x (fun v => k v = true) := by
  unfold evNextB at h
  unfold evNext
  split at h
  · split at h
    · rename_i hH
      try simp only [hH]
      split at h
      · rename_i hM; try simp only [hM]; first | exact h | (simp only [*]; done) | (simp only [*]; exact h)
      · cases h
    · cases h
  · cases h
def evMapLenB (H : AHeap) (id : Nat) (k : AV → Bool) : Bool :=
  match H[id]? with
  | some (.map es _) => fN es.length fun n => k (vint .i64 (Int.ofNat n))
  | _ => false
theorem evMapLenB_ok {H : AHeap} {id : Nat} {k : AV → Bool} (h : evMapLenB H id k = true) : evMapLen H id (fun v => k v = true) := by
  unfold evMapLenB at h
  unfold evMapLen
  split at h
  · rename_i hH; try simp only [hH]; rw [fN_eq] at h; first | exact h | (simp only [*]; done) | (simp only [*]; exact h)
  · cases h

/-! ### calls -/
abbrev CallB := Nat → List AV → AHeap → (AV → AHeap → Bool) → Bool
def evCallVB (T : Tab) (cb : CallB) (H : AHeap) (f : AV) (xs : List AV) (k : AV → AHeap → Bool) : Bool :=
  match f with
  | .fn (.func g) fs cs => match T.fn g, fs, cs with
    | true, [], [] => cb g xs H k
    | true, fs, cs => appB xs cs fun ys => appB fs ys fun zs => cb g zs H k
    | false, _, _ => false
  | _ => false
def CallOK (T : Tab) (cb : CallB) : Prop := ∀ g xs H k, cb g xs H k = true → CallC T g xs H (fun v H' _ => k v H' = true)
theorem evCallVB_ok {T : Tab} {cb : CallB} (hcb : CallOK T cb) {H : AHeap} {f : AV} {xs : List AV} {k : AV → AHeap → Bool} (h : evCallVB T cb H f xs k = true) : evCallV T H f xs (fun v H' _ => k v H' = true) := by
  unfold evCallVB at h
  split at h
  · rename_i g fs cs
    split at h
    · rename_i hg
      simp only [evCallV, hg]
      first | exact hcb _ _ _ _ h | (simp only [*]; done) | (simp only [*]; exact hcb _ _ _ _ h)
    · rename_i hg hne
      simp only [appB_eq] at h
      have := hcb _ _ _ _ h
      rw [← List.append_assoc] at this
      unfold evCallV
      split
      · rename_i g' heq
        cases heq
        rw [hg]
        simpa using this
      · rename_i g' fs' cs' _ heq
        cases heq
        rw [hg]
        first | exact this | (simp only [*]; done) | (simp only [*]; exact this)
      · rename_i h1 h2
        first | exact (h2 _ _ _ rfl).elim | (simp only [*]; done) | (simp only [*]; exact (h2 _ _ _ rfl).elim)
    · cases h
  · cases h

def evEB (T : Tab) (cb : CallB) (H : AHeap) (e : Env) (op : Op) (k : AV → AHeap → Bool) : Bool :=
  match op with
  | .alloc t => evAllocB T H t k
  | .box t x => opdB T e x fun a => evBoxB H t a k
  | .store t a x => opdB T e a fun p => opdB T e x fun v => evStoreB T H t p v k
  | .buildSlice t len parts => partsB T e parts.toList fun ps => evBuildSliceB T H t len ps k
  | .makeSlice t l c => opdB T e l fun a => opdB T e c fun b => evMakeSliceB T H t a b k
  | .makeMap _ none => hpushB H (.map [] 0) fun id H' => k (.m id) H'
  | .lookup t x y ok => opdB T e x fun a => opdB T e y fun b => evLookupB T H t a b ok fun v => k v H
  | .mapUpdate t m y v => opdB T e m fun a => opdB T e y fun b => opdB T e v fun c => evMapUpdateB T H t a b c k
  | .insert t m y v => opdB T e m fun a => opdB T e y fun b => opdB T e v fun c => evMapUpdateB T H t a b c k
  | .mapEntry t m y => opdB T e m fun a => opdB T e y fun b => evMapEntryB T H t a b k
  | .entryStore _ m s v => opdB T e m fun a => opdB T e s fun b => opdB T e v fun c => evEntryStoreB H a b c k
  | .range t x => opdB T e x fun a => evRangeB T H t a k
  | .next x false => opdB T e x fun a => evNextB H a fun v => k v H
  | .call c => match c.callee with
    | .builtin .len => match c.argTypes.toList, c.args.toList with
      | [t], [x] => opdB T e x fun
        | .m id => match T.und t with
          | some (.map _ _) => evMapLenB H id fun v => k v H
          | _ => false
        | _ => evQB T H e op fun v => k v H
      | _, _ => false
    | .value f => opdB T e f fun g => opdsB T e c.args.toList fun xs => evCallVB T cb H g xs k
    | .builtin .append => match c.argTypes.toList, c.args.toList with
      | [t, u], [s, x] => opdB T e s fun a => opdB T e x fun b => evAppendB T H t u a b k
      | _, _ => false
    | .builtin .clear => match c.argTypes.toList, c.args.toList with
      | [t], [x] => opdB T e x fun a => evClearB T H t a k
      | _, _ => false
    | .builtin .copy => match c.argTypes.toList, c.args.toList with
      | [t, u], [d, x] => opdB T e d fun a => opdB T e x fun b => evCopyB T H t a b k
      | _, _ => false
    | _ => evQB T H e op fun v => k v H
  | _ => evQB T H e op fun v => k v H
theorem evEB_ok {T : Tab} {cb : CallB} (hcb : CallOK T cb) {H : AHeap} {e : Env} {op : Op} {k : AV → AHeap → Bool} (h : evEB T cb H e op k = true) : evE T H e op (fun v H' _ => k v H' = true) := by
  have quiet : evQB T H e op (fun v => k v H) = true → evQ T [] H e op (fun v => k v H = true) := fun h => evQB_ok h
  cases op
  case alloc => first | exact evAllocB_ok h | (simp only [*]; done) | (simp only [*]; exact evAllocB_ok h)
  case box => simp only [evEB, opdB_eq] at h; simp only [evE, opd_eq]; first | exact evBoxB_ok h | (simp only [*]; done) | (simp only [*]; exact evBoxB_ok h)
  case store => simp only [evEB, opdB_eq] at h; simp only [evE, opd_eq]; first | exact evStoreB_ok h | (simp only [*]; done) | (simp only [*]; exact evStoreB_ok h)
  case buildSlice => simp only [evEB, partsB_eq] at h; simp only [evE, partsK_eq]; first | exact evBuildSliceB_ok h | (simp only [*]; done) | (simp only [*]; exact evBuildSliceB_ok h)
  case makeSlice => simp only [evEB, opdB_eq] at h; simp only [evE, opd_eq]; first | exact evMakeSliceB_ok h | (simp only [*]; done) | (simp only [*]; exact evMakeSliceB_ok h)
  case makeMap t r =>
    cases r with
    | none => simp only [evEB, hpushB_eq] at h; simp only [evE, evMakeMap, hpush_eq]; first | exact h | (simp only [*]; done) | (simp only [*]; exact h)
    | some x => first | exact quiet h | (simp only [*]; done) | (simp only [*]; exact quiet h)
  case lookup => simp only [evEB, opdB_eq] at h; simp only [evE, opd_eq]; first | exact evLookupB_ok h | (simp only [*]; done) | (simp only [*]; exact evLookupB_ok h)
  case mapUpdate => simp only [evEB, opdB_eq] at h; simp only [evE, opd_eq]; first | exact evMapUpdateB_ok h | (simp only [*]; done) | (simp only [*]; exact evMapUpdateB_ok h)
  case insert => simp only [evEB, opdB_eq] at h; simp only [evE, opd_eq]; first | exact evMapUpdateB_ok h | (simp only [*]; done) | (simp only [*]; exact evMapUpdateB_ok h)
  case mapEntry => simp only [evEB, opdB_eq] at h; simp only [evE, opd_eq]; first | exact evMapEntryB_ok h | (simp only [*]; done) | (simp only [*]; exact evMapEntryB_ok h)
  case entryStore => simp only [evEB, opdB_eq] at h; simp only [evE, opd_eq]; first | exact evEntryStoreB_ok h | (simp only [*]; done) | (simp only [*]; exact evEntryStoreB_ok h)
  case range => simp only [evEB, opdB_eq] at h; simp only [evE, opd_eq]; first | exact evRangeB_ok h | (simp only [*]; done) | (simp only [*]; exact evRangeB_ok h)
  case next x b =>
    cases b with
    | false => simp only [evEB, opdB_eq] at h; simp only [evE, opd_eq]; first | exact evNextB_ok h | (simp only [*]; done) | (simp only [*]; exact evNextB_ok h)
    | true => first | exact quiet h | (simp only [*]; done) | (simp only [*]; exact quiet h)
  case call c =>
    obtain ⟨callee, args, ats⟩ := c
    cases callee with
    | invoke x n => first | exact quiet h | (simp only [*]; done) | (simp only [*]; exact quiet h)
    | value f =>
      simp only [evEB, opdB_eq, opdsB_eq] at h
      simp only [evE, opd_eq, opdsK_eq]
      first | exact evCallVB_ok hcb h | (simp only [*]; done) | (simp only [*]; exact evCallVB_ok hcb h)
    | builtin b =>
      cases b
      case len =>
        simp only [evEB] at h
        simp only [evE]
        split at h
        · rename_i h1 h2
          simp only [opdB_eq] at h
          simp only [h1, h2, opd_eq]
          split at h
          · rename_i hx
            split at h
            · rename_i hu
              try simp only [hx, hu]
              first | exact evMapLenB_ok h | (simp only [*]; done) | (simp only [*]; exact evMapLenB_ok h)
            · cases h
          · rename_i hx
            split
            · rename_i id hid; first | exact (hx id hid).elim | (simp only [*]; done) | (simp only [*]; exact (hx id hid).elim)
            · first | exact quiet h | (simp only [*]; done) | (simp only [*]; exact quiet h)
        · cases h
      case append =>
        simp only [evEB] at h
        simp only [evE]
        split at h
        · rename_i h1 h2
          simp only [opdB_eq] at h
          simp only [h1, h2, opd_eq]
          first | exact evAppendB_ok h | (simp only [*]; done) | (simp only [*]; exact evAppendB_ok h)
        · cases h
      case clear =>
        simp only [evEB] at h
        simp only [evE]
        split at h
        · rename_i h1 h2
          simp only [opdB_eq] at h
          simp only [h1, h2, opd_eq]
          first | exact evClearB_ok h | (simp only [*]; done) | (simp only [*]; exact evClearB_ok h)
        · cases h
      case copy =>
        simp only [evEB] at h
        simp only [evE]
        split at h
        · rename_i h1 h2
          simp only [opdB_eq] at h
          simp only [h1, h2, opd_eq]
          first | exact evCopyB_ok h | (simp only [*]; done) | (simp only [*]; exact evCopyB_ok h)
        · cases h
      all_goals first | exact quiet h | (simp only [*]; done) | (simp only [*]; exact quiet h)
  all_goals first | exact quiet h | (simp only [*]; done) | (simp only [*]; exact quiet h)
end Go.Ev
