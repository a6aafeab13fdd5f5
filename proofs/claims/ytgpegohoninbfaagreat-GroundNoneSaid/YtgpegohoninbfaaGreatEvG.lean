/- The mill, part G: addresses, indexes, slices. -/
import Derived.Test.YtgpegohoninbfaaGreatEvF
namespace Go.Ev
set_option linter.unusedVariables false
set_option linter.unusedSimpArgs false
open Go.RowKit
set_option linter.unusedVariables false
variable {A : Nat → Nat → Prop}

def evFieldAddr (T : Tab) (s : TypeId) (x : AV) (f : Nat) (k : AV → Prop) : Prop :=
  match T.und s with
  | some (.struct fs) => match fs.toList[f]? with
    | some fl => match T.inf fl.type with
      | some (s, _, _) => match Nat.beq s 0, x with
        | false, .p id sz i j => k (.p id sz i (j + fl.offset))
        | false, .rp n at_ => match Nat.ble fl.offset n with
          | true => k (.rp (n - fl.offset) (fun q => at_ (fl.offset + q)))
          | false => False
        | _, _ => False
      | none => False
    | none => False
  | _ => False

def evIndexAddr (T : Tab) (t : TypeId) (x y : AV) (k : AV → Prop) : Prop :=
  match y with
  | .g (.c (.int _ i)) => match T.und t with
    | some (.slice e) => match T.inf e with
      | some (s, _, _) => match x with
        | .g (.sl sz n at_) => match Nat.beq s sz, Nat.beq sz 0 with
          | true, false => (0 ≤ i ∧ i < n) ∧ k (.rp sz (fun j => at_ i.toNat j))
          | _, _ => False
        | .sl id sz off len _ => match Nat.beq s sz with
          | true => (0 ≤ i ∧ i < len) ∧ k (.p id sz (off + i.toNat) 0)
          | false => False
        | _ => False
      | none => False
    | some (.array len e) => match T.inf e with
      | some (s, _, _) => match x with
        | .p id sz i0 j => (0 ≤ i ∧ i < len) ∧ k (.p id sz i0 (j + i.toNat * s))
        | .rp n at_ => match Nat.ble (len * s) n with
          | true => (0 ≤ i ∧ i < len) ∧ k (.rp s (fun q => at_ (i.toNat * s + q)))
          | false => False
        | _ => False
      | none => False
    | _ => False
  | _ => False

def evIndex (T : Tab) (t : TypeId) (x y : AV) (k : AV → Prop) : Prop :=
  match y with
  | .g (.c (.int _ i)) => match T.und t, x with
    | some .string, .g (.c (.string s)) => (0 ≤ i ∧ i < s.size) ∧ k (vint .u8 (s[i.toNat]!).toNat)
    | some (.array len e), .agg cs => match T.inf e with
      | some (s, _, _) => match Nat.ble (len * s) cs.length with
        | true => (0 ≤ i ∧ i < len) ∧ evField T cs (i.toNat * s) e k
        | false => False
      | none => False
    | _, _ => False
  | _ => False

def optI : Option AV → Int → (Int → Prop) → Prop
  | none, d, k => k d
  | some (.g (.c (.int _ n))), _, k => k n
  | some _, _, _ => False

def isZero : Option AV → Bool
  | some (.g (.c (.int _ (.ofNat 0)))) => true
  | _ => false

/-- How far an owned slice may be sliced. -/
def room (H : AHeap) (id sz off len : Nat) (cap : Option Nat) : Nat :=
  match cap with
  | some k => k
  | none => match off with
    | 0 => match H[id]? with
      | some (.row _ sz' n _ _) => match Nat.beq sz sz' with
        | true => max len n
        | false => len
      | _ => len
    | _ => len
def roomK (H : AHeap) (id sz off len : Nat) (cap : Option Nat) (k : Nat → Prop) : Prop :=
  match cap with
  | some c => k c
  | none => match off with
    | 0 => match H[id]? with
      | some (.row _ sz' n _ _) => match Nat.beq sz sz' with
        | true => k (max len n)
        | false => k len
      | _ => k len
    | _ => k len
theorem roomK_eq (H : AHeap) (id sz off len : Nat) (cap : Option Nat) (k : Nat → Prop) : roomK H id sz off len cap k = k (room H id sz off len cap) := by
  unfold roomK room
  split
  · rfl
  · split
    · split
      · split <;> simp_all
      · rfl
    · rfl
theorem room_le {A : Nat → Nat → Prop} {r : List (Option Nat)} {H : AHeap} {w : World} (hi : Inv A r H w) {id sz off len c : Nat} {cap : Option Nat} {a : Option Addr} (hc : len ≤ c)
    (hx : (∃ b, (ctx A r H w).r[id]? = some (some b) ∧ a = some ⟨b, off * sz, none⟩ ∧
        (match cap with
         | some k => c = k
         | none => ∃ vs t f, (ctx A r H w).w.heap[b]? = some (.cells vs t f) ∧ vs.size = (off + c) * sz)) ∨
       (len = 0 ∧ c = 0 ∧ (∀ k, cap = some k → k = 0) ∧ ((ctx A r H w).r[id]? = some none ∨ 0 < off))) : room H id sz off len cap ≤ c := by
  unfold room
  cases cap with
  | some k =>
    rcases hx with ⟨b, _, _, e⟩ | ⟨_, e2, e3, _⟩
    · simp only at e ⊢; omega
    · have := e3 k rfl; simp only; omega
  | none =>
    simp only
    split
    · split
      · rename_i t sz' n at_ fz hH
        split
        · rename_i hb
          have := Nat.eq_of_beq_eq_true hb
          subst this
          rcases hx with ⟨b, hr, _, vs, t', f, h1, h2⟩ | ⟨e1, e2, _, hr⟩
          · obtain ⟨h0, us, k1, k2, _⟩ := hi.obj id _ _ hH hr
            have e : some (Obj.cells vs t' f) = some (Obj.cells us.toArray t (0, 0)) := h1.symm.trans k1
            cases e
            rw [Nat.zero_add] at h2
            have : n * sz ≤ c * sz := by rw [← h2]; simpa using k2
            have := Nat.le_of_mul_le_mul_right this h0
            omega
          · rcases hr with hr | hr
            · obtain ⟨_, h0⟩ := hi.obj id _ _ hH hr
              omega
            · omega
        · exact hc
      · exact hc
    · exact hc
def evSlice (T : Tab) (H : AHeap) (t : TypeId) (x : AV) (lo hi mx : Option AV) (k : AV → Prop) : Prop :=
  match T.und t, mx with
  | some .string, none => match x with
    | .g (.c (.string s)) => optI lo 0 fun l => optI hi s.size fun h => (0 ≤ l ∧ l ≤ h ∧ h ≤ s.size) ∧ k (vstr (s.extract l.toNat h.toNat))
    | _ => False
  | some (.slice e), none => match T.inf e with
    | some (s, _, _) => match x with
      | .g (.sl sz n at_) => match Nat.beq s sz with
        | true => optI lo 0 fun l => optI hi n fun h => (0 ≤ l ∧ l ≤ h ∧ h ≤ n) ∧ k (.g (.sl sz (h.toNat - l.toNat) (fun i j => at_ (l.toNat + i) j)))
        | false => False
      | .sl id sz off len cap => match Nat.beq s sz with
        | true => optI lo 0 fun l => optI hi len fun h => roomK H id sz off len cap fun R => (0 ≤ l ∧ l ≤ h ∧ h ≤ R) ∧ k (.sl id sz (off + l.toNat) (h.toNat - l.toNat) (cap.map (· - l.toNat)))
        | false => False
      | _ => False
    | none => False
  | some (.slice e), some m => match x with
    | .sl id sz off len cap => match T.inf e with
      | some (s, _, _) => match Nat.beq s sz, hi with
        | true, some _ => optI lo 0 fun l => optI hi 0 fun h => optI mx 0 fun m => roomK H id sz off len cap fun R => (0 ≤ l ∧ l ≤ h ∧ h ≤ m ∧ m ≤ R) ∧ k (.sl id sz (off + l.toNat) (h.toNat - l.toNat) (some (m.toNat - l.toNat)))
        | _, _ => False
      | none => False
    | x => match (lo.isNone || isZero lo) && isZero hi && isZero (some m), T.inf e with
      | true, some _ => match x with
        | .g (.sl _ _ _) => k .nz
        | .nz => k .nz
        | .g (.c (.slice none 0 0)) => k .nz
        | _ => False
      | _, _ => False
  | _, _ => False

section
variable {P : Program} {w : World}
/-- An optional bound: its value. -/
def Bd (o : Option Value) (d n : Nat) : Prop := (o = none ∧ n = d) ∨ ∃ kd, o = some (.int kd (n : Int))
theorem run_sliceBound_ok {kd : IntKind} {n y : Nat} {code : BoundsCode} (h : n ≤ y) : (Instr.sliceBound (.int kd (n : Int)) y code).run P w = .ok n w := by
  unfold Instr.sliceBound
  simp [asIntOf, h]
theorem run_sliceBounds_ok {isS : Bool} {len cap l h : Nat} {lo hi : Option Value} (hl : Bd lo 0 l) (hh : Bd hi len h) (h1 : l ≤ h) (h3 : h ≤ cap) :
    (Instr.sliceBounds isS len cap lo hi none).run P w = .ok (l, h, cap) w := by
  unfold Instr.sliceBounds
  rcases hl with ⟨rfl, rfl⟩ | ⟨kd, rfl⟩ <;> rcases hh with ⟨rfl, rfl⟩ | ⟨kd', rfl⟩
  · simp
  · simp [run_sliceBound_ok (show h ≤ cap by omega)]
  · simp [run_sliceBound_ok h1]
  · simp [run_sliceBound_ok (show h ≤ cap by omega), run_sliceBound_ok h1]
theorem run_sliceBounds_three {len cap l h m : Nat} {lo : Option Value} {k1 k2 : IntKind} (hl : Bd lo 0 l) (h1 : l ≤ h) (h2 : h ≤ m) (h3 : m ≤ cap) :
    (Instr.sliceBounds true len cap lo (some (.int k1 h)) (some (.int k2 m))).run P w = .ok (l, h, m) w := by
  unfold Instr.sliceBounds
  have e1 := @run_sliceBound_ok P w k1 h m .slice3B h2
  have e2 := @run_sliceBound_ok P w k2 m cap .slice3Acap h3
  rcases hl with ⟨rfl, rfl⟩ | ⟨kd, rfl⟩
  · simp_all
  · have e3 := @run_sliceBound_ok P w kd l h .slice3C h1
    simp_all
theorem run_sliceBounds_zero {len cap : Nat} {lo : Option Value} {k1 k2 : IntKind} (hl : Bd lo 0 0) :
    (Instr.sliceBounds true len cap lo (some (.int k1 0)) (some (.int k2 0))).run P w = .ok (0, 0, 0) w := by
  unfold Instr.sliceBounds
  have e1 := @run_sliceBound_ok P w k1 0 0 .slice3B (Nat.le_refl _)
  have e2 := @run_sliceBound_ok P w k2 0 cap .slice3Acap (Nat.zero_le _)
  rcases hl with ⟨rfl, _⟩ | ⟨kd, rfl⟩
  · simp_all
  · have e3 := @run_sliceBound_ok P w kd 0 0 .slice3C (Nat.le_refl _)
    simp_all
end

/-- What stands at an optional operand. -/
def OV (C : Ctx) : Option AV → Option Value → Prop
  | none, o => o = none
  | some x, o => ∃ v, o = some v ∧ RV C x v

theorem optI_bd {C : Ctx} {o : Option AV} {ov : Option Value} {d : Nat} {k : Int → Prop} (h : optI o d k) (ho : OV C o ov) : ∃ n : Int, k n ∧ (0 ≤ n → Bd ov d n.toNat) := by
  unfold optI at h
  split at h
  · simp only [OV] at ho
    exact ⟨_, h, fun _ => .inl ⟨ho, by simp⟩⟩
  · rename_i kd n
    simp only [OV, RV, RG] at ho
    obtain ⟨v, rfl, rfl⟩ := ho
    exact ⟨_, h, fun h0 => .inr ⟨kd, by rw [Int.toNat_of_nonneg h0]⟩⟩
  · exact h.elim

theorem isZero_ov {C : Ctx} {o : Option AV} {ov : Option Value} (h : isZero o = true) (ho : OV C o ov) : ∃ kd, ov = some (.int kd 0) := by
  unfold isZero at h
  split at h
  · rename_i kd
    simp only [OV, RV, RG] at ho
    obtain ⟨v, rfl, rfl⟩ := ho
    exact ⟨kd, rfl⟩
  · cases h

section
variable {T : Tab} (hT : T.OK) {C : Ctx} {S : World → Prop} {k : AV → Prop}
include hT

theorem yld_fieldAddr {s : TypeId} {x : AV} {v : Value} {f : Nat} (h : evFieldAddr T s x f k) (hx : RV C x v) : Yld T.P C S k (Instr.fieldAt s v f) := by
  unfold evFieldAddr at h
  split at h
  · rename_i fs hs
    have hP := hT.und _ _ hs
    split at h
    · rename_i fl hf
      have hf' : fs[f]? = some fl := by rw [← hf]; simp
      split at h
      · rename_i z _ _ hi
        split at h
        · rename_i id sz i j hz
          have hz' : z ≠ 0 := by intro e; subst e; simp at hz
          simp only [RV] at hx
          obtain ⟨b, hr, rfl⟩ := hx
          refine ⟨_, .pointer (some ⟨b, i * sz + (j + fl.offset), none⟩), h, by simp only [RV]; exact ⟨b, hr, rfl⟩, fun w _ => ?_⟩
          simp [Instr.fieldAt, run_underlying hP, hf', Instr.sureAddr, fieldPlace, run_size hT hi, hz', addr_add, Nat.add_assoc]
        · rename_i n at_ hz
          have hz' : z ≠ 0 := by intro e; subst e; simp at hz
          simp only [RV] at hx
          obtain ⟨b, o, rfl, hx⟩ := hx
          split at h
          · rename_i hle
            have hle' := Nat.le_of_ble_eq_true hle
            refine ⟨_, .pointer (some ⟨b, o + fl.offset, none⟩), h, ?_, fun w _ => ?_⟩
            · simp only [RV]
              refine ⟨b, o + fl.offset, rfl, fun j hj => ?_⟩
              have := hx (fl.offset + j) (by omega)
              rw [show o + fl.offset + j = o + (fl.offset + j) by omega]
              exact this
            · simp [Instr.fieldAt, run_underlying hP, hf', Instr.sureAddr, fieldPlace, run_size hT hi, hz', addr_add]
          · exact h.elim
        · exact h.elim
      · exact h.elim
    · exact h.elim
  · exact h.elim

theorem yld_indexAddr {t : TypeId} {x y : AV} {u v : Value} (h : evIndexAddr T t x y k) (hx : RV C x u) (hy : RV C y v) : Yld T.P C S k (Instr.indexAt t u v) := by
  unfold evIndexAddr at h
  split at h
  · rename_i kd i
    simp only [RV, RG] at hy
    subst hy
    split at h
    · rename_i e he
      have hP := hT.und _ _ he
      split at h
      · rename_i s _ _ hi
        split at h
        · rename_i sz n at_
          split at h
          · rename_i hs hz
            have hs' := Nat.eq_of_beq_eq_true hs
            subst hs'
            have hsz : s ≠ 0 := by intro e; subst e; simp at hz
            obtain ⟨⟨h0, h1⟩, h2⟩ := h
            simp only [RV, RG] at hx
            obtain ⟨a, c, rfl, _, _, hx⟩ := hx
            have hin : i.toNat < n := by omega
            obtain ⟨ad, _, rfl, e2, _⟩ := hx i.toNat hin 0 (by omega)
            obtain ⟨b, o, sp⟩ := ad
            simp only at e2
            subst e2
            refine ⟨_, .pointer (some ⟨b, o + i.toNat * s, none⟩), h2, ?_, fun w _ => ?_⟩
            · simp only [RV]
              refine ⟨b, o + i.toNat * s, rfl, fun j hj => ?_⟩
              obtain ⟨ad', v', e1, _, e3, e4, e5, e6⟩ := hx i.toNat hin j hj
              cases e1
              rw [Nat.add_assoc]
              exact ⟨v', e3, e4, e5, e6⟩
            · simp [Instr.indexAt, asIntOf, run_underlying hP, h0, h1, run_size hT hi, addr_add]
          · exact h.elim
        · rename_i id sz off len cap
          split at h
          · rename_i hs
            have hs' := Nat.eq_of_beq_eq_true hs
            subst hs'
            obtain ⟨⟨h0, h1⟩, h2⟩ := h
            simp only [RV] at hx
            obtain ⟨a, c, rfl, _, _, hx⟩ := hx
            rcases hx with ⟨b, hr, rfl, _⟩ | ⟨e, _, _⟩
            · refine ⟨_, .pointer (some ⟨b, (off + i.toNat) * s + 0, none⟩), h2, by simp only [RV]; exact ⟨b, hr, rfl⟩, fun w _ => ?_⟩
              simp [Instr.indexAt, asIntOf, run_underlying hP, h0, h1, run_size hT hi, addr_add, Nat.add_mul]
            · omega
          · exact h.elim
        · exact h.elim
      · exact h.elim
    · rename_i len e he
      have hP := hT.und _ _ he
      split at h
      · rename_i s _ _ hi
        split at h
        · rename_i id sz i0 j
          obtain ⟨⟨h0, h1⟩, h2⟩ := h
          simp only [RV] at hx
          obtain ⟨b, hr, rfl⟩ := hx
          refine ⟨_, .pointer (some ⟨b, i0 * sz + (j + i.toNat * s), none⟩), h2, by simp only [RV]; exact ⟨b, hr, rfl⟩, fun w _ => ?_⟩
          simp [Instr.indexAt, asIntOf, run_underlying hP, h0, h1, run_size hT hi, addr_add, Instr.sureAddr, Nat.add_assoc]
        · rename_i n at_
          split at h
          · rename_i hle
            have hle' := Nat.le_of_ble_eq_true hle
            obtain ⟨⟨h0, h1⟩, h2⟩ := h
            simp only [RV] at hx
            obtain ⟨b, o, rfl, hx⟩ := hx
            refine ⟨_, .pointer (some ⟨b, o + i.toNat * s, none⟩), h2, ?_, fun w _ => ?_⟩
            · simp only [RV]
              refine ⟨b, o + i.toNat * s, rfl, fun j hj => ?_⟩
              have hlt : i.toNat * s + j < len * s := by
                have : i.toNat + 1 ≤ len := by omega
                have := Nat.mul_le_mul_right s this
                rw [Nat.add_mul] at this
                omega
              have := hx (i.toNat * s + j) (by omega)
              rw [show o + i.toNat * s + j = o + (i.toNat * s + j) by omega]
              exact this
            · simp [Instr.indexAt, asIntOf, run_underlying hP, h0, h1, run_size hT hi, addr_add, Instr.sureAddr]
          · exact h.elim
        · exact h.elim
      · exact h.elim
    · exact h.elim
  · exact h.elim

theorem yld_index {t : TypeId} {x y : AV} {u v : Value} (h : evIndex T t x y k) (hx : RV C x u) (hy : RV C y v) : Yld T.P C S k (Instr.index t u v) := by
  unfold evIndex at h
  split at h
  · rename_i kd i
    simp only [RV, RG] at hy
    subst hy
    split at h
    · rename_i s he
      have hP := hT.und _ _ he
      simp only [RV, RG] at hx
      subst hx
      obtain ⟨⟨h0, h1⟩, h2⟩ := h
      refine Yld.exact_ _ h2 fun w _ => ?_
      have hlt : i.toNat < s.size := by omega
      simp [Instr.index, asIntOf, run_underlying hP, h0, getElem?_pos s i.toNat hlt, getElem!_pos s i.toNat hlt]
    · rename_i len e cs he
      have hP := hT.und _ _ he
      simp only [RV] at hx
      obtain ⟨us, rfl, hu⟩ := hx
      split at h
      · rename_i s _ _ hi
        split at h
        · obtain ⟨⟨h0, h1⟩, h2⟩ := h
          obtain ⟨a, v, e1, e2, e3⟩ := yld_part hT (S := S) h2 hu
          exact ⟨a, v, e1, e2, fun w hw => by simp [Instr.index, asIntOf, run_underlying hP, h0, h1, run_size hT hi, e3 w hw]⟩
        · exact h.elim
      · exact h.elim
    · exact h.elim
  · exact h.elim

theorem yld_slice {r : List (Option Nat)} {H : AHeap} {w : World} (hinv : Inv A r H w) {t : TypeId} {x : AV} {u : Value} {lo hi mx : Option AV} {vlo vhi vmx : Option Value} (h : evSlice T H t x lo hi mx k) (hx : RV (ctx A r H w) x u) (hlo : OV (ctx A r H w) lo vlo) (hhi : OV (ctx A r H w) hi vhi) (hmx : OV (ctx A r H w) mx vmx) :
    Yld T.P (ctx A r H w) S k (Instr.sliceAt t u vlo vhi vmx) := by
  unfold evSlice at h
  split at h
  · rename_i he
    have hP := hT.und _ _ he
    simp only [OV] at hmx
    subst hmx
    split at h
    · rename_i s
      simp only [RV, RG] at hx
      subst hx
      obtain ⟨l, h, hl⟩ := optI_bd (d := 0) h hlo
      obtain ⟨q, h, hq⟩ := optI_bd h hhi
      obtain ⟨⟨h0, h1, h2⟩, h3⟩ := h
      refine Yld.exact_ _ h3 fun w _ => ?_
      have hb := run_sliceBounds_ok (P := T.P) (w := w) (isS := false) (cap := s.size) (hl h0) (hq (by omega)) (by omega) (by omega)
      simp [Instr.sliceAt, Instr.slice, run_underlying hP, hb]
    · exact h.elim
  · rename_i e he
    have hP := hT.und _ _ he
    simp only [OV] at hmx
    subst hmx
    split at h
    · rename_i s _ _ hi
      split at h
      · rename_i sz n at_
        split at h
        · rename_i hs
          have hs' := Nat.eq_of_beq_eq_true hs
          subst hs'
          simp only [RV, RG] at hx
          obtain ⟨a, c, rfl, hc, hc', hx⟩ := hx
          obtain ⟨l, h, hl⟩ := optI_bd (d := 0) h hlo
          obtain ⟨q, h, hq⟩ := optI_bd h hhi
          obtain ⟨⟨h0, h1, h2⟩, h3⟩ := h
          have hb := fun w => run_sliceBounds_ok (P := T.P) (w := w) (isS := true) (cap := c) (hl h0) (hq (by omega)) (by omega) (by omega)
          refine ⟨_, .slice (if c = l.toNat then a else a.map (·.add (l.toNat * s))) (q.toNat - l.toNat) (c - l.toNat), h3, ?_, fun w _ => ?_⟩
          · simp only [RV, RG]
            refine ⟨_, _, rfl, by omega, by omega, fun i hi' j hj => ?_⟩
            obtain ⟨ad, v, rfl, e2, e3, e4, e5, e6⟩ := hx (l.toNat + i) (by omega) j hj
            have hcl : ¬ c = l.toNat := by omega
            obtain ⟨b, o, sp⟩ := ad
            simp only at e2
            subst e2
            refine ⟨⟨b, o + l.toNat * s, none⟩, v, by simp [hcl, addr_add], rfl, ?_, e4, ?_, e6⟩
            · show (ctx A r H w).w.cell? ⟨b, o + l.toNat * s + (i * s + j), none⟩ = some v
              rw [show o + l.toNat * s + (i * s + j) = o + ((l.toNat + i) * s + j) by rw [Nat.add_mul]; omega]
              exact e3
            · show ¬ (ctx A r H w).wr b (o + l.toNat * s + (i * s + j))
              rw [show o + l.toNat * s + (i * s + j) = o + ((l.toNat + i) * s + j) by rw [Nat.add_mul]; omega]
              exact e5
          · simp [Instr.sliceAt, Instr.slice, run_underlying hP, hb w, run_size hT hi]
        · exact h.elim
      · rename_i id sz off len cap
        split at h
        · rename_i hs
          have hs' := Nat.eq_of_beq_eq_true hs
          subst hs'
          simp only [RV] at hx
          obtain ⟨a, c, rfl, hc, hc', hx⟩ := hx
          have hroom := room_le hinv hc hx
          obtain ⟨l, h, hl⟩ := optI_bd (d := 0) h hlo
          obtain ⟨q, h, hq⟩ := optI_bd h hhi
          rw [roomK_eq] at h
          obtain ⟨⟨h0, h1, h2⟩, h3⟩ := h
          have hb := fun w => run_sliceBounds_ok (P := T.P) (w := w) (isS := true) (cap := c) (hl h0) (hq (by omega)) (by omega) (by omega)
          refine ⟨_, .slice (if c = l.toNat then a else a.map (·.add (l.toNat * s))) (q.toNat - l.toNat) (c - l.toNat), h3, ?_, fun w _ => ?_⟩
          · simp only [RV]
            refine ⟨_, _, rfl, by omega, by omega, ?_⟩
            by_cases hl0 : l.toNat = 0
            · rw [hl0]
              rcases hx with ⟨b, hr, rfl, hcap⟩ | ⟨e1, e2, e3, e4⟩
              · refine .inl ⟨b, hr, by split <;> simp [addr_add], ?_⟩
                cases cap with
                | some kk => simp only at hcap; simp [hcap]
                | none => simpa using hcap
              · refine .inr ⟨by omega, by omega, fun kk hk => ?_, by simpa using e4⟩
                cases cap with
                | none => cases hk
                | some k' => simp only [Option.map_some, Option.some.injEq] at hk; have := e3 k' rfl; omega
            · by_cases hcl : c = l.toNat
              · refine .inr ⟨by omega, by omega, fun kk hk => ?_, .inr (by omega)⟩
                cases cap with
                | none => cases hk
                | some k' =>
                  simp only [Option.map_some, Option.some.injEq] at hk
                  rcases hx with ⟨b, hr, rfl, hcap⟩ | ⟨e1, e2, e3, _⟩
                  · simp only at hcap; omega
                  · have := e3 k' rfl; omega
              · rcases hx with ⟨b, hr, rfl, hcap⟩ | ⟨e1, e2, _⟩
                · refine .inl ⟨b, hr, by simp [hcl, addr_add, Nat.add_mul], ?_⟩
                  cases cap with
                  | some kk => simp only at hcap; simp [hcap]
                  | none =>
                    obtain ⟨vs, t', f, d1, d2⟩ := hcap
                    refine ⟨vs, t', f, d1, ?_⟩
                    rw [d2]; congr 1; omega
                · omega
          · simp [Instr.sliceAt, Instr.slice, run_underlying hP, hb w, run_size hT hi]
        · exact h.elim
      · exact h.elim
    · exact h.elim
  · rename_i e m he
    have hP := hT.und _ _ he
    split at h
    · rename_i id sz off len cap
      split at h
      · rename_i s _ _ hi
        split at h
        · rename_i hv hs
          have hs' := Nat.eq_of_beq_eq_true hs
          subst hs'
          simp only [RV] at hx
          obtain ⟨a, c, rfl, hc, hc', hx⟩ := hx
          have hroom := room_le hinv hc hx
          obtain ⟨l, h, hl⟩ := optI_bd (d := 0) h hlo
          obtain ⟨q, h, hq⟩ := optI_bd (d := 0) h hhi
          obtain ⟨y, h, hy⟩ := optI_bd (d := 0) h hmx
          rw [roomK_eq] at h
          obtain ⟨⟨h0, h1, h2, h2'⟩, h3⟩ := h
          obtain ⟨k1, rfl⟩ : ∃ k1, vhi = some (.int k1 q.toNat) := by
            rcases hq (by omega) with ⟨e1, _⟩ | h
            · simp only [OV] at hhi; obtain ⟨v, e2, _⟩ := hhi; rw [e1] at e2; cases e2
            · exact h
          obtain ⟨k2, rfl⟩ : ∃ k2, vmx = some (.int k2 y.toNat) := by
            rcases hy (by omega) with ⟨e1, _⟩ | h
            · simp only [OV] at hmx; obtain ⟨v, e2, _⟩ := hmx; rw [e1] at e2; cases e2
            · exact h
          have hb := fun w => run_sliceBounds_three (P := T.P) (w := w) (len := len) (cap := c) (k1 := k1) (k2 := k2) (h := q.toNat) (m := y.toNat) (hl h0) (by omega) (by omega) (by omega)
          refine ⟨_, .slice (if y.toNat = l.toNat then a else a.map (·.add (l.toNat * s))) (q.toNat - l.toNat) (y.toNat - l.toNat), h3, ?_, fun w _ => ?_⟩
          · simp only [RV]
            refine ⟨_, _, rfl, by omega, by omega, ?_⟩
            by_cases hl0 : l.toNat = 0
            · rw [hl0]
              rcases hx with ⟨b, hr, rfl, hcap⟩ | ⟨e1, e2, e3, e4⟩
              · exact .inl ⟨b, hr, by split <;> simp [addr_add], rfl⟩
              · exact .inr ⟨by omega, by omega, fun kk hk => by simp only [Option.some.injEq] at hk; omega, by simpa using e4⟩
            · by_cases hcl : y.toNat = l.toNat
              · exact .inr ⟨by omega, by omega, fun kk hk => by simp only [Option.some.injEq] at hk; omega, .inr (by omega)⟩
              · rcases hx with ⟨b, hr, rfl, hcap⟩ | ⟨e1, e2, _⟩
                · exact .inl ⟨b, hr, by simp [hcl, addr_add, Nat.add_mul], rfl⟩
                · omega
          · simp only [Instr.sliceAt, Sem.run_bind, run_underlying hP, Result.andThen_ok, Instr.slice, hb w, run_size hT hi]
            simp
        · exact h.elim
      · exact h.elim
    split at h
    · rename_i q hz hi
      obtain ⟨s, b0, z0⟩ := q
      simp only [Bool.and_eq_true, Bool.or_eq_true] at hz
      obtain ⟨⟨z1, z2⟩, z3⟩ := hz
      obtain ⟨k2, rfl⟩ := isZero_ov z3 hmx
      obtain ⟨k1, rfl⟩ := isZero_ov z2 hhi
      have hl : Bd vlo 0 0 := by
        rcases z1 with z1 | z1
        · cases lo with
          | none => simp only [OV] at hlo; exact .inl ⟨hlo, rfl⟩
          | some _ => simp at z1
        · obtain ⟨k0, rfl⟩ := isZero_ov z1 hlo
          exact .inr ⟨k0, rfl⟩
      have fin : ∀ (a : Option Addr) (n c : Nat), k .nz → Yld T.P (ctx A r H w) S k (Instr.sliceAt t (.slice a n c) vlo (some (.int k1 0)) (some (.int k2 0))) := by
        intro a n c hk
        refine ⟨_, .slice a 0 0, hk, by simp only [RV]; exact ⟨a, rfl⟩, fun w _ => ?_⟩
        have hb := run_sliceBounds_zero (P := T.P) (w := w) (len := n) (cap := c) (k1 := k1) (k2 := k2) hl
        simp only [Instr.sliceAt, Sem.run_bind, run_underlying hP, Result.andThen_ok, Instr.slice, hb, run_size hT hi]
        simp
      split at h
      · simp only [RV, RG] at hx
        obtain ⟨a, c, rfl, _⟩ := hx
        exact fin _ _ _ h
      · simp only [RV] at hx
        obtain ⟨a, rfl⟩ := hx
        exact fin _ _ _ h
      · simp only [RV, RG] at hx
        subst hx
        exact fin _ _ _ h
      · exact h.elim
    · exact h.elim
  · exact h.elim
end
end Go.Ev
