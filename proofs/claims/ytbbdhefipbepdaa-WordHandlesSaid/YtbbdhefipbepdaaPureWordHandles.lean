/- The pure law of WordHandles: for all numbers the printed law function answers true. -/
import Derived.Test.YtbbdhefipbepdaaPWordHandlesx4
namespace Go.Proofs.Ytbbdhefipbepdaa.Pure
open Go.RowKit Go.Proofs.Ytbbdhefipbepdaa.PWordHandles Go.Proofs.YtbbdhefipbepdaaW.PrintWords Go.Proofs.YtbbdhefipbepdaaW.PrintLast

def kindS (r t i : Int) : Int := if i < -16 then 0 else if t ≥ 0 then 3 else if r = 0 ∧ t = -1 then 1 else if r = 0 ∧ t = -2 then 2 else 0

theorem kind_word (k : Nat) (r t i : Int) : word_Kind.f (k + 2) r t i = some (kindS r t i, if kindS r t i = 0 then 4 else 0) := by
  unfold word_Kind.f kindS
  by_cases h1 : i < -16
  · simp [h1]
  · by_cases h2 : t = -1
    · subst h2
      by_cases h3 : r = 0 <;> simp [h1, h3, word_Kind.j0, word_Kind.j1]
    · by_cases h4 : t = -2
      · subst h4
        by_cases h3 : r = 0 <;> simp [h1, h3, word_Kind.j0, word_Kind.j1]
      · by_cases h5 : t ≥ 0
        · simp [h1, h2, h4, h5, word_Kind.j0, word_Kind.j1]
        · simp [h1, h2, h4, h5, word_Kind.j0, word_Kind.j1]

theorem kind_ref (k : Nat) (r t i : Int) : boscageref11_Kind.f (k + 1) r t i = some (kindS r t i) := by
  unfold boscageref11_Kind.f kindS
  by_cases h1 : i < -16
  · simp [h1]
  · by_cases h5 : t ≥ 0
    · simp [h1, h5]
    · by_cases h3 : r = 0
      · by_cases h2 : t = -1
        · simp [h1, h3, h2, boscageref11_Kind.j0]
        · by_cases h4 : t = -2 <;> simp [h1, h5, h3, h2, h4, boscageref11_Kind.j0]
      · simp [h1, h5, h3, boscageref11_Kind.j0]

def mayS (kind id version : Int) : Bool := decide (1 ≤ kind ∧ kind ≤ 3 ∧ -16 ≤ id ∧ (kind = 3 → 0 ≤ version))
def handS (kind id r version : Int) : Int × Int × Int := if mayS kind id version then (if kind = 3 then (r, version, id) else (0, -kind, id)) else (0, 0, 0)

theorem hand_word (kind id r v : Int) : word_Handle.f kind id r v = some ((handS kind id r v).1, (handS kind id r v).2.1, (handS kind id r v).2.2, if mayS kind id v then 0 else 2) := by
  unfold word_Handle.f handS mayS
  by_cases h0 : id < -16
  · have : ¬ (-16 ≤ id) := by omega
    simp [h0, this]
  · have h0' : -16 ≤ id := by omega
    by_cases h1 : kind = 1
    · simp [h0, h0', h1]
    · by_cases h2 : kind = 2
      · simp [h0, h0', h2]
      · by_cases h3 : kind = 3
        · by_cases h4 : v ≥ 0 <;> simp [h0, h0', h3, h4]
        · have hm : decide (1 ≤ kind ∧ kind ≤ 3 ∧ -16 ≤ id ∧ (kind = 3 → 0 ≤ v)) = false := decide_eq_false (by omega)
          rw [hm]
          simp [h0, h1, h2, h3]

theorem hand_ref (k : Nat) (kind id r v : Int) (hw : (Lit.int .i64 kind).wf = true) : boscageref11_Handle.f (k + 1) kind id r v = some ((handS kind id r v).1, (handS kind id r v).2.1, (handS kind id r v).2.2, mayS kind id v) := by
  unfold boscageref11_Handle.f handS
  have e : ∀ b, boscageref11_Handle.j0 (k + 1) kind id r v b = if b = true then some (0, 0, 0, false) else if kind = 3 then some (r, v, id, true) else some (0, wrap64 (- kind), id, true) := by
    intro b; rfl
  simp only [e]
  by_cases h : (1 ≤ kind ∧ kind ≤ 3 ∧ -16 ≤ id ∧ (kind = 3 → 0 ≤ v))
  · have hm : mayS kind id v = true := by unfold mayS; exact decide_eq_true h
    obtain ⟨a1, a2, a3, a4⟩ := h
    rw [hm]
    have b1 : ¬ kind < 1 := by omega
    have b2 : ¬ kind > 3 := by omega
    have b3 : ¬ id < -16 := by omega
    by_cases h3 : kind = 3
    · have := a4 h3
      have b4 : ¬ v < 0 := by omega
      subst h3
      simp [b3, b4]
    · have : wrap64 (-kind) = -kind := by unfold wrap64; omega
      simp [b1, b2, b3, h3, this]
  · have hm : mayS kind id v = false := by unfold mayS; exact decide_eq_false h
    rw [hm]
    by_cases b1 : kind < 1
    · simp [b1]
    by_cases b2 : kind > 3
    · simp [b2]
    by_cases b3 : id < -16
    · simp [b1, b2, b3]
    have h3 : kind = 3 := by omega
    have b4 : v < 0 := by omega
    subst h3
    simp [b3, b4]

theorem many_word (n : Int) : word_many.f n = some (decide (1 ≤ n ∧ n ≤ 16)) := by
  unfold word_many.f
  by_cases h : n ≥ 1
  · have : 1 ≤ n := h
    simp [this]
  · have : ¬ 1 ≤ n := by omega
    simp [this]
theorem many_ref (n : Int) : boscageref11_Many.f n = some (decide (1 ≤ n ∧ n ≤ 16)) := by
  unfold boscageref11_Many.f
  by_cases h : n ≥ 1
  · have : 1 ≤ n := h
    simp [this]
  · have : ¬ 1 ≤ n := by omega
    simp [this]

theorem works_true : boscagelaw11_works.f 10 = some true := by decide +kernel

theorem WordHandles (a0 a1 a2 a3 b0 b1 b2 : Int) (w0 : (Lit.int .i64 a0).wf = true) : ∃ k, boscagelaw11_WordHandles.f k a0 a1 a2 a3 b0 b1 b2 = some true := by
  refine ⟨12, ?_⟩
  unfold boscagelaw11_WordHandles.f
  rw [hand_word, Option.bind_some, hand_ref _ _ _ _ _ w0, Option.bind_some, kind_word, Option.bind_some]
  unfold word_First.f
  rw [many_word, many_ref]
  simp only [Option.bind_some]
  have fin : ∀ (x20 : Bool) (x18 y0 y1 y2 z0 z1 z2 : Int), (y0, y1, y2) = (z0, z1, z2) → x18 = (if x20 then 0 else 2) →
      boscagelaw11_WordHandles.j1 11 (if mayS a0 a1 a3 = true then 0 else 2) (mayS a0 a1 a3) (kindS b0 b1 b2) (if kindS b0 b1 b2 = 0 then 4 else 0) x18 x20 b0 b1 b2 (handS a0 a1 a2 a3).1 (handS a0 a1 a2 a3).2.1 (handS a0 a1 a2 a3).2.2 (handS a0 a1 a2 a3).1 (handS a0 a1 a2 a3).2.1 (handS a0 a1 a2 a3).2.2 y0 y1 y2 z0 z1 z2 = some true := by
    intro x20 x18 y0 y1 y2 z0 z1 z2 hy hx
    simp only [Prod.mk.injEq] at hy
    obtain ⟨rfl, rfl, rfl⟩ := hy
    subst hx
    show (if _ then _ else _) = _
    rw [if_pos (by simp)]
    unfold boscagelaw11_err.f
    rw [kind_ref]
    simp only [Option.bind_some]
    have hk : (if kindS b0 b1 b2 = 0 then (4 : Int) else 0) = (if decide (kindS b0 b1 b2 > 0) = true then 0 else 4) := by
      have : 0 ≤ kindS b0 b1 b2 := by unfold kindS; split; omega; split; omega; split; omega; split <;> omega
      by_cases h : kindS b0 b1 b2 = 0
      · simp [h]
      · have : kindS b0 b1 b2 > 0 := by omega
        simp [h, this]
    have hb : ∀ b : Bool, (if b = true then some (0 : Int) else some 2) = some (if b = true then 0 else 2) := by intro b; cases b <;> rfl
    have hb4 : ∀ b : Bool, (if b = true then some (0 : Int) else some 4) = some (if b = true then 0 else 4) := by intro b; cases b <;> rfl
    simp only [hb, hb4, Option.bind_some, hk, if_true, works_true, BEq.rfl, Bool.and_self]
  have hj0 : ∀ (x12 : Int) x14 x15 x16 x18 x20 u0 u1 u2 v0 v1 v2 s0 s1 s2 y0 y1 y2 z0 z1 z2, boscagelaw11_WordHandles.j0 12 a0 a1 x12 x14 x15 x16 x18 x20 u0 u1 u2 v0 v1 v2 s0 s1 s2 y0 y1 y2 z0 z1 z2
    = if x20 = true then ((boscageref11_Handle.f 11 1 (wrap64 (a1 - a0)) 0 0).bind fun bt144 => (boscagelaw11_WordHandles.j1 11 x12 x14 x15 x16 x18 x20 u0 u1 u2 v0 v1 v2 s0 s1 s2 y0 y1 y2 bt144.1 bt144.2.1 bt144.2.2.1)) else (boscagelaw11_WordHandles.j1 11 x12 x14 x15 x16 x18 x20 u0 u1 u2 v0 v1 v2 s0 s1 s2 y0 y1 y2 z0 z1 z2) := by
    intros; rfl
  by_cases hm : 1 ≤ a0 ∧ a0 ≤ 16
  · simp only [hm, decide_true, if_true, and_self]
    by_cases h1 : a1 < 0
    · have : ¬ a1 ≥ 0 := by omega
      simp only [h1, this, if_true, if_false, hj0, Option.bind_some, Bool.false_eq_true]
      exact fin _ _ _ _ _ _ _ _ rfl rfl
    · have h1' : a1 ≥ 0 := by omega
      by_cases h2 : a1 ≥ a0
      · have : ¬ a1 < a0 := by omega
        simp only [h1, h1', h2, this, if_true, if_false, hj0, Option.bind_some, Bool.false_eq_true, decide_false]
        exact fin _ _ _ _ _ _ _ _ rfl rfl
      · have h3 : a1 < a0 := by omega
        have hww : (Lit.int .i64 1).wf = true := by decide
        have hmay : mayS 1 (wrap64 (a1 - a0)) 0 = true := by
          unfold mayS; apply decide_eq_true
          have : wrap64 (a1 - a0) = a1 - a0 := by unfold wrap64; omega
          omega
        simp only [h1, h1', h2, h3, if_true, if_false, hj0, Option.bind_some, decide_true, hand_ref _ _ _ _ _ hww, hand_word, hmay]
        exact fin _ _ _ _ _ _ _ _ rfl rfl
  · simp only [hm, decide_false, if_false, Bool.false_eq_true, hj0, Option.bind_some]
    exact fin _ _ _ _ _ _ _ _ rfl rfl
end Go.Proofs.Ytbbdhefipbepdaa.Pure
