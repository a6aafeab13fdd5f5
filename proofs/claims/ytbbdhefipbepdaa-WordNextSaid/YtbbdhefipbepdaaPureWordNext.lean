/- The pure law of WordNext: for all numbers the printed law function answers true. -/
import Derived.Test.YtbbdhefipbepdaaPWordNextx3
namespace Go.Proofs.Ytbbdhefipbepdaa.Pure.Next
open Go.RowKit Go.Proofs.Ytbbdhefipbepdaa.PWordNext Go.Proofs.YtbbdhefipbepdaaW.PrintWords Go.Proofs.YtbbdhefipbepdaaW.PrintLast

def kindS (r t i : Int) : Int := if i < -16 then 0 else if t ≥ 0 then 3 else if r = 0 ∧ t = -1 then 1 else if r = 0 ∧ t = -2 then 2 else 0

theorem kind_word (k : Nat) (r t i : Int) : word_Kind.f (k + 2) r t i = some (kindS r t i, if kindS r t i = 0 then 4 else 0) := by
  unfold word_Kind.f kindS
  by_cases h1 : i < -16
  · simp [h1]
  · by_cases h2 : t = -1
    · subst h2
      by_cases h3 : r = 0 <;> simp [h1, h3, word_Kind.j0, word_Kind.j1]
    · by_cases h4 : t = -2
      · subst h4
        by_cases h3 : r = 0 <;> simp [h1, h3, word_Kind.j0, word_Kind.j1]
      · by_cases h5 : t ≥ 0
        · simp [h1, h2, h4, h5, word_Kind.j0, word_Kind.j1]
        · simp [h1, h2, h4, h5, word_Kind.j0, word_Kind.j1]

theorem kind_ref (k : Nat) (r t i : Int) : boscageref11_Kind.f (k + 1) r t i = some (kindS r t i) := by
  unfold boscageref11_Kind.f kindS
  by_cases h1 : i < -16
  · simp [h1]
  · by_cases h5 : t ≥ 0
    · simp [h1, h5]
    · by_cases h3 : r = 0
      · by_cases h2 : t = -1
        · simp [h1, h3, h2, boscageref11_Kind.j0]
        · by_cases h4 : t = -2 <;> simp [h1, h5, h3, h2, h4, boscageref11_Kind.j0]
      · simp [h1, h5, h3, boscageref11_Kind.j0]

theorem many_same : boscageref11_Many.f = word_many.f := rfl

theorem next_same (k : Nat) (a b c h : Int) : boscageref11_Next.f (k + 2) a b c h = word_Next.f (k + 2) a b c h := by
  unfold word_Next.f boscageref11_Next.f
  rw [many_same]
  congr 1
  funext t
  cases t
  · rfl
  · simp only [if_true, kind_word, kind_ref, Option.bind_some]
    by_cases e : kindS a b c = 0 <;> simp [e]

theorem place_same (a h : Int) : boscageref11_Place.f a h = word_Place.f a h := rfl

theorem works_true : boscagelaw11_works.f 10 = some true := by decide +kernel

theorem many_tells (n : Int) : word_many.f n = some (decide (1 ≤ n ∧ n ≤ 16)) := by
  unfold word_many.f
  by_cases h : n ≥ 1
  · have : 1 ≤ n := h
    simp [this]
  · have : ¬ 1 ≤ n := by omega
    simp [this]

theorem next_tells (a b c h : Int) : ∃ r, word_Next.f 10 a b c h = some r := by
  unfold word_Next.f
  rw [many_tells, Option.bind_some, kind_word]
  simp only [Option.bind_some]
  repeat' (first | exact ⟨_, rfl⟩ | split)

theorem place_tells (a h : Int) : ∃ r, word_Place.f a h = some r := by
  unfold word_Place.f
  rw [many_tells, Option.bind_some]
  split
  · exact ⟨_, rfl⟩
  · split
    · rename_i hh
      have := of_decide_eq_true hh
      rw [if_neg (by omega)]
      exact ⟨_, rfl⟩
    · exact ⟨_, rfl⟩

theorem WordNext (b0 b1 b2 a1 a2 : Int) : ∃ k, boscagelaw11_WordNext.f k b0 b1 b2 a1 a2 = some true := by
  refine ⟨10, ?_⟩
  obtain ⟨r, hr⟩ := next_tells b0 b1 b2 a2
  obtain ⟨p, hp⟩ := place_tells a1 a2
  unfold boscagelaw11_WordNext.f
  rw [next_same 8, place_same, hr, hp, works_true]
  simp
end Go.Proofs.Ytbbdhefipbepdaa.Pure.Next
