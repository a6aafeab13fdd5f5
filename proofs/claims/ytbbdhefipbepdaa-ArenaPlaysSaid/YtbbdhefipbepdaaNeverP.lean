/- ArenaNever, the plain part: what holds of the live references and of those that are gone, and how Take and Free keep it. -/
import Derived.Test.YtbbdhefipbepdaaArenaIntC
namespace Go.Proofs.Ytbbdhefipbepdaa.Never
set_option linter.unusedSimpArgs false
set_option linter.unusedVariables false
open Go.Proofs.Ytbbdhefipbepdaa.Refs Go.Proofs.Ytbbdhefipbepdaa.ArenaM Go.Proofs.Ytbbdhefipbepdaa.ArenaInt

/-- A reference that was freed. -/
def Gone (A : AM Int) (r : Int) : Prop := ∃ (c i : Nat), r = (c : Int) * 1024 + ((i : Int) + 1) ∧ i < 5 ∧ 1 ≤ c ∧ c ≤ A.inc i ∧ (A.us i = true → c < A.inc i)
structure PI (A : AM Int) (S : List Nat) (Ls Gs : List Int) : Prop where
  n5 : A.n = 5
  ls : Ls = S.map A.ref
  nd : S.Nodup
  us : ∀ i, i ∈ S ↔ A.us i = true
  used : A.used = S.length
  gone : ∀ r, r ∈ Gs → Gone A r

theorem Gone.dead {A : AM Int} {M : Nat} (ok : A.Ok M) (hM : M ≤ 4503599627370496) {r : Int} (h : Gone A r) : A.Dead r := by
  obtain ⟨c, i, rfl, hi, h1, h2, h3⟩ := h
  have hc : c ≤ 4503599627370496 := Nat.le_trans h2 (Nat.le_trans (ok.inc_le i) hM)
  intro j hl
  have hs := hl.slot
  rw [slot_made i c (by omega) h1 hc] at hs
  have hji : j = i := by omega
  subst hji
  have hc2 := hl.inc
  rw [inc_made j c (by omega) h1 hc] at hc2
  have := h3 hl.us
  omega

theorem PI.len {A : AM Int} {M : Nat} {S : List Nat} {Ls Gs : List Int} (ok : A.Ok M) (h : PI A S Ls Gs) : Ls.length = S.length ∧ S.length ≤ 5 := by
  refine ⟨by rw [h.ls]; simp, ?_⟩
  have : S.length ≤ (List.range 5).length := List.Nodup.length_le_of_subset h.nd fun i hi => by
    have := ok.us_lt i ((h.us i).1 hi)
    have := ok.begun_le
    have := h.n5
    exact List.mem_range.2 (by omega)
  simpa using this

theorem next_unused {A : AM Int} {M : Nat} (ok : A.Ok M) {i : Nat} (h : nextI A = some i) : A.us i = false := by
  rcases next_cases A with ⟨hf, hb, hn, ht⟩ | ⟨_, _, hn⟩ | ⟨l, j, hf, hn, ht⟩
  · rw [hn] at h; obtain rfl := Option.some.inj h
    cases hu : A.us A.begun with
    | false => rfl
    | true => have := ok.us_lt _ hu; omega
  · rw [hn] at h; cases h
  · rw [hn] at h; obtain rfl := Option.some.inj h; exact (ok.freed_lt j (by rw [hf]; simp)).2

theorem PI.take {A : AM Int} {M : Nat} {S : List Nat} {Ls Gs : List Int} (ok : A.Ok M) (h : PI A S Ls Gs) {i : Nat} (x : Int) (hi : nextI A = some i) :
    PI (taken A i x) (S ++ [i]) (Ls ++ [(taken A i x).ref i]) Gs := by
  have hu := next_unused ok hi
  have hlt := next_lt ok hi
  obtain ⟨l, b, e⟩ := taken_eq A i x
  have hni : i ∉ S := fun hm => by have := (h.us i).1 hm; rw [hu] at this; cases this
  have hus : ∀ j, (taken A i x).us j = if j = i then true else A.us j := by intro j; rw [e]; rfl
  have hinc : ∀ j, (taken A i x).inc j = if j = i then A.inc i + 1 else A.inc j := by intro j; rw [e]; rfl
  refine ⟨by rw [e]; exact h.n5, ?_, ?_, ?_, ?_, ?_⟩
  · have hm : S.map (taken A i x).ref = S.map A.ref := by
      apply List.map_congr_left
      intro j hj
      have hne : j ≠ i := fun e => hni (e ▸ hj)
      unfold AM.ref
      rw [hinc, if_neg hne]
    rw [List.map_append, h.ls, hm]
    rfl
  · rw [List.nodup_append]
    exact ⟨h.nd, by simp, fun a ha b hb => by simp at hb; subst hb; exact fun e => hni (e ▸ ha)⟩
  · intro j
    rw [hus]
    by_cases e : j = i
    · simp [e]
    · simp [e, h.us]
  · rw [e]; show A.used + 1 = _; rw [h.used]; simp
  · intro r hr
    obtain ⟨c, j, hr', hj, h1, h2, h3⟩ := h.gone r hr
    refine ⟨c, j, hr', hj, h1, ?_, ?_⟩
    · rw [hinc]; split
      · rename_i e; subst e; omega
      · exact h2
    · rw [hus, hinc]
      by_cases e : j = i
      · subst e; intro _; rw [if_pos rfl]; omega
      · rw [if_neg e, if_neg e]; exact h3

theorem PI.free {A : AM Int} {M : Nat} {S : List Nat} {Ls Gs : List Int} (ok : A.Ok M) (hM : M ≤ 4503599627370496) (h : PI A S Ls Gs) {q : Nat} {r : Int} (hq : Ls[q]? = some r) :
    ∃ i, A.Live r i ∧ PI (A.free i 0) (S.eraseIdx q) (Ls.take q ++ Ls.drop (q + 1)) (Gs ++ [r]) := by
  rw [h.ls, List.getElem?_map] at hq
  cases hs : S[q]? with
  | none => rw [hs] at hq; cases hq
  | some i =>
    rw [hs] at hq
    have hr : A.ref i = r := by simpa using hq
    have him : i ∈ S := List.mem_of_getElem? hs
    have hu := (h.us i).1 him
    have hib := ok.us_lt i hu
    have hi5 : i < 5 := by have := ok.begun_le; have := h.n5; omega
    have hql : q < S.length := by
      rcases Nat.lt_or_ge q S.length with h | h
      · exact h
      · rw [List.getElem?_eq_none h] at hs; cases hs
    refine ⟨i, hr ▸ AM.ref_live ok hM i hu, ⟨h.n5, ?_, h.nd.sublist (List.eraseIdx_sublist _ _), ?_, ?_, ?_⟩⟩
    · rw [h.ls, List.eraseIdx_eq_take_drop_succ, List.map_append, List.map_take, List.map_drop]
      rfl
    · intro j
      show _ ↔ upd A.us i false j = true
      have hmem : j ∈ S.eraseIdx q ↔ j ∈ S ∧ j ≠ i := by
        rw [List.mem_eraseIdx_iff_getElem?]
        constructor
        · rintro ⟨k, hk, hkj⟩
          refine ⟨List.mem_of_getElem? hkj, fun e => hk ?_⟩
          subst e
          have hkl : k < S.length := by
            rcases Nat.lt_or_ge k S.length with h | h
            · exact h
            · rw [List.getElem?_eq_none h] at hkj; cases hkj
          exact (List.getElem?_inj hkl h.nd).1 (hkj.trans hs.symm)
        · rintro ⟨hj, hne⟩
          obtain ⟨k, hk⟩ := List.getElem?_of_mem hj
          refine ⟨k, fun e => hne ?_, hk⟩
          subst e
          rw [hs] at hk
          exact (Option.some.inj hk).symm
      rw [hmem, h.us]
      by_cases e : j = i
      · subst e; simp [upd]
      · simp [upd, e]
    · show A.used - 1 = _
      rw [h.used, List.length_eraseIdx, if_pos hql]
    · intro x hx
      rcases List.mem_append.1 hx with hx | hx
      · obtain ⟨c, j, hr', hj, h1, h2, h3⟩ := h.gone x hx
        refine ⟨c, j, hr', hj, h1, h2, ?_⟩
        show upd A.us i false j = true → _
        by_cases e : j = i
        · subst e; simp [upd]
        · rw [upd_ne _ _ e]; exact h3
      · simp at hx
        subst hx
        refine ⟨A.inc i, i, hr.symm, hi5, ok.inc_pos i hib, Nat.le_refl _, ?_⟩
        show upd A.us i false i = true → _
        rw [upd_at]; intro h; cases h

/-- Two live references have not one slot. -/
theorem PI.apart {A : AM Int} {M : Nat} {S : List Nat} {Ls Gs : List Int} (ok : A.Ok M) (h : PI A S Ls Gs) {j k : Nat} {r s : Int} (hjk : j < k) (hj : Ls[j]? = some r) (hk : Ls[k]? = some s) : r % 1024 ≠ s % 1024 ∧ 0 ≤ r ∧ 0 ≤ s := by
  rw [h.ls, List.getElem?_map] at hj hk
  cases h1 : S[j]? with
  | none => rw [h1] at hj; cases hj
  | some a =>
    cases h2 : S[k]? with
    | none => rw [h2] at hk; cases hk
    | some b =>
      rw [h1] at hj
      rw [h2] at hk
      have hr : A.ref a = r := by simpa using hj
      have hs : A.ref b = s := by simpa using hk
      have hne : a ≠ b := by
        intro e
        subst e
        have hjl : j < S.length := by
          rcases Nat.lt_or_ge j S.length with h | h
          · exact h
          · rw [List.getElem?_eq_none h] at h1; cases h1
        have := (List.getElem?_inj hjl h.nd).1 (h1.trans h2.symm)
        omega
      have ha := ok.us_lt a ((h.us a).1 (List.mem_of_getElem? h1))
      have hb := ok.us_lt b ((h.us b).1 (List.mem_of_getElem? h2))
      have := ok.begun_le
      have := h.n5
      subst hr hs
      unfold AM.ref
      omega
/-- A live reference is a number of the machine. -/
theorem live_range {A : AM Int} {M : Nat} (ok : A.Ok M) {r : Int} {i : Nat} (h : A.Live r i) : -9223372036854775808 ≤ r ∧ r ≤ 9223372036854775807 := by
  have hs := h.slot
  unfold slotI at hs
  split at hs
  · rename_i hv
    have := of_decide_eq_true hv
    omega
  · omega
theorem gone_range {A : AM Int} {M : Nat} {r : Int} (h : Gone A r) (ok : A.Ok M) (hM : M ≤ 4503599627370496) : -9223372036854775808 ≤ r ∧ r ≤ 9223372036854775807 := by
  obtain ⟨c, i, rfl, hi, h1, h2, h3⟩ := h
  have := ok.inc_le i
  omega
end Go.Proofs.Ytbbdhefipbepdaa.Never
