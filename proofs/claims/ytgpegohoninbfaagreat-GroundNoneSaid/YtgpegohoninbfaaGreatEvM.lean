/- The mill, part M: append is as it is told. -/
import Derived.Test.YtgpegohoninbfaaGreatEvL
namespace Go.Ev
set_option linter.unusedVariables false
set_option linter.unusedSimpArgs false
open Go.RowKit
variable {A : Nat → Nat → Prop}
set_option linter.unusedVariables false

section
variable {r : List (Option Nat)} {H : AHeap} {w : World}

theorem StepOK.refl (hi : Inv A r H w) : StepOK A r H w r H w [] := ⟨Le.refl _, hi, fun _ _ _ _ _ _ _ => rfl, fun _ _ h _ => h⟩
theorem StepOK.le_then {r1 : List (Option Nat)} {H1 : AHeap} {w1 : World} {X : List Nat} {r2 : List (Option Nat)} {H2 : AHeap} (h : StepOK A r H w r1 H1 w1 X) (le : Le (ctx A r1 H1 w1) (ctx A r2 H2 w1)) (inv : Inv A r2 H2 w1) (hk : ∀ (id : Nat) x, H[id]? = some x → id ∉ X → H2[id]? = some x) : StepOK A r H w r2 H2 w1 X :=
  ⟨h.le.trans le, inv, h.same, hk⟩
theorem StepOK.weaken {r1 : List (Option Nat)} {H1 : AHeap} {w1 : World} {X Y : List Nat} (h : StepOK A r H w r1 H1 w1 X) (hs : ∀ i ∈ X, i ∈ Y) : StepOK A r H w r1 H1 w1 Y :=
  ⟨h.le, h.inv, fun id x b h1 h2 h3 h4 => h.same id x b h1 h2 (fun hm => h3 (hs id hm)) h4, fun id x h1 h2 => h.keep id x h1 (fun hm => h2 (hs id hm))⟩

/-- An object gets another number. -/
theorem step_move (hi : Inv A r H w) {id : Nat} {x : AObj} {q : Option Nat} (hx : H[id]? = some x) (hq : r[id]? = some q) :
    Le (ctx A r H w) (ctx A (r ++ [q]) (H.set id .dead ++ [x]) w) ∧ Inv A (r ++ [q]) (H.set id .dead ++ [x]) w := by
  have hl := hi.len
  have back : ∀ (i : Nat) (y : AObj) (c : Option Nat), (H.set id .dead ++ [x])[i]? = some y → (r ++ [q])[i]? = some c → (i < H.length ∧ i ≠ id ∧ H[i]? = some y ∧ r[i]? = some c) ∨ (i = id ∧ y = .dead) ∨ (i = H.length ∧ y = x ∧ c = q) := by
    intro i y c h1 h2
    rcases getElem?_snoc _ _ _ _ h1 with e | ⟨e, rfl⟩
    · rcases get_set _ _ _ _ _ e with ⟨rfl, rfl, _⟩ | ⟨e1, e2⟩
      · exact .inr (.inl ⟨rfl, rfl⟩)
      · have hlt := (List.getElem?_eq_some_iff.1 e2).1
        rcases getElem?_snoc _ _ _ _ h2 with f | ⟨f, _⟩
        · exact .inl ⟨hlt, e1, e2, f⟩
        · omega
    · simp only [List.length_set] at e
      rcases getElem?_snoc _ _ _ _ h2 with f | ⟨f, rfl⟩
      · have := (List.getElem?_eq_some_iff.1 f).1; omega
      · exact .inr (.inr ⟨e, rfl, rfl⟩)
  have hle : Le (ctx A r H w) (ctx A (r ++ [q]) (H.set id .dead ++ [x]) w) := by
    refine ⟨fun i b hb => get_snoc_old _ hb, fun _ _ _ h _ => h, fun _ vs _ _ h => ⟨vs, h, rfl⟩, ?_, Nat.le_refl _, ?_, fun _ _ _ => rfl, rfl, rfl, rfl⟩
    · rintro b o _ (⟨i, y, h1, h2, h3⟩ | ha)
      · rcases back i y _ h1 h2 with ⟨_, _, e1, e2⟩ | ⟨_, rfl⟩ | ⟨_, rfl, e⟩
        · exact .inl ⟨i, y, e1, e2, h3⟩
        · exact h3.elim
        · exact .inl ⟨id, y, hx, by rw [hq, e], h3⟩
      · exact .inr ha
    · rintro b _ ⟨i, y, h1, h2, h3⟩
      rcases back i y _ h1 h2 with ⟨_, _, e1, e2⟩ | ⟨_, rfl⟩ | ⟨_, rfl, e⟩
      · exact ⟨i, y, e1, e2, h3⟩
      · exact h3.elim
      · exact ⟨id, y, hx, by rw [hq, e], h3⟩
  refine ⟨hle, by simp [hl], ?_, ?_, amb_mono hle hi.amb⟩
  · intro i y c h1 h2
    rcases back i y c h1 h2 with ⟨_, _, e1, e2⟩ | ⟨_, rfl⟩ | ⟨_, rfl, rfl⟩
    · exact ObjOK.mono hle (fun _ _ _ => rfl) (hi.obj i y c e1 e2)
    · cases c <;> trivial
    · exact ObjOK.mono hle (fun _ _ _ => rfl) (hi.obj id y _ hx hq)
  · intro i j y z b h1 h2 l1 l2 r1 r2
    rcases back i y _ h1 r1 with ⟨a0, a1, a2, a3⟩ | ⟨_, rfl⟩ | ⟨a0, rfl, a3⟩
    · rcases back j z _ h2 r2 with ⟨b0, b1, b2, b3⟩ | ⟨_, rfl⟩ | ⟨b0, rfl, b3⟩
      · exact hi.inj i j y z b a2 b2 l1 l2 a3 b3
      · exact l2.elim
      · exact absurd (hi.inj i id y z b a2 hx l1 l2 a3 (by rw [hq, b3])) a1
    · exact l1.elim
    · rcases back j z _ h2 r2 with ⟨b0, b1, b2, b3⟩ | ⟨_, rfl⟩ | ⟨b0, rfl, b3⟩
      · exact absurd (hi.inj id j y z b hx b2 l1 l2 (by rw [hq, a3]) b3).symm b1
      · exact l2.elim
      · omega

theorem grow_row (hi : Inv A r H w) {el : TypeId} {sz need gc fz : Nat} {at_ : Nat → Nat → AV} {vs : List Value} (h0 : 0 < sz) (hl : vs.length = gc * sz) (hn : need ≤ gc) (hm : gc ≤ maxLen)
    (hr : ∀ i, i < need → ∀ j, j < sz → ∃ v, vs[i * sz + j]? = some v ∧ v.oneCell' = true ∧ RV (ctx A r H w) (at_ i j) v) :
    StepOK A r H w (r ++ [some w.heap.size]) (H ++ [.row el sz need at_ fz]) (w.drew.alloc (.cells vs.toArray el)) [] ∧
    RV (ctx A (r ++ [some w.heap.size]) (H ++ [.row el sz need at_ fz]) (w.drew.alloc (.cells vs.toArray el))) (.sl H.length sz 0 need none) (.slice (some ⟨w.heap.size, 0, none⟩) need gc) := by
  have h1 := le_drew (A := A) r H w
  have hs := step_new (inv_drew hi) (.cells vs.toArray el) (.row el sz need at_ fz) ⟨h0, vs, heap_alloc_new w.drew _, by rw [hl]; exact Nat.mul_le_mul_right _ hn, fun i hi' j hj => by
    obtain ⟨v, e1, e2, e3⟩ := hr i hi' j hj
    exact ⟨v, e1, e2, RV.mono (h1.trans (le_new (inv_drew hi) _ _)) _ _ e3⟩⟩
  refine ⟨⟨h1.trans hs.le, hs.inv, fun id x b a1 a2 a3 a4 => hs.same id x b a1 a2 a3 a4, hs.keep⟩, ?_⟩
  simp only [RV]
  refine ⟨_, _, rfl, hn, hm, .inl ⟨w.heap.size, ?_, by simp, vs.toArray, el, (0, 0), heap_alloc_new w.drew _, by simp [hl]⟩⟩
  show (r ++ [some w.heap.size])[H.length]? = _
  rw [← hi.len]; simp
end

section
variable {T : Tab} (hT : T.OK) {r : List (Option Nat)} {H : AHeap} {w : World} {k : AV → AHeap → List Nat → Prop}
include hT

theorem eff_append (hi : Inv A r H w) {t u ty : TypeId} {s x : AV} {sv xv : Value} (h : evAppend T H t u s x k) (hs : RV (ctx A r H w) s sv) (hx : RV (ctx A r H w) x xv) : Eff T.P A r H w k (Builtin.append_ #[t, u] ty #[sv, xv]) := by
  unfold evAppend at h
  split at h
  · rename_i el el' hu1 hu2
    have hP1 := hT.und _ _ hu1
    have hP2 := hT.und _ _ hu2
    split at h
    · rename_i sz bytes z hinf
      obtain ⟨i, i1, i2, i3, i4, i5⟩ := hT.inf _ _ _ _ hinf
      subst i2
      subst i3
      split at h
      · rename_i hz
        have h0 : 0 < i.size := by
          rcases Nat.eq_zero_or_pos i.size with e | e
          · rw [e] at hz; simp at hz
          · exact e
        obtain ⟨m, news, h, hsrc⟩ := evSrc_ok hi h0 h hx
        obtain ⟨a', c', rfl, hsrc⟩ := hsrc
        have zero : ∀ (a : Option Addr) (n c : Nat), sv = .slice a n c → n ≤ c → m = 0 → k s H [] → Eff T.P A r H w k (Builtin.append_ #[t, u] ty #[sv, .slice a' m c']) := by
          rintro a n c rfl hn rfl hk
          refine ⟨s, _, H, [], r, w, ?_, hk, StepOK.refl hi, hs⟩
          rw [append_types hP1 hP2 i1]
          exact append_zero hP1 i1 hn w
        have grow : ∀ (fz : Nat) (a : Option Addr) (n c : Nat) (olds : List Value) (at_ : Nat → Nat → AV), sv = .slice a n c → c < n + m → 0 < m → n + m ≤ maxLen → (n + m) * i.bytes ≤ 140737488355328 →
            (n = 0 ∧ olds = [] ∨ ∃ b' o', a = some ⟨b', o', none⟩ ∧ olds.length = n * i.size ∧ ∀ j v, olds[j]? = some v → w.cell? ⟨b', o' + j, none⟩ = some v) → (∀ v ∈ olds, v.oneCell' = true) →
            (∀ p, p < n → ∀ j, j < i.size → ∃ v, olds[p * i.size + j]? = some v ∧ RV (ctx A r H w) (at_ p j) v) →
            ∃ v w', (Builtin.append_ #[t, u] ty #[sv, .slice a' m c']).run T.P w = .ok v w' ∧ StepOK A r H w (r ++ [some w.heap.size]) (H ++ [.row el i.size (n + m) (appRow at_ n news) fz]) w' [] ∧
              RV (ctx A (r ++ [some w.heap.size]) (H ++ [.row el i.size (n + m) (appRow at_ n news) fz]) w') (.sl H.length i.size 0 (n + m) none) v := by
          rintro fz a n c olds at_ rfl hc hm0 hm hb hold hone hat
          rcases hsrc with rfl | ⟨b, o, rfl, nv, n1, n2, n3, n4⟩
          · omega
          have hol : olds.length = n * i.size := by
            rcases hold with ⟨rfl, rfl⟩ | ⟨_, _, _, h, _⟩
            · simp
            · exact h
          have hge := grownCap_ge w (n + m) c el
          have hcm := grownCap_le_maxLen w (n + m) c el hm
          obtain ⟨g1, g2⟩ := grow_row hi (fz := fz) (el := el) (sz := i.size) (need := n + m) (gc := grownCap w (n + m) c el) (at_ := appRow at_ n news) (vs := olds ++ nv ++ (Builtin.zeroCells z.cells (grownCap w (n + m) c el - (n + m))).toList) h0
            (by simp only [List.length_append, Array.length_toList, size_zeroCells, i5, hol, n1, ← Nat.add_mul]; congr 1; omega) hge hcm (fun p hp j hj => by
              by_cases hpn : p < n
              · obtain ⟨v, e1, e2⟩ := hat p hpn j hj
                refine ⟨v, ?_, hone v (List.mem_of_getElem? e1), by simpa only [appRow, if_pos hpn] using e2⟩
                have := (List.getElem?_eq_some_iff.1 e1).1
                rw [List.append_assoc, List.getElem?_append_left this]; exact e1
              · obtain ⟨v, e1, e2⟩ := n4 (p - n) (by omega) j hj
                refine ⟨v, ?_, n3 v (List.mem_of_getElem? e1), by simpa only [appRow, if_neg hpn] using e2⟩
                have h1 := (List.getElem?_eq_some_iff.1 e1).1
                have h2 : p * i.size + j = n * i.size + ((p - n) * i.size + j) := by
                  rw [← Nat.add_assoc, ← Nat.add_mul]; congr 2; omega
                rw [List.append_assoc, List.getElem?_append_right (by omega), h2, hol, Nat.add_sub_cancel_left, List.getElem?_append_left h1]
                exact e1)
          refine ⟨_, _, ?_, g1, g2⟩
          rw [append_types hP1 hP2 i1]
          rw [append_grow hP1 i1 i4 hold n1 n2 hc hm hb]
          congr 2
          apply congrArg (fun x => Obj.cells x el (0, 0))
          apply Array.ext'
          simp
        split at h
        · simp only [RV, RG] at hs
          subst hs
          rcases Nat.eq_zero_or_pos m with hm | hm
          · exact zero _ _ _ rfl (Nat.le_refl _) hm (h.1 hm)
          · obtain ⟨⟨hb, hml⟩, h⟩ := h.2 hm
            rw [hpush_eq] at h
            obtain ⟨v, w', e1, e2, e3⟩ := grow 0 _ _ _ [] (fun _ _ => .junk) rfl (by omega) hm (by omega) (by simpa using hb) (.inl ⟨rfl, rfl⟩) (by simp) (by omega)
            have ha : appRow (fun _ _ => AV.junk) 0 news = news := by funext p j; simp [appRow]
            rw [ha, Nat.zero_add] at e2 e3
            exact ⟨_, v, _, _, _, w', e1, h, e2, e3⟩
        · simp only [RV] at hs
          obtain ⟨a, rfl⟩ := hs
          rcases Nat.eq_zero_or_pos m with hm | hm
          · exact zero _ _ _ rfl (Nat.le_refl _) hm (h.1 hm)
          · obtain ⟨⟨hb, hml⟩, h⟩ := h.2 hm
            rw [hpush_eq] at h
            obtain ⟨v, w', e1, e2, e3⟩ := grow 0 _ _ _ [] (fun _ _ => .junk) rfl (by omega) hm (by omega) (by simpa using hb) (.inl ⟨rfl, rfl⟩) (by simp) (by omega)
            have ha : appRow (fun _ _ => AV.junk) 0 news = news := by funext p j; simp [appRow]
            rw [ha, Nat.zero_add] at e2 e3
            exact ⟨_, v, _, _, _, w', e1, h, e2, e3⟩
        · rename_i id sz' len cap _
          have hs' := hs
          simp only [RV] at hs
          obtain ⟨a, c, rfl, hlc, hcm, hs⟩ := hs
          rcases Nat.eq_zero_or_pos m with hm | hm
          · exact zero _ _ _ rfl hlc hm (h.1 hm)
          have hg := h.2 hm
          clear h
          split at hg
          · rename_i t' sz'' n at_ fz hH
            split at hg
            · rename_i b1 b2 b3
              have b1' := Nat.eq_of_beq_eq_true b1
              have b2' := Nat.eq_of_beq_eq_true b2
              have b3' := Nat.eq_of_beq_eq_true b3
              subst b1' b3'
              subst b2'
              obtain ⟨⟨hln, hfz, hb, hml⟩, h⟩ := hg
              obtain ⟨q, hq, hobj⟩ := hi.get hH
              have same_of : ∀ {w' : World} {b : Nat}, r[id]? = some (some b) → (∀ q, q ≠ b → w'.heap[q]? = w.heap[q]?) → ∀ (id' : Nat) x b', H[id']? = some x → x.live → id' ∉ [id] → r[id']? = some (some b') → w'.heap[b']? = w.heap[b']? := by
                intro w' b hr hoth id' x b' h1 h2 h3 h4
                refine hoth b' fun e => h3 ?_
                subst e
                simp [hi.inj id' id x _ _ h1 hH h2 trivial h4 hr]
              -- growth, whatever the block: the old cells
              have growth : c < len + m → ∃ v w', (Builtin.append_ #[t, u] ty #[.slice a len c, .slice a' m c']).run T.P w = .ok v w' ∧ StepOK A r H w (r ++ [some w.heap.size]) (H ++ [.row t' i.size (len + m) (appRow at_ len news) fz]) w' [] ∧
                  RV (ctx A (r ++ [some w.heap.size]) (H ++ [.row t' i.size (len + m) (appRow at_ len news) fz]) w') (.sl H.length i.size 0 (len + m) none) v := by
                intro hc
                rcases hs with ⟨b, hr, rfl, _⟩ | ⟨e1, e2, _⟩
                · have hqb : q = some b := by have : r[id]? = some (some b) := hr; rw [hq] at this; exact Option.some.inj this
                  subst hqb
                  obtain ⟨_, vs, hb1, hb2, hb3⟩ := hobj
                  replace hb1 : w.heap[b]? = _ := hb1
                  have hlen : len * i.size ≤ vs.length := Nat.le_trans (Nat.mul_le_mul_right _ hln) hb2
                  have hget : ∀ p, p < len → ∀ j, j < i.size → ∃ v, (vs.take (len * i.size))[p * i.size + j]? = some v ∧ v.oneCell' = true ∧ RV (ctx A r H w) (at_ p j) v := by
                    intro p hp j hj
                    obtain ⟨v, f1, f2, f3⟩ := hb3 p (by omega) j hj
                    exact ⟨v, by rw [List.getElem?_take, if_pos (idx_lt hp hj)]; exact f1, f2, f3⟩
                  refine grow fz _ _ _ (vs.take (len * i.size)) at_ rfl hc hm hml hb (.inr ⟨b, 0, by simp, by simp; omega, fun j v hv => ?_⟩) ?_ (fun p hp j hj => ?_)
                  · rw [cell_of_block hb1, Nat.zero_add]
                    rw [List.getElem?_take] at hv
                    split at hv
                    · exact hv
                    · cases hv
                  · intro v hv
                    obtain ⟨p, hp⟩ := List.getElem?_of_mem hv
                    have hpl := (List.getElem?_eq_some_iff.1 hp).1
                    have hpl' : p < len * i.size := by simp at hpl; omega
                    obtain ⟨d1, d2, d3⟩ := divmod_lt h0 hpl'
                    obtain ⟨v', f1, f2, _⟩ := hget _ d1 _ d2
                    rw [d3, hp] at f1
                    cases f1; exact f2
                  · obtain ⟨v, f1, _, f3⟩ := hget p hp j hj
                    exact ⟨v, f1, f3⟩
                · subst e1 e2
                  have ha : appRow at_ 0 news = news := by funext p j; simp [appRow]
                  have ha' : appRow (fun _ _ => AV.junk) 0 news = news := by funext p j; simp [appRow]
                  have := grow fz a 0 0 [] (fun _ _ => .junk) rfl (by omega) hm hml hb (.inl ⟨rfl, rfl⟩) (by simp) (by omega)
                  rw [ha'] at this
                  rw [ha]
                  exact this
              have inpl : ∀ b, r[id]? = some (some b) → a = some ⟨b, 0 * i.size, none⟩ → len + m ≤ c → len + m ≤ n → ∃ w' vs', (Builtin.append_ #[t, u] ty #[.slice a len c, .slice a' m c']).run T.P w = .ok (.slice (some ⟨b, 0, none⟩) (len + m) c) w' ∧
                  StepOK A r H w r (H.set id (.row t' i.size n (fun i j => if len ≤ i ∧ i < len + m then news (i - len) j else at_ i j) fz)) w' [id] ∧ (∀ vs : Array Value, w.heap[b]? = some (.cells vs t' (0, 0)) → w'.heap[b]? = some (.cells vs' t' (0, 0)) ∧ vs'.size = vs.size) := by
                rintro b hq' rfl hroom hmn
                have hqb : q = some b := by rw [hq] at hq'; exact Option.some.inj hq'
                subst hqb
                obtain ⟨_, vs, hb1, hb2, hb3⟩ := hobj
                replace hb1 : w.heap[b]? = _ := hb1
                rcases hsrc with rfl | ⟨sb, so, rfl, nv, n1, n2, n3, n4⟩
                · omega
                have hfit : len * i.size + nv.length ≤ vs.length := by rw [n1, ← Nat.add_mul]; exact Nat.le_trans (Nat.mul_le_mul_right _ hmn) hb2
                obtain ⟨w', e1, e2, e3, e4, e5, e6, e7⟩ := append_room (ty := ty) hP1 i1 hb1 n1 n2 n3 hroom hfit
                have hput : ∀ o, (put vs (len * i.size) nv)[o]? = if len * i.size ≤ o ∧ o < len * i.size + nv.length then nv[o - len * i.size]? else vs[o]? := fun o => getElem?_put _ _ _ _ hfit
                have hle : Le (ctx A r H w) (ctx A r (H.set id (.row t' i.size n (fun i j => if len ≤ i ∧ i < len + m then news (i - len) j else at_ i j) fz)) w') :=
                  le_block (x := .row t' i.size n at_ fz) hH hq trivial hb1 e2 (length_put _ _ _) (fun o hf => by
                    rw [hput, if_neg]
                    simp only [AObj.free, Nat.not_le] at hf
                    omega) e3 e4 e5 e6 e7 (fun o hf => hf)
                have hinv := inv_block hi (x' := .row t' i.size n (fun i j => if len ≤ i ∧ i < len + m then news (i - len) j else at_ i j) fz) hH hq trivial hle e3 ⟨h0, _, e2, by rw [length_put]; exact hb2, fun p hp j hj => by
                  rw [hput]
                  have hnl : nv.length = m * i.size := n1
                  by_cases hpl : len ≤ p ∧ p < len + m
                  · obtain ⟨v, f1, f2⟩ := n4 (p - len) (by omega) j hj
                    have h2 : p * i.size + j = len * i.size + ((p - len) * i.size + j) := by
                      rw [← Nat.add_assoc, ← Nat.add_mul]; congr 2; omega
                    have h3 := (List.getElem?_eq_some_iff.1 f1).1
                    rw [if_pos (by omega), h2, Nat.add_sub_cancel_left]
                    exact ⟨v, f1, n3 v (List.mem_of_getElem? f1), by simp only [if_pos hpl]; exact RV.mono hle _ _ f2⟩
                  · have hne : ¬ (len * i.size ≤ p * i.size + j ∧ p * i.size + j < len * i.size + nv.length) := by
                      rintro ⟨a1, a2⟩
                      rw [hnl, ← Nat.add_mul] at a2
                      rcases Nat.lt_or_ge p len with hlt | hge
                      · have := idx_lt hlt hj; omega
                      · have := Nat.mul_le_mul_right i.size (show len + m ≤ p by omega)
                        omega
                    rw [if_neg hne]
                    obtain ⟨v, f1, f2, f3⟩ := hb3 p hp j hj
                    exact ⟨v, f1, f2, by simp only [if_neg hpl]; exact RV.mono hle _ _ f3⟩⟩
                refine ⟨w', _, ?_, ⟨hle, hinv, same_of hq e3, fun i x h1 h2 => get_set_ne h1 h2⟩, fun us hus => ⟨e2, ?_⟩⟩
                · rw [append_types hP1 hP2 i1]; simpa using e1
                · rw [hb1] at hus; cases hus; simp [length_put]
              cases cap with
              | none =>
                simp only at h
                rcases h with ⟨hmn, hA⟩ | h
                · rw [hset_eq] at hA
                  rcases hs with ⟨b, hr, hab, hcap⟩ | ⟨e1, e2, _, e4⟩
                  · obtain ⟨us, tt, ff, c1, c2⟩ := hcap
                    have hqb : q = some b := by have : r[id]? = some (some b) := hr; rw [hq] at this; exact Option.some.inj this
                    have hob := hobj
                    subst hqb
                    obtain ⟨_, vs, hb1, hb2, hb3⟩ := hob
                    replace hb1 : w.heap[b]? = _ := hb1
                    have c1' : w.heap[b]? = _ := c1
                    rw [hb1] at c1'
                    cases c1'
                    simp only [List.size_toArray, Nat.zero_add] at c2
                    have hnc : n ≤ c := by
                      rw [c2] at hb2
                      exact Nat.le_of_mul_le_mul_right hb2 h0
                    obtain ⟨w', vs', e1, e2, e3⟩ := inpl b hr hab (by omega) hmn
                    refine ⟨_, .slice (some ⟨b, 0, none⟩) (len + m) c, _, _, _, w', e1, hA, e2, ?_⟩
                    obtain ⟨f1, f2⟩ := e3 _ hb1
                    simp only [RV]
                    exact ⟨_, _, rfl, by omega, hcm, .inl ⟨b, hq, by simp, vs', t', (0, 0), f1, by simp [f2, c2]⟩⟩
                  · rcases e4 with e4 | e4
                    · have hqn : q = none := by have : r[id]? = some none := e4; rw [hq] at this; exact Option.some.inj this
                      subst hqn
                      have := hobj.2
                      omega
                    · omega
                rw [hset_eq, hpush_eq, List.length_set] at h
                by_cases hroom : len + m ≤ c
                · rcases hs with ⟨b, hr, rfl, hcap⟩ | ⟨e1, e2, _⟩
                  · have hqb : q = some b := by have : r[id]? = some (some b) := hr; rw [hq] at this; exact Option.some.inj this
                    subst hqb
                    obtain ⟨_, vs, hb1, hb2, hb3⟩ := hobj
                    replace hb1 : w.heap[b]? = _ := hb1
                    obtain ⟨us, tt, ff, c1, c2⟩ := hcap
                    replace c1 : w.heap[b]? = _ := c1
                    rw [hb1] at c1
                    cases c1
                    simp only [List.size_toArray, Nat.zero_add] at c2
                    rcases hsrc with rfl | ⟨sb, so, rfl, nv, n1, n2, n3, n4⟩
                    · omega
                    have hfit : len * i.size + nv.length ≤ vs.length := by rw [n1, c2, ← Nat.add_mul]; exact Nat.mul_le_mul_right _ hroom
                    obtain ⟨w', e1, e2, e3, e4, e5, e6, e7⟩ := append_room (ty := ty) hP1 i1 hb1 n1 n2 n3 hroom hfit
                    have hput : ∀ o, (put vs (len * i.size) nv)[o]? = if len * i.size ≤ o ∧ o < len * i.size + nv.length then nv[o - len * i.size]? else vs[o]? := fun o => getElem?_put _ _ _ _ hfit
                    have hle : Le (ctx A r H w) (ctx A r (H.set id (.row t' i.size (len + m) (appRow at_ len news) fz)) w') :=
                      le_block (x := .row t' i.size n at_ fz) hH hq trivial hb1 e2 (length_put _ _ _) (fun o hf => by
                        rw [hput, if_neg]
                        simp only [AObj.free, Nat.not_le] at hf
                        omega) e3 e4 e5 e6 e7 (fun o hf => hf)
                    have hinv := inv_block hi (x' := .row t' i.size (len + m) (appRow at_ len news) fz) hH hq trivial hle e3 ⟨h0, _, e2, by rw [length_put, c2]; exact Nat.mul_le_mul_right _ hroom, fun p hp j hj => by
                      rw [hput]
                      by_cases hpl : p < len
                      · have := idx_lt hpl hj
                        rw [if_neg (by omega)]
                        obtain ⟨v, f1, f2, f3⟩ := hb3 p (by omega) j hj
                        exact ⟨v, f1, f2, by simp only [appRow, if_pos hpl]; exact RV.mono hle _ _ f3⟩
                      · obtain ⟨v, f1, f2⟩ := n4 (p - len) (by omega) j hj
                        have h2 : p * i.size + j = len * i.size + ((p - len) * i.size + j) := by
                          rw [← Nat.add_assoc, ← Nat.add_mul]; congr 2; omega
                        have h3 := (List.getElem?_eq_some_iff.1 f1).1
                        rw [if_pos (by omega), h2, Nat.add_sub_cancel_left]
                        exact ⟨v, f1, n3 v (List.mem_of_getElem? f1), by simp only [appRow, if_neg hpl]; exact RV.mono hle _ _ f2⟩⟩
                    have hlt : id < H.length := (List.getElem?_eq_some_iff.1 hH).1
                    obtain ⟨m1, m2⟩ := step_move hinv (List.getElem?_set_self hlt) hq
                    rw [List.set_set] at m1 m2
                    refine ⟨_, .slice (some ⟨b, 0, none⟩) (len + m) c, _, _, _, w', ?_, h, ⟨hle.trans m1, m2, same_of hq e3, fun i x h1 h2 => get_snoc_old _ (get_set_ne h1 h2)⟩, ?_⟩
                    · rw [append_types hP1 hP2 i1]; simpa using e1
                    · simp only [RV]
                      refine ⟨_, _, rfl, hroom, hcm, .inl ⟨b, ?_, by simp, (put vs (len * i.size) nv).toArray, t', (0, 0), e2, by simp [length_put, c2]⟩⟩
                      show (r ++ [some b])[H.length]? = _
                      rw [← hi.len]; simp
                  · omega
                · obtain ⟨v, w', e1, e2, e3⟩ := growth (by omega)
                  have hlt : id < H.length := (List.getElem?_eq_some_iff.1 hH).1
                  obtain ⟨k1, k2⟩ := inv_kill e2.inv id
                  have hcomm : (H ++ [AObj.row t' i.size (len + m) (appRow at_ len news) fz]).set id .dead = H.set id .dead ++ [AObj.row t' i.size (len + m) (appRow at_ len news) fz] := by
                    rw [List.set_append_left _ _ hlt]
                  rw [hcomm] at k1 k2
                  exact ⟨_, v, _, _, _, w', e1, h, (e2.weaken (Y := [id]) (by simp)).le_then k1 k2 (fun i x h1 h2 => get_snoc_old _ (get_set_ne h1 h2)), RV.mono k1 _ _ e3⟩
              | some c0 =>
                simp only at h
                obtain ⟨hA, hB⟩ := h
                by_cases hroom : len + m ≤ c
                · rcases hs with ⟨b, hr, rfl, hcap⟩ | ⟨e1, e2, _⟩
                  · have hqb : q = some b := by have : r[id]? = some (some b) := hr; rw [hq] at this; exact Option.some.inj this
                    subst hqb
                    simp only at hcap
                    subst hcap
                    obtain ⟨hmn, hA⟩ := hA hroom
                    rw [hset_eq] at hA
                    obtain ⟨w', vs', e1, e2, _⟩ := inpl b hr rfl hroom hmn
                    refine ⟨_, .slice (some ⟨b, 0, none⟩) (len + m) c, _, _, _, w', e1, hA, e2, ?_⟩
                    simp only [RV]
                    exact ⟨_, _, rfl, hroom, hcm, .inl ⟨b, hq, by simp, rfl⟩⟩
                  · omega
                · have hc0 : c0 < len + m := by
                    rcases hs with ⟨b, hr, rfl, hcap⟩ | ⟨e1, e2, e3⟩
                    · simp only at hcap; omega
                    · have := e3.1 c0 rfl; omega
                  have hB := hB hc0
                  rw [hpush_eq] at hB
                  obtain ⟨v, w', e1, e2, e3⟩ := growth (by omega)
                  have hfz : Le (ctx A (r ++ [some w.heap.size]) (H ++ [AObj.row t' i.size (len + m) (appRow at_ len news) fz]) w') (ctx A (r ++ [some w.heap.size]) (H ++ [AObj.row t' i.size (len + m) (appRow at_ len news) fz]) w') := Le.refl _
                  exact ⟨_, v, _, _, _, w', e1, hB, e2, e3⟩
            · exact hg.elim
          · exact hg.elim
        · exact h.elim
      · exact h.elim
    · exact h.elim
  · exact h.elim
end
end Go.Ev
