/- The mill, part R: rows seen otherwise, frozen, begun. -/
import Derived.Test.YtgpegohoninbfaaGreatEvQ
namespace Go.Ev
set_option linter.unusedVariables false
set_option linter.unusedSimpArgs false
open Go.RowKit
variable {A : Nat → Nat → Prop}
set_option linter.unusedVariables false

theorem RVs.set {C : Ctx} {xs : List AV} {vs : List Value} (h : RVs C xs vs) {q : Nat} {x : AV} {v : Value} (hq : vs[q]? = some v) (hx : RV C x v) : RVs C (xs.set q x) vs := by
  refine RVs.of_get (by rw [List.length_set]; exact h.length) fun i y u hy hu => ?_
  rcases get_set _ _ _ _ _ hy with ⟨rfl, rfl, _⟩ | ⟨_, e⟩
  · rw [hq] at hu; cases hu; exact hx
  · obtain ⟨u', e1, e2⟩ := h.get i y e
    rw [hu] at e1; cases e1; exact e2

/-- An object told otherwise, in the same world. -/
theorem retell {r : List (Option Nat)} {H : AHeap} {w : World} (hi : Inv A r H w) {id : Nat} {x x' : AObj} (hx : H[id]? = some x) (hl : x'.live → x.live) (hf : ∀ o, x'.free o → x.free o)
    (hok : ∀ b, Sub (ctx A r H w) (ctx A r (H.set id x') w) → ObjOK (ctx A r H w) b x → ObjOK (ctx A r (H.set id x') w) b x') :
    Le (ctx A r H w) (ctx A r (H.set id x') w) ∧ Inv A r (H.set id x') w := by
  have hle : Le (ctx A r H w) (ctx A r (H.set id x') w) := le_less (fun i y h1 => by
    rcases get_set _ _ _ _ _ h1 with ⟨rfl, rfl, _⟩ | ⟨_, e⟩
    · exact ⟨x, hx, hl, hf⟩
    · exact ⟨y, e, fun h => h, fun _ h => h⟩)
  have hsub : Sub (ctx A r H w) (ctx A r (H.set id x') w) := by
    refine ⟨rfl, ?_⟩
    rintro b o (⟨i, y, h1, h2, h3⟩ | ha)
    · rcases get_set _ _ _ _ _ h1 with ⟨rfl, rfl, _⟩ | ⟨_, e⟩
      · exact .inl ⟨i, x, hx, h2, hf o h3⟩
      · exact .inl ⟨i, y, e, h2, h3⟩
    · exact .inr ha
  refine ⟨hle, by simp [hi.len], ?_, ?_, amb_mono hle hi.amb⟩
  · intro i y b h1 h2
    rcases get_set _ _ _ _ _ h1 with ⟨rfl, rfl, _⟩ | ⟨_, e⟩
    · exact hok b hsub (hi.obj i x b hx h2)
    · exact ObjOK.mono hle (fun _ _ _ => rfl) (hi.obj i y b e h2)
  · intro i j y z b h1 h2 l1 l2 r1 r2
    have f : ∀ (i : Nat) (y : AObj), (H.set id x')[i]? = some y → y.live → ∃ y', H[i]? = some y' ∧ y'.live := by
      intro i y h1 l1
      rcases get_set _ _ _ _ _ h1 with ⟨rfl, rfl, _⟩ | ⟨_, e⟩
      · exact ⟨x, hx, hl l1⟩
      · exact ⟨y, e, l1⟩
    obtain ⟨y', a1, a2⟩ := f i y h1 l1
    obtain ⟨z', b1, b2⟩ := f j z h2 l2
    exact hi.inj i j y' z' b a1 b1 a2 b2 r1 r2

/-- A row's elements, written otherwise. -/
theorem AbsC.row (id n' : Nat) (at' : Nat → Nat → AV) {n0 : Nat} {xs : List AV} {H : AHeap} {K : List AV → AHeap → Prop} {t : TypeId} {sz n fz : Nat} {at_ : Nat → Nat → AV} (hH : H[id]? = some (.row t sz n at_ fz)) (hn : n' ≤ n)
    (he : ∀ i, i < n' → ∀ j, j < sz → at_ i j = at' i j) (h : AbsC n0 xs (H.set id (.row t sz n' at' fz)) K) : AbsC n0 xs H K := by
  refine ⟨fun A C0 r w us hl hle hi hx => ?_⟩
  obtain ⟨k1, k2⟩ := retell hi (x' := .row t sz n' at' fz) hH (fun h => h) (fun o h => h) (fun b hs hok => by
    cases b with
    | none => exact ⟨hok.1, by have := hok.2; omega⟩
    | some b =>
      obtain ⟨h0, vs, h1, h2, h3⟩ := hok
      have hle : Le (ctx A r H w) (ctx A r (H.set id (.row t sz n' at' fz)) w) := le_less (fun i y h1 => by
        rcases get_set _ _ _ _ _ h1 with ⟨rfl, rfl, _⟩ | ⟨_, e⟩
        · exact ⟨_, hH, fun h => h, fun _ h => h⟩
        · exact ⟨y, e, fun h => h, fun _ h => h⟩)
      refine ⟨h0, vs, h1, Nat.le_trans (Nat.mul_le_mul_right _ hn) h2, fun i hi j hj => ?_⟩
      obtain ⟨v, e1, e2, e3⟩ := h3 i (by omega) j hj
      exact ⟨v, e1, e2, by rw [← he i hi j hj]; exact RV.mono hle _ _ e3⟩)
  obtain ⟨xs', H', r', q1, q2, q3, q4, q5⟩ := h.out A C0 r w us hl (hle.trans k1) k2 (RVs.mono k1 _ _ hx)
  refine ⟨xs', H', r', q1, q2, q3, q4, ⟨q5.w, fun b o hw => ?_⟩⟩
  rcases q5.wr b o hw with ⟨i, y, h1, h2, h3⟩ | ha
  · rcases get_set _ _ _ _ _ h1 with ⟨rfl, rfl, _⟩ | ⟨_, e⟩
    · exact .inl ⟨i, _, hH, h2, h3⟩
    · exact .inl ⟨i, y, e, h2, h3⟩
  · exact .inr ha

/-- An owned row, frozen: its header becomes ground data. -/
theorem freeze_step {r : List (Option Nat)} {H : AHeap} {w : World} (hi : Inv A r H w) (fz' : Nat) (gat : Nat → Nat → G) {id sz off len : Nat} {cap : Option Nat} {t : TypeId} {n fz : Nat} {at_ : Nat → Nat → AV}
    (hH : H[id]? = some (.row t sz n at_ fz)) (hn : off + len ≤ n) (hz : fz ≤ fz' ∧ (off + len) * sz ≤ fz') (he : ∀ i, i < len → ∀ j, j < sz → at_ (off + i) j = .g (gat i j)) :
    Le (ctx A r H w) (ctx A r (H.set id (.row t sz n at_ fz')) w) ∧ Inv A r (H.set id (.row t sz n at_ fz')) w ∧ Sub (ctx A r H w) (ctx A r (H.set id (.row t sz n at_ fz')) w) ∧
    ∀ v, RV (ctx A r H w) (.sl id sz off len cap) v → RV (ctx A r (H.set id (.row t sz n at_ fz')) w) (.g (.sl sz len gat)) v := by
  have hle1 : Le (ctx A r H w) (ctx A r (H.set id (.row t sz n at_ fz')) w) := le_less (fun i y h1 => by
        rcases get_set _ _ _ _ _ h1 with ⟨rfl, rfl, _⟩ | ⟨_, e⟩
        · exact ⟨_, hH, fun h => h, fun _ h => Nat.le_trans hz.1 h⟩
        · exact ⟨y, e, fun h => h, fun _ h => h⟩)
  obtain ⟨k1, k2⟩ := retell hi (x' := .row t sz n at_ fz') hH (fun h => h) (fun o h => Nat.le_trans hz.1 h) (fun b hs hok => by
    cases b with
    | none => exact hok
    | some b =>
      obtain ⟨h0, vs, h1, h2, h3⟩ := hok
      refine ⟨h0, vs, h1, h2, fun i hi j hj => ?_⟩
      obtain ⟨v, e1, e2, e3⟩ := h3 i hi j hj
      exact ⟨v, e1, e2, RV.mono hle1 _ _ e3⟩)
  refine ⟨k1, k2, ⟨rfl, ?_⟩, fun v hvx => ?_⟩
  · rintro b o (⟨i, y, h1, h2, h3⟩ | ha)
    · rcases get_set _ _ _ _ _ h1 with ⟨rfl, rfl, _⟩ | ⟨_, e⟩
      · exact .inl ⟨i, _, hH, h2, Nat.le_trans hz.1 h3⟩
      · exact .inl ⟨i, y, e, h2, h3⟩
    · exact .inr ha
  · simp only [RV] at hvx
    obtain ⟨a, c, rfl, c1, c2, hb⟩ := hvx
    simp only [RV, RG]
    refine ⟨a, c, rfl, c1, c2, fun i hi' j hj => ?_⟩
    rcases hb with ⟨b, hr, rfl, _⟩ | ⟨e, _⟩
    · obtain ⟨_, vs, h1, h2, h3⟩ := hi.obj id _ _ hH hr
      replace h1 : w.heap[b]? = _ := h1
      obtain ⟨u, e1, e2, e3⟩ := h3 (off + i) (by omega) j hj
      have e4 := RV.mono hle1 _ _ e3
      rw [he i hi' j hj] at e4
      simp only [RV] at e4
      have hoff : off * sz + (i * sz + j) = (off + i) * sz + j := by rw [Nat.add_mul]; omega
      refine ⟨⟨b, off * sz, none⟩, u, rfl, rfl, ?_, e2, ?_, e4⟩
      · show w.cell? _ = _
        rw [cell_of_block h1, hoff]; exact e1
      · rintro (⟨i', y, f1, f2, f3⟩ | ha)
        · have hlive := AObj.live_of_free f3
          have hid : i' = id := by
            have hlt : id < H.length := (List.getElem?_eq_some_iff.1 hH).1
            exact k2.inj i' id y _ b f1 (List.getElem?_set_self hlt) hlive trivial f2 hr
          subst hid
          rw [List.getElem?_set_self (List.getElem?_eq_some_iff.1 hH).1] at f1
          cases f1
          have := idx_lt (show off + i < off + len by omega) hj
          have f3' : fz' ≤ off * sz + (i * sz + j) := f3
          omega
        · exact (hi.amb _ _ ha).2 ⟨id, _, hH, hr, trivial⟩
    · omega

theorem AbsC.freeze (q fz' : Nat) (gat : Nat → Nat → G) {n0 : Nat} {xs : List AV} {H : AHeap} {K : List AV → AHeap → Prop} {id sz off len : Nat} {cap : Option Nat} {t : TypeId} {n fz : Nat} {at_ : Nat → Nat → AV}
    (hx : xs[q]? = some (.sl id sz off len cap)) (hH : H[id]? = some (.row t sz n at_ fz)) (hn : off + len ≤ n) (hz : fz ≤ fz' ∧ (off + len) * sz ≤ fz')
    (he : ∀ i, i < len → ∀ j, j < sz → at_ (off + i) j = .g (gat i j)) (h : AbsC n0 (xs.set q (.g (.sl sz len gat))) (H.set id (.row t sz n at_ fz')) K) : AbsC n0 xs H K := by
  refine ⟨fun A C0 r w us hl hle hi hxs => ?_⟩
  obtain ⟨k1, k2, k3, k4⟩ := freeze_step hi fz' gat (cap := cap) hH hn hz he
  obtain ⟨v, hv, hvx⟩ := hxs.get q _ hx
  obtain ⟨xs', H', r', q1, q2, q3, q4, q5⟩ := h.out A C0 r w us hl (hle.trans k1) k2 ((RVs.mono k1 _ _ hxs).set hv (k4 v hvx))
  exact ⟨xs', H', r', q1, q2, q3, q4, ⟨q5.w, fun b o hw => k3.wr b o (q5.wr b o hw)⟩⟩

def isNilS : AV → Bool
  | .g (.c (.slice none 0 0)) => true
  | .nz => true
  | _ => false
/-- An empty slice begins a row. -/
theorem AbsC.nil (q : Nat) (t sz : Nat) {n0 : Nat} {xs : List AV} {H : AHeap} {K : List AV → AHeap → Prop} {x : AV} (hx : xs[q]? = some x) (hnil : isNilS x = true) (hsz : 0 < sz)
    (h : AbsC n0 (xs.set q (.sl H.length sz 0 0 none)) (H ++ [.row t sz 0 (fun _ _ => .junk) 0]) K) : AbsC n0 xs H K := by
  refine ⟨fun A C0 r w us hl hle hi hxs => ?_⟩
  have back : ∀ (i : Nat) (y : AObj) (b : Nat), (H ++ [AObj.row t sz 0 (fun _ _ => .junk) 0])[i]? = some y → (r ++ [none])[i]? = some (some b) → H[i]? = some y ∧ r[i]? = some (some b) := by
    intro i y b h1 h2
    rcases getElem?_snoc _ _ _ _ h2 with e | ⟨_, e⟩
    · rcases getElem?_snoc _ _ _ _ h1 with f | ⟨f, _⟩
      · exact ⟨f, e⟩
      · have := (List.getElem?_eq_some_iff.1 e).1
        have := hi.len
        omega
    · cases e
  have hle1 : Le (ctx A r H w) (ctx A (r ++ [none]) (H ++ [AObj.row t sz 0 (fun _ _ => .junk) 0]) w) := by
    refine ⟨fun i b hb => get_snoc_old _ hb, fun _ _ _ h _ => h, fun _ vs _ _ h => ⟨vs, h, rfl⟩, ?_, Nat.le_refl _, ?_, fun _ _ _ => rfl, rfl, rfl, rfl⟩
    · rintro b o _ (⟨i, y, h1, h2, h3⟩ | ha)
      · obtain ⟨e1, e2⟩ := back i y b h1 h2
        exact .inl ⟨i, y, e1, e2, h3⟩
      · exact .inr ha
    · rintro b _ ⟨i, y, h1, h2, h3⟩
      obtain ⟨e1, e2⟩ := back i y b h1 h2
      exact ⟨i, y, e1, e2, h3⟩
  have hinv : Inv A (r ++ [none]) (H ++ [AObj.row t sz 0 (fun _ _ => .junk) 0]) w := by
    refine ⟨by simp [hi.len], ?_, ?_, amb_mono hle1 hi.amb⟩
    · intro i y b h1 h2
      rcases getElem?_snoc _ _ _ _ h1 with f | ⟨f, rfl⟩
      · rcases getElem?_snoc _ _ _ _ h2 with e | ⟨e, rfl⟩
        · exact ObjOK.mono hle1 (fun _ _ _ => rfl) (hi.obj i y b f e)
        · have := (List.getElem?_eq_some_iff.1 f).1
          have := hi.len
          omega
      · rcases getElem?_snoc _ _ _ _ h2 with e | ⟨e, rfl⟩
        · have := (List.getElem?_eq_some_iff.1 e).1
          have := hi.len
          omega
        · exact ⟨hsz, rfl⟩
    · intro i j y z b h1 h2 l1 l2 r1 r2
      obtain ⟨e1, e2⟩ := back i y b h1 r1
      obtain ⟨f1, f2⟩ := back j z b h2 r2
      exact hi.inj i j y z b e1 f1 l1 l2 e2 f2
  obtain ⟨v, hv, hvx⟩ := hxs.get q _ hx
  have hv' : RV (ctx A (r ++ [none]) (H ++ [AObj.row t sz 0 (fun _ _ => .junk) 0]) w) (.sl H.length sz 0 0 none) v := by
    unfold isNilS at hnil
    split at hnil
    · simp only [RV, RG] at hvx ⊢
      subst hvx
      exact ⟨none, 0, rfl, Nat.le_refl _, Nat.zero_le _, .inr ⟨by simp, by simp, (fun k h => by cases h), .inl (by simp [ctx, ← hi.len])⟩⟩
    · simp only [RV] at hvx ⊢
      obtain ⟨a, rfl⟩ := hvx
      exact ⟨a, 0, rfl, Nat.le_refl _, Nat.zero_le _, .inr ⟨by simp, by simp, (fun k h => by cases h), .inl (by simp [ctx, ← hi.len])⟩⟩
    · cases hnil
  obtain ⟨xs', H', r', q1, q2, q3, q4, q5⟩ := h.out A C0 (r ++ [none]) w us hl (hle.trans hle1) hinv ((RVs.mono hle1 _ _ hxs).set hv hv')
  refine ⟨xs', H', r', q1, q2, q3, q4, ⟨q5.w, fun b o hw => ?_⟩⟩
  rcases q5.wr b o hw with ⟨i, y, h1, h2, h3⟩ | ha
  · obtain ⟨e1, e2⟩ := back i y b h1 h2
    exact .inl ⟨i, y, e1, e2, h3⟩
  · exact .inr ha
end Go.Ev
