/- The mill, part Bd: a plan is good whatever the order. -/
import Derived.Test.YtgpegohoninbfaaGreatEvBc
namespace Go.Ev
set_option linter.unusedVariables false
set_option linter.unusedSimpArgs false
open Go.RowKit
set_option linter.unusedVariables false
variable {A : Nat → Nat → Prop}

theorem closeR_size (ops : Array Oper) (i : Nat) : True := trivial
theorem free_mono {ops : Array Oper} {i : Nat} {oi : Oper} {l listed : Array Bool} (hi : ops[i]? = some oi) (h : Region.free .any ops l i = true) (hs : ∀ j, j < ops.size → listed.getD j true = false → l.getD j true = false) (j : Nat) (oj : Oper)
    (hj : ops[j]? = some oj) (hne : j ≠ i) (hun : listed.getD j true = false) (hno : ∀ e ∈ oj.after, Region.binds .any e = true → e.on ≠ i) : oi.apart ops oj = true :=
  Region.free_spec hi h j oj hj hne (hs j (Array.getElem?_eq_some_iff.1 hj).1 hun) hno

theorem subB_ok {c d : Array Bool} {n j : Nat} (h : subB c d n = true) (hj : j < n) (hc : c.getD j true = true) : d.getD j false = true := by
  simp only [subB, List.all_eq_true, List.mem_range, Bool.or_eq_true, Bool.not_eq_true'] at h
  rcases h j hj with h | h
  · rw [hc] at h; cases h
  · exact h
theorem noneE_ok {E : Nat → Bool} {c l : Array Bool} {n j : Nat} (h : noneE E c l n = true) (hj : j < n) (hE : E j = true) (hc : c.getD j true = true) : l.getD j false = true := by
  simp only [noneE, List.all_eq_true, List.mem_range, Bool.or_eq_true, Bool.not_eq_true'] at h
  rcases h j hj with (h | h) | h
  · rw [hE] at h; cases h
  · rw [hc] at h; cases h
  · exact h

/-- What may come ahead of i, and is not told by E. -/
theorem settled_ok {ops : Array Oper} {E : Nat → Bool} {l la : Array Bool} {i : Nat} (h : settled ops E l la i = true) (hl : l.size = ops.size) : ∃ c : Array Bool, (∀ j, j < ops.size → la.getD j true = true → c.getD j true = true) ∧
    ∀ listed : Array Bool, listed.size = ops.size → (∀ j, j < ops.size → listed.getD j true = true → c.getD j true = true) → (∀ j, j < ops.size → l.getD j true = true → listed.getD j true = true) →
      ∀ j, j ∈ Region.ready .any ops listed → j ≠ i → E j = false ∧ c.getD j true = true := by
  simp only [settled, Bool.and_eq_true] at h
  obtain ⟨⟨⟨h1, h2⟩, h3⟩, h4⟩ := h
  generalize closeR ops i ops.size la = c at h1 h2 h3 h4
  have h4 := Nat.eq_of_beq_eq_true h4
  refine ⟨c, fun j hj hla => ?_, fun listed hs hc hll j hj hji => ?_⟩
  · have := subB_ok h3 hj hla
    rw [getD_in (by omega) false true] at this
    exact this
  · have hlt := ready_lt hj
    have hcj : c.getD j true = true := by
      cases hcj : c.getD j true with
      | true => rfl
      | false =>
        refine absurd (allAre_ok h1 j ?_) hji
        rw [mem_ready] at hj ⊢
        obtain ⟨h0, o, ho, hall⟩ := hj
        refine ⟨hcj, o, ho, fun ed hed hb => ?_⟩
        have h5 := hall ed hed hb
        have hlt' : ed.on < listed.size := by
          rcases Nat.lt_or_ge ed.on listed.size with h' | h'
          · exact h'
          · simp [Array.getElem?_eq_none h'] at h5
        rw [getD_in hlt' false true] at h5
        rw [getD_in (by omega) false true]
        exact hc _ (by omega) h5
    refine ⟨?_, hcj⟩
    cases hE : E j with
    | false => rfl
    | true =>
      have h6 := noneE_ok h2 hlt hE hcj
      rw [getD_in (by omega) false true] at h6
      have h7 := hll j hlt h6
      have h8 := (mem_ready.1 hj).1
      rw [h7] at h8; cases h8

theorem evRB_ok {T : Tab} (hT : T.OK) {r : List (Option Nat)} {H : AHeap} {w : World} {e : Env} {a : Act} (hi : Inv A r H w) (hl : Laid T (ctx A r H w)) (he : RE (ctx A r H w) e a) {o : Oper} {k : AV → Bool} (h : evRB T H e o.op k = true) :
    YldN T.P (ctx A r H w) (Stood w) (fun v => k v = true) (execOp a.eval o) := by
  have V := rv_opv hl he
  have hS : ∀ w', Stood w w' → Agree A r H [] w w' := fun w' hs => ⟨fun b q v hv _ => by rw [World.cell?_of_block (hs b (cell_lt hv))]; exact hv, fun id x b h1 h2 _ h4 => hs b (ObjOK.lt (hi.obj id x _ h1 h4) h2)⟩
  obtain ⟨dst, op, ty, pos, after, guard⟩ := o
  simp only at h
  unfold evRB at h
  split at h
  · rename_i t x y ok
    simp only [opdB_eq] at h
    exact Yld.next (yld_lookup hT hi (fun w' hs => hs) (evLookupB_ok h) (V x) (V y))
  · rename_i t x
    simp only [opdB_eq] at h
    obtain ⟨b, u, h1, h2, h3⟩ := yld_load hT hi (evLoadB_ok h) (V x)
    exact Yld.next ⟨b, u, h1, h2, fun w' hw' => h3 w' (hS w' hw')⟩
  · cases h

/-- A load that is watched yields what it yielded at the region's start. -/
def SE (T : Tab) (C : Ctx) (n : Ent) (u : World) : Prop := ∃ av c, RV C n.2.2.1 av ∧ RV C n.2.2.2 c ∧ ∀ u', Still u u' → (Instr.loadAt n.2.1 av).run T.P u' = .ok c u'
theorem SE.still {T : Tab} {C : Ctx} {n : Ent} {u u' : World} (h : SE T C n u) (hs : Still u u') : SE T C n u' := by
  obtain ⟨av, c, h1, h2, h3⟩ := h
  exact ⟨av, c, h1, h2, fun u'' hu => h3 u'' (hs.trans hu)⟩
theorem memR_ok {i : Nat} {t : TypeId} {a v : AV} : ∀ {R : List Ent}, memR i t a v R = true → ∃ n ∈ R, n.1 = i ∧ n.2.1 = t ∧ n.2.2.1 = a ∧ n.2.2.2 = v ∧ (∀ (C : Ctx) u u', RV C a u → RV C a u' → u = u') ∧ ∀ (C : Ctx) u u', RV C v u → RV C v u' → u = u'
  | [], h => by simp [memR] at h
  | (i', t', a', v') :: R, h => by
    simp only [memR, Bool.or_eq_true, Bool.and_eq_true] at h
    rcases h with ⟨⟨⟨h1, h2⟩, h3⟩, h4⟩ | h
    · obtain ⟨e3, u3⟩ := eqA_ok h3
      obtain ⟨e4, u4⟩ := eqA_ok h4
      subst e3 e4
      exact ⟨_, List.mem_cons_self, nbeq h1, nbeq h2, rfl, rfl, u3, u4⟩
    · obtain ⟨n, h1, h2⟩ := memR_ok h
      exact ⟨n, List.mem_cons_of_mem _ h1, h2⟩
theorem still_agree {r : List (Option Nat)} {H : AHeap} {w : World} (hi : Inv A r H w) : ∀ w', Still w w' → Agree A r H [] w w' := fun w' hs =>
  ⟨fun b q v hv _ => by rw [World.cell?_of_block (hs.1 b (cell_lt hv))]; exact hv, fun id x b h1 h2 _ h4 => hs.1 b (ObjOK.lt (hi.obj id x _ h1 h4) h2)⟩
/-- What was found at the region's start is found again. -/
theorem se_of {T : Tab} (hT : T.OK) {r : List (Option Nat)} {H : AHeap} {w : World} (hi : Inv A r H w) {C : Ctx} (hle : Le C (ctx A r H w)) {n : Ent} (hn : ∃ av c, RV C n.2.2.1 av ∧ RV C n.2.2.2 c) (h : evLoadB T H n.2.1 n.2.2.1 (fun v' => eqA n.2.2.2 v') = true) : SE T C n w := by
  obtain ⟨av, c, h1, h2⟩ := hn
  obtain ⟨v', c', h3, h4, h5⟩ := yld_load hT hi (evLoadB_ok h) (RV.mono hle _ _ h1)
  obtain ⟨e, hu⟩ := eqA_ok h3
  rw [← e] at h4
  have := hu _ _ _ (RV.mono hle _ _ h2) h4
  subst this
  exact ⟨av, c, h1, h2, fun u' hs => h5 u' (still_agree hi u' hs)⟩
theorem keepR_ok {T : Tab} (hT : T.OK) {r : List (Option Nat)} {H : AHeap} {w : World} (hi : Inv A r H w) {C : Ctx} (hle : Le C (ctx A r H w)) {W : Watch} {j : Nat} : ∀ {R : List Ent}, (∀ n ∈ R, ∃ av c, RV C n.2.2.1 av ∧ RV C n.2.2.2 c) → keepR T H W j R = true → ∀ n ∈ R, watches W n.1 j = true → SE T C n w
  | [], _, _, n, hn, _ => by cases hn
  | (i, t, a, v) :: R, hR, h, n, hn, hw => by
    simp only [keepR, Bool.and_eq_true] at h
    rcases List.mem_cons.1 hn with rfl | hn
    · have h1 := h.1
      simp only [hw] at h1
      exact se_of hT hi hle (hR _ List.mem_cons_self) h1
    · exact keepR_ok hT hi hle (fun n hn => hR n (List.mem_cons_of_mem _ hn)) h.2 n hn hw

section
variable {T : Tab} (hT : T.OK) {N : Nat} {C0 : Ctx} {cb : CallB} (hcb : CallOK T cb) {ops : Array Oper} {full : List PStep} {W : Watch} {R : List Ent}
include hT hcb

theorem planB_sound {Q : Ex → Env → AHeap → Prop} {k : Env → AHeap → Bool} (hk : ∀ e H, k e H = true → Q .nx e H) (hp : POk T N ops full) (hR : ∀ n ∈ R, ∃ av c, RV C0 n.2.2.1 av ∧ RV C0 n.2.2.2 c) :
    ∀ (pl : List PStep) (labs : Array Bool), chkP ops (isE full) (isA full) W pl labs = true → ∀ (e : Env) (r : List (Option Nat)) (H : AHeap), planB T cb N ops.toList W R pl e H k = true →
      ∀ (fuel : Nat) (listed : Array Bool) (D : List (Nat × Nat)) (w : World) (a : Act), PSt T N A C0 ops full labs listed D r H w e a → unl listed ≤ fuel → wpAnyR T.P ops (QR T N A C0 Q) (isE full) (fun j w' => ∀ n ∈ R, watches W n.1 j = true → SE T C0 n w') fuel listed a w := by
  have hQp : ∀ c (a : Act) (w : World) (dst : Option Nat) (v : Value), QR T N A C0 Q (.panic c) (a.put dst v) w → QR T N A C0 Q (.panic c) a w := fun c a w dst v hq => by
    obtain ⟨x', _, _, _, hx, _⟩ := hq; cases x' <;> cases hx
  intro pl
  induction pl with
  | nil =>
    intro labs hc e r H h fuel listed D w a hst hf
    simp only [chkP, List.all_eq_true, List.mem_range] at hc
    have hall : ∀ j, j < ops.size → labs.getD j true = true := fun j hj => by
      have := hc j hj
      rw [getD_in (by rw [hst.sz1]; exact hj) false true] at this
      exact this
    have hD : D = [] := by
      cases D with
      | nil => rfl
      | cons p D =>
        obtain ⟨h1, _, h3⟩ := hst.dA p List.mem_cons_self
        rw [hall _ h1] at h3; cases h3
    subst hD
    have hr : Region.ready .any ops listed = [] := by
      apply List.eq_nil_iff_forall_not_mem.2
      intro j hj
      have hlt := ready_lt hj
      have h0 := (mem_ready.1 hj).1
      rw [(hst.lst j hlt).2 (.inl (hall j hlt))] at h0
      cases h0
    have hq : QR T N A C0 Q .normal a w := by
      have h1 := hst.rel
      have h2 := hst.le
      rw [Aof_nil] at h1 h2
      exact ⟨.nx, e, H, r, rfl, hk _ _ h, h1, h2⟩
    cases fuel with
    | zero => exact ⟨hr, hq⟩
    | succ fuel => exact ⟨fun _ => hq, by rw [hr]; intro i hi; cases hi⟩
  | cons st pl ih =>
    obtain ⟨kd, i⟩ := st
    intro labs hc e r H h
    simp only [chkP, Bool.and_eq_true] at hc
    obtain ⟨⟨⟨hc1, hc2⟩, hc3⟩, hc4⟩ := hc
    have hilt : i < ops.size := blt_lt hc2
    have hir : i ∈ Region.ready .any ops labs := by simpa using hc1
    have hilabs := (mem_ready.1 hir).1
    simp only [planB] at h
    split at h
    · rename_i o ho
      have ho' : ops[i]? = some o := by rw [← Array.getElem?_toList]; exact ho
      -- fuel is left where something is not listed
      have fuel1 : ∀ (fuel : Nat) (listed : Array Bool), listed.size = ops.size → listed.getD i true = false → unl listed ≤ fuel → ∃ f, fuel = f + 1 ∧ unl (listed.setIfInBounds i true) ≤ f := by
        intro fuel listed hs hl hf
        have := unl_set (l := listed) (i := i) (by omega) hl
        exact ⟨fuel - 1, by omega, by omega⟩
      have notD : ∀ {listed : Array Bool} {D : List (Nat × Nat)} {w : World} {a : Act}, PSt T N A C0 ops full labs listed D r H w e a → isA full i = false → ∀ p ∈ D, p.1 ≠ i := by
        intro listed D w a hst hA p hp' he
        have := (hst.dA p hp').2.1
        rw [he, hA] at this; cases this
      -- a value that is taken first
      have take : isE full i = false → isA full i = false → Region.free .any ops labs i = true →
          (∀ (listed : Array Bool) (D : List (Nat × Nat)) (w : World) (a : Act), PSt T N A C0 ops full labs listed D r H w e a →
            ∃ (x : AV) (v : Value) (I : World → Prop), (∀ d, o.dst = some d → d < N) ∧ planB T cb N ops.toList W R pl (setO o.dst x e) H k = true ∧ RV (ctx (Aof A D) r H w) x v ∧ YieldsIf T.P ops I o v a ∧ I w ∧
              ∃ G : Array Bool → Prop, G listed ∧ ∀ listed j, G listed → j ∈ Region.ready .any ops listed → j ≠ i → G (listed.setIfInBounds j true) ∧ ∀ w w', I w → (isE full j = false → Still w w') → (isE full j = true → ∀ n ∈ R, watches W n.1 j = true → SE T C0 n w') → I w') →
          ∀ (fuel : Nat) (listed : Array Bool) (D : List (Nat × Nat)) (w : World) (a : Act), PSt T N A C0 ops full labs listed D r H w e a → unl listed ≤ fuel → wpAnyR T.P ops (QR T N A C0 Q) (isE full) (fun j w' => ∀ n ∈ R, watches W n.1 j = true → SE T C0 n w') fuel listed a w := by
        intro hE hA hfree hval fuel listed D w a hst hf
        have hready := hst.ready hir (notD hst hA)
        obtain ⟨f, rfl, hf'⟩ := fuel1 fuel listed hst.sz2 (mem_ready.1 hready).1 hf
        obtain ⟨x, v, I, hd, hrest, hv, hy, hI, G, hg0, hg⟩ := hval listed D w a hst
        refine wpAnyR_take ho' hE (Region.noSelect_spec hp.sel) (fun c a w => hQp c a w _ _) I G hg f listed a w ?_ hready hy hg0 hI ?_
        · intro j oj hj hji hun hno
          refine free_mono ho' hfree (fun q hq hl => ?_) j oj hj hji hun hno
          cases hlab : labs.getD q true with
          | false => rfl
          | true => rw [(hst.lst q hq).2 (.inl hlab)] at hl; cases hl
        · exact ih _ hc4 _ _ _ hrest f _ D w _ (hst.go hp ho' hA (Le.refl _) (hst.rel.setO hv hd)) hf'
      -- what may come ahead
      have ahead : ∀ (E : Nat → Bool), settled ops E labs (withA (isA full) ops.size labs ops.size) i = true → ∀ (listed : Array Bool) (D : List (Nat × Nat)) (w : World) (a : Act), PSt T N A C0 ops full labs listed D r H w e a →
          ∃ G : Array Bool → Prop, G listed ∧ ∀ listed j, G listed → j ∈ Region.ready .any ops listed → j ≠ i → G (listed.setIfInBounds j true) ∧ E j = false := by
        intro E hset listed D w a hst
        obtain ⟨c, hc5, hc6⟩ := settled_ok hset hst.sz1
        refine ⟨fun l => l.size = ops.size ∧ (∀ j, j < ops.size → l.getD j true = true → c.getD j true = true) ∧ (∀ j, j < ops.size → labs.getD j true = true → l.getD j true = true), ⟨hst.sz2, fun j hj hl => ?_, fun j hj hl => (hst.lst j hj).2 (.inl hl)⟩, ?_⟩
        · refine hc5 j hj ?_
          rw [withA_get _ _ _ _ _ hj]
          rcases (hst.lst j hj).1 hl with h1 | ⟨p, hp', h1⟩
          · rw [h1]; rfl
          · have h2 := (hst.dA p hp').2.1
            rw [h1] at h2
            have h3 : Nat.beq j ops.size = false := by
              cases hb : Nat.beq j ops.size with
              | false => rfl
              | true => have := Nat.eq_of_beq_eq_true hb; omega
            rw [h2, h3]; simp
        · rintro l j ⟨g1, g2, g3⟩ hj hji
          obtain ⟨hEj, hcj⟩ := hc6 l g1 g2 g3 j hj hji
          refine ⟨⟨by simp [g1], fun q hq hl => ?_, fun q hq hl => ?_⟩, hEj⟩
          · rcases (lst_set g1 hq).1 hl with h1 | rfl
            · exact g2 q hq h1
            · exact hcj
          · exact (lst_set g1 hq).2 (.inl (g3 q hq hl))
      -- a guard's two ways
      have und : ∀ {listed : Array Bool} {D : List (Nat × Nat)} {w : World} {a : Act}, PSt T N A C0 ops full labs listed D r H w e a → (setB N o.dst (.g (.c undef)) e fun e' => planB T cb N ops.toList W R pl e' H k) = true →
          (∀ d, o.dst = some d → d < N) ∧ planB T cb N ops.toList W R pl (setO o.dst (.g (.c undef)) e) H k = true ∧ RV (ctx (Aof A D) r H w) (.g (.c undef)) undef := by
        intro listed D w a hst h
        obtain ⟨h1, h2⟩ := setB_ok h
        exact ⟨h1, h2, by simp [RV, RG]⟩
      split at h
      · -- a pure operation
        simp only [Bool.and_eq_true, Bool.not_eq_true'] at hc3
        obtain ⟨⟨hE, hA⟩, hfree⟩ := hc3
        refine take hE hA hfree ?_
        intro listed D w a hst
        have triv : ∃ G : Array Bool → Prop, G listed ∧ ∀ listed j, G listed → j ∈ Region.ready .any ops listed → j ≠ i → G (listed.setIfInBounds j true) ∧ ∀ w w' : World, True → (isE full j = false → Still w w') → (isE full j = true → ∀ n ∈ R, watches W n.1 j = true → SE T C0 n w') → True :=
          ⟨fun _ => True, trivial, fun _ _ _ _ _ => ⟨trivial, fun _ _ _ _ _ => trivial⟩⟩
        rcases guardK_ok hst.rel (guardB_ok h) with ⟨hw, hy⟩ | ⟨hw, hn⟩
        · split at hy
          · cases hy
          · rename_i hrd
            obtain ⟨x, v, h1, h2, h3⟩ := evQ_sound hT (X := []) (S := fun _ => True) hst.rel.inv hst.rel.laid hst.rel.env o (fun t y hop => by rw [hop] at hrd; cases hrd) (evQB_ok hy)
            obtain ⟨h4, h5⟩ := setB_ok h1
            exact ⟨x, v, fun _ => True, h4, h5, h2, .inl ⟨hw, h3⟩, trivial, triv⟩
        · obtain ⟨h1, h2, h3⟩ := und hst hn
          exact ⟨_, _, fun _ => True, h1, h2, h3, .inr ⟨hw, rfl⟩, trivial, triv⟩
      · -- a load
        simp only [Bool.and_eq_true, Bool.not_eq_true'] at hc3
        obtain ⟨⟨⟨hE, hA⟩, hfree⟩, hset⟩ := hc3
        refine take hE hA hfree ?_
        intro listed D w a hst
        obtain ⟨G, hg0, hg⟩ := ahead _ hset listed D w a hst
        have hG : ∃ G : Array Bool → Prop, G listed ∧ ∀ listed j, G listed → j ∈ Region.ready .any ops listed → j ≠ i → G (listed.setIfInBounds j true) ∧ ∀ u u' : World, Still w u → (isE full j = false → Still u u') → (isE full j = true → ∀ n ∈ R, watches W n.1 j = true → SE T C0 n u') → Still w u' :=
          ⟨G, hg0, fun l j h1 h2 h3 => ⟨(hg l j h1 h2 h3).1, fun u u' h4 h5 _ => h4.trans (h5 (hg l j h1 h2 h3).2)⟩⟩
        rcases guardK_ok hst.rel (guardB_ok h) with ⟨hw, hy⟩ | ⟨hw, hn⟩
        · obtain ⟨x, v, h1, h2, h3⟩ := evRB_ok hT hst.rel.inv hst.rel.laid hst.rel.env hy
          obtain ⟨h4, h5⟩ := setB_ok h1
          exact ⟨x, v, Still w, h4, h5, h2, .inl ⟨hw, fun u hu => h3 u hu.1⟩, Still.refl w, hG⟩
        · obtain ⟨h1, h2, h3⟩ := und hst hn
          exact ⟨_, _, Still w, h1, h2, h3, .inr ⟨hw, rfl⟩, Still.refl w, hG⟩
      · -- what makes a block
        simp only [Bool.and_eq_true, Bool.not_eq_true'] at hc3
        obtain ⟨⟨⟨hE, hA⟩, hdst⟩, honly⟩ := hc3
        split at h
        · obtain ⟨x, av, obj, val, hls, h⟩ := lateB_ok hT h
          obtain ⟨hd, h⟩ := setB_ok h
          intro fuel
          have adopt : ∀ (fuel : Nat) (listed : Array Bool) (D : List (Nat × Nat)) (w : World) (a : Act), PSt T N A C0 ops full labs listed D r H w e a → unl listed ≤ fuel → (∃ p ∈ D, p.1 = i) → wpAnyR T.P ops (QR T N A C0 Q) (isE full) (fun j w' => ∀ n ∈ R, watches W n.1 j = true → SE T C0 n w') fuel listed a w := by
            rintro fuel listed D w a hst hf ⟨⟨q, b⟩, hpD, rfl⟩
            obtain ⟨D', hst'⟩ := hst.told hp hpD ho' hls
            exact ih _ hc4 _ _ _ h fuel listed D' w a hst' hf
          induction fuel with
          | zero =>
            intro listed D w a hst hf
            refine adopt 0 listed D w a hst hf ?_
            cases hl : listed.getD i true with
            | true =>
              rcases (hst.lst i hilt).1 hl with h1 | h1
              · rw [hilabs] at h1; cases h1
              · exact h1
            | false =>
              have := unl_set (l := listed) (i := i) (by rw [hst.sz2]; exact hilt) hl
              omega
          | succ fuel ihf =>
            intro listed D w a hst hf
            by_cases hD : ∃ p ∈ D, p.1 = i
            · exact adopt _ listed D w a hst hf hD
            · have hD' : ∀ p ∈ D, p.1 ≠ i := fun p hp' he => hD ⟨p, hp', he⟩
              have hready := hst.ready hir hD'
              refine ⟨fun h0 => (by rw [h0] at hready; cases hready), fun j hj => ?_⟩
              have hjA : isA full j = true := by
                cases hjA : isA full j with
                | true => rfl
                | false =>
                  have := hst.only hj (.inl hjA) hD' honly
                  rw [this, hA] at hjA; cases hjA
              refine hst.ahead hp hj hjA fun b a' w' hs hst' => ⟨⟨fun _ => hs, fun hE' => (by rw [hp.ae j hjA] at hE'; cases hE')⟩, ihf _ _ w' a' hst' ?_⟩
              have := unl_set (l := listed) (i := j) (by rw [hst.sz2]; exact ready_lt hj) (mem_ready.1 hj).1
              omega
        · cases h
      · -- a load that is watched
        simp only [Bool.and_eq_true, Bool.not_eq_true'] at hc3
        obtain ⟨⟨⟨hE, hA⟩, hfree⟩, hset⟩ := hc3
        refine take hE hA hfree ?_
        intro listed D w a hst
        obtain ⟨G, hg0, hg⟩ := ahead _ hset listed D w a hst
        rcases guardK_ok hst.rel (guardB_ok h) with ⟨hw, hy⟩ | ⟨hw, hn⟩
        · split at hy
          · rename_i t x hop
            simp only [opdB_eq] at hy
            have hx := rv_opv hst.rel.laid hst.rel.env x
            obtain ⟨v, c, h1, h2, h3⟩ := yld_load hT hst.rel.inv (evLoadB_ok hy) hx
            simp only [Bool.and_eq_true] at h1
            obtain ⟨h4, h5⟩ := setB_ok h1.2
            obtain ⟨n, hn, n1, n2, n3, n4, n5, n6⟩ := memR_ok h1.1
            obtain ⟨av, c0, r1, r2⟩ := hR n hn
            have hav : av = a.eval x := by
              have := RV.mono hst.le _ _ r1
              rw [n3] at this
              exact n5 _ _ _ this hx
            have hc0 : c0 = c := by
              have := RV.mono hst.le _ _ r2
              rw [n4] at this
              exact n6 _ _ _ this h2
            have hse : SE T C0 n w := ⟨av, c0, r1, r2, fun u' hu => by rw [n2, hav, hc0]; exact h3 u' (still_agree hst.rel.inv u' hu)⟩
            refine ⟨v, c, SE T C0 n, h4, h5, h2, .inl ⟨hw, ?_⟩, hse, G, hg0, fun l j q1 q2 q3 => ⟨(hg l j q1 q2 q3).1, fun u u' q4 q5 q6 => ?_⟩⟩
            · rintro u ⟨av', c', s1, s2, s3⟩
              have e1 : av' = a.eval x := by
                have := RV.mono hst.le _ _ s1
                rw [n3] at this
                exact n5 _ _ _ this hx
              have e2 : c' = c := by
                have := RV.mono hst.le _ _ s2
                rw [n4] at this
                exact n6 _ _ _ this h2
              have := s3 u (Still.refl u)
              rw [n2, e1, e2] at this
              simp only [execOp, hop, Sem.run_bind, this, Result.andThen_ok, Sem.run_pure]
            · cases hEj : isE full j with
              | false => exact q4.still (q5 hEj)
              | true =>
                have hEw := (hg l j q1 q2 q3).2
                rw [hEj, Bool.true_and, Bool.not_eq_false'] at hEw
                exact q6 hEj n hn (by rw [n1]; exact hEw)
          · cases hy
        · obtain ⟨h1, h2, h3⟩ := und hst hn
          exact ⟨_, _, fun _ => True, h1, h2, h3, .inr ⟨hw, rfl⟩, trivial, fun _ => True, trivial, fun _ _ _ _ _ => ⟨trivial, fun _ _ _ _ _ => trivial⟩⟩
      · -- any other operation: the only one
        rename_i hn0 hn1 hn2 hn4
        have hc3' : (isE full i && !isA full i && allAre i (Region.ready .any ops (withA (isA full) ops.size labs ops.size))) = true := by
          revert hc3
          split
          · exact absurd rfl hn0
          · exact absurd rfl hn1
          · exact absurd rfl hn4
          · exact absurd rfl hn2
          · exact id
        simp only [Bool.and_eq_true, Bool.not_eq_true'] at hc3'
        obtain ⟨⟨hE, hA⟩, honly⟩ := hc3'
        intro fuel
        induction fuel with
        | zero =>
          intro listed D w a hst hf
          have hready := hst.ready hir (notD hst hA)
          have := unl_set (l := listed) (i := i) (by rw [hst.sz2]; exact hilt) (mem_ready.1 hready).1
          omega
        | succ fuel ihf =>
          intro listed D w a hst hf
          have hready := hst.ready hir (notD hst hA)
          refine ⟨fun h0 => (by rw [h0] at hready; cases hready), fun j hj => ?_⟩
          have hcount := unl_set (l := listed) (i := j) (by rw [hst.sz2]; exact ready_lt hj) (mem_ready.1 hj).1
          cases hjA : isA full j with
          | true =>
            exact hst.ahead hp hj hjA fun b a' w' hs hst' => ⟨⟨fun _ => hs, fun hE' => (by rw [hp.ae j hjA] at hE'; cases hE')⟩, ihf _ _ w' a' hst' (by omega)⟩
          | false =>
            have hji : j = i := hst.only hj (.inl hjA) (fun p hp' he => by have := (hst.dA p hp').1; omega) honly
            subst hji
            unfold wpOp
            rw [ho']
            simp only
            rcases guardK_ok hst.rel (guardB_ok h) with ⟨hw, hy⟩ | ⟨hw, hn⟩
            · rw [if_pos hw]
              refine .inl (evE_sound hT hst.rel.inv hst.rel.laid hst.rel.env (evEB_ok hcb hy) ?_)
              intro x v H' X r' w' hkx hs hv
              simp only [Bool.and_eq_true] at hkx
              obtain ⟨hd, hrest⟩ := setB_ok hkx.2
              exact ⟨⟨fun hh => (by rw [hE] at hh; cases hh), fun _ => keepR_ok hT hs.inv (hst.le.trans hs.le) hR hkx.1⟩, ih _ hc4 _ _ _ hrest fuel _ D w' _ (hst.go hp ho' hA hs.le ((hst.rel.step hs).setO hv hd)) (by omega)⟩
            · rw [if_neg (by simp [hw])]
              simp only [Bool.and_eq_true] at hn
              obtain ⟨h1, h2, h3⟩ := und hst hn.2
              exact ⟨⟨fun hh => (by rw [hE] at hh; cases hh), fun _ => keepR_ok hT hst.rel.inv hst.le hR hn.1⟩, ih _ hc4 _ _ _ h2 fuel _ D w _ (hst.go hp ho' hA (Le.refl _) (hst.rel.setO h3 h1)) (by omega)⟩
    · cases h
end
end Go.Ev
