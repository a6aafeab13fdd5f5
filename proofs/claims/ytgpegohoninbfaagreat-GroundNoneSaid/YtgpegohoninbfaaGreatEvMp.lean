/- The mill, part Mp: maps. -/
import Derived.Test.YtgpegohoninbfaaGreatEvN
namespace Go.Ev
set_option linter.unusedVariables false
set_option linter.unusedSimpArgs false
open Go.RowKit
variable {A : Nat → Nat → Prop}
set_option linter.unusedVariables false

abbrev ME := List ((Nat × Value) × AV)
def evFind (d : TypeDesc) (key : Value) : ME → Nat → Option (Option (Nat × AV))
  | [], _ => some none
  | p :: ps, i => match Instr.sameNow d key p.1.2 with
    | some true => some (some (i, p.2))
    | some false => evFind d key ps (i + 1)
    | none => none

theorem evFind_ok {C : Ctx} {d : TypeDesc} {key : Value} : ∀ (ps : ME) (es : List MapEntry) (i : Nat), RM C ps es → ∀ q, evFind d key ps i = some q →
    ∃ q', Instr.findNow d key es i = some q' ∧ (q = none → q' = none) ∧ ∀ j x, q = some (j, x) → ∃ v, q' = some (j, v) ∧ RV C x v
  | [], es, i, h, q, hq => by
    simp only [RM] at h
    subst h
    simp only [evFind, Option.some.injEq] at hq
    subst hq
    exact ⟨none, rfl, fun _ => rfl, fun j x h => by cases h⟩
  | p :: ps, es, i, h, q, hq => by
    simp only [RM] at h
    obtain ⟨e, es', rfl, ⟨h1, h2⟩, h3, h4⟩ := h
    simp only [evFind] at hq
    simp only [Instr.findNow, h2]
    split at hq
    · rename_i hs
      simp only [Option.some.injEq] at hq
      subst hq
      simp only [hs]
      exact ⟨_, rfl, (fun h => by cases h), (fun j x h => by cases h; exact ⟨_, rfl, h3⟩)⟩
    · rename_i hs
      simp only [hs]
      exact evFind_ok ps es' (i + 1) h4 q hq
    · cases hq

/-- Where it was found, its key is the key. -/
theorem evFind_key {d : TypeDesc} {key : Value} : ∀ (ps : ME) (i j : Nat) (x : AV), evFind d key ps i = some (some (j, x)) → i ≤ j ∧ ∃ p, ps[j - i]? = some p ∧ p.2 = x ∧ Instr.sameNow d key p.1.2 = some true
  | [], i, j, x, h => by simp [evFind] at h
  | p :: ps, i, j, x, h => by
    simp only [evFind] at h
    split at h
    · rename_i hs
      simp only [Option.some.injEq, Prod.mk.injEq] at h
      obtain ⟨rfl, rfl⟩ := h
      exact ⟨Nat.le_refl _, p, by simp, rfl, hs⟩
    · obtain ⟨h1, q, h2, h3, h4⟩ := evFind_key ps (i + 1) j x h
      refine ⟨by omega, q, ?_, h3, h4⟩
      rw [show j - i = (j - (i + 1)) + 1 by omega]
      simpa using h2
    · cases h

theorem sameNow_bits {d : TypeDesc} {a b : Value} (h : Instr.sameNow d a b = some true) : b = a := by
  cases d <;> cases a <;> cases b <;> simp [Instr.sameNow] at h
  · subst h; rfl
  · obtain ⟨rfl, rfl⟩ := h; rfl
  · rename_i s t
    have h : (s.toList == t.toList) = true := by rw [← beq_toListBytes]; simpa using h
    have h := eq_of_beq h
    rw [ByteArray.toList_eq, ByteArray.toList_eq] at h
    have : t = s := by
      apply ByteArray.ext
      apply Array.ext'
      exact h.symm
    rw [this]

theorem bits_self {d : TypeDesc} {v : Value} (h : Instr.sameNow d v v = some true) : Instr.sameBits 10000 v v = true := by
  cases d <;> cases v <;> simp [Instr.sameNow] at h <;> first | (simp [Instr.sameBits]; done) | (simp [Instr.sameBits]; exact h)
def plainKey : TypeDesc → Bool
  | .int _ => true
  | .string => true
  | .bool => true
  | _ => false

theorem run_checkKey {P : Program} {t : TypeId} {d : TypeDesc} (h : P.underlying t = some d) (hp : plainKey d = true) (e : Bool) (v : Value) (w : World) : (Instr.checkKey e 10000 t v).run P w = .ok () w := by
  have : ∀ n, (Instr.checkKey e (n + 1) t v).run P w = .ok () w := by
    intro n
    cases d <;> simp [plainKey] at hp <;> simp [Instr.checkKey, run_underlying h]
  exact this 9999

/-- The keys of a map's type, and its elements. -/
def mapT (T : Tab) (t : TypeId) : Option (TypeDesc × TypeId × Value) :=
  match T.und t with
  | some (.map kt el) => match T.und kt, T.inf el with
    | some d, some (_, _, z) => match plainKey d with
      | true => some (d, kt, z)
      | false => none
    | _, _ => none
  | _ => none
def zeroK (z : Value) (k : AV → Prop) : Prop :=
  match z with
  | .agg cs => gcK cs.toList fun l => k (.agg l)
  | z => k (.g (.c z))
theorem zeroK_rv {C : Ctx} {z : Value} {k : AV → Prop} (h : zeroK z k) : ∃ x, k x ∧ RV C x z := by
  unfold zeroK at h
  split at h
  · rename_i cs
    rw [gcK_eq] at h
    exact ⟨_, h, by simp only [RV]; exact ⟨cs.toList, rfl, RVs.exacts _⟩⟩
  · exact ⟨_, h, by simp [RV, RG]⟩
def commaK (ok : Bool) (x : AV) (is : Bool) (k : AV → Prop) : Prop :=
  match ok with
  | true => k (.tup [x, vbool is])
  | false => k x
def evLookup (T : Tab) (H : AHeap) (t : TypeId) (x y : AV) (ok : Bool) (k : AV → Prop) : Prop :=
  match mapT T t, y with
  | some (d, _, z), .g (.c key) => match x with
    | .g (.c (.map none)) => zeroK z fun v => commaK ok v false k
    | .m id => match H[id]? with
      | some (.map es _) => match evFind d key es 0 with
        | some (some (_, v)) => commaK ok v true k
        | some none => zeroK z fun v => commaK ok v false k
        | none => False
      | _ => False
    | _ => False
  | _, _ => False
def setM (v : AV) : ME → Nat → ME
  | [], _ => []
  | p :: ps, 0 => (p.1, v) :: ps
  | p :: ps, n + 1 => p :: setM v ps n
def appM : ME → ((Nat × Value) × AV) → ME
  | [], q => [q]
  | p :: ps, q => p :: appM ps q
def evMapUpdate (T : Tab) (H : AHeap) (t : TypeId) (x y v : AV) (k : AV → AHeap → List Nat → Prop) : Prop :=
  match mapT T t, x, y with
  | some (d, _, _), .m id, .g (.c key) => match H[id]? with
    | some (.map es clk) => match evFind d key es 0 with
      | some (some (i, _)) => hset H id (.map (setM v es i) clk) fun H' => k .junk H' [id]
      | some none => hset H id (.map (appM es ((clk, key), v)) (clk + 1)) fun H' => k .junk H' [id]
      | none => False
    | _ => False
  | _, _, _ => False
def evMapEntry (T : Tab) (H : AHeap) (t : TypeId) (x y : AV) (k : AV → AHeap → List Nat → Prop) : Prop :=
  match mapT T t, x, y with
  | some (d, _, z), .m id, .g (.c key) => match H[id]? with
    | some (.map es clk) => match evFind d key es 0 with
      | some (some (i, v)) => match es[i]? with
        | some ((b, _), _) => k (.tup [v, vint .i64 b]) H [id]
        | none => False
      | some none => zeroK z fun v => hset H id (.map (appM es ((clk, key), v)) (clk + 1)) fun H' => k (.tup [v, vint .i64 clk]) H' [id]
      | none => False
    | _ => False
  | _, _, _ => False
def idxM (n : Int) : ME → Nat → Option Nat
  | [], _ => none
  | p :: ps, i => match ((p.1.1 : Int) == n) with
    | true => some i
    | false => idxM n ps (i + 1)
def evEntryStore (H : AHeap) (x s v : AV) (k : AV → AHeap → List Nat → Prop) : Prop :=
  match x, s with
  | .m id, .g (.c (.int _ n)) => match H[id]? with
    | some (.map es clk) => match idxM n es 0 with
      | some i => hset H id (.map (setM v es i) clk) fun H' => k .junk H' [id]
      | none => False
    | _ => False
  | _, _ => False
def evMakeMap (H : AHeap) (k : AV → AHeap → List Nat → Prop) : Prop := hpush H (.map [] 0) fun id H' => k (.m id) H' []
def evMapLen (H : AHeap) (id : Nat) (k : AV → Prop) : Prop :=
  match H[id]? with
  | some (.map es _) => k (vint .i64 (es.length : Nat))
  | _ => False
def evRange (T : Tab) (H : AHeap) (t : TypeId) (x : AV) (k : AV → AHeap → List Nat → Prop) : Prop :=
  match T.und t, x with
  | some (.map _ _), .m id => match H[id]? with
    | some (.map _ _) => hpush H (.iter (some id)) fun id' H' => k (.p id' 0 0 0) H' []
    | _ => False
  | _, _ => False
def evNext (H : AHeap) (x : AV) (k : AV → Prop) : Prop :=
  match x with
  | .p id 0 0 0 => match H[id]? with
    | some (.iter (some m)) => match H[m]? with
      | some (.map [] _) => k (.tup [vbool false])
      | _ => False
    | _ => False
  | _ => False

theorem setM_rm {C : Ctx} {v : AV} {u : Value} (hv : RV C v u) : ∀ (ps : ME) (es : List MapEntry) (i : Nat), RM C ps es → RM C (setM v ps i) (es.modify i fun e => { e with val := u })
  | [], es, i, h => by simp only [RM] at h; subst h; cases i <;> simp [setM, RM]
  | p :: ps, es, i, h => by
    simp only [RM] at h
    obtain ⟨e, es', rfl, h1, h2, h3⟩ := h
    cases i with
    | zero => simp only [setM, RM, List.modify_zero_cons]; exact ⟨_, _, rfl, h1, hv, h3⟩
    | succ i => simp only [setM, RM, List.modify_succ_cons]; exact ⟨_, _, rfl, h1, h2, setM_rm hv ps es' i h3⟩
theorem appM_rm {C : Ctx} {v : AV} {u key : Value} {clk : Nat} (hv : RV C v u) : ∀ (ps : ME) (es : List MapEntry), RM C ps es → RM C (appM ps ((clk, key), v)) (es ++ [{ key, val := u, born := clk }])
  | [], es, h => by simp only [RM] at h; subst h; simp only [appM, RM]; exact ⟨_, [], rfl, ⟨rfl, rfl⟩, hv, rfl⟩
  | p :: ps, es, h => by
    simp only [RM] at h
    obtain ⟨e, es', rfl, h1, h2, h3⟩ := h
    simp only [appM, RM]
    exact ⟨e, _, rfl, h1, h2, appM_rm hv ps es' h3⟩
theorem RM.get {C : Ctx} : ∀ (ps : ME) (es : List MapEntry) (i : Nat), RM C ps es → ∀ p, ps[i]? = some p → ∃ e, es[i]? = some e ∧ e.born = p.1.1 ∧ e.key = p.1.2 ∧ RV C p.2 e.val
  | [], es, i, h, p, hp => by simp at hp
  | q :: ps, es, i, h, p, hp => by
    simp only [RM] at h
    obtain ⟨e, es', rfl, h1, h2, h3⟩ := h
    cases i with
    | zero => simp at hp; subst hp; exact ⟨e, by simp, h1.1, h1.2, h2⟩
    | succ i => simp at hp; simpa using RM.get ps es' i h3 p hp
theorem RM.length {C : Ctx} : ∀ (ps : ME) (es : List MapEntry), RM C ps es → es.length = ps.length
  | [], es, h => by simp only [RM] at h; subst h; rfl
  | q :: ps, es, h => by
    simp only [RM] at h
    obtain ⟨e, es', rfl, h1, h2, h3⟩ := h
    simp [RM.length ps es' h3]
theorem idxM_ok {C : Ctx} {n : Int} : ∀ (ps : ME) (es : List MapEntry) (i j : Nat), RM C ps es → idxM n ps i = some j → i ≤ j ∧ es.findIdx? (fun e => (e.born : Int) == n) = some (j - i)
  | [], es, i, j, h, hq => by simp [idxM] at hq
  | p :: ps, es, i, j, h, hq => by
    simp only [RM] at h
    obtain ⟨e, es', rfl, h1, h2, h3⟩ := h
    simp only [idxM] at hq
    rw [List.findIdx?_cons, h1.1]
    split at hq
    · rename_i hb
      simp only [Option.some.injEq] at hq
      subst hq
      simp [hb]
    · rename_i hb
      obtain ⟨h4, h5⟩ := idxM_ok ps es' (i + 1) j h3 hq
      refine ⟨by omega, ?_⟩
      rw [hb, h5]
      simp
      omega

section
variable {r : List (Option Nat)} {H : AHeap} {w : World}
theorem heap_set_self {w : World} {b : Nat} {o o' : Obj} (h : w.heap[b]? = some o) : (w.heap.setIfInBounds b o')[b]? = some o' := by
  have := (Array.getElem?_eq_some_iff.1 h).1
  simp [this]
theorem step_map (hi : Inv A r H w) {id b : Nat} {en en' : List MapEntry} {clk clk' : Nat} {es es' : ME} (hH : H[id]? = some (.map es clk)) (hr : r[id]? = some (some b)) (hb : w.heap[b]? = some (.map en.toArray clk)) (hen' : RM (ctx A r H w) es' en') :
    StepOK A r H w r (H.set id (.map es' clk')) { w with heap := w.heap.setIfInBounds b (.map en'.toArray clk') } [id] := by
  have hother : ∀ k, k ≠ b → (w.heap.setIfInBounds b (.map en'.toArray clk'))[k]? = w.heap[k]? := fun k hk => by simp [Array.getElem?_setIfInBounds_ne (Ne.symm hk)]
  have hle : Le (ctx A r H w) (ctx A r (H.set id (.map es' clk')) { w with heap := w.heap.setIfInBounds b (.map en'.toArray clk') }) := by
    refine ⟨fun _ _ h => h, ?_, ?_, ?_, by simp [ctx], ?_, ?_, rfl, rfl, rfl⟩
    · intro k o v hv _
      have hv' : w.cell? ⟨k, o, none⟩ = some v := hv
      by_cases e : k = b
      · subst e; simp [World.cell?, hb] at hv'
      · have key : ∀ w' : World, w'.heap[k]? = w.heap[k]? → w'.cell? ⟨k, o, none⟩ = some v := fun w' hw' => by
          rw [World.cell?_of_block hw']; exact hv'
        exact key _ (hother k e)
    · intro k us t f hk
      have hk' : w.heap[k]? = some (.cells us t f) := hk
      by_cases e : k = b
      · subst e; rw [hb] at hk'; cases hk'
      · exact ⟨us, (hother k e).trans hk', rfl⟩
    · rintro k o _ (⟨i, y, h1, h2, h3⟩ | ha)
      · rcases get_set _ _ _ _ _ h1 with ⟨rfl, rfl, _⟩ | ⟨_, e⟩
        · exact h3.elim
        · exact .inl ⟨i, y, e, h2, h3⟩
      · exact .inr ha
    · rintro k _ ⟨i, y, h1, h2, h3⟩
      rcases get_set _ _ _ _ _ h1 with ⟨rfl, rfl, _⟩ | ⟨_, e⟩
      · exact ⟨i, _, hH, h2, trivial⟩
      · exact ⟨i, y, e, h2, h3⟩
    · intro k _ hno
      refine hother k fun e => hno ?_
      subst e
      exact ⟨id, _, hH, hr, trivial⟩
  have hinv : Inv A r (H.set id (.map es' clk')) { w with heap := w.heap.setIfInBounds b (.map en'.toArray clk') } :=
    inv_block hi (x' := .map es' clk') hH hr trivial hle hother ⟨en', heap_set_self hb, RM.mono hle _ _ hen'⟩
  refine ⟨hle, hinv, fun i y k h1 h2 h3 h4 => hother k fun e => h3 ?_, fun i y h1 h3 => get_set_ne h1 h3⟩
  subst e
  simp [hi.inj i id y _ k h1 hH h2 trivial h4 hr]
end

section
variable {T : Tab} (hT : T.OK) {r : List (Option Nat)} {H : AHeap} {w : World} {k : AV → AHeap → List Nat → Prop}
include hT

theorem mapT_ok {t : TypeId} {d : TypeDesc} {kt : TypeId} {z : Value} (h : mapT T t = some (d, kt, z)) : ∃ el, T.P.underlying t = some (.map kt el) ∧ T.P.underlying kt = some d ∧ plainKey d = true ∧ ∀ w, (zeroValue el).run T.P w = .ok z w := by
  unfold mapT at h
  split at h
  · rename_i kt' el hu
    split at h
    · rename_i d' s b z' hd hi
      split at h
      · rename_i hp
        cases h
        exact ⟨el, hT.und _ _ hu, hT.und _ _ hd, hp, fun w => run_zero hT hi w⟩
      · cases h
    · cases h
  · cases h

omit hT in
theorem run_findKey {P : Program} {kt : TypeId} {d : TypeDesc} (hk : P.underlying kt = some d) {key : Value} {es : List MapEntry} {q : Option (Nat × Value)} (h : Instr.findNow d key es 0 = some q) (w : World) : (Instr.findKey kt key es).run P w = .ok q w := by
  simp [Instr.findKey, run_underlying hk, h]

omit hT in
theorem eff_makeMap (hi : Inv A r H w) {t : TypeId} (h : evMakeMap H k) : Eff T.P A r H w k (Instr.makeMap t none) := by
  unfold evMakeMap at h
  rw [hpush_eq] at h
  refine ⟨_, .map (some w.heap.size), _, _, _, _, by simp [Instr.makeMap], h, step_new hi (.map #[] 0) (.map [] 0) ⟨[], heap_alloc_new w _, by simp [RM]⟩, ?_⟩
  simp only [RV]
  refine ⟨w.heap.size, ?_, rfl⟩
  show (r ++ [some w.heap.size])[H.length]? = _
  rw [← hi.len]; simp

theorem yld_lookup {S : World → Prop} {k : AV → Prop} (hi : Inv A r H w) (hS : ∀ w', S w' → ∀ b, b < w.heap.size → w'.heap[b]? = w.heap[b]?) {t : TypeId} {x y : AV} {u v : Value} {ok : Bool} (h : evLookup T H t x y ok k) (hx : RV (ctx A r H w) x u) (hy : RV (ctx A r H w) y v) :
    Yld T.P (ctx A r H w) S k (Instr.lookup t u v ok) := by
  unfold evLookup at h
  split at h
  · rename_i d kt z key hm
    obtain ⟨el, m1, m2, m3, m4⟩ := mapT_ok hT hm
    simp only [RV, RG] at hy
    subst hy
    have comma : ∀ (x : AV) (u : Value) (is : Bool), commaK ok x is k → RV (ctx A r H w) x u → ∃ y, k y ∧ RV (ctx A r H w) y (if ok then .tuple #[u, .bool is] else u) := by
      intro x u is h hx
      cases ok with
      | true => exact ⟨_, h, by simp only [RV, if_true]; exact ⟨[u, .bool is], rfl, by simp only [RVs, RV, RG]; exact ⟨_, _, rfl, hx, _, _, rfl, rfl, rfl⟩⟩⟩
      | false => exact ⟨_, h, by simpa using hx⟩
    split at h
    · simp only [RV, RG] at hx
      subst hx
      obtain ⟨x, h1, h2⟩ := zeroK_rv (C := ctx A r H w) h
      obtain ⟨y, h3, h4⟩ := comma _ _ _ h1 h2
      refine ⟨y, _, h3, h4, fun w' _ => ?_⟩
      have hc : (Instr.checkKey true 10000 kt v).run T.P w' = .ok () w' := run_checkKey m2 m3 _ _ _
      have hf : (Instr.findKey kt v []).run T.P w' = .ok none w' := run_findKey m2 rfl w'
      simp [Instr.lookup, run_underlying m1, hc, hf, m4]
    · rename_i id
      simp only [RV] at hx
      obtain ⟨b, hr, rfl⟩ := hx
      replace hr : r[id]? = some (some b) := hr
      split at h
      · rename_i es clk hH
        obtain ⟨en, hb, hen⟩ := hi.obj id _ _ hH hr
        replace hb : w.heap[b]? = some (.map en.toArray clk) := hb
        have hlt := (Array.getElem?_eq_some_iff.1 hb).1
        have go : ∀ q, evFind d v es 0 = some q → ∃ q', (∀ w', S w' → (Instr.lookup t (.map (some b)) v ok).run T.P w' = .ok (if ok then .tuple #[(match q' with | some (_, u) => u | none => z), .bool (match q' with | some _ => true | none => false)] else (match q' with | some (_, u) => u | none => z)) w') ∧
            (q = none → q' = none) ∧ ∀ j x, q = some (j, x) → ∃ u, q' = some (j, u) ∧ RV (ctx A r H w) x u := by
          intro q hq
          obtain ⟨q', f1, f2, f3⟩ := evFind_ok es en 0 hen q hq
          refine ⟨q', fun w' hw' => ?_, f2, f3⟩
          have hb' : w'.heap[b]? = some (.map en.toArray clk) := (hS w' hw' b hlt).trans hb
          have hg : (getObj b).run T.P w' = .ok (.map en.toArray clk) w' := by simp [getObj, Sem.run, hb']
          have hc : (Instr.checkKey en.toArray.isEmpty 10000 kt v).run T.P w' = .ok () w' := run_checkKey m2 m3 _ _ _
          have hf : (Instr.findKey kt v en.toArray.toList).run T.P w' = .ok q' w' := run_findKey m2 (by simpa using f1) w'
          simp only [Instr.lookup, Sem.run_bind, run_underlying m1, Result.andThen_ok, hg, Sem.run_pure, hc, hf]
          cases q' with
          | none => simp [m4]
          | some q => simp
        split at h
        · rename_i j x hq
          obtain ⟨q', g1, _, g3⟩ := go _ hq
          obtain ⟨v, rfl, hv⟩ := g3 _ _ rfl
          obtain ⟨y, h3, h4⟩ := comma _ _ _ h hv
          exact ⟨y, _, h3, h4, fun w' hw' => g1 w' hw'⟩
        · rename_i hq
          obtain ⟨q', g1, g2, _⟩ := go _ hq
          have := g2 rfl
          subst this
          obtain ⟨x, h1, h2⟩ := zeroK_rv (C := ctx A r H w) h
          obtain ⟨y, h3, h4⟩ := comma _ _ _ h1 h2
          exact ⟨y, _, h3, h4, fun w' hw' => g1 w' hw'⟩
        · exact h.elim
      · exact h.elim
    · exact h.elim
  · exact h.elim

theorem eff_mapUpdate (hi : Inv A r H w) {t : TypeId} {x y v : AV} {xv yv vv : Value} (h : evMapUpdate T H t x y v k) (hx : RV (ctx A r H w) x xv) (hy : RV (ctx A r H w) y yv) (hv : RV (ctx A r H w) v vv) :
    ∃ w' H' X, (Instr.mapUpdate t xv yv vv).run T.P w = .ok () w' ∧ k .junk H' X ∧ StepOK A r H w r H' w' X := by
  unfold evMapUpdate at h
  split at h
  · rename_i d kt z id key hm
    obtain ⟨el, m1, m2, m3, m4⟩ := mapT_ok hT hm
    simp only [RV, RG] at hx hy
    obtain ⟨b, hr, rfl⟩ := hx
    subst hy
    replace hr : r[id]? = some (some b) := hr
    split at h
    · rename_i es clk hH
      obtain ⟨en, hb, hen⟩ := hi.obj id _ _ hH hr
      replace hb : w.heap[b]? = some (.map en.toArray clk) := hb
      have hg : (getObj b).run T.P w = .ok (.map en.toArray clk) w := by simp [getObj, Sem.run, hb]
      have hs : ∀ o, (setObj b o).run T.P w = .ok () { w with heap := w.heap.setIfInBounds b o } := fun o => by simp [setObj, Sem.run, hb]
      have hc : (Instr.checkKey false 10000 kt yv).run T.P w = .ok () w := run_checkKey m2 m3 _ _ _
      split at h
      · rename_i j x hq
        obtain ⟨q', f1, f2, f3⟩ := evFind_ok es en 0 hen _ hq
        obtain ⟨u, rfl, hu⟩ := f3 _ _ rfl
        obtain ⟨_, p, p1, p2, p3⟩ := evFind_key es 0 j x hq
        rw [Nat.sub_zero] at p1
        obtain ⟨e, e1, e2, e3, e4⟩ := RM.get es en j hen p p1
        have hkey := sameNow_bits p3
        have hf : (Instr.findKey kt yv en.toArray.toList).run T.P w = .ok (some (j, u)) w := run_findKey m2 (by simpa using f1) w
        rw [hset_eq] at h
        have hstay : (Instr.keyThatStays (((en.toArray[j]?).map (·.key)).getD yv) yv).run T.P w = .ok yv w := by
          have : ((en.toArray[j]?).map (·.key)).getD yv = yv := by simp [e1, e3, hkey]
          rw [this]
          have hbits : Instr.sameBits 10000 yv yv = true := bits_self (by rw [hkey] at p3; exact p3)
          simp [Instr.keyThatStays, hbits]
        refine ⟨_, _, _, ?_, h, step_map hi hH hr hb (clk' := clk) (setM_rm hv es en j hen)⟩
        simp only [Instr.mapUpdate, Sem.run_bind, run_underlying m1, Result.andThen_ok, hg, hc, hf, hstay, hs]
        have : (en.toArray.modify j fun e => { e with key := yv, val := vv }) = (en.modify j fun e => { e with val := vv }).toArray := by
          apply Array.ext'
          simp only [Array.toList_modify]
          apply List.ext_getElem?
          intro q
          simp only [List.getElem?_modify]
          by_cases hqj : j = q
          · subst hqj
            simp [e1, e3, hkey]
          · simp [hqj]
        rw [this]
      · rename_i hq
        obtain ⟨q', f1, f2, f3⟩ := evFind_ok es en 0 hen _ hq
        have := f2 rfl
        subst this
        have hf : (Instr.findKey kt yv en.toArray.toList).run T.P w = .ok none w := run_findKey m2 (by simpa using f1) w
        rw [hset_eq] at h
        refine ⟨_, _, _, ?_, h, step_map hi hH hr hb (clk' := clk + 1) (appM_rm (clk := clk) (key := yv) hv es en hen)⟩
        simp only [Instr.mapUpdate, Sem.run_bind, run_underlying m1, Result.andThen_ok, hg, hc, hf, hs]
        simp
      · exact h.elim
    · exact h.elim
  · exact h.elim

theorem eff_mapEntry (hi : Inv A r H w) {t : TypeId} {x y : AV} {xv yv : Value} (h : evMapEntry T H t x y k) (hx : RV (ctx A r H w) x xv) (hy : RV (ctx A r H w) y yv) : Eff T.P A r H w k (Instr.mapEntry t xv yv) := by
  unfold evMapEntry at h
  split at h
  · rename_i d kt z id key hm
    obtain ⟨el, m1, m2, m3, m4⟩ := mapT_ok hT hm
    simp only [RV, RG] at hx hy
    obtain ⟨b, hr, rfl⟩ := hx
    subst hy
    replace hr : r[id]? = some (some b) := hr
    split at h
    · rename_i es clk hH
      obtain ⟨en, hb, hen⟩ := hi.obj id _ _ hH hr
      replace hb : w.heap[b]? = some (.map en.toArray clk) := hb
      have hg : (getObj b).run T.P w = .ok (.map en.toArray clk) w := by simp [getObj, Sem.run, hb]
      have hs : ∀ o, (setObj b o).run T.P w = .ok () { w with heap := w.heap.setIfInBounds b o } := fun o => by simp [setObj, Sem.run, hb]
      have hc : (Instr.checkKey false 10000 kt yv).run T.P w = .ok () w := run_checkKey m2 m3 _ _ _
      split at h
      · rename_i j x hq
        obtain ⟨q', f1, f2, f3⟩ := evFind_ok es en 0 hen _ hq
        obtain ⟨u, rfl, hu⟩ := f3 _ _ rfl
        obtain ⟨_, p, p1, p2, p3⟩ := evFind_key es 0 j x hq
        rw [Nat.sub_zero] at p1
        obtain ⟨e, e1, e2, e3, e4⟩ := RM.get es en j hen p p1
        have hkey := sameNow_bits p3
        have hf : (Instr.findKey kt yv en.toArray.toList).run T.P w = .ok (some (j, u)) w := run_findKey m2 (by simpa using f1) w
        have hstay : (Instr.keyThatStays (((en.toArray[j]?).map (·.key)).getD yv) yv).run T.P w = .ok yv w := by
          have : ((en.toArray[j]?).map (·.key)).getD yv = yv := by simp [e1, e3, hkey]
          rw [this]
          have hbits : Instr.sameBits 10000 yv yv = true := bits_self (by rw [hkey] at p3; exact p3)
          simp [Instr.keyThatStays, hbits]
        split at h
        · rename_i born kk xx hes
          rw [p1] at hes
          cases hes
          have hsame : (en.toArray.modify j fun e => { e with key := yv }) = en.toArray := by
            apply Array.ext'
            simp only [Array.toList_modify]
            apply List.ext_getElem?
            intro q
            simp only [List.getElem?_modify]
            by_cases hqj : j = q
            · subst hqj
              have ek : e.key = yv := e3.trans hkey
              have : ({ e with key := yv } : MapEntry) = e := by rw [← ek]
              simp [e1, this]
            · simp [hqj]
          have hw : ({ w with heap := w.heap.setIfInBounds b (.map en.toArray clk) } : World) = w := by
            have : w.heap.setIfInBounds b (.map en.toArray clk) = w.heap := by
              apply Array.ext_getElem?
              intro q
              by_cases hqb : b = q
              · subst hqb; rw [heap_set_self hb, hb]
              · simp [Array.getElem?_setIfInBounds_ne hqb]
            rw [this]
          refine ⟨_, .tuple #[u, goInt born], _, _, _, w, ?_, h, ⟨Le.refl _, hi, fun _ _ _ _ _ _ _ => rfl, fun _ _ h _ => h⟩, ?_⟩
          · simp only [Instr.mapEntry, Sem.run_bind, run_underlying m1, Result.andThen_ok, hg, hc, hf, hstay, hs, hsame, hw]
            simp [e1, e2]
          · simp only [RV]
            subst p2
            exact ⟨[u, goInt born], rfl, by simp only [RVs, RV, RG]; exact ⟨_, _, rfl, hu, _, _, rfl, rfl, rfl⟩⟩
        · exact h.elim
      · rename_i hq
        obtain ⟨q', f1, f2, f3⟩ := evFind_ok es en 0 hen _ hq
        have := f2 rfl
        subst this
        have hf : (Instr.findKey kt yv en.toArray.toList).run T.P w = .ok none w := run_findKey m2 (by simpa using f1) w
        obtain ⟨zv, h, hz⟩ := zeroK_rv (C := ctx A r H w) h
        rw [hset_eq] at h
        have hst := step_map hi hH hr hb (clk' := clk + 1) (appM_rm (clk := clk) (key := yv) hz es en hen)
        refine ⟨_, .tuple #[z, goInt clk], _, _, _, _, ?_, h, hst, ?_⟩
        · simp only [Instr.mapEntry, Sem.run_bind, run_underlying m1, Result.andThen_ok, hg, hc, hf, m4, hs]
          simp
        · simp only [RV]
          exact ⟨[z, goInt clk], rfl, by simp only [RVs, RV, RG]; exact ⟨_, _, rfl, RV.mono hst.le _ _ hz, _, _, rfl, rfl, rfl⟩⟩
      · exact h.elim
    · exact h.elim
  · exact h.elim

omit hT in
theorem eff_entryStore {P : Program} (hi : Inv A r H w) {t : TypeId} {x s v : AV} {xv sv vv : Value} (h : evEntryStore H x s v k) (hx : RV (ctx A r H w) x xv) (hs : RV (ctx A r H w) s sv) (hv : RV (ctx A r H w) v vv) :
    ∃ w' H' X, (Instr.entryStore t xv sv vv).run P w = .ok () w' ∧ k .junk H' X ∧ StepOK A r H w r H' w' X := by
  unfold evEntryStore at h
  split at h
  · rename_i id kd n
    simp only [RV, RG] at hx hs
    obtain ⟨b, hr, rfl⟩ := hx
    subst hs
    replace hr : r[id]? = some (some b) := hr
    split at h
    · rename_i es clk hH
      obtain ⟨en, hb, hen⟩ := hi.obj id _ _ hH hr
      replace hb : w.heap[b]? = some (.map en.toArray clk) := hb
      have hg : (getObj b).run P w = .ok (.map en.toArray clk) w := by simp [getObj, Sem.run, hb]
      have hso : ∀ o, (setObj b o).run P w = .ok () { w with heap := w.heap.setIfInBounds b o } := fun o => by simp [setObj, Sem.run, hb]
      split at h
      · rename_i i hix
        obtain ⟨_, hfi⟩ := idxM_ok es en 0 i hen hix
        rw [Nat.sub_zero] at hfi
        rw [hset_eq] at h
        refine ⟨_, _, _, ?_, h, step_map hi hH hr hb (clk' := clk) (setM_rm hv es en i hen)⟩
        have hfi' : en.toArray.findIdx? (fun e => (e.born : Int) == n) = some i := by simpa using hfi
        have hm : (en.toArray.modify i fun e => { e with val := vv }) = (en.modify i fun e => { e with val := vv }).toArray := by apply Array.ext'; simp
        simp only [Instr.entryStore, Sem.run_bind, hg, Result.andThen_ok, asInt, asIntOf, Sem.run_pure, hfi', hso, hm]
      · exact h.elim
    · exact h.elim
  · exact h.elim

theorem eff_range (hi : Inv A r H w) {t : TypeId} {x : AV} {v : Value} (h : evRange T H t x k) (hx : RV (ctx A r H w) x v) : Eff T.P A r H w k (Instr.range t v) := by
  unfold evRange at h
  split at h
  · rename_i kt el id hu
    have hP := hT.und _ _ hu
    simp only [RV] at hx
    obtain ⟨b, hr, rfl⟩ := hx
    replace hr : r[id]? = some (some b) := hr
    split at h
    · rename_i es clk hH
      obtain ⟨en, hb, hen⟩ := hi.obj id _ _ hH hr
      replace hb : w.heap[b]? = some (.map en.toArray clk) := hb
      have hg : (getObj b).run T.P w = .ok (.map en.toArray clk) w := by simp [getObj, Sem.run, hb]
      rw [hpush_eq] at h
      refine ⟨_, .pointer (some ⟨w.heap.size, 0, none⟩), _, _, _, _, by simp [Instr.range, run_underlying hP, hg], h, step_new hi (.mapIter (some b) clk #[] clk) (.iter (some id)) ⟨b, clk, clk, heap_alloc_new w _, fun i hi' => ?_⟩, ?_⟩
      · cases hi'
        show (r ++ [some w.heap.size])[id]? = _
        exact get_snoc_old _ hr
      · simp only [RV]
        refine ⟨w.heap.size, ?_, by simp⟩
        show (r ++ [some w.heap.size])[H.length]? = _
        rw [← hi.len]; simp
    · exact h.elim
  · exact h.elim

omit hT in
theorem yld_next {P : Program} {k : AV → Prop} (hi : Inv A r H w) {ty : TypeId} {x : AV} {v : Value} (h : evNext H x k) (hx : RV (ctx A r H w) x v) : Yld P (ctx A r H w) (fun w' => w' = w) k (Instr.next v false ty) := by
  unfold evNext at h
  split at h
  · rename_i id
    simp only [RV] at hx
    obtain ⟨b, hr, rfl⟩ := hx
    replace hr : r[id]? = some (some b) := hr
    split at h
    · rename_i m hH
      obtain ⟨bm, s, l, h1, h2⟩ := hi.obj id _ _ hH hr
      replace h1 : w.heap[b]? = some (.mapIter (some bm) s #[] l) := h1
      have hrm : r[m]? = some (some bm) := h2 m rfl
      split at h
      · rename_i clk hHm
        obtain ⟨en, hb, hen⟩ := hi.obj m _ _ hHm hrm
        simp only [RM] at hen
        subst hen
        replace hb : w.heap[bm]? = some (.map #[] clk) := hb
        have hg : (getObj b).run P w = .ok (.mapIter (some bm) s #[] l) w := by simp [getObj, Sem.run, h1]
        have hg2 : (getObj bm).run P w = .ok (.map #[] clk) w := by simp [getObj, Sem.run, hb]
        refine ⟨_, .tuple #[.bool false], h, ?_, fun w' hw' => ?_⟩
        · simp only [RV]; exact ⟨[.bool false], rfl, by simp [RVs, RV, RG]⟩
        · subst hw'
          simp [Instr.next, hg, hg2, choose, Sem.run, Question.forced]
      · exact h.elim
    · exact h.elim
  · exact h.elim

theorem yld_mapLen {S : World → Prop} {k : AV → Prop} (hi : Inv A r H w) (hS : ∀ w', S w' → ∀ b, b < w.heap.size → w'.heap[b]? = w.heap[b]?) {t ty : TypeId} {kt el : TypeId} {ts : Array TypeId} {us : Array Value} {id : Nat} {v : Value} (hu : T.und t = some (.map kt el)) (h : evMapLen H id k) (ht : ts[0]? = some t) (hx : RV (ctx A r H w) (.m id) v) (huv : us[0]? = some v) :
    Yld T.P (ctx A r H w) S k (Builtin.len_ ts ty us) := by
  unfold evMapLen at h
  have hP := hT.und _ _ hu
  simp only [RV] at hx
  obtain ⟨b, hr, rfl⟩ := hx
  replace hr : r[id]? = some (some b) := hr
  split at h
  · rename_i es clk hH
    obtain ⟨en, hb, hen⟩ := hi.obj id _ _ hH hr
    replace hb : w.heap[b]? = some (.map en.toArray clk) := hb
    have hlt := (Array.getElem?_eq_some_iff.1 hb).1
    refine ⟨_, .int .i64 (es.length : Nat), h, by simp [RV, RG], fun w' hw' => ?_⟩
    have hb' : w'.heap[b]? = some (.map en.toArray clk) := (hS w' hw' b hlt).trans hb
    have hg : (getObj b).run T.P w' = .ok (.map en.toArray clk) w' := by simp [getObj, Sem.run, hb']
    have hl := RM.length es en hen
    simp [Builtin.len_, ht, huv, run_underlying hP, hg, hl, goInt]
  · exact h.elim
end
end Go.Ev
