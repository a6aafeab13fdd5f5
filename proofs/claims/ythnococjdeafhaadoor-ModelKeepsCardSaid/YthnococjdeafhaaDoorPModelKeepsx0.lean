-- printed by a program of the session (wip/hyb/mkprint.py)
import Derived.Test.YthnococjdeafhaaDoorVModelKeeps
import Derived.Test.YthnococjdeafhaaDoorProg
import Derived.Below
import Derived.WalkSpells
import Derived.Lib.Hide
import Derived.Lib.AppendZeros
import Derived.Lib.AppendZerosOnto
import Derived.Laws.NewBlocks
import Derived.Lib.Overlaps
import Derived.Laws.Externs
import Derived.Laws.IdiomCopy
import Derived.Deep.RegionLaw
import Derived.Laws.CopyRow
import Derived.Laws.CopyOwn
import Derived.Outline
import Derived.Laws.EntriesVeiled
import Derived.Deep.Draws
import Derived.Deep.AppendLies
import Derived.Maps.AppendAt
import Derived.OwnWalk
import Derived.Laws.BytesArg
import Derived.Laws.MakeOwn
import Derived.Laws.OwnMore
import Derived.Deep.OwnRows
import Derived.Tactics
import Derived.Lib.ConvBytes
import Derived.Laws.Slices
import Derived.WalkKit
import Derived.KernelRfl
import Derived.RowKit3
import Derived.Deep.LoopGhost
import Derived.Deep.QuietTactic
import Derived.BigQuiet
import Derived.WideLaws
import Derived.Deep.DeepCutAuto
import Derived.Deep.CutBlock
import Derived.Deep.RegionHeld3
import Derived.Laws.Rows
import Derived.Lib.AppendStr
import Derived.ArgAppend
import Derived.Laws.IdiomCopy
import Derived.OrdersHeld
import Derived.Laws.BitsLemmas
import Derived.RowKit
namespace Go.Proofs.YthnococjdeafhaaDoor.PModelKeeps
open Go.RowKit Go.Proofs.YthnococjdeafhaaDoorW.PrintWords Go.Proofs.YthnococjdeafhaaDoorW.PrintLast Go.Proofs.YthnococjdeafhaaDoorW.PrintMore
attribute [local go_sem] max2_int min2_int max_two min_two max_three min_three max_four min_four   -- for this text's walks alone
set_option linter.unusedVariables false
set_option linter.unusedSimpArgs false



def errW : Option Int → Value
  | none => .nilIface
  | some c => .iface 0 (.int .i64 c)
theorem errW_none : errW none = .nilIface := rfl
theorem errW_some (c : Int) : errW (some c) = .iface 0 (.int .i64 c) := rfl

theorem info61 : (Tryd.prog.info? 61).map (fun i => (i.zero, i.size, i.bytes)) = some (some (.agg #[(.int .i64 0), (.slice none 0 0)]), 2, 32) := by kernel_rfl
theorem info65 : (Tryd.prog.info? 65).map (fun i => (i.zero, i.size, i.bytes)) = some (some (.agg #[(.string ⟨#[]⟩), (.string ⟨#[]⟩)]), 2, 32) := by kernel_rfl
theorem info72 : (Tryd.prog.info? 72).map (fun i => (i.zero, i.size, i.bytes)) = some (some (.agg #[(.int .i64 0), (.slice none 0 0)]), 2, 32) := by kernel_rfl
-- the values' own types
/-! #### struct type 65 -/
structure S65 where
  f0 : ByteArray
  f1 : ByteArray
def z65 : S65 := ⟨(⟨#[]⟩ : ByteArray), (⟨#[]⟩ : ByteArray)⟩
def k65 : Kd S65 := Kd.iso (Kd.pair Kd.string Kd.string) (fun x : S65 => (x.f0, x.f1))
theorem k65_heap : Kd.Heap k65 := Kd.heap_iso _ (Kd.heap_pair Kd.heap_string Kd.heap_string)
theorem k65_open {w : World} {x : S65} {cs : List Value} (h : k65.K w x cs) : cs = [.string x.f0, .string x.f1] := by
  obtain ⟨_, _, rfl, rfl, rfl⟩ := h
  exact rfl
theorem k65_mk (w : World) (x : S65)  : k65.K w x [.string x.f0, .string x.f1] := ⟨[.string x.f0], [.string x.f1], rfl, rfl, rfl⟩
theorem k65_mkM (w : World) (base : Nat) (ok : Nat → Prop) (x : S65)  : k65.M w base ok x [.string x.f0, .string x.f1] := ⟨[.string x.f0], [.string x.f1], rfl, rfl, rfl⟩
def rd_T65 (xs : List S65) (i : Int) : S65 := xs.getD i.toNat z65
theorem at_T65 {w : World} {A : Option Addr} {n : Nat} {xs : List S65} (h : Kd.C k65 w A n xs) (i : Int) (h0 : 0 ≤ i) (h1 : i < n) : ∃ ad , A = some ad ∧ w.cell? (ad.add (i.toNat * 2)) = some (.string (rd_T65 xs i).f0) ∧ w.cell? ⟨(ad.add (i.toNat * 2)).block, (ad.add (i.toNat * 2)).off + 1, none⟩ = some (.string (rd_T65 xs i).f1) := by
  obtain ⟨ad, c, e, _, hK, hc0⟩ := Kd.C_get h z65 i h0 h1
  have hc : ∀ j u, c[j]? = some u → w.cell? (ad.add (i.toNat * 2 + j)) = some u := hc0
  obtain rfl := k65_open hK
  exact ⟨ad, e, hc 0 _ rfl, by rw [← add_field _ _ 1 (by omega)]; exact hc 1 _ rfl⟩

def rd_L3 (xs : List (List S65)) (i : Int) : (List S65) := xs.getD i.toNat ([] : List S65)
/-! #### struct type 61 -/
structure S61 where
  f0 : Int
  f1 : (List S65)
def z61 : S61 := ⟨(0 : Int), ([] : List S65)⟩
def k61 : Kd S61 := Kd.iso (Kd.pair (Kd.int .i64) (Kd.slice 65 k65)) (fun x : S61 => (x.f0, x.f1))
theorem k61_open {w : World} {x : S61} {cs : List Value} (h : k61.K w x cs) : ∃ A1 c1, cs = [.int .i64 x.f0, .slice A1 x.f1.length c1] ∧ x.f1.length ≤ c1 ∧ k65.C w A1 x.f1.length x.f1 := by
  obtain ⟨_, _, rfl, rfl, ⟨A1, c1, rfl, l1, g1⟩⟩ := h
  exact ⟨A1, c1, rfl, l1, g1⟩
theorem k61_mk (w : World) (x : S61) {A1 : Option Addr} {c1 : Nat} (l1 : x.f1.length ≤ c1) (g1 : k65.C w A1 x.f1.length x.f1) : k61.K w x [.int .i64 x.f0, .slice A1 x.f1.length c1] := ⟨[.int .i64 x.f0], [.slice A1 x.f1.length c1], rfl, rfl, ⟨A1, c1, rfl, l1, g1⟩⟩
theorem k61_mkM (w : World) (base : Nat) (ok : Nat → Prop) (x : S61) {v1 : Value} (g1 : k65.R 65 w base ok v1 x.f1) : k61.M w base ok x [.int .i64 x.f0, v1] := ⟨[.int .i64 x.f0], [v1], rfl, rfl, ⟨v1, rfl, g1⟩⟩
theorem k61_openF {W : World} {ok : Nat → Prop} {x : S61} {cs : List Value} (h : Kd.FK k61 W ok x cs) : ∃ A1 c1, cs = [.int .i64 x.f0, .slice A1 x.f1.length c1] ∧ x.f1.length ≤ c1 ∧ Kd.F k65 W ok A1 x.f1.length x.f1 := by
  obtain ⟨A1, c1, rfl, l1, _⟩ := k61_open (Kd.FK_now h)
  exact ⟨A1, c1, rfl, l1, (fun W' hW => by obtain ⟨A1_, c1_, he, l1_, g1_⟩ := k61_open (h W' hW); injection (zQ (show some (Value.slice A1 x.f1.length c1) = some (Value.slice A1_ x.f1.length c1_) from congrArg (fun l => l[1]?) he)) with ha_ _ _; rw [ha_]; exact g1_)⟩
theorem k61_mkF (W : World) (ok : Nat → Prop) (x : S61) {A1 : Option Addr} {c1 : Nat} (l1 : x.f1.length ≤ c1) (g1 : Kd.F k65 W ok A1 x.f1.length x.f1) : Kd.FK k61 W ok x [.int .i64 x.f0, .slice A1 x.f1.length c1] := fun W2 hW => k61_mk W2 x l1 (g1 W2 hW)
def rd_T61 (xs : List S61) (i : Int) : S61 := xs.getD i.toNat z61
theorem at_T61 {w : World} {A : Option Addr} {n : Nat} {xs : List S61} (h : Kd.C k61 w A n xs) (i : Int) (h0 : 0 ≤ i) (h1 : i < n) : ∃ ad A1 c1, A = some ad ∧ w.cell? (ad.add (i.toNat * 2)) = some (.int .i64 (rd_T61 xs i).f0) ∧ w.cell? ⟨(ad.add (i.toNat * 2)).block, (ad.add (i.toNat * 2)).off + 1, none⟩ = some (.slice A1 (rd_T61 xs i).f1.length c1) ∧ (rd_T61 xs i).f1.length ≤ c1 ∧ k65.C w A1 (rd_T61 xs i).f1.length (rd_T61 xs i).f1 := by
  obtain ⟨ad, c, e, _, hK, hc0⟩ := Kd.C_get h z61 i h0 h1
  have hc : ∀ j u, c[j]? = some u → w.cell? (ad.add (i.toNat * 2 + j)) = some u := hc0
  obtain ⟨A1, c1, rfl, l1, g1⟩ := k61_open hK
  exact ⟨ad, A1, c1, e, hc 0 _ rfl, by rw [← add_field _ _ 1 (by omega)]; exact hc 1 _ rfl, l1, g1⟩

/-! #### struct type 72 -/
structure S72 where
  f0 : Int
  f1 : (List S65)
def z72 : S72 := ⟨(0 : Int), ([] : List S65)⟩
def k72 : Kd S72 := Kd.iso (Kd.pair (Kd.int .i64) (Kd.slice 65 k65)) (fun x : S72 => (x.f0, x.f1))
theorem k72_open {w : World} {x : S72} {cs : List Value} (h : k72.K w x cs) : ∃ A1 c1, cs = [.int .i64 x.f0, .slice A1 x.f1.length c1] ∧ x.f1.length ≤ c1 ∧ k65.C w A1 x.f1.length x.f1 := by
  obtain ⟨_, _, rfl, rfl, ⟨A1, c1, rfl, l1, g1⟩⟩ := h
  exact ⟨A1, c1, rfl, l1, g1⟩
theorem k72_mkM (w : World) (base : Nat) (ok : Nat → Prop) (x : S72) {v1 : Value} (g1 : k65.R 65 w base ok v1 x.f1) : k72.M w base ok x [.int .i64 x.f0, v1] := ⟨[.int .i64 x.f0], [v1], rfl, rfl, ⟨v1, rfl, g1⟩⟩
theorem k72_openF {W : World} {ok : Nat → Prop} {x : S72} {cs : List Value} (h : Kd.FK k72 W ok x cs) : ∃ A1 c1, cs = [.int .i64 x.f0, .slice A1 x.f1.length c1] ∧ x.f1.length ≤ c1 ∧ Kd.F k65 W ok A1 x.f1.length x.f1 := by
  obtain ⟨A1, c1, rfl, l1, _⟩ := k72_open (Kd.FK_now h)
  exact ⟨A1, c1, rfl, l1, (fun W' hW => by obtain ⟨A1_, c1_, he, l1_, g1_⟩ := k72_open (h W' hW); injection (zQ (show some (Value.slice A1 x.f1.length c1) = some (Value.slice A1_ x.f1.length c1_) from congrArg (fun l => l[1]?) he)) with ha_ _ _; rw [ha_]; exact g1_)⟩
def rd_T72 (xs : List S72) (i : Int) : S72 := xs.getD i.toNat z72
theorem at_T72 {w : World} {A : Option Addr} {n : Nat} {xs : List S72} (h : Kd.C k72 w A n xs) (i : Int) (h0 : 0 ≤ i) (h1 : i < n) : ∃ ad A1 c1, A = some ad ∧ w.cell? (ad.add (i.toNat * 2)) = some (.int .i64 (rd_T72 xs i).f0) ∧ w.cell? ⟨(ad.add (i.toNat * 2)).block, (ad.add (i.toNat * 2)).off + 1, none⟩ = some (.slice A1 (rd_T72 xs i).f1.length c1) ∧ (rd_T72 xs i).f1.length ≤ c1 ∧ k65.C w A1 (rd_T72 xs i).f1.length (rd_T72 xs i).f1 := by
  obtain ⟨ad, c, e, _, hK, hc0⟩ := Kd.C_get h z72 i h0 h1
  have hc : ∀ j u, c[j]? = some u → w.cell? (ad.add (i.toNat * 2 + j)) = some u := hc0
  obtain ⟨A1, c1, rfl, l1, g1⟩ := k72_open hK
  exact ⟨ad, A1, c1, e, hc 0 _ rfl, by rw [← add_field _ _ 1 (by omega)]; exact hc 1 _ rfl, l1, g1⟩

/-! #### struct type 29 -/
structure S29 where
  f0 : Int
  f1 : ByteArray
  f2 : ByteArray
  f3 : ByteArray
  f4 : Int
def z29 : S29 := ⟨(0 : Int), (⟨#[]⟩ : ByteArray), (⟨#[]⟩ : ByteArray), (⟨#[]⟩ : ByteArray), (0 : Int)⟩
def k29 : Kd S29 := Kd.iso (Kd.pair (Kd.int .i64) (Kd.pair Kd.string (Kd.pair Kd.string (Kd.pair Kd.string (Kd.int .i64))))) (fun x : S29 => (x.f0, x.f1, x.f2, x.f3, x.f4))
theorem k29_open {w : World} {x : S29} {cs : List Value} (h : k29.K w x cs) : cs = [.int .i64 x.f0, .string x.f1, .string x.f2, .string x.f3, .int .i64 x.f4] := by
  obtain ⟨_, _, rfl, rfl, ⟨_, _, rfl, rfl, ⟨_, _, rfl, rfl, ⟨_, _, rfl, rfl, rfl⟩⟩⟩⟩ := h
  exact rfl
def rd_T29 (xs : List S29) (i : Int) : S29 := xs.getD i.toNat z29
def rd_L7 (xs : List (List S72)) (i : Int) : (List S72) := xs.getD i.toNat ([] : List S72)
/-! #### struct type 39 -/
structure S39 where
  f0 : (List S65)
  f1 : (List S72)
def z39 : S39 := ⟨([] : List S65), ([] : List S72)⟩
def k39 : Kd S39 := Kd.iso (Kd.pair (Kd.slice 65 k65) (Kd.slice 72 k72)) (fun x : S39 => (x.f0, x.f1))
def rd_T39 (xs : List S39) (i : Int) : S39 := xs.getD i.toNat z39
/-! #### struct type 23 -/
structure S23 where
  f0 : Int
  f1 : Int
  f2 : Int
  f3 : Int
  f4 : Int
def z23 : S23 := ⟨(0 : Int), (0 : Int), (0 : Int), (0 : Int), (0 : Int)⟩
def k23 : Kd S23 := Kd.iso (Kd.pair (Kd.int .i64) (Kd.pair (Kd.int .i64) (Kd.pair (Kd.int .i64) (Kd.pair (Kd.int .i64) (Kd.int .i64))))) (fun x : S23 => (x.f0, x.f1, x.f2, x.f3, x.f4))
def rd_T23 (xs : List S23) (i : Int) : S23 := xs.getD i.toNat z23
/-! ### rows of elements of z cells: copy; append's run (of the session) -/
theorem run_copy_rowZ {P : Program} (w : World) (dT sT ty elem : TypeId) (z g o dLen dCap : Nat) (a : Addr) (sLen sCap : Nat) (cur : Array Value) (t : TypeId) (cs : List Value)
    (hu : P.underlying dT = some (.slice elem)) (hs : (P.info? elem).map (·.size) = some z)
    (hg : w.heap[g]? = some (.cells cur t (0, 0))) (hn : cs.length = Nat.min sLen dLen * z)
    (hsrc : ∀ j v, cs[j]? = some v → w.cell? (a.add j) = some v) (hfit : o + cs.length ≤ cur.size) (h1 : ∀ v ∈ cs, v.oneCell' = true) :
    (Builtin.copy_ #[dT, sT] ty #[.slice (some ⟨g, o, none⟩) dLen dCap, .slice (some a) sLen sCap]).run P w =
      .ok (goInt (Nat.min sLen dLen)) (w.setRow g (cur.toList.take o ++ cs ++ cur.toList.drop (o + cs.length)).toArray) := by
  have hl := run_loadCells_list (P := P) w a cs hsrc
  have hst := run_storeCells_at P g o t cs 0 cur w hg (by simpa using hfit) h1
  cases hq : P.info? elem with
  | none => simp [hq] at hs
  | some i =>
    have hi : i.size = z := by simpa [hq] using hs
    simp [Builtin.copy_, run_underlying hu, Builtin.lenOf, Builtin.firstCells, sizeOf, typeInfo, hq, hi, ← hn, hl, hst]
theorem wp_copy_runZ {P : Program} (w : World) {o : Oper} {a : Act} {K : Act → World → Prop} {Q : Exit → Act → World → Prop} (d s : Operand) (t t' : TypeId)
    (ho : o.op = .call { callee := .builtin .copy, args := #[d, s], argTypes := #[t, t'] }) (v u : Value) (hd : a.eval d = v) (hs : a.eval s = u) {v' : Value} {w' : World}
    (hr : (Builtin.copy_ #[t, t'] o.type #[v, u]).run P w = .ok v' w') (h : K (a.put o.dst v') w') : o.wp P a w K Q := by
  unfold Oper.wp execOp
  simp only [ho, resolve, invoke, builtin, Sem.run_bind, Sem.run_pure, Result.andThen_ok, zS, zU, zV, hd, hs, hr]
  exact h
theorem wpList_copy_runZ {P : Program} (w : World) {ops : Array Oper} {rest : List Oper} {o : Oper} {a : Act} {Q : Exit → Act → World → Prop} (hgd : o.guard = none) (d s : Operand) (t t' : TypeId)
    (ho : o.op = .call { callee := .builtin .copy, args := #[d, s], argTypes := #[t, t'] }) (v u : Value) (hd : a.eval d = v) (hs : a.eval s = u) {v' : Value} {w' : World}
    (hr : (Builtin.copy_ #[t, t'] o.type #[v, u]).run P w = .ok v' w') (h : wpList P ops Q rest (a.put o.dst v') w') : wpList P ops Q (o :: rest) a w :=
  wpList_plain hgd fun _ hK => wp_copy_runZ w d s t t' ho v u hd hs hr (hK _ _ h)
theorem step_copy_runZ {P : Program} {ops : Array Oper} {o : Oper} {a : Act} {w : World} {K : Act → World → Prop} {Q : Exit → Act → World → Prop} {E : Prop}
    (hg : o.guard = none) (d x : Operand) (dT sT : TypeId) (hop : o.op = Op.call { callee := Callee.builtin Builtin.copy, args := #[d, x], argTypes := #[dT, sT] })
    (v u : Value) (hd : a.eval d = v) (hx : a.eval x = u) {v' : Value} {w' : World} (hr : (Builtin.copy_ #[dT, sT] o.type #[v, u]).run P w = .ok v' w') (hK : K (a.put o.dst v') w') :
    if Region.wanted o (yielded ops a.tmps) = true then Oper.wp P o a w K Q else E := by
  have hw : Region.wanted o (yielded ops a.tmps) = true := by simp [Region.wanted, hg]
  rw [if_pos hw]
  unfold Oper.wp
  simp [execOp, hop, resolve, invoke, builtin, hd, hx, hr, Result.andThen]
  exact hK
/-- What an owned row is: nil, or a block of its own, told. -/
theorem own_cases {w : World} {base : Nat} {e : TypeId} {z : Nat} {v : Value} {n : Nat} {xs : List Value} (h : w.ownsRow base e z v n xs) :
    (v = .slice none 0 0 ∧ n = 0 ∧ xs = []) ∨ ∃ g cap cur, v = .slice (some ⟨g, 0, none⟩) n cap ∧ base ≤ g ∧ w.heap[g]? = some (.cells cur e (0, 0)) ∧ n ≤ cap ∧ cap ≤ maxLen ∧ cur.size = cap * z ∧ cur.toList.take (n * z) = xs := by
  obtain ⟨h1, h2⟩ := h
  rcases h2 with ⟨rfl, rfl⟩ | h2
  · exact .inl ⟨rfl, rfl, by simpa using h1⟩
  · exact .inr h2
theorem cell_row {w : World} {g i : Nat} {cur : Array Value} {t : TypeId} {fr : Nat × Nat} (h : w.heap[g]? = some (.cells cur t fr)) : w.cell? ⟨g, i, none⟩ = cur[i]? := by
  simp [World.cell?, h]
theorem grown_setRow {w : World} {g : Nat} (cs : Array Value) : w.grownBy (w.setRow g cs) (some g) :=
  ⟨rfl, rfl, rfl, by simp [World.setRow], fun k _ hk => setRow_other w g k cs (fun e => hk (by rw [e]))⟩
theorem grown_drewN {w : World} (n : Nat) (row : Option Nat) : w.grownBy (w.drewN n) row := ⟨rfl, rfl, rfl, Nat.le_refl _, fun _ _ _ => rfl⟩
theorem grown_trans {a b c : World} {r : Option Nat} (h : a.grownBy b r) (k : b.grownBy c r) : a.grownBy c r :=
  ⟨k.os.trans h.os, k.tape.trans h.tape, k.output.trans h.output, Nat.le_trans h.size k.size, fun i hi hn => (k.block i (Nat.lt_of_lt_of_le hi h.size) hn).trans (h.block i hi hn)⟩
/-- The cells of a row with a piece laid in at an element's place. -/
theorem splice_list (cur xs c : List Value) (i n z : Nat) (hz : 0 < z) (hi : i < n) (hn : (n + 1) * z ≤ cur.length) (hx : cur.take (n * z) = xs) (hc : c.length = z) :
    ((((cur.take ((i + 1) * z) ++ xs.drop (i * z) ++ cur.drop ((i + 1) * z + (xs.drop (i * z)).length)).take (i * z)) ++ c ++ (cur.take ((i + 1) * z) ++ xs.drop (i * z) ++ cur.drop ((i + 1) * z + (xs.drop (i * z)).length)).drop (i * z + c.length)).take ((n + 1) * z)) = xs.take (i * z) ++ c ++ xs.drop (i * z) := by
  have e1 : (i + 1) * z = i * z + z := by rw [Nat.add_mul, Nat.one_mul]
  have e2 : (n + 1) * z = n * z + z := by rw [Nat.add_mul, Nat.one_mul]
  have e3 : i * z + z ≤ n * z := by rw [← e1]; exact Nat.mul_le_mul_right z hi
  have hxl : xs.length = n * z := by rw [← hx, zN]; omega
  have hdl : (xs.drop (i * z)).length = n * z - i * z := by rw [zO, hxl]
  have hA : (cur.take (i * z + z)).length = i * z + z := by rw [zN]; omega
  have ht : xs.take (i * z) = cur.take (i * z) := by rw [← hx, List.take_take]; congr 1; omega
  rw [e1, e2, hc, hdl]
  have h1 : (cur.take (i * z + z) ++ xs.drop (i * z) ++ cur.drop (i * z + z + (n * z - i * z))).take (i * z) = xs.take (i * z) := by
    rw [List.append_assoc, List.take_append_of_le_length (by omega), List.take_take, ht]; congr 1; omega
  have h2 : (cur.take (i * z + z) ++ xs.drop (i * z) ++ cur.drop (i * z + z + (n * z - i * z))).drop (i * z + z) = xs.drop (i * z) ++ cur.drop (i * z + z + (n * z - i * z)) := by
    rw [List.append_assoc, List.drop_append, hA, List.drop_eq_nil_of_le (by omega)]; simp
  rw [h1, h2]
  have hl1 : (xs.take (i * z)).length = i * z := by rw [zN, hxl]; omega
  rw [← List.append_assoc, List.take_append_of_le_length (by simp only [List.length_append, hl1, hc, hdl]; omega), List.take_of_length_le (by simp only [List.length_append, hl1, hc, hdl]; omega)]
theorem splice_grow (row xs c : List Value) (i n z : Nat) (hi : i < n) (hn : (n + 1) * z ≤ row.length) (hx : row.take (i * z) = xs.take (i * z)) (hxl : xs.length = n * z) (hc : c.length = z) :
    ((row.take (i * z) ++ c ++ row.drop (i * z + c.length)).take ((i + 1) * z) ++ xs.drop (i * z) ++ (row.take (i * z) ++ c ++ row.drop (i * z + c.length)).drop ((i + 1) * z + (xs.drop (i * z)).length)).take ((n + 1) * z) = xs.take (i * z) ++ c ++ xs.drop (i * z) := by
  have e1 : (i + 1) * z = i * z + z := by rw [Nat.add_mul, Nat.one_mul]
  have e2 : (n + 1) * z = n * z + z := by rw [Nat.add_mul, Nat.one_mul]
  have e3 : i * z + z ≤ n * z := by rw [← e1]; exact Nat.mul_le_mul_right z hi
  have hdl : (xs.drop (i * z)).length = n * z - i * z := by rw [zO, hxl]
  have hl1 : (xs.take (i * z)).length = i * z := by rw [zN, hxl]; omega
  rw [e1, e2, hx]
  have h1 : (xs.take (i * z) ++ c ++ row.drop (i * z + c.length)).take (i * z + z) = xs.take (i * z) ++ c := by
    rw [List.take_append_of_le_length (by simp only [List.length_append, hl1, hc]; omega), List.take_of_length_le (by simp only [List.length_append, hl1, hc]; omega)]
  rw [h1, List.take_append_of_le_length (by simp only [List.length_append, hl1, hc, hdl]; omega), List.take_of_length_le (by simp only [List.length_append, hl1, hc, hdl]; omega)]
theorem cells_loaded {P : Program} {W : World} {g n cap size : Nat} {cur : Array Value} {t : TypeId} {cs : List Value} (hg : W.heap[g]? = some (.cells cur t (0, 0))) (hcs : cur.toList.take (n * size) = cs) (hl : cs.length = n * size) :
    (Builtin.firstCells size n (.slice (some ⟨g, 0, none⟩) n cap)).run P W = .ok cs.toArray W := by
  have h := run_loadCells_list (P := P) W ⟨g, 0, none⟩ cs (fun j v hj => by
    rw [Addr.add_lit, Nat.zero_add, cell_row hg]
    rw [← hcs, List.getElem?_take] at hj
    split at hj
    · rw [← hj, Array.getElem?_toList]
    · cases hj)
  simp only [Builtin.firstCells]
  rw [← hl]
  exact h
theorem alloc_at {w : World} {o : Obj} : (w.alloc o).heap[w.heap.size]? = some o := by show (w.heap.push o)[w.heap.size]? = _; simp
theorem alloc_drew_at {w : World} {o : Obj} : (w.alloc o).drew.heap[w.heap.size]? = some o := alloc_at
theorem size_alloc_drew {w : World} {o : Obj} : (w.alloc o).drew.heap.size = w.heap.size + 1 := by show (w.heap.push o).size = _; simp
theorem size_drew {w : World} : w.drew.heap.size = w.heap.size := rfl
theorem setcell2 {w : World} {g i : Nat} {x y : Value} {cur : Array Value} {t : TypeId} (h : w.heap[g]? = some (.cells cur t (0, 0))) :
    ((w.setCell ⟨g, i, none⟩ x).setCell ⟨g, i + 1, none⟩ y).heap[g]? = some (.cells ((cur.setIfInBounds i x).setIfInBounds (i + 1) y) t (0, 0)) := by
  simp [World.setCell, Array.getElem?_modify, h]
theorem setcell2_list (cur : Array Value) (i n : Nat) (x y : Value) (h : i + 2 ≤ n) (hn : n ≤ cur.size) :
    ((cur.setIfInBounds i x).setIfInBounds (i + 1) y).toList.take n = (cur.toList.take n).take i ++ [x, y] ++ (cur.toList.take n).drop (i + 2) := by
  have hl : ((cur.toList.take n).take i).length = i := by simp only [zN, Array.length_toList]; omega
  apply List.ext_getElem?
  intro j
  rw [List.append_assoc, Array.toList_setIfInBounds, Array.toList_setIfInBounds, List.getElem?_take, List.getElem?_set, List.getElem?_set, List.getElem?_append, hl]
  have hs : (cur.toList.set i x).length = cur.size := by simp
  by_cases h1 : j < i
  · rw [if_pos h1, if_pos (by omega), if_neg (by omega), if_neg (by omega), List.getElem?_take, if_pos h1, List.getElem?_take, if_pos (by omega)]
  · rw [if_neg h1]
    by_cases h2 : j = i
    · subst h2
      rw [if_pos (by omega), if_neg (by omega), if_pos rfl, if_pos (by simp; omega), Nat.sub_self]
      rfl
    · by_cases h3 : j = i + 1
      · subst h3
        rw [if_pos (by omega), if_pos rfl, if_pos (by rw [hs]; omega), show i + 1 - i = 1 by omega]
        rfl
      · rw [if_neg (by omega : ¬ i + 1 = j), if_neg (by omega : ¬ i = j)]
        obtain ⟨m, rfl⟩ : ∃ m, j = i + 2 + m := ⟨j - (i + 2), by omega⟩
        rw [show i + 2 + m - i = m + 2 by omega]
        show _ = ((cur.toList.take n).drop (i + 2))[m]?
        rw [List.getElem?_drop, List.getElem?_take]
theorem run_clear_rowZ {P : Program} (w : World) (t e ty : TypeId) (i0 : TypeInfo) (z : Value) (hi : P.info? e = some i0) (hz : i0.zero = some z) (ht : P.underlying t = some (.slice e)) (g o c : Nat) (cur : Array Value) (tt : TypeId) (hg : w.heap[g]? = some (.cells cur tt (0, 0)))
    (hfit : o + (Builtin.zeroCells z.cells 1).toList.length ≤ cur.size) (h1 : ∀ u ∈ (Builtin.zeroCells z.cells 1).toList, u.oneCell' = true) :
    (Builtin.clear_ #[t] ty #[.slice (some ⟨g, o, none⟩) 1 c]).run P w = .ok (.tuple #[]) (w.setRow g (cur.toList.take o ++ (Builtin.zeroCells z.cells 1).toList ++ cur.toList.drop (o + (Builtin.zeroCells z.cells 1).toList.length)).toArray) := by
  have hst := run_storeCells_at P g o tt (Builtin.zeroCells z.cells 1).toList 0 cur w hg (by simpa using hfit) h1
  simp only [Nat.add_zero] at hst
  have hv : ∀ w : World, (zeroValue e).run P w = .ok z w := fun w => by simp [zeroValue, typeInfo, hi, hz]
  simp [Builtin.clear_, run_underlying ht, hv, hst]
theorem wpList_clear_run {P : Program} (w : World) {ops : Array Oper} {rest : List Oper} {o : Oper} {a : Act} {Q : Exit → Act → World → Prop} (hgd : o.guard = none) (d : Operand) (t : TypeId)
    (ho : o.op = .call { callee := .builtin .clear, args := #[d], argTypes := #[t] }) (v : Value) (hd : a.eval d = v) {v' : Value} {w' : World}
    (hr : (Builtin.clear_ #[t] o.type #[v]).run P w = .ok v' w') (h : wpList P ops Q rest (a.put o.dst v') w') : wpList P ops Q (o :: rest) a w :=
  wpList_plain hgd fun _ hK => by
    have h2 := hK _ _ h
    unfold Oper.wp execOp
    simp only [ho, resolve, invoke, builtin, Sem.run_bind, Sem.run_pure, Result.andThen_ok, zS, zU, zV, hd, hr]
    exact h2
theorem R_tail {α : Type} {d : Kd α} {e : Nat} {W : World} {base : Nat} {ok : Nat → Prop} {g n c : Nat} {xs : List α} (h : d.R e W base ok (.slice (some ⟨g, 0, none⟩) n c) xs) {cur : Array Value} (hg : W.heap[g]? = some (.cells cur e (0, 0))) (cur' : Array Value) (hsz : cur'.size = cur.size) (ht : cur'.toList.take (n * d.sz) = cur.toList.take (n * d.sz)) :
    d.R e (W.setRow g cur') base ok (.slice (some ⟨g, 0, none⟩) n c) xs := by
  obtain ⟨h0, inner, ho, hr⟩ := h
  have hmv : ∀ p q, d.M W base (fun k => ok k ∧ some k ≠ (Value.slice (some ⟨g, 0, none⟩) n c).ownBlock) p q → d.M (W.setRow g cur') base (fun k => ok k ∧ some k ≠ (Value.slice (some ⟨g, 0, none⟩) n c).ownBlock) p q := fun p q hp =>
    d.M_move (fun k hk => setRow_other W g k cur' (fun e => hk.2 (by rw [e]; rfl))) hp
  refine ⟨h0, inner, ?_, hr.imp_ hmv⟩
  obtain ⟨h1, h2⟩ := ho
  refine ⟨h1, ?_⟩
  rcases h2 with ⟨h2, _⟩ | ⟨g', cap, cur2, hv, hb, hh, h3, h4, h5, h6⟩
  · cases h2
  · injection hv with ha hb1 hc
    injection ha with ha
    injection ha with ha
    subst ha
    rw [hg] at hh
    injection hh with hh
    injection hh with hh
    subst hh
    subst hc
    subst hb1
    exact .inr ⟨g, c, cur', rfl, hb, setRow_heap W g cur cur' e (0, 0) hg, h3, h4, by rw [hsz, h5], by rw [ht, h6]⟩

/-! ### texts in order; bindings in order (of the session) -/
/-- Which text is ahead: -1, 0, 1. -/
def cmpL : List UInt8 → List UInt8 → Int
  | [], [] => 0
  | [], _ :: _ => -1
  | _ :: _, [] => 1
  | x :: xs, y :: ys => if x = y then cmpL xs ys else if y < x then 1 else -1
def cmpS (a b : ByteArray) : Int := cmpL a.data.toList b.data.toList
theorem cmpL_vals : ∀ a b : List UInt8, cmpL a b = -1 ∨ cmpL a b = 0 ∨ cmpL a b = 1
  | [], [] => .inr (.inl rfl)
  | [], _ :: _ => .inl rfl
  | _ :: _, [] => .inr (.inr rfl)
  | x :: xs, y :: ys => by
    unfold cmpL
    split
    · exact cmpL_vals xs ys
    · split
      · exact .inr (.inr rfl)
      · exact .inl rfl
theorem cmpL_self : ∀ a : List UInt8, cmpL a a = 0
  | [] => rfl
  | x :: xs => by unfold cmpL; rw [if_pos rfl]; exact cmpL_self xs
theorem cmpL_eq : ∀ a b : List UInt8, cmpL a b = 0 → a = b
  | [], [], _ => rfl
  | [], _ :: _, h => by simp [cmpL] at h
  | _ :: _, [], h => by simp [cmpL] at h
  | x :: xs, y :: ys, h => by
    unfold cmpL at h
    split at h
    · rename_i e; rw [e, cmpL_eq xs ys h]
    · split at h <;> simp at h
theorem cmpL_swap : ∀ a b : List UInt8, cmpL b a = - cmpL a b
  | [], [] => rfl
  | [], _ :: _ => rfl
  | _ :: _, [] => rfl
  | x :: xs, y :: ys => by
    unfold cmpL
    by_cases e : x = y
    · rw [if_pos e, if_pos e.symm]; exact cmpL_swap xs ys
    · rw [if_neg e, if_neg (fun h => e h.symm)]
      by_cases h : y < x
      · rw [if_pos h, if_neg (by simp only [UInt8.lt_iff_toNat_lt] at *; omega)]
      · rw [if_neg h, if_pos (by
          have : x.toNat ≠ y.toNat := fun h => e (UInt8.toNat_inj.1 h)
          simp only [UInt8.lt_iff_toNat_lt] at *; omega)]
        rfl
theorem cmpL_trans : ∀ a b c : List UInt8, cmpL a b = -1 → cmpL b c = -1 → cmpL a c = -1
  | [], [], _, h, _ => by simp [cmpL] at h
  | [], _ :: _, [], _, h => by simp [cmpL] at h
  | [], _ :: _, _ :: _, _, _ => rfl
  | _ :: _, [], _, h, _ => by simp [cmpL] at h
  | _ :: _, _ :: _, [], _, h => by simp [cmpL] at h
  | x :: xs, y :: ys, z :: zs, h, k => by
    unfold cmpL at h k ⊢
    by_cases e : x = y
    · subst e
      rw [if_pos rfl] at h
      by_cases f : x = z
      · rw [if_pos f] at k ⊢; exact cmpL_trans xs ys zs h k
      · rw [if_neg f] at k ⊢; exact k
    · rw [if_neg e] at h
      have h1 : ¬ y < x := by
        intro hh; rw [if_pos hh] at h; simp at h
      have n1 : x.toNat ≠ y.toNat := fun h => e (UInt8.toNat_inj.1 h)
      by_cases f : y = z
      · subst f
        rw [if_neg e, if_neg h1]
      · rw [if_neg f] at k
        have h2 : ¬ z < y := by
          intro hh; rw [if_pos hh] at k; simp at k
        have n2 : y.toNat ≠ z.toNat := fun h => f (UInt8.toNat_inj.1 h)
        have n3 : x.toNat < z.toNat := by simp only [UInt8.lt_iff_toNat_lt] at *; omega
        rw [if_neg (fun h => by rw [h] at n3; omega), if_neg (by simp only [UInt8.lt_iff_toNat_lt]; omega)]
theorem cmpS_vals (a b : ByteArray) : cmpS a b = -1 ∨ cmpS a b = 0 ∨ cmpS a b = 1 := cmpL_vals _ _
theorem cmpS_self (a : ByteArray) : cmpS a a = 0 := cmpL_self _
theorem cmpS_eq {a b : ByteArray} (h : cmpS a b = 0) : a = b := by
  have := cmpL_eq _ _ h
  cases a; cases b; simpa [Array.ext_iff] using this
theorem cmpS_swap (a b : ByteArray) : cmpS b a = - cmpS a b := cmpL_swap _ _
theorem cmpS_trans {a b c : ByteArray} (h : cmpS a b < 0) (k : cmpS b c < 0) : cmpS a c < 0 := by
  have h' : cmpL a.data.toList b.data.toList = -1 := by rcases cmpS_vals a b with h' | h' | h' <;> first | exact h' | (rw [h'] at h; omega)
  have k' : cmpL b.data.toList c.data.toList = -1 := by rcases cmpS_vals b c with h' | h' | h' <;> first | exact h' | (rw [h'] at k; omega)
  have := cmpL_trans _ _ _ h' k'
  show cmpL _ _ < 0
  omega

/-- Bindings in order. -/
def srt : List S65 → Bool
  | [] => true
  | p :: l => (match l with | [] => true | q :: _ => decide (cmpS p.f0 q.f0 < 0)) && srt l
/-- How many keys are ahead of this one. -/
def low (l : List S65) (key : ByteArray) : Nat := (l.takeWhile fun p => decide (cmpS p.f0 key < 0)).length
def isAt (l : List S65) (key : ByteArray) : Bool := match l[low l key]? with | some p => decide (cmpS p.f0 key = 0) | none => false
/-- Not too many, none too long. -/
def fit (l : List S65) : Bool := decide (l.length ≤ 1099511627776) && l.all fun p => decide (p.f0.size ≤ 1099511627776)
/-- How many bytes two texts have in common. -/
def comL : List UInt8 → List UInt8 → Nat
  | x :: xs, y :: ys => if x = y then comL xs ys + 1 else 0
  | _, _ => 0
theorem comL_of : ∀ (a b : List UInt8) (k : Nat), k ≤ a.length → k ≤ b.length → (∀ j, j < k → a[j]? = b[j]?) → (k = a.length ∨ k = b.length ∨ a[k]? ≠ b[k]?) → comL a b = k
  | [], b, k, h1, _, _, _ => by simp at h1; subst h1; cases b <;> rfl
  | x :: xs, [], k, _, h2, _, _ => by simp at h2; subst h2; rfl
  | x :: xs, y :: ys, 0, _, _, _, h4 => by
    unfold comL
    rw [if_neg]
    intro e
    rcases h4 with h4 | h4 | h4
    · simp at h4
    · simp at h4
    · exact h4 (by simp [e])
  | x :: xs, y :: ys, k + 1, h1, h2, h3, h4 => by
    unfold comL
    rw [if_pos (by have := h3 0 (by omega); simpa using this)]
    rw [comL_of xs ys k (by simpa using h1) (by simpa using h2) (fun j hj => by have := h3 (j + 1) (by omega); simpa using this) (by simpa using h4)]
theorem cmp_com : ∀ a b : List UInt8, cmpL a b = if comL a b = a.length ∧ comL a b = b.length then 0 else if comL a b = a.length then -1 else if comL a b = b.length then 1 else if b.getD (comL a b) 0 < a.getD (comL a b) 0 then 1 else -1
  | [], [] => rfl
  | [], _ :: _ => rfl
  | _ :: _, [] => rfl
  | x :: xs, y :: ys => by
    unfold cmpL comL
    by_cases e : x = y
    · rw [if_pos e, if_pos e, cmp_com xs ys]
      simp
    · rw [if_neg e, if_neg e]
      simp
theorem comL_le : ∀ a b : List UInt8, comL a b ≤ a.length ∧ comL a b ≤ b.length
  | [], b => by cases b <;> simp [comL]
  | _ :: _, [] => by simp [comL]
  | x :: xs, y :: ys => by
    unfold comL
    have := comL_le xs ys
    split
    · simp; omega
    · simp
def comS (a b : ByteArray) : Nat := comL a.data.toList b.data.toList

/-! ### bindings in order, as plain lists (of the session) -/
/-- Bindings with one more: its key's place is found, or made. -/
def putL (l : List S65) (p : S65) : List S65 := if isAt l p.f0 = true then l.set (low l p.f0) p else l.take (low l p.f0) ++ p :: l.drop (low l p.f0)
def mkL (l : List S65) : List S65 := l.foldl putL []
def ordL (l : List S65) : List S65 := if srt l = true then l else mkL l
def dropL (l : List S65) (key : ByteArray) : List S65 := if isAt l key = true then l.eraseIdx (low l key) else l
/-- What a key is bound to among bindings in order. -/
def lk (l : List S65) (key : ByteArray) : Option ByteArray := match l[low l key]? with | some p => if cmpS p.f0 key = 0 then some p.f1 else none | none => none
abbrev Sd (l : List S65) : Prop := l.Pairwise fun p q => cmpS p.f0 q.f0 < 0
theorem cmpS_gt {a b : ByteArray} : 0 < cmpS a b ↔ cmpS b a < 0 := by have := cmpS_swap a b; omega
theorem cmpS_zero {a b : ByteArray} : cmpS a b = 0 ↔ a = b := ⟨cmpS_eq, fun h => by rw [h]; exact cmpS_self b⟩
theorem srt_iff : ∀ l : List S65, srt l = true ↔ Sd l
  | [] => by simp [srt, Sd]
  | [p] => by simp [srt, Sd]
  | p :: q :: l => by
    have ih := srt_iff (q :: l)
    rw [srt, Bool.and_eq_true, ih, decide_eq_true_eq]
    constructor
    · rintro ⟨h, k⟩
      refine List.pairwise_cons.2 ⟨fun x hx => ?_, k⟩
      rcases List.mem_cons.1 hx with rfl | hx
      · exact h
      · exact cmpS_trans h ((List.pairwise_cons.1 k).1 x hx)
    · intro h
      obtain ⟨h, k⟩ := List.pairwise_cons.1 h
      exact ⟨h q (by simp), k⟩
theorem low_step (p : S65) (l : List S65) (key : ByteArray) : low (p :: l) key = if cmpS p.f0 key < 0 then low l key + 1 else 0 := by
  unfold low
  rw [List.takeWhile_cons]
  by_cases h : cmpS p.f0 key < 0
  · rw [if_pos (by simpa using h), if_pos h, List.length_cons]
  · rw [if_neg (by simpa using h), if_neg h, List.length_nil]
theorem take_low (key : ByteArray) : ∀ l : List S65, ∀ p ∈ l.take (low l key), cmpS p.f0 key < 0
  | [], p, h => by simp at h
  | q :: l, p, h => by
    rw [low_step] at h
    split at h
    · rename_i hq
      rw [List.take_succ_cons] at h
      rcases List.mem_cons.1 h with rfl | h
      · exact hq
      · exact take_low key l p h
    · simp at h
theorem drop_low (key : ByteArray) : ∀ l : List S65, Sd l → ∀ p ∈ l.drop (low l key), 0 ≤ cmpS p.f0 key
  | [], _, p, h => by simp at h
  | q :: l, hs, p, h => by
    obtain ⟨h1, h2⟩ := List.pairwise_cons.1 hs
    rw [low_step] at h
    split at h
    · rw [List.drop_succ_cons] at h
      exact drop_low key l h2 p h
    · rename_i hq
      rw [List.drop_zero] at h
      rcases List.mem_cons.1 h with rfl | h
      · omega
      · have := h1 p h
        rcases Int.lt_or_le (cmpS p.f0 key) 0 with hh | hh
        · exact absurd (cmpS_trans this hh) hq
        · exact hh
theorem lk_some {l : List S65} (hs : Sd l) {key v : ByteArray} : lk l key = some v ↔ (⟨key, v⟩ : S65) ∈ l := by
  have hd := drop_low key l hs
  have ht := take_low key l
  unfold lk
  constructor
  · intro h
    split at h
    · rename_i p hp
      split at h
      · rename_i hc
        obtain rfl := zQ h
        rw [cmpS_zero] at hc
        subst hc
        exact List.mem_of_getElem? hp
      · cases h
    · cases h
  · intro h
    rw [← List.take_append_drop (low l key) l, List.mem_append] at h
    rcases h with h | h
    · have := ht _ h
      rw [cmpS_self] at this
      omega
    · -- it is the first behind
      cases hdr : l.drop (low l key) with
      | nil => rw [hdr] at h; cases h
      | cons q r =>
        have hq : l[low l key]? = some q := by
          have : (l.drop (low l key))[0]? = some q := by rw [hdr]; rfl
          rwa [List.getElem?_drop, Nat.add_zero] at this
        rw [hq]
        have hsd : Sd (q :: r) := by rw [← hdr]; exact hs.sublist (List.drop_sublist _ _)
        rw [hdr] at h hd
        rcases List.mem_cons.1 h with rfl | h
        · show (if cmpS key key = 0 then _ else _) = _
          rw [if_pos (cmpS_self _)]
        · have h1 : cmpS q.f0 key < 0 := (List.pairwise_cons.1 hsd).1 _ h
          have h2 := hd q (by simp)
          omega
theorem isAt_iff {l : List S65} {key : ByteArray} : isAt l key = (lk l key).isSome := by
  unfold isAt lk
  cases l[low l key]? with
  | none => rfl
  | some p =>
    show decide _ = _
    by_cases h : cmpS p.f0 key = 0
    · simp [h]
    · simp [h]
/-- Bindings in order are told by what each key is bound to. -/
theorem sd_ext : ∀ {l m : List S65}, Sd l → Sd m → (∀ p, p ∈ l ↔ p ∈ m) → l = m
  | [], [], _, _, _ => rfl
  | [], q :: m, _, _, h => by have := (h q).2 (by simp); cases this
  | p :: l, [], _, _, h => by have := (h p).1 (by simp); cases this
  | p :: l, q :: m, hl, hm, h => by
    obtain ⟨l1, l2⟩ := List.pairwise_cons.1 hl
    obtain ⟨m1, m2⟩ := List.pairwise_cons.1 hm
    have hpq : p = q := by
      rcases List.mem_cons.1 ((h p).1 (by simp)) with e | e
      · exact e
      · rcases List.mem_cons.1 ((h q).2 (by simp)) with f | f
        · exact f.symm
        · have a := m1 p e
          have b := l1 q f
          have c := cmpS_swap p.f0 q.f0
          omega
    subst hpq
    congr 1
    refine sd_ext l2 m2 fun x => ?_
    constructor
    · intro hx
      rcases List.mem_cons.1 ((h x).1 (by simp [hx])) with e | e
      · subst e; have := l1 x hx; rw [cmpS_self] at this; omega
      · exact e
    · intro hx
      rcases List.mem_cons.1 ((h x).2 (by simp [hx])) with e | e
      · subst e; have := m1 x hx; rw [cmpS_self] at this; omega
      · exact e
theorem sd_lk {l m : List S65} (hl : Sd l) (hm : Sd m) (h : ∀ key, lk l key = lk m key) : l = m :=
  sd_ext hl hm fun ⟨a, b⟩ => by rw [← lk_some hl, ← lk_some hm, h]
theorem isAt_low {l : List S65} {key : ByteArray} (h : isAt l key = true) : ∃ p, l[low l key]? = some p ∧ p.f0 = key := by
  unfold isAt at h
  cases hp : l[low l key]? with
  | none => rw [hp] at h; cases h
  | some p => rw [hp] at h; exact ⟨p, rfl, cmpS_eq (zP h)⟩
theorem not_isAt {l : List S65} (hs : Sd l) {key : ByteArray} (h : isAt l key = false) {p : S65} (hp : p ∈ l) : p.f0 ≠ key := by
  rintro rfl
  rw [isAt_iff, Option.isSome_eq_false_iff, Option.isNone_iff_eq_none] at h
  have := (lk_some hs (key := p.f0) (v := p.f1)).2 hp
  rw [h] at this
  cases this
theorem sd_put {l : List S65} (hs : Sd l) (p : S65) : Sd (putL l p) := by
  unfold putL
  by_cases h : isAt l p.f0 = true
  · rw [if_pos h]
    obtain ⟨q, hq, hk⟩ := isAt_low h
    have hm : (l.set (low l p.f0) p).map S65.f0 = l.map S65.f0 := by
      apply List.ext_getElem?
      intro j
      rw [List.getElem?_map, List.getElem?_map, List.getElem?_set]
      by_cases e : low l p.f0 = j
      · subst e
        rw [if_pos rfl, hq]
        have := (List.getElem?_eq_some_iff.1 hq).1
        rw [if_pos this]
        simp [hk]
      · rw [if_neg e]
    have h1 : (l.map S65.f0).Pairwise fun a b => cmpS a b < 0 := List.pairwise_map.2 hs
    rw [← hm] at h1
    exact List.pairwise_map.1 h1
  · rw [if_neg h]
    have hn : isAt l p.f0 = false := by simpa using h
    rw [Sd, List.pairwise_append]
    refine ⟨hs.sublist (List.take_sublist _ _), ?_, ?_⟩
    · rw [List.pairwise_cons]
      refine ⟨fun q hq => ?_, hs.sublist (List.drop_sublist _ _)⟩
      have h1 := drop_low p.f0 l hs q hq
      have h2 := not_isAt hs hn (List.mem_of_mem_drop hq)
      have h3 : cmpS q.f0 p.f0 ≠ 0 := fun e => h2 (cmpS_eq e)
      exact cmpS_gt.1 (by omega)
    · intro a ha b hb
      have h1 := take_low p.f0 l a ha
      rcases List.mem_cons.1 hb with rfl | hb
      · exact h1
      · have h2 := drop_low p.f0 l hs b hb
        rcases Int.lt_or_le (cmpS a.f0 b.f0) 0 with h3 | h3
        · exact h3
        · exfalso
          rcases Int.lt_or_le 0 (cmpS a.f0 b.f0) with h4 | h4
          · have := cmpS_trans (cmpS_gt.1 h4) h1
            omega
          · have e := cmpS_eq (show cmpS a.f0 b.f0 = 0 by omega)
            rw [e] at h1
            omega
theorem lk_put {l : List S65} (hs : Sd l) (p : S65) (key : ByteArray) : lk (putL l p) key = if p.f0 = key then some p.f1 else lk l key := by
  have hp := sd_put hs p
  have hmem : ∀ q, q ∈ putL l p ↔ q = p ∨ (q ∈ l ∧ q.f0 ≠ p.f0) := by
    intro q
    unfold putL
    by_cases h : isAt l p.f0 = true
    · rw [if_pos h]
      obtain ⟨r, hr, hk⟩ := isAt_low h
      have hlt := (List.getElem?_eq_some_iff.1 hr).1
      constructor
      · intro hq
        obtain ⟨j, hj⟩ := List.mem_iff_getElem?.1 hq
        rw [List.getElem?_set] at hj
        split at hj
        · exact .inl (zQ (by first | exact hj | (rw [if_pos hlt] at hj; exact hj))).symm
        · rename_i hne
          refine .inr ⟨List.mem_of_getElem? hj, fun e => ?_⟩
          -- two places, one key
          have hj2 := (List.getElem?_eq_some_iff.1 hj)
          obtain ⟨hjl, hje⟩ := hj2
          obtain ⟨_, hre⟩ := List.getElem?_eq_some_iff.1 hr
          rw [Sd, List.pairwise_iff_getElem] at hs
          rcases Nat.lt_or_gt_of_ne hne with h4 | h4
          · have := hs _ _ hlt hjl h4
            rw [hre, hje, hk, e, cmpS_self] at this
            omega
          · have := hs _ _ hjl hlt h4
            rw [hre, hje, hk, e, cmpS_self] at this
            omega
      · rintro (rfl | ⟨hq, hne⟩)
        · exact List.mem_iff_getElem?.2 ⟨low l q.f0, by rw [List.getElem?_set, if_pos rfl, if_pos hlt]⟩
        · obtain ⟨j, hj⟩ := List.mem_iff_getElem?.1 hq
          refine List.mem_iff_getElem?.2 ⟨j, ?_⟩
          rw [List.getElem?_set, if_neg]
          · exact hj
          · rintro rfl
            rw [hr] at hj
            obtain rfl := zQ hj
            exact hne hk
    · rw [if_neg h]
      have hn : isAt l p.f0 = false := by simpa using h
      rw [List.mem_append, List.mem_cons]
      constructor
      · rintro (hq | hq | hq)
        · exact .inr ⟨List.mem_of_mem_take hq, not_isAt hs hn (List.mem_of_mem_take hq)⟩
        · exact .inl hq
        · exact .inr ⟨List.mem_of_mem_drop hq, not_isAt hs hn (List.mem_of_mem_drop hq)⟩
      · rintro (hq | ⟨hq, _⟩)
        · exact .inr (.inl hq)
        · rw [← List.take_append_drop (low l p.f0) l, List.mem_append] at hq
          rcases hq with hq | hq
          · exact .inl hq
          · exact .inr (.inr hq)
  by_cases e : p.f0 = key
  · rw [if_pos e, lk_some hp, hmem]
    left
    rw [← e]
  · rw [if_neg e]
    cases h : lk l key with
    | some v =>
      rw [lk_some hp, hmem]
      exact .inr ⟨(lk_some hs).1 h, fun h => e h.symm⟩
    | none =>
      cases h2 : lk (putL l p) key with
      | none => rfl
      | some v =>
        exfalso
        rw [lk_some hp, hmem] at h2
        rcases h2 with h2 | ⟨h2, _⟩
        · exact e (by rw [← h2])
        · rw [(lk_some hs).2 h2] at h; cases h
theorem sd_mk : ∀ (l acc : List S65), Sd acc → Sd (l.foldl putL acc)
  | [], _, h => h
  | p :: l, acc, h => sd_mk l _ (sd_put h p)
theorem sd_mkL (l : List S65) : Sd (mkL l) := sd_mk l [] List.Pairwise.nil
/-- What a key is bound to by the last binding of it. -/
def lastV (l : List S65) (key : ByteArray) : Option ByteArray := l.foldl (fun a p => if p.f0 = key then some p.f1 else a) none
theorem lk_mk : ∀ (l acc : List S65) (key : ByteArray), Sd acc → lk (l.foldl putL acc) key = l.foldl (fun a p => if p.f0 = key then some p.f1 else a) (lk acc key)
  | [], _, _, _ => rfl
  | p :: l, acc, key, h => by
    rw [List.foldl_cons, List.foldl_cons, lk_mk l _ key (sd_put h p), lk_put h]
theorem lk_mkL (l : List S65) (key : ByteArray) : lk (mkL l) key = lastV l key := lk_mk l [] key List.Pairwise.nil
theorem lastV_sd {l : List S65} (hs : Sd l) (key : ByteArray) : lastV l key = lk l key := by
  have gen : ∀ (l : List S65) (a : Option ByteArray), Sd l → l.foldl (fun a p => if p.f0 = key then some p.f1 else a) a = (lk l key).or a := by
    intro l
    induction l with
    | nil => intro a _; rfl
    | cons p l ih =>
      intro a h
      obtain ⟨h1, h2⟩ := List.pairwise_cons.1 h
      rw [List.foldl_cons, ih _ h2]
      by_cases e : p.f0 = key
      · rw [if_pos e]
        have hl : lk l key = none := by
          cases hv : lk l key with
          | none => rfl
          | some v =>
            have := h1 _ ((lk_some h2).1 hv)
            rw [e, cmpS_self] at this
            omega
        have hp : lk (p :: l) key = some p.f1 := (lk_some h).2 (by rw [← e]; simp)
        rw [hl, hp]; rfl
      · rw [if_neg e]
        have : lk (p :: l) key = lk l key := by
          cases hv : lk l key with
          | some v => exact (lk_some h).2 (List.mem_cons_of_mem _ ((lk_some h2).1 hv))
          | none =>
            cases hw : lk (p :: l) key with
            | none => rfl
            | some v =>
              exfalso
              rcases List.mem_cons.1 ((lk_some h).1 hw) with e2 | e2
              · exact e (by rw [← e2])
              · rw [(lk_some h2).2 e2] at hv; cases hv
        rw [this]
  rw [lastV, gen l none hs]
  cases lk l key <;> rfl
theorem sd_ord (l : List S65) : Sd (ordL l) := by
  unfold ordL
  split
  · rename_i h; exact (srt_iff l).1 h
  · exact sd_mkL l
theorem lk_ord (l : List S65) (key : ByteArray) : lk (ordL l) key = lastV l key := by
  unfold ordL
  split
  · rename_i h; rw [lastV_sd ((srt_iff l).1 h)]
  · exact lk_mkL l key
theorem ord_mk (l : List S65) : ordL l = mkL l := sd_lk (sd_ord l) (sd_mkL l) fun key => by rw [lk_ord, lk_mkL]
/-! ### what calls use: the table as the program's text lays it -/
def tabU : List Bool := [false, false, false, false, true, false, false, false, true, true, false, false, true, true, false, false, true, true, true, false, true, false, false, false, true, false, false, false, false, false, false, false, false, false, false, true, true, false, false, true, false, false, false, true, true, false, false, true, false, false, false, true, false, false, false, false]
/-- The table lies as its text lays it. -/
def LaidU (w : World) : Prop := ∀ i, i < 56 → w.cell? ⟨0, i, none⟩ = some (.bool (tabU.getD i false))
theorem laidU_below {w w' : World} (h : LaidU w) (hb : Below w.heap.size w w') : LaidU w' := fun i hi =>
  (hb.cell (zB w _ (h i hi))).trans (h i hi)
def usesK (op : Int) : Bool := decide (1 ≤ op ∧ op ≤ 6 ∨ op = 9 ∨ op = 11)
def usesV (op : Int) : Bool := decide (2 ≤ op ∧ op ≤ 4)
def usesO (op : Int) : Bool := decide (op = 4)
def usesH (op : Int) : Bool := decide (8 ≤ op ∧ op ≤ 12)
def isOp (op : Int) : Bool := decide (1 ≤ op ∧ op ≤ 13)

end Go.Proofs.YthnococjdeafhaaDoor.PModelKeeps
