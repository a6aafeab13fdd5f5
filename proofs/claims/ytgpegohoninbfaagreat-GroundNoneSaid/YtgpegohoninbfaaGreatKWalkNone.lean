/- The law GroundNone, walked: it is run whole in the kernel, whatever its number is. -/
import Derived.Test.YtgpegohoninbfaaGreatKTab
namespace Go.Proofs.YtgpegohoninbfaaGreat.KWalk
open Go.Ev Go.RowKit
theorem laid (w : World) : Laid tab (ctx noA [] [] w) := fun g n at_ h => by cases h
set_option maxRecDepth 1000000 in
theorem none_run (r : Int) : callFB tab (runB tab (ptabOf plist) 100000) 3 [vint .i64 r] [] isTrue = true := by kernel_rfl
theorem none_walk (w : World) (r : Int) (_ : (Lit.int .i64 r).wf = true) : Calls Tryz.prog 3 #[.int .i64 r] w fun e w' => e = .returned (.bool true) ∧ Below w.heap.size w w' :=
  walk_of tab_ok ptab_ok 100000 (none_run r) w [.int .i64 r] (laid w) (by simp only [RVs, RV, RG]; exact ⟨_, _, rfl, rfl, rfl⟩)
end Go.Proofs.YtgpegohoninbfaaGreat.KWalk
