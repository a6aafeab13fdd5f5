/- A stop for the walk: ahead of a statement that begins with region n ('go_wp2_with (with_reducible refine stop_seq (n := 9) ?_)', then 'refine Stop.mk ?_'), so that the whole statement can be cut around. -/
import Derived.WalkKit
namespace Go.Proofs.Ytbbdhefipbepdaa.Stops
def Stop (p : Prop) : Prop := p
theorem Stop.mk {p : Prop} (h : p) : Stop p := h
theorem stop_seq (n : Nat) {P : Program} {ops : Array Oper} {d : Bool} {c : Code} {Q : Exit → Act → World → Prop} {a : Act} {w : World} (h : Stop ((Code.seq (Code.region n ops d) c).wp P Q a w)) : (Code.seq (Code.region n ops d) c).wp P Q a w := h
theorem stop_block (n : Nat) {P : Program} {c : Code} {Q : Exit → Act → World → Prop} {a : Act} {w : World} (h : Stop ((Code.block n c).wp P Q a w)) : (Code.block n c).wp P Q a w := h
end Go.Proofs.Ytbbdhefipbepdaa.Stops
