/-
  The walks of the references Sign and Starts.
-/
import Derived.Test.YtlcomkhegppfgaaDoorLexC
import Derived.Test.YtlcomkhegppfgaaDoorStarts
namespace Go.Proofs.YtlcomkhegppfgaaDoor
open Go.Shelf Go.RowKit Go.Lib

set_option maxHeartbeats 400000 in
theorem sign_any (c : UInt8) (m : Bool) (w : World) :
    Calls Tryd.prog 10 #[.int .u8 c.toNat, .bool m] w fun e w' => e = .returned (.bool (Lx.sg m c)) ∧ w' = w := by
  have e1 : ((c.toNat : Int) == 123) = (c == 123) := byte_eq c 123
  have e2 : ((c.toNat : Int) == 125) = (c == 125) := byte_eq c 125
  have e3 : ((c.toNat : Int) == 35) = (c == 35) := byte_eq c 35
  unfold Lx.sg
  cases h1 : c == 123 <;> rw [h1] at e1 <;> cases h2 : c == 125 <;> rw [h2] at e2 <;> cases h3 : c == 35 <;> rw [h3] at e3 <;> cases m
  all_goals
    clear h1 h2 h3
    go_enter Tryd.func10, Tryd.ntmps10
    go_wp2_with fail
    go_ret
    exact ⟨rfl, rfl⟩

end Go.Proofs.YtlcomkhegppfgaaDoor
