/-
  The walk of the reference Starts.
-/
import Derived.Test.YtlcomkhegppfgaaDoorKit
import Derived.Test.YtlcomkhegppfgaaDoorProg
import Derived.Lib.Strings
import Derived.Lib.Split
namespace Go.Proofs.YtlcomkhegppfgaaDoor
open Go.RowKit Go.Lib

theorem byte_eq (c : UInt8) (k : UInt8) : ((c.toNat : Int) == (k.toNat : Int)) = (c == k) := by
  rw [Bool.eq_iff_iff, beq_iff_eq, beq_iff_eq]
  exact ⟨fun h => UInt8.toNat_inj.1 (Int.ofNat.inj h), fun h => by rw [h]⟩

theorem take_prefix (s t : ByteArray) : ((s.extract 0 t.size).toList == t.toList) = Lib.hasPrefix s.data.toList t.data.toList := by
  rw [Lib.toList_data, Lib.toList_data, Lib.extract_from_zero, Bool.eq_iff_iff, beq_iff_eq]
  unfold Lib.hasPrefix
  rw [List.isPrefixOf_iff_prefix, List.prefix_iff_eq_take, ← Lib.size_eq]
  exact ⟨fun h => h.symm, fun h => h.symm⟩
theorem long_prefix (s t : ByteArray) (h : ¬ t.size ≤ s.size) : Lib.hasPrefix s.data.toList t.data.toList = false := by
  cases e : Lib.hasPrefix s.data.toList t.data.toList with
  | false => rfl
  | true =>
    unfold Lib.hasPrefix at e
    rw [List.isPrefixOf_iff_prefix] at e
    have := e.length_le
    rw [← Lib.size_eq, ← Lib.size_eq] at this
    exact absurd this h

set_option maxHeartbeats 400000 in
theorem starts_any (s t : ByteArray) (w : World) :
    Calls Tryd.prog 11 #[.string s, .string t] w fun e w' => e = .returned (.bool (Lib.hasPrefix s.data.toList t.data.toList)) ∧ w' = w := by
  by_cases h : t.size ≤ s.size
  · go_enter Tryd.func11, Tryd.ntmps11
    go_wp2_with fail
    go_ret
    exact ⟨by rw [← take_prefix]; rfl, rfl⟩
  · have he := Lib.hid (long_prefix s t h)
    have hd : decide (t.size ≤ s.size) = false := decide_eq_false h
    go_enter Tryd.func11, Tryd.ntmps11
    go_wp2_with fail
    go_ret
    exact ⟨by rw [he.out]; rfl, rfl⟩
end Go.Proofs.YtlcomkhegppfgaaDoor
