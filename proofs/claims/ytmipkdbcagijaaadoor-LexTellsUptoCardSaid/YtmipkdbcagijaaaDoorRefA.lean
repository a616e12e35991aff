/-
  The walks of the references Sign and Starts.
-/
import Derived.Test.YtmipkdbcagijaaaDoorLexC
namespace Go.Proofs.YtmipkdbcagijaaaDoor
open Go.Shelf Go.RowKit Go.Lib

theorem byte_eq (c : UInt8) (k : UInt8) : ((c.toNat : Int) == (k.toNat : Int)) = (c == k) := by
  rw [Bool.eq_iff_iff, beq_iff_eq, beq_iff_eq]
  exact ⟨fun h => UInt8.toNat_inj.1 (Int.ofNat.inj h), fun h => by rw [h]⟩

set_option maxHeartbeats 400000 in
theorem sign_any (c : UInt8) (m : Bool) (w : World) :
    Calls Tryd.prog 35 #[.int .u8 c.toNat, .bool m] w fun e w' => e = .returned (.bool (Lx.sg m c)) ∧ w' = w := by
  have e1 : ((c.toNat : Int) == 123) = (c == 123) := byte_eq c 123
  have e2 : ((c.toNat : Int) == 125) = (c == 125) := byte_eq c 125
  have e3 : ((c.toNat : Int) == 35) = (c == 35) := byte_eq c 35
  unfold Lx.sg
  cases h1 : c == 123 <;> rw [h1] at e1 <;> cases h2 : c == 125 <;> rw [h2] at e2 <;> cases h3 : c == 35 <;> rw [h3] at e3 <;> cases m
  all_goals
    clear h1 h2 h3
    go_enter Tryd.func35, Tryd.ntmps35
    go_wp2_with fail
    go_ret
    exact ⟨rfl, rfl⟩

theorem take_prefix (s t : ByteArray) : ((s.extract 0 t.size).toList == t.toList) = Lib.hasPrefix s.data.toList t.data.toList := by
  rw [Lib.toList_data, Lib.toList_data, Lib.extract_from_zero, Bool.eq_iff_iff, beq_iff_eq]
  unfold Lib.hasPrefix
  rw [List.isPrefixOf_iff_prefix, List.prefix_iff_eq_take, ← Lib.size_eq]
  exact ⟨fun h => h.symm, fun h => h.symm⟩
theorem long_prefix (s t : ByteArray) (h : ¬ t.size ≤ s.size) : Lib.hasPrefix s.data.toList t.data.toList = false := by
  cases e : Lib.hasPrefix s.data.toList t.data.toList with
  | false => rfl
  | true =>
    unfold Lib.hasPrefix at e
    rw [List.isPrefixOf_iff_prefix] at e
    have := e.length_le
    rw [← Lib.size_eq, ← Lib.size_eq] at this
    exact absurd this h

set_option maxHeartbeats 400000 in
theorem starts_any (s t : ByteArray) (w : World) :
    Calls Tryd.prog 36 #[.string s, .string t] w fun e w' => e = .returned (.bool (Lib.hasPrefix s.data.toList t.data.toList)) ∧ w' = w := by
  by_cases h : t.size ≤ s.size
  · go_enter Tryd.func36, Tryd.ntmps36
    go_wp2_with fail
    go_ret
    exact ⟨by rw [← take_prefix]; rfl, rfl⟩
  · have he := Lib.hid (long_prefix s t h)
    have hd : decide (t.size ≤ s.size) = false := decide_eq_false h
    go_enter Tryd.func36, Tryd.ntmps36
    go_wp2_with fail
    go_ret
    exact ⟨by rw [he.out]; rfl, rfl⟩
end Go.Proofs.YtmipkdbcagijaaaDoor
