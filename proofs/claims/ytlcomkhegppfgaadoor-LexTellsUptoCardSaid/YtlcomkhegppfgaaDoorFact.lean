/-
  What the law LexTells shares with its kin: the fact that the law asks first, and what Quote hands back.
-/
import Derived.Test.YtlcomkhegppfgaaDoorLexC
namespace Go.Proofs.YtlcomkhegppfgaaDoor
open Go.Shelf Go.RowKit Go.Lib

/-- Bare's answer at the constant that the laws' own facts ask. -/
theorem bare_const (w : World) :
    Calls Tryd.prog 6 #[.string ⟨#[97, 39, 39, 98, 39, 123, 39, 99, 123, 100]⟩, .bool false] w fun e w' => e = .returned (.tuple #[.string ⟨#[97, 39, 98, 123, 99]⟩, .int .i64 8, .nilIface]) ∧ Below w.heap.size w w' := by
  refine (bare_any _ false w (by decide)).mono fun e w' h => ⟨?_, h.2⟩
  rw [h.1]
  have e1 : Lx.bare false (⟨#[97, 39, 39, 98, 39, 123, 39, 99, 123, 100]⟩ : ByteArray).data.toList = some ([97, 39, 98, 123, 99], 8) := by decide
  rw [e1]; rfl

theorem fact_bare (w : World) :
    Calls Tryd.prog 4 #[] w fun e w' => e = .returned (.bool true) ∧ Below w.heap.size w w' := by
  go_enter Tryd.func4, Tryd.ntmps4
  go_wp2_with fail
  refine (bare_const _).mono ?_
  rintro e w1 ⟨rfl, hb1⟩
  have Hb1 := Lib.hid hb1; clear hb1
  go_wp2_with fail
  go_ret
  exact ⟨rfl, Hb1.out⟩

theorem bareOut_str (s : ByteArray) (n : Nat) : bareOut (some (s.data.toList, n)) = .tuple #[.string s, .int .i64 n, .nilIface] := by
  show Value.tuple #[.string ⟨s.data.toList.toArray⟩, .int .i64 n, .nilIface] = _
  rw [strOf_ext]

/-- what Quote hands back, under a name, with its length -/
theorem quote_named (m : Bool) (s : ByteArray) : ∃ Q : ByteArray, (⟨(Lx.quote m s.data.toList).toArray⟩ : ByteArray) = Q ∧ Q.data.toList = Lx.quote m s.data.toList ∧ s.size ≤ Q.size ∧ Q.size ≤ 4 * s.size := by
  refine ⟨_, rfl, rfl, ?_, ?_⟩
  · have := (Lx.quote_len m s.data.toList).1
    rw [Lib.size_eq, Lib.size_eq]; exact this
  · have := (Lx.quote_len m s.data.toList).2
    rw [Lib.size_eq, Lib.size_eq]; exact this
end Go.Proofs.YtlcomkhegppfgaaDoor
