/-
  rule.number; strings.Cut in plain words; what lies in memory of a relation.
-/
import Derived.Test.YtnefcilopgcdpaaGreatDoorPrule
import Derived.Test.YtnefcilopgcdpaaGreatDoorGrow
import Derived.Lib.BufferOwn
import Derived.Lib.SmallJoins
import Derived.Deep.Cut
import Derived.Deep.DeepCutAuto
namespace Go.Proofs.YtnefcilopgcdpaaGreatDoor
open Go.RowKit Go.Shelf
attribute [local go_sem] Oper.semAt_some

set_option maxHeartbeats 1000000 in
theorem rnum_any (s : ByteArray) (w : World) (hs : s.size ≤ 100000) (hm : MW w) :
    Calls Tryz.prog 151 #[.string s] w fun e w' => e = .returned (.int .i64 (numR s.data.toList)) ∧ Below w.heap.size w w' := by
  have HA := Lib.hid (Tryz.atoi s w (by omega) hm)
  clear hm
  obtain ⟨r, hr⟩ : ∃ r, r = numR s.data.toList := ⟨_, rfl⟩
  rw [← hr]
  have HR := Lib.hid hr; clear hr
  go_enter Tryz.func151, Tryz.ntmps151
  go_wp2_with fail
  refine HA.out.mono ?_
  rintro e w1 ⟨⟨v, er, rfl, hv⟩, hb⟩
  have HB := Lib.hid hb; clear hb
  rcases hv with ⟨rfl, hv⟩ | ⟨⟨te, pe, rfl⟩, hv⟩
  · have hx : v = r := by rw [HR.out]; unfold numR; rw [hv]
    subst hx
    clear hv
    go_wp2_with fail
    go_ret
    exact ⟨rfl, HB.out⟩
  · have hx : r = -1 := by
      rw [HR.out]; unfold numR
      split
      · next n h => exact absurd h (hv n)
      · rfl
    subst hx
    clear hv
    go_wp2_with fail
    go_ret
    exact ⟨rfl, HB.out⟩

/-! ### what lies in memory -/
def rngCells : List (Int × Int) → List Value
  | [] => []
  | p :: l => .int .i64 p.1 :: .int .i64 p.2 :: rngCells l
theorem rngCells_app (a b : List (Int × Int)) : rngCells (a ++ b) = rngCells a ++ rngCells b := by
  induction a with
  | nil => rfl
  | cons p l ih => simp [rngCells, ih]
def RngR (W : World) (v : Value) (rs : List (Int × Int)) : Prop := W.ownsRow 0 237 2 v rs.length (rngCells rs)
theorem cut_any (s sep : List UInt8) (w : World) (hs : s.length ≤ 100000) (hm : MaxAt w) :
    Calls Tryz.prog 114 #[.string ⟨s.toArray⟩, .string ⟨sep.toArray⟩] w fun e w' => e = .returned (.tuple #[.string ⟨(Lib.cut s sep).1.toArray⟩, .string ⟨(Lib.cut s sep).2.1.toArray⟩, .bool (Lib.cut s sep).2.2]) ∧ Below w.heap.size w w' := by
  obtain ⟨m, hm⟩ := hm
  have hz : (⟨s.toArray⟩ : ByteArray).size = s.length := by have := Lib.size_eq (⟨s.toArray⟩ : ByteArray); simpa using this
  refine (Tryz.strings_Cut ⟨s.toArray⟩ ⟨sep.toArray⟩ m w (by omega) hm).mono ?_
  rintro e w' ⟨rfl, n, rfl⟩
  exact ⟨rfl, below0N _ _ _⟩
theorem cut_len (s sep : List UInt8) : (Lib.cut s sep).1.length ≤ s.length ∧ (Lib.cut s sep).2.1.length ≤ s.length := by
  unfold Lib.cut
  split
  · simp only [List.length_take, List.length_drop]; omega
  · simp
theorem head_len (s : List UInt8) : (headOf s).1.length ≤ s.length ∧ (headOf s).2.1.length ≤ s.length := by
  unfold headOf
  split
  · exact cut_len _ _
  · exact cut_len _ _

theorem infoRng : (Tryz.prog.info? 237).map (fun i => (i.zero, i.size, i.bytes)) = some (some (.agg #[.int .i64 0, .int .i64 0]), 2, 16) := by kernel_rfl
theorem owns_below {w w' : World} {base size n : Nat} {e : TypeId} {v : Value} {xs : List Value} (h : w.ownsRow base e size v n xs) (hb : Below w.heap.size w w') : w'.ownsRow base e size v n xs :=
  h.kept (grown_of_below hb none) (by cases h : v.ownBlock with
    | none => exact .inl rfl
    | some g => exact .inr (by simp))
theorem own_ne {W : World} {base size n k : Nat} {e t : TypeId} {v : Value} {xs : List Value} {cs : Array Value} {f : Nat × Nat} (h : W.ownsRow base e size v n xs) (hk : W.heap[k]? = some (.cells cs t f)) (hne : t ≠ e) : v.ownBlock ≠ some k := by
  rcases h.2 with ⟨rfl, _⟩ | ⟨g, cap, cur, rfl, _, hgb, _⟩
  · intro h; cases h
  · intro e'
    obtain rfl : g = k := by simpa [Value.ownBlock] using e'
    rw [hgb] at hk; cases hk; exact hne rfl
end Go.Proofs.YtnefcilopgcdpaaGreatDoor
