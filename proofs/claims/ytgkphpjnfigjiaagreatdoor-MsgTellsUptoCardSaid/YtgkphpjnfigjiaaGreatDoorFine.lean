/-
  msg.fine: is a node fine, but for its offset and its cases?
-/
import Derived.Test.YtgkphpjnfigjiaaGreatDoorKey
namespace Go.Proofs.YtgkphpjnfigjiaaGreatDoor
open Go.RowKit Ms

theorem isEmpty_of_size {x : ByteArray} (h : x.size = 0) : x.data.toList.isEmpty = true := by rw [nil_of_size h]; rfl
theorem not_isEmpty_of_size {x : ByteArray} (h : ¬ x.size = 0) : x.data.toList.isEmpty = false := by
  have := emp_false h
  rw [Lib.toList_data] at this; simpa using this
/-- is the node ahead one of words? -/
def Pw (w : World) (b o n : Nat) (pw : Bool) : Prop := (n = 0 ∧ pw = false) ∨ ∃ n' kp, n = n' + 1 ∧ w.cell? ⟨b, o + n' * 4, none⟩ = some (.int .i64 kp) ∧ pw = (kp == 1)

set_option maxHeartbeats 1000000 in
set_option maxRecDepth 100000 in
theorem fine_any (k f : Int) (x : ByteArray) (v : Value) (b o n c : Nat) (mark pw : Bool) (w : World) (hx : x.size ≤ 2000000) (hn : n ≤ 2000000) (hp : Pw w b o n pw) :
    Calls Tryz.prog 52 #[.agg #[.int .i64 k, .string x, .int .i64 f, v], .slice (some ⟨b, o, none⟩) n c, .bool mark] w fun e w' => e = .returned (.bool (fine k x.data.toList mark pw)) ∧ Below w.heap.size w w' := by
  have HB0 := Lib.hid ((Below.refl w.heap.size w).alloc (Nat.le_refl _) (.cells #[.int .i64 k, .string x, .int .i64 f, v] 35))
  by_cases h1 : k = 1
  · subst h1
    by_cases h0 : x.size = 0
    · have he := emp_true h0
      have hr : fine 1 x.data.toList mark pw = false := by simp [fine, isEmpty_of_size h0]
      have HR := Lib.hid hr; clear hr hp
      go_enter Tryz.func52, Tryz.ntmps52
      go_wp2_with fail
      go_ret
      exact ⟨by rw [HR.out] <;> rfl, HB0.out⟩
    · have he := emp_false h0
      have hr : fine 1 x.data.toList mark pw = !pw := by simp [fine, not_isEmpty_of_size h0]
      have HR := Lib.hid hr; clear hr
      rcases hp with ⟨rfl, rfl⟩ | ⟨n', kp, rfl, hc, rfl⟩
      · go_enter Tryz.func52, Tryz.ntmps52
        go_wp2_with fail
        go_ret
        exact ⟨by rw [HR.out] <;> rfl, HB0.out⟩
      · have hcc := keepCells HB0.out _ _ _ hc
        clear hc
        go_enter Tryz.func52, Tryz.ntmps52
        go_wp2_with fail
        go_ret
        refine ⟨?_, HB0.out⟩
        rw [HR.out]
        show Ending.returned (.bool ((n' : Int) + 1 == 0 || kp != 1)) = Ending.returned (.bool (!(kp == 1)))
        rw [show ((n' : Int) + 1 == 0) = false from beq_eq_false_iff_ne.2 (by omega)]
        rfl
  · clear hp
    by_cases h25 : k = 2 ∨ k = 3 ∨ k = 4 ∨ k = 5
    · have hr : fine k x.data.toList mark pw = nameB x.data.toList := by unfold fine; rw [if_neg h1, if_pos h25]
      have HR := Lib.hid hr; clear hr
      have HN := Lib.hid (fun W => name_any x W hx)
      rcases h25 with rfl | rfl | rfl | rfl
      all_goals
        go_enter Tryz.func52, Tryz.ntmps52
        go_wp2_with fail
        refine (HN.out _).mono ?_
        rintro e w1 ⟨rfl, hb⟩
        have HB := Lib.hid (HB0.out.trans (hb.mono HB0.out.size)); clear hb
        go_wp2_with fail
        go_ret
        exact ⟨by rw [HR.out] <;> rfl, HB.out⟩
    · have hr : fine k x.data.toList mark pw = (k == 6 && mark) := by unfold fine; rw [if_neg h1, if_neg h25]
      have HR := Lib.hid hr; clear hr
      have h2 : ¬ k = 2 := fun h => h25 (.inl h)
      have h3 : ¬ k = 3 := fun h => h25 (.inr (.inl h))
      have h4 : ¬ k = 4 := fun h => h25 (.inr (.inr (.inl h)))
      have h5 : ¬ k = 5 := fun h => h25 (.inr (.inr (.inr h)))
      clear h25
      by_cases h6 : k = 6
      · subst h6
        go_enter Tryz.func52, Tryz.ntmps52
        go_wp2_with fail
        go_ret
        exact ⟨by rw [HR.out] <;> rfl, HB0.out⟩
      · have h66 : (k == 6) = false := by simpa using h6
        rw [h66] at HR
        go_enter Tryz.func52, Tryz.ntmps52
        go_wp2_with fail
        go_ret
        exact ⟨by rw [HR.out] <;> rfl, HB0.out⟩
end Go.Proofs.YtgkphpjnfigjiaaGreatDoor
