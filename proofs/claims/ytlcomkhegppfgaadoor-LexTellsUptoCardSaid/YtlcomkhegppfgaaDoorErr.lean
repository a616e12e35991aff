/-
  plain.Told and linguistersame.Error: what they answer of nil and of an Errno.
-/
import Derived.Test.YtlcomkhegppfgaaDoorTold
namespace Go.Proofs.YtlcomkhegppfgaaDoor
open Go.RowKit Go.Extern.Stop Go.Stop Go.Extern

theorem ErrTypeAt.keep {w w' : World} {B : Nat} (h : ErrTypeAt w) (hB : 0 < B) (hb : Below B w w') : ErrTypeAt w' := by
  unfold ErrTypeAt at *
  rw [hb.cell (p := ⟨_, 0, none⟩) hB]; exact h
theorem ErrTypeAt.lt {w : World} (h : ErrTypeAt w) : 0 < w.heap.size := by
  unfold ErrTypeAt at h
  rcases Nat.lt_or_ge 0 w.heap.size with h' | h'
  · exact h'
  · simp [World.cell?, Array.getElem?_eq_none h'] at h
theorem ErrTypeAt.below {w w' : World} (h : ErrTypeAt w) (hb : Below w.heap.size w w') : ErrTypeAt w' := h.keep h.lt hb

/-- an error of this program: nil, or a number -/
def errVal (k : Int) : Value := if k = 0 then .nilIface else .iface 25 (.int .i64 k)

theorem told_nil (w : World) : Calls Tryd.prog 20 #[.nilIface] w fun e w' => e = .returned (.int .i64 0) ∧ w' = w := by
  go_enter Tryd.func20, Tryd.ntmps20
  go_wp2_with fail
  go_ret
  exact ⟨rfl, rfl⟩

set_option maxHeartbeats 1000000 in
theorem told_errno (k : Int) (w : World) (hg : ErrTypeAt w) :
    Calls Tryd.prog 20 #[.iface 25 (.int .i64 k)] w fun e w' => e = .returned (.int .i64 k) ∧ Below w.heap.size w w' := by
  have hc := as_hit k ⟨w.heap.size, 0, none⟩ (.int .i64 0) (w.alloc (.cells #[.int .i64 0] 25)) (hg.below ((Below.refl _ _).alloc (Nat.le_refl _) _)) (by simp) (by simp)
  have HC := Lib.hid hc; clear hc hg
  go_enter Tryd.func20, Tryd.ntmps20
  go_wp2_with fail
  refine HC.out.mono ?_
  rintro e w' ⟨rfl, hw⟩
  have hcell : w'.cell? ⟨w.heap.size, 0, none⟩ = some (.int .i64 k) := by
    rw [hw]
    refine World.cell?_setCell_same _ _ _ (u := .int .i64 0) ?_
    rw [World.cell?_alloc_lt _ _ _ (by simp; omega), World.cell?_alloc_lt _ _ _ (by simp; omega), World.cell?_alloc_lt _ _ _ (by simp; omega), World.cell?_alloc_lt _ _ _ (by simp)]
    simp
  have hb : Below w.heap.size w w' := by
    rw [hw]
    refine ((((((Below.refl _ _).alloc (Nat.le_refl _) _).alloc (by simp) _).alloc (by simp; omega) _).alloc (by simp; omega) _).alloc (by simp; omega) _).setCell (by simp) _
  have Hb := Lib.hid hb; clear hb hw
  go_wp2_with fail
  go_ret
  exact ⟨rfl, Hb.out⟩

theorem error_nil (e : Int) (w : World) :
    Calls Tryd.prog 7 #[.nilIface, .int .i64 e] w fun r w' => r = .returned (.bool (0 == e)) ∧ w' = w := by
  go_enter Tryd.func7, Tryd.ntmps7
  go_wp2_with fail
  refine (told_nil _).mono ?_
  rintro e' w' ⟨rfl, rfl⟩
  go_wp2_with fail
  go_ret
  exact ⟨rfl, rfl⟩
theorem error_no (k e : Int) (w : World) (hg : ErrTypeAt w) :
    Calls Tryd.prog 7 #[.iface 25 (.int .i64 k), .int .i64 e] w fun r w' => r = .returned (.bool (k == e)) ∧ Below w.heap.size w w' := by
  have HG := Lib.hid hg; clear hg
  go_enter Tryd.func7, Tryd.ntmps7
  go_wp2_with fail
  refine (told_errno k _ HG.out).mono ?_
  rintro e' w' ⟨rfl, hb⟩
  have Hb := Lib.hid hb; clear hb
  go_wp2_with fail
  go_ret
  exact ⟨rfl, Hb.out⟩
end Go.Proofs.YtlcomkhegppfgaaDoor
