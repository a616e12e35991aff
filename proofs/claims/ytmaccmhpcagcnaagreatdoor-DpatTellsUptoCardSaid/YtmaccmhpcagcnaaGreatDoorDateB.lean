/-
  The walks of date.Check at what is no day, and of date.Number.
-/
import Derived.Test.YtmaccmhpcagcnaaGreatDoorDateA
namespace Go.Proofs.YtmaccmhpcagcnaaGreatDoor
open Go.RowKit

def errRange : Value := .iface 28 (.int .i64 1)

set_option maxHeartbeats 2000000 in
set_option maxRecDepth 100000 in
theorem check_bad (y m d : Int) (w : World) (h : ¬ Dt.ok y m d) (hA : AheadAt w) :
    Calls Tryz.prog 9 #[.agg #[.int .i64 y, .int .i64 m, .int .i64 d]] w fun e w' => e = .returned (.iface 28 (.int .i64 1)) ∧ Below w.heap.size w w' := by
  have HA := Lib.hid (hA.alloc (.cells #[.int .i64 y, .int .i64 m, .int .i64 d] 23))
  have H := Lib.hid h
  clear hA h
  by_cases a1 : y < 1
  · have t1 : decide (y < 1) = true := decide_eq_true a1
    go_enter Tryz.func9, Tryz.ntmps9
    go_wp2_with fail
    go_quiet (fail)
    go_wp2_with fail
    go_ret
    exact ⟨rfl, belowN ((Below.refl _ _).alloc (Nat.le_refl _) _) _⟩
  have t1 : decide (y < 1) = false := decide_eq_false a1
  by_cases a2 : 9999 < y
  · have t2 : decide (9999 < y) = true := decide_eq_true a2
    go_enter Tryz.func9, Tryz.ntmps9
    go_wp2_with fail
    go_quiet (fail)
    go_wp2_with fail
    go_ret
    exact ⟨rfl, belowN ((Below.refl _ _).alloc (Nat.le_refl _) _) _⟩
  have t2 : decide (9999 < y) = false := decide_eq_false a2
  by_cases a3 : m < 1
  · have t3 : decide (m < 1) = true := decide_eq_true a3
    go_enter Tryz.func9, Tryz.ntmps9
    go_wp2_with fail
    go_quiet (fail)
    go_wp2_with fail
    go_ret
    exact ⟨rfl, belowN ((Below.refl _ _).alloc (Nat.le_refl _) _) _⟩
  have t3 : decide (m < 1) = false := decide_eq_false a3
  by_cases a4 : 12 < m
  · have t4 : decide (12 < m) = true := decide_eq_true a4
    go_enter Tryz.func9, Tryz.ntmps9
    go_wp2_with fail
    go_quiet (fail)
    go_wp2_with fail
    go_ret
    exact ⟨rfl, belowN ((Below.refl _ _).alloc (Nat.le_refl _) _) _⟩
  have t4 : decide (12 < m) = false := decide_eq_false a4
  by_cases a5 : d < 1
  · have t5 : decide (d < 1) = true := decide_eq_true a5
    go_enter Tryz.func9, Tryz.ntmps9
    go_wp2_with fail
    go_quiet (fail)
    go_wp2_with fail
    go_ret
    exact ⟨rfl, belowN ((Below.refl _ _).alloc (Nat.le_refl _) _) _⟩
  have t5 : decide (d < 1) = false := decide_eq_false a5
  have hbd := before_diff y m (by omega) (by omega)
  have hp2 := before_b y (m + 1) (by omega) (by omega)
  have hq2 := before_b y m (by omega) (by omega)
  have hgt : Dt.before y (m + 1) - Dt.before y m < d := by
    rw [hbd]
    rcases Int.lt_or_le (Dt.dim y m) d with h | h
    · exact h
    · exact absurd ⟨by omega, by omega, by omega, by omega, by omega, h⟩ H.out
  have t6 : decide (Dt.before y (m + 1) - Dt.before y m < d) = true := decide_eq_true hgt
  clear hbd
  go_enter Tryz.func9, Tryz.ntmps9
  go_wp2_with fail
  go_quiet ((go_at_call 22; exact Calls.quiet_of_same (before_any _ _ _ (by omega) (by omega) (by omega) (by omega) (HA.out.drewN _))))
  go_wp2_with fail
  go_ret
  exact ⟨rfl, belowN ((Below.refl _ _).alloc (Nat.le_refl _) _) _⟩

/-- the three cells of a date in a block -/
theorem date_cells {w w1 : World} {y m d : Int} (hb : Below (w.heap.size + 1) (w.alloc (.cells #[.int .i64 y, .int .i64 m, .int .i64 d] 23)) w1) :
    w1.cell? ⟨w.heap.size, 0, none⟩ = some (.int .i64 y) ∧ w1.cell? ⟨w.heap.size, 1, none⟩ = some (.int .i64 m) ∧ w1.cell? ⟨w.heap.size, 2, none⟩ = some (.int .i64 d) := by
  refine ⟨?_, ?_, ?_⟩
  all_goals
    rw [hb.cell (p := ⟨_, _, none⟩) (by simp)]
    simp

set_option maxHeartbeats 1000000 in
set_option maxRecDepth 100000 in
theorem number_ok (y m d : Int) (w : World) (h : Dt.ok y m d) (hA : AheadAt w) :
    Calls Tryz.prog 71 #[.agg #[.int .i64 y, .int .i64 m, .int .i64 d]] w fun e w' => e = .returned (.tuple #[.int .i64 (Dt.num y m d), .nilIface]) ∧ Below w.heap.size w w' := by
  have hn := Dt.num_bd y m d h
  have hy := Dt.year_bd y (by have := h.1; omega) (by have := h.2.1; omega)
  have hq := before_b y m h.2.2.1 (by have := h.2.2.2.1; omega)
  have hdm := Dt.dim_bd y m
  have h1 := h.1; have h2 := h.2.1; have h3 := h.2.2.1; have h4 := h.2.2.2.1; have h5 := h.2.2.2.2.1
  have h6 : d ≤ 31 := by have := h.2.2.2.2.2; omega
  have H := Lib.hid h
  have HA := Lib.hid (hA.alloc (.cells #[.int .i64 y, .int .i64 m, .int .i64 d] 23))
  have hnum : Dt.num y m d = Dt.year y + Dt.before y m + d - 1 := rfl
  have HN := Lib.hid hnum
  clear hA h hn hdm hnum
  go_enter Tryz.func71, Tryz.ntmps71
  go_wp2_with fail
  refine (check_ok y m d _ H.out HA.out).mono ?_
  rintro e w1 ⟨rfl, hb⟩
  have hb' : Below (w.heap.size + 1) (w.alloc (.cells #[.int .i64 y, .int .i64 m, .int .i64 d] 23)) w1 := by simpa using hb
  obtain ⟨c0, c1, c2⟩ := date_cells hb'
  have HA1 := Lib.hid (HA.out.below hb)
  have Hb := Lib.hid hb'; clear hb hb'
  go_wp2_with fail
  go_quiet ((first | (go_at_call 86; exact Calls.quiet_of_same (year_any _ _ (by omega) (by omega))) | (go_at_call 22; exact Calls.quiet_of_same (before_any _ _ _ (by omega) (by omega) (by omega) (by omega) (HA1.out.drewN _)))))
  go_wp2_with fail
  go_ret2
  refine ⟨?_, belowN (((Below.refl _ _).alloc (Nat.le_refl _) _).trans (Hb.out.mono (by omega))) _⟩
  rw [HN.out]; rfl

set_option maxHeartbeats 1000000 in
set_option maxRecDepth 100000 in
theorem number_bad (y m d : Int) (w : World) (h : ¬ Dt.ok y m d) (hA : AheadAt w) :
    Calls Tryz.prog 71 #[.agg #[.int .i64 y, .int .i64 m, .int .i64 d]] w fun e w' => e = .returned (.tuple #[.int .i64 0, .iface 28 (.int .i64 1)]) ∧ Below w.heap.size w w' := by
  have H := Lib.hid h
  have HA := Lib.hid (hA.alloc (.cells #[.int .i64 y, .int .i64 m, .int .i64 d] 23))
  clear hA h
  go_enter Tryz.func71, Tryz.ntmps71
  go_wp2_with fail
  refine (check_bad y m d _ H.out HA.out).mono ?_
  rintro e w1 ⟨rfl, hb⟩
  have hb' : Below (w.heap.size + 1) (w.alloc (.cells #[.int .i64 y, .int .i64 m, .int .i64 d] 23)) w1 := by simpa using hb
  have Hb := Lib.hid hb'; clear hb hb'
  go_wp2_with fail
  go_ret2
  exact ⟨rfl, ((Below.refl _ _).alloc (Nat.le_refl _) _).trans (Hb.out.mono (by omega))⟩
end Go.Proofs.YtmaccmhpcagcnaaGreatDoor
