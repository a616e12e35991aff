/-
  The walks of date.leap, before, year, Check, Number.
-/
import Derived.Test.YtmaccmhpcagcnaaGreatDoorProg
import Derived.Test.YtmaccmhpcagcnaaGreatDoorKit
import Derived.Test.YtmaccmhpcagcnaaGreatDoorPdate
namespace Go.Proofs.YtmaccmhpcagcnaaGreatDoor
open Go.RowKit

/-- the program's table of days ahead of a month -/
def AheadAt (w : World) : Prop := ∀ m : Int, 1 ≤ m → m ≤ 13 → w.cell? ⟨0, m.toNat - 1, none⟩ = some (.int .i64 (Dt.ahead m))
theorem cell_lt {w : World} {b o : Nat} {v : Value} (h : w.cell? ⟨b, o, none⟩ = some v) : b < w.heap.size := by
  rcases Nat.lt_or_ge b w.heap.size with h' | h'
  · exact h'
  · simp [World.cell?, Array.getElem?_eq_none h'] at h
theorem AheadAt.lt {w : World} (h : AheadAt w) : 0 < w.heap.size := cell_lt (h 1 (by omega) (by omega))
theorem AheadAt.keep {w w' : World} {B : Nat} (h : AheadAt w) (hB : 0 < B) (hb : Below B w w') : AheadAt w' := by
  intro m h1 h2
  rw [hb.cell (p := ⟨_, _, none⟩) hB]; exact h m h1 h2
theorem AheadAt.below {w w' : World} (h : AheadAt w) (hb : Below w.heap.size w w') : AheadAt w' := h.keep h.lt hb
theorem AheadAt.drewN {w : World} (h : AheadAt w) (n : Nat) : AheadAt (w.drewN n) := h.below (below0N _ _ _)
theorem AheadAt.drew {w : World} (h : AheadAt w) : AheadAt w.drew := h.below ((Below.refl _ _).drew)
theorem AheadAt.alloc {w : World} (h : AheadAt w) (o : Obj) : AheadAt (w.alloc o) := h.below ((Below.refl _ _).alloc (Nat.le_refl _) _)

theorem leap_any (y : Int) (w : World) (h0 : 0 ≤ y) (h1 : y ≤ 1000000) :
    Calls Tryz.prog 38 #[.int .i64 y] w fun e w' => e = .returned (.bool (Dt.leap y)) ∧ w' = w := by
  obtain ⟨a, ha⟩ : ∃ a, (y % 4 == 0) = a := ⟨_, rfl⟩
  obtain ⟨b, hb⟩ : ∃ b, (y % 100 != 0) = b := ⟨_, rfl⟩
  obtain ⟨c, hc⟩ : ∃ c, (y % 400 == 0) = c := ⟨_, rfl⟩
  have hl : Dt.leap y = (a && b || c) := by unfold Dt.leap; rw [← ha, ← hb, ← hc]; rfl
  rw [hl]
  clear hl
  cases a <;> cases b <;> cases c
  all_goals
    go_enter Tryz.func38, Tryz.ntmps38
    go_wp2_with fail
    go_ret
    exact ⟨rfl, rfl⟩

theorem year_any (y : Int) (w : World) (h0 : 1 ≤ y) (h1 : y ≤ 100000) :
    Calls Tryz.prog 86 #[.int .i64 y] w fun e w' => e = .returned (.int .i64 (Dt.year y)) ∧ w' = w := by
  go_enter Tryz.func86, Tryz.ntmps86
  go_wp2_with fail
  go_ret
  exact ⟨by unfold Dt.year; rfl, rfl⟩

theorem before_any (y m : Int) (w : World) (h0 : 0 ≤ y) (h1 : y ≤ 1000000) (h2 : 1 ≤ m) (h3 : m ≤ 13) (hA : AheadAt w) :
    Calls Tryz.prog 22 #[.int .i64 y, .int .i64 m] w fun e w' => e = .returned (.int .i64 (Dt.before y m)) ∧ w' = w := by
  have hc := hA m h2 h3
  have hb : 0 ≤ Dt.ahead m ∧ Dt.ahead m ≤ 365 := by
    have h : m = 13 ∨ m ≤ 12 := by omega
    rcases h with rfl | h
    · decide
    · rcases Dt.m_cases h2 h with rfl | rfl | rfl | rfl | rfl | rfl | rfl | rfl | rfl | rfl | rfl | rfl <;> decide
  obtain ⟨a, ha⟩ : ∃ a, Dt.ahead m = a := ⟨_, rfl⟩
  obtain ⟨l, hl⟩ : ∃ l, Dt.leap y = l := ⟨_, rfl⟩
  have hB : Dt.before y m = a + if m > 2 ∧ l = true then 1 else 0 := by unfold Dt.before; rw [ha, hl]
  rw [hB]
  rw [ha] at hb hc
  have hL := leap_any y
  rw [hl] at hL
  have HL := Lib.hid hL
  clear hL hB ha hl hA
  by_cases hm : 2 < m
  · cases l
    · rw [if_neg (fun h => by cases h.2), Int.add_zero]
      go_enter Tryz.func22, Tryz.ntmps22
      go_wp2_with fail
      refine (HL.out _ h0 h1).mono ?_
      rintro e w1 ⟨rfl, rfl⟩
      go_wp2_with fail
      go_ret
      exact ⟨rfl, rfl⟩
    · rw [if_pos ⟨hm, rfl⟩]
      go_enter Tryz.func22, Tryz.ntmps22
      go_wp2_with fail
      refine (HL.out _ h0 h1).mono ?_
      rintro e w1 ⟨rfl, rfl⟩
      go_wp2_with fail
      go_ret
      exact ⟨rfl, rfl⟩
  · rw [if_neg (fun h => by omega), Int.add_zero]
    go_enter Tryz.func22, Tryz.ntmps22
    go_wp2_with fail
    go_ret
    exact ⟨rfl, rfl⟩

/-- a date as a value -/
def dateV (y m d : Int) : Value := .agg #[.int .i64 y, .int .i64 m, .int .i64 d]
theorem before_diff (y m : Int) (h2 : 1 ≤ m) (h3 : m ≤ 12) : Dt.before y (m + 1) - Dt.before y m = Dt.dim y m := by
  rw [Dt.before_succ y m h2 h3]; omega
theorem before_b (y m : Int) (h1 : 1 ≤ m) (h2 : m ≤ 13) : 0 ≤ Dt.before y m ∧ Dt.before y m ≤ 366 := by
  have := Dt.before_bd y m h1 h2; omega

set_option maxHeartbeats 1000000 in
set_option maxRecDepth 100000 in
theorem check_ok (y m d : Int) (w : World) (h : Dt.ok y m d) (hA : AheadAt w) :
    Calls Tryz.prog 9 #[.agg #[.int .i64 y, .int .i64 m, .int .i64 d]] w fun e w' => e = .returned .nilIface ∧ Below w.heap.size w w' := by
  obtain ⟨h1, h2, h3, h4, h5, h6⟩ := h
  have hdm := Dt.dim_bd y m
  have t1 : decide (y < 1) = false := decide_eq_false (by omega)
  have t2 : decide (9999 < y) = false := decide_eq_false (by omega)
  have t3 : decide (m < 1) = false := decide_eq_false (by omega)
  have t4 : decide (12 < m) = false := decide_eq_false (by omega)
  have t5 : decide (d < 1) = false := decide_eq_false (by omega)
  have hbd := before_diff y m h3 h4
  have hp2 := before_b y (m + 1) (by omega) (by omega)
  have hq2 := before_b y m h3 (by omega)
  have t6 : decide (Dt.before y (m + 1) - Dt.before y m < d) = false := decide_eq_false (by omega)
  have HA := Lib.hid (hA.alloc (.cells #[.int .i64 y, .int .i64 m, .int .i64 d] 23))
  clear hbd hA h6 hdm
  go_enter Tryz.func9, Tryz.ntmps9
  go_wp2_with fail
  go_quiet ((go_at_call 22; exact Calls.quiet_of_same (before_any _ _ _ (by omega) (by omega) (by omega) (by omega) (HA.out.drewN _))))
  go_wp2_with fail
  go_ret
  exact ⟨rfl, belowN ((Below.refl _ _).alloc (Nat.le_refl _) _) _⟩
end Go.Proofs.YtmaccmhpcagcnaaGreatDoor
