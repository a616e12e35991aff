/-
  The references on days: Leap, Month, DateFault, YearDay, Years, DayNumber, ThursdayYear, WeekOf.
-/
import Derived.Test.YtmaccmhpcagcnaaGreatDoorFormat
namespace Go.Proofs.YtmaccmhpcagcnaaGreatDoor
open Go.RowKit

theorem rleap_any (y : Int) (w : World) (h0 : 0 ≤ y) (h1 : y ≤ 1000000) :
    Calls Tryz.prog 37 #[.int .i64 y] w fun e w' => e = .returned (.bool (Dt.leap y)) ∧ w' = w := by
  obtain ⟨a, ha⟩ : ∃ a, (y % 4 == 0) = a := ⟨_, rfl⟩
  obtain ⟨b, hb⟩ : ∃ b, (y % 100 != 0) = b := ⟨_, rfl⟩
  obtain ⟨c, hc⟩ : ∃ c, (y % 400 == 0) = c := ⟨_, rfl⟩
  have hl : Dt.leap y = (a && b || c) := by unfold Dt.leap; rw [← ha, ← hb, ← hc]; rfl
  rw [hl]
  clear hl
  cases a <;> cases b <;> cases c
  all_goals
    go_enter Tryz.func37, Tryz.ntmps37
    go_wp2_with fail
    go_ret
    exact ⟨rfl, rfl⟩

theorem rmonth_any (y m : Int) (w : World) (h0 : 0 ≤ y) (h1 : y ≤ 1000000) :
    Calls Tryz.prog 21 #[.int .i64 y, .int .i64 m] w fun e w' => e = .returned (.int .i64 (Dt.dim y m)) ∧ w' = w := by
  by_cases h2 : m = 2
  · subst h2
    cases hl : Dt.leap y with
    | true =>
      have hL := rleap_any y
      rw [hl] at hL
      have hd : Dt.dim y 2 = 29 := by unfold Dt.dim Dt.lp; rw [hl]; rfl
      rw [hd]
      have HL := Lib.hid hL; clear hL hd hl
      go_enter Tryz.func21, Tryz.ntmps21
      go_wp2_with fail
      refine (HL.out _ h0 h1).mono ?_
      rintro e w1 ⟨rfl, rfl⟩
      go_wp2_with fail
      go_ret
      exact ⟨rfl, rfl⟩
    | false =>
      have hL := rleap_any y
      rw [hl] at hL
      have hd : Dt.dim y 2 = 28 := by unfold Dt.dim Dt.lp; rw [hl]; rfl
      rw [hd]
      have HL := Lib.hid hL; clear hL hd hl
      go_enter Tryz.func21, Tryz.ntmps21
      go_wp2_with fail
      refine (HL.out _ h0 h1).mono ?_
      rintro e w1 ⟨rfl, rfl⟩
      go_wp2_with fail
      go_ret
      exact ⟨rfl, rfl⟩
  · have b2 : (m == 2) = false := by simpa using h2
    have hb : ∃ p q r s : Bool, (m == 4) = p ∧ (m == 6) = q ∧ (m == 9) = r ∧ (m == 11) = s ∧ Dt.dim y m = if (p || q || r || s) = true then 30 else 31 := by
      refine ⟨_, _, _, _, rfl, rfl, rfl, rfl, ?_⟩
      unfold Dt.dim
      rw [if_neg h2]
      by_cases h : m = 4 ∨ m = 6 ∨ m = 9 ∨ m = 11
      · rw [if_pos h, if_pos]; simpa [or_assoc] using h
      · rw [if_neg h, if_neg]; simpa [not_or, and_assoc] using h
    obtain ⟨p, q, r, s, hp, hq, hr, hs, hd⟩ := hb
    rw [hd]
    clear hd h2
    cases p <;> cases q <;> cases r <;> cases s
    all_goals
      go_enter Tryz.func21, Tryz.ntmps21
      go_wp2_with fail
      go_ret
      exact ⟨rfl, rfl⟩

set_option maxHeartbeats 2000000 in
set_option maxRecDepth 100000 in
theorem rfault_ok (y m d : Int) (w : World) (h : Dt.ok y m d) :
    Calls Tryz.prog 8 #[.agg #[.int .i64 y, .int .i64 m, .int .i64 d]] w fun e w' => e = .returned (.bool false) ∧ Below w.heap.size w w' := by
  obtain ⟨h1, h2, h3, h4, h5, h6⟩ := h
  have hdm := Dt.dim_bd y m
  have t1 : decide (y < 1) = false := decide_eq_false (by omega)
  have t2 : decide (9999 < y) = false := decide_eq_false (by omega)
  have t3 : decide (m < 1) = false := decide_eq_false (by omega)
  have t4 : decide (12 < m) = false := decide_eq_false (by omega)
  have t5 : decide (d < 1) = false := decide_eq_false (by omega)
  have t6 : decide (Dt.dim y m < d) = false := decide_eq_false (by omega)
  clear h6 hdm
  go_enter Tryz.func8, Tryz.ntmps8
  go_wp2_with fail
  go_quiet ((go_at_call 21; exact Calls.quiet_of_same (rmonth_any _ _ _ (by omega) (by omega))))
  go_wp2_with fail
  go_ret
  exact ⟨rfl, belowN ((Below.refl _ _).alloc (Nat.le_refl _) _) _⟩

set_option maxHeartbeats 2000000 in
set_option maxRecDepth 100000 in
theorem rfault_bad (y m d : Int) (w : World) (h : ¬ Dt.ok y m d) :
    Calls Tryz.prog 8 #[.agg #[.int .i64 y, .int .i64 m, .int .i64 d]] w fun e w' => e = .returned (.bool true) ∧ Below w.heap.size w w' := by
  have H := Lib.hid h
  clear h
  by_cases a1 : y < 1
  · have t1 : decide (y < 1) = true := decide_eq_true a1
    go_enter Tryz.func8, Tryz.ntmps8
    go_wp2_with fail
    go_quiet (fail)
    go_wp2_with fail
    go_ret
    exact ⟨rfl, belowN ((Below.refl _ _).alloc (Nat.le_refl _) _) _⟩
  have t1 : decide (y < 1) = false := decide_eq_false a1
  by_cases a2 : 9999 < y
  · have t2 : decide (9999 < y) = true := decide_eq_true a2
    go_enter Tryz.func8, Tryz.ntmps8
    go_wp2_with fail
    go_quiet (fail)
    go_wp2_with fail
    go_ret
    exact ⟨rfl, belowN ((Below.refl _ _).alloc (Nat.le_refl _) _) _⟩
  have t2 : decide (9999 < y) = false := decide_eq_false a2
  by_cases a3 : m < 1
  · have t3 : decide (m < 1) = true := decide_eq_true a3
    go_enter Tryz.func8, Tryz.ntmps8
    go_wp2_with fail
    go_quiet (fail)
    go_wp2_with fail
    go_ret
    exact ⟨rfl, belowN ((Below.refl _ _).alloc (Nat.le_refl _) _) _⟩
  have t3 : decide (m < 1) = false := decide_eq_false a3
  by_cases a4 : 12 < m
  · have t4 : decide (12 < m) = true := decide_eq_true a4
    go_enter Tryz.func8, Tryz.ntmps8
    go_wp2_with fail
    go_quiet (fail)
    go_wp2_with fail
    go_ret
    exact ⟨rfl, belowN ((Below.refl _ _).alloc (Nat.le_refl _) _) _⟩
  have t4 : decide (12 < m) = false := decide_eq_false a4
  by_cases a5 : d < 1
  · have t5 : decide (d < 1) = true := decide_eq_true a5
    go_enter Tryz.func8, Tryz.ntmps8
    go_wp2_with fail
    go_quiet (fail)
    go_wp2_with fail
    go_ret
    exact ⟨rfl, belowN ((Below.refl _ _).alloc (Nat.le_refl _) _) _⟩
  have t5 : decide (d < 1) = false := decide_eq_false a5
  have hgt : Dt.dim y m < d := by
    rcases Int.lt_or_le (Dt.dim y m) d with h | h
    · exact h
    · exact absurd ⟨by omega, by omega, by omega, by omega, by omega, h⟩ H.out
  have t6 : decide (Dt.dim y m < d) = true := decide_eq_true hgt
  go_enter Tryz.func8, Tryz.ntmps8
  go_wp2_with fail
  go_quiet ((go_at_call 21; exact Calls.quiet_of_same (rmonth_any _ _ _ (by omega) (by omega))))
  go_wp2_with fail
  go_ret
  exact ⟨rfl, belowN ((Below.refl _ _).alloc (Nat.le_refl _) _) _⟩

set_option maxHeartbeats 1000000 in
set_option maxRecDepth 100000 in
theorem ryearday_ok (y m d : Int) (w : World) (h : Dt.ok y m d) :
    Calls Tryz.prog 34 #[.agg #[.int .i64 y, .int .i64 m, .int .i64 d]] w fun e w' => e = .returned (.int .i64 (d + Dt.before y m)) ∧ Below w.heap.size w w' := by
  obtain ⟨h1, h2, h3, h4, h5, h6⟩ := h
  have hdm := Dt.dim_bd y m
  have hd31 : d ≤ 31 := by omega
  clear h6 hdm
  go_enter Tryz.func34, Tryz.ntmps34
  go_wp2_with fail
  go_loop [3, 4] (fun n i => ∃ k : Int, 1 ≤ k ∧ k ≤ m ∧ i = .int .i64 k ∧ n = .int .i64 (d + Dt.before y k)) (fun _ i => (m - RowKit.intOf i).toNat)
  case atStart => exact ⟨1, by omega, by omega, rfl, by rw [Dt.before_one]; simp⟩
  case round =>
    obtain ⟨k, hk1, hk2, rfl, rfl⟩ := hrel
    have hb := Dt.before_bd y k hk1 (by omega)
    have hbl := hb.1
    have hbu := hb.2.1
    clear hb
    by_cases hlt : k < m
    · have hs := Dt.before_succ y k hk1 (by omega)
      have hdk := Dt.dim_bd y k
      have HS := Lib.hid hs; clear hs
      obtain ⟨hd0, hd1⟩ := hdk
      go_wp2_with fail
      refine (rmonth_any y k _ (by omega) (by omega)).mono ?_
      rintro e w1 ⟨rfl, rfl⟩
      go_wp2_with fail
      go_round
      case rel => exact ⟨k + 1, by omega, by omega, rfl, by rw [HS.out, Int.add_assoc]⟩
      case measure => simp [RowKit.intOf]; omega
    · have hkm : k = m := by omega
      subst hkm
      go_wp2_with fail
      go_ret
      exact ⟨rfl, (Below.refl _ _).alloc (Nat.le_refl _) _⟩

/-- how many leap years up to one -/
def lps (x : Int) : Int := x / 4 - x / 100 + x / 400
theorem lps_step (k : Int) (h4 : k % 4 = 0) : lps (k + 4 - 1) = lps (k - 1) + (if Dt.leap k = true then 1 else 0) := by
  have h1 := Dt.lp_iff k
  unfold Dt.lp at h1
  unfold lps
  split <;> rename_i hl
  · rw [if_pos hl] at h1; omega
  · rw [if_neg hl] at h1; omega
theorem lps_end (y k : Int) (h4 : k % 4 = 0) (h1 : y ≤ k) (h2 : k < y + 4) : lps (k - 1) = lps (y - 1) := by
  unfold lps; omega

set_option maxHeartbeats 1000000 in
theorem ryears_any (y : Int) (w : World) (h0 : 1 ≤ y) (h1 : y ≤ 20000) :
    Calls Tryz.prog 79 #[.int .i64 y] w fun e w' => e = .returned (.int .i64 (Dt.year y)) ∧ w' = w := by
  go_enter Tryz.func79, Tryz.ntmps79
  go_wp2_with fail
  go_loop [3, 4] (fun n i => ∃ k z : Int, 4 ≤ k ∧ Hid (k % 4 = 0) ∧ k < y + 4 ∧ i = .int .i64 k ∧ n = .int .i64 z ∧ 0 ≤ z ∧ z ≤ 366 * 30000 ∧ Hid (z = 365 * (y - 1) + lps (k - 1))) (fun _ i => (y - RowKit.intOf i).toNat)
  case atStart => exact ⟨4, 365 * (y - 1), by omega, (by decide : (4 : Int) % 4 = 0), by omega, rfl, rfl, by omega, by omega, by show _ = 365 * (y - 1) + lps 3; rw [show lps 3 = 0 by decide]; omega⟩
  case round =>
    obtain ⟨k, z, hk1, Hk, hk2, rfl, rfl, hz0, hz1, HZ⟩ := hrel
    by_cases hlt : k < y
    · have hst := lps_step k Hk.out
      have hzb : z ≤ 365 * 20000 + 6000 := by have := HZ.out; unfold lps at this; omega
      cases hl : Dt.leap k with
      | true =>
        rw [hl, if_pos rfl] at hst
        have hL := rleap_any k
        rw [hl] at hL
        have HL := Lib.hid hL; have HS := Lib.hid hst; clear hL hst hl
        go_wp2_with fail
        refine (HL.out _ (by omega) (by omega)).mono ?_
        rintro e w1 ⟨rfl, rfl⟩
        go_wp2_with fail
        go_round
        case rel => exact ⟨k + 4, z + 1, by omega, by have := Hk.out; show (k + 4) % 4 = 0; omega, by omega, rfl, rfl, by omega, by omega, by have := HZ.out; have := HS.out; show z + 1 = _; omega⟩
        case measure => simp [RowKit.intOf]; omega
      | false =>
        rw [hl, if_neg (by simp)] at hst
        have hL := rleap_any k
        rw [hl] at hL
        have HL := Lib.hid hL; have HS := Lib.hid hst; clear hL hst hl
        go_wp2_with fail
        refine (HL.out _ (by omega) (by omega)).mono ?_
        rintro e w1 ⟨rfl, rfl⟩
        go_wp2_with fail
        go_round
        case rel => exact ⟨k + 4, z, by omega, by have := Hk.out; show (k + 4) % 4 = 0; omega, by omega, rfl, rfl, by omega, by omega, by have := HZ.out; have := HS.out; show z = _; omega⟩
        case measure => simp [RowKit.intOf]; omega
    · have he := lps_end y k Hk.out (by omega) (by omega)
      have hzy : z = Dt.year y := by have := HZ.out; rw [he] at this; rw [this]; unfold Dt.year lps; omega
      have HZY := Lib.hid hzy; clear hzy he
      go_wp2_with fail
      go_ret
      exact ⟨by rw [← HZY.out]; rfl, rfl⟩
end Go.Proofs.YtmaccmhpcagcnaaGreatDoor
