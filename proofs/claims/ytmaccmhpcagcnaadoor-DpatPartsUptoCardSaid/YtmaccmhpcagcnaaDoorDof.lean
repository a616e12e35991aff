/-
  week.Weeks at a year.
-/
import Derived.Test.YtmaccmhpcagcnaaDoorDtext
namespace Go.Proofs.YtmaccmhpcagcnaaDoor
open Go.RowKit Go.Lib Go.Sort

set_option maxHeartbeats 1000000 in
set_option maxRecDepth 100000 in
theorem weeks_ok (y : Int) (w : World) (h0 : 1 ≤ y) (h1 : y ≤ 9999) :
    Calls Tryd.prog 39 #[.int .i64 y] w fun e w' => e = .returned (.tuple #[.int .i64 ((Dt.first (y + 1) - Dt.first y) / 7), .nilIface]) ∧ w' = w := by
  have b1 := Dt.first_bd y (by omega) (by omega)
  have b2 := Dt.first_bd (y + 1) (by omega) (by omega)
  have t1 : decide (y < 1) = false := decide_eq_false (by omega)
  have t2 : decide (9999 < y) = false := decide_eq_false (by omega)
  have hmono := Dt.first_mono (a := y) (b := y + 1) (by omega)
  have hd0 : 0 ≤ Dt.first (y + 1) - Dt.first y := by omega
  go_enter Tryd.func39, Tryd.ntmps39
  go_wp2_with fail
  refine (first_any (y + 1) _ (by omega) (by omega)).mono ?_
  rintro e w2 ⟨rfl, rfl⟩
  go_wp2_with fail
  refine (first_any y _ (by omega) (by omega)).mono ?_
  rintro e w2 ⟨rfl, rfl⟩
  go_wp2_with fail
  go_ret2
  exact ⟨rfl, rfl⟩

set_option maxHeartbeats 2000000 in
set_option maxRecDepth 100000 in
theorem of_ok (n : Int) (w : World) (h0 : 0 ≤ n) (h1 : n < 3652059) (hA : AheadAt w) :
    Calls Tryd.prog 40 #[.int .i64 n] w fun e w' => (∃ y m d, Dt.ok y m d ∧ Dt.num y m d = n ∧ e = .returned (.tuple #[.agg #[.int .i64 y, .int .i64 m, .int .i64 d], .nilIface])) ∧ Below w.heap.size w w' := by
  have t1 : decide (n < 0) = false := decide_eq_false (by omega)
  have hy0 : Dt.year 10000 = 3652059 := by decide
  have t2 : decide (Dt.year 10000 ≤ n) = false := decide_eq_false (by omega)
  have HA := Lib.hid (hA.alloc (.cells #[.int .i64 0, .int .i64 0, .int .i64 0] 23))
  have hs0 : Dt.year (n / 366 + 1) ≤ n := by unfold Dt.year; omega
  have Hs := Lib.hid hs0
  clear hA hs0
  go_enter Tryd.func40, Tryd.ntmps40
  go_wp2_with fail
  refine (year_any 10000 _ (by omega) (by omega)).mono ?_
  rintro e w2 ⟨rfl, rfl⟩
  go_wp2_with fail
  go_loop [4] (fun v => ∃ z : Int, v = .int .i64 z ∧ 1 ≤ z ∧ z ≤ 9999 ∧ Dt.year z ≤ n) (fun v => (10000 - RowKit.intOf v).toNat)
  case atStart => exact ⟨n / 366 + 1, by simp, by omega, by omega, Hs.out⟩
  case round =>
    obtain ⟨z, rfl, hz1, hz2, hz3⟩ := hrel
    have hyb := Dt.year_bd (z + 1) (by omega) (by omega)
    by_cases hle : Dt.year (z + 1) ≤ n
    · have hz4 : z + 1 ≤ 9999 := by
        by_cases e : z = 9999
        · subst e; rw [show (9999 : Int) + 1 = 10000 from rfl, hy0] at hle; omega
        · omega
      go_wp2_with fail
      refine (year_any (z + 1) _ (by omega) (by omega)).mono ?_
      rintro e w2 ⟨rfl, rfl⟩
      go_wp2_with fail
      go_round
      case rel => exact ⟨z + 1, rfl, by omega, by omega, hle⟩
      case measure => simp [RowKit.intOf]; omega
    · go_wp2_with fail
      refine (year_any (z + 1) _ (by omega) (by omega)).mono ?_
      rintro e w2 ⟨rfl, rfl⟩
      go_wp2_with fail
      have hF : ∀ m, 1 ≤ m → m ≤ 12 → Dt.year z + Dt.before z m ≤ n → n < Dt.year z + Dt.before z (m + 1) → Dt.ok z m (n - Dt.year z - Dt.before z m + 1) ∧ Dt.num z m (n - Dt.year z - Dt.before z m + 1) = n := by
        intro m hm1 hm2 hm3 hm4
        have := Dt.before_succ z m hm1 hm2
        exact ⟨⟨hz1, hz2, hm1, hm2, by omega, by omega⟩, by unfold Dt.num; omega⟩
      have hL : n < Dt.year z + Dt.before z (12 + 1) := by
        have := Dt.year_succ z; have := Dt.before_13 z
        rw [show (12 : Int) + 1 = 13 from rfl]; omega
      have HF := Lib.hid hF
      clear hF
      have hyz := Dt.year_bd z hz1 (by omega)
      go_loop [5] (fun v => ∃ m : Int, v = .int .i64 m ∧ 1 ≤ m ∧ m ≤ 12 ∧ Dt.year z + Dt.before z m ≤ n) (fun v => (12 - RowKit.intOf v).toNat)
      case atStart => exact ⟨1, rfl, by omega, by omega, by rw [Dt.before_one]; omega⟩
      case round =>
        obtain ⟨m, rfl, hm1, hm2, hm3⟩ := hrel
        by_cases hm : m < 12
        · have hbd := before_b z (m + 1) (by omega) (by omega)
          by_cases ht : Dt.year z + Dt.before z (m + 1) ≤ n
          · go_wp2_with fail
            refine (year_any z _ (by omega) (by omega)).mono ?_
            rintro e w2 ⟨rfl, rfl⟩
            go_wp2_with fail
            refine (before_any z (m + 1) _ (by omega) (by omega) (by omega) (by omega) HA.out).mono ?_
            rintro e w2 ⟨rfl, rfl⟩
            go_wp2_with fail
            go_round
            case rel => exact ⟨m + 1, rfl, by omega, by omega, ht⟩
            case measure => simp [RowKit.intOf]; omega
          · go_wp2_with fail
            have hbe := before_b z m (by omega) (by omega)
            refine (year_any z _ (by omega) (by omega)).mono ?_
            rintro e w2 ⟨rfl, rfl⟩
            go_wp2_with fail
            refine (before_any z (m + 1) _ (by omega) (by omega) (by omega) (by omega) HA.out).mono ?_
            rintro e w2 ⟨rfl, rfl⟩
            go_wp2_with fail
            refine (year_any z _ (by omega) (by omega)).mono ?_
            rintro e w2 ⟨rfl, rfl⟩
            go_wp2_with fail
            refine (before_any z m _ (by omega) (by omega) (by omega) (by omega) HA.out).mono ?_
            rintro e w2 ⟨rfl, rfl⟩
            go_wp2_with fail
            refine bodyPost_ret (v := .tuple #[.agg #[.int .i64 z, .int .i64 m, .int .i64 (n - Dt.year z - Dt.before z m + 1)], .nilIface]) (by simp [results, Tryd.results40, go_sem]) rfl ⟨⟨z, m, _, (HF.out m (by omega) (by omega) hm3 (by omega)).1, (HF.out m (by omega) (by omega) hm3 (by omega)).2, rfl⟩, ?_⟩
            exact (Below.refl w.heap.size w).alloc (Nat.le_refl _) _
        · have hm12 : m = 12 := by omega
          subst hm12
          go_wp2_with fail
          have hbe := before_b z 12 (by omega) (by omega)
          refine (year_any z _ (by omega) (by omega)).mono ?_
          rintro e w2 ⟨rfl, rfl⟩
          go_wp2_with fail
          refine (before_any z 12 _ (by omega) (by omega) (by omega) (by omega) HA.out).mono ?_
          rintro e w2 ⟨rfl, rfl⟩
          go_wp2_with fail
          refine bodyPost_ret (v := .tuple #[.agg #[.int .i64 z, .int .i64 12, .int .i64 (n - Dt.year z - Dt.before z 12 + 1)], .nilIface]) (by simp [results, Tryd.results40, go_sem]) rfl ⟨⟨z, 12, _, (HF.out 12 (by omega) (by omega) hm3 hL).1, (HF.out 12 (by omega) (by omega) hm3 hL).2, rfl⟩, ?_⟩
          exact (Below.refl w.heap.size w).alloc (Nat.le_refl _) _

end Go.Proofs.YtmaccmhpcagcnaaDoor
