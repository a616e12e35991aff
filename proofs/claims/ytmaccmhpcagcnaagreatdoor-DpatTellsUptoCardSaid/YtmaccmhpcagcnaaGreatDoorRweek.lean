/-
  The references on weeks: DayNumber, ThursdayYear, WeekOf.
-/
import Derived.Test.YtmaccmhpcagcnaaGreatDoorRdate
import Derived.Lib.QuietBelow
namespace Go.Proofs.YtmaccmhpcagcnaaGreatDoor
open Go.RowKit Go.Sort

set_option maxHeartbeats 1000000 in
set_option maxRecDepth 100000 in
theorem rnum_ok (y m d : Int) (w : World) (h : Dt.ok y m d) :
    Calls Tryz.prog 60 #[.agg #[.int .i64 y, .int .i64 m, .int .i64 d]] w fun e w' => e = .returned (.int .i64 (Dt.num y m d)) ∧ Below w.heap.size w w' := by
  have hy := Dt.year_bd y h.1 (by have := h.2.1; omega)
  have hb := Dt.before_bd y m h.2.2.1 (by have := h.2.2.2.1; omega)
  have hdm := Dt.dim_bd y m
  have h5 := h.2.2.2.2.1
  have h6 : d ≤ 31 := by have := h.2.2.2.2.2; omega
  have h1 := h.1; have h2 := h.2.1
  obtain ⟨w0, hw0⟩ : ∃ w0, w0 = w.alloc (.cells #[.int .i64 y, .int .i64 m, .int .i64 d] 23) := ⟨_, rfl⟩
  have hb0 : Below w.heap.size w w0 := by rw [hw0]; exact (Below.refl _ _).alloc (Nat.le_refl _) _
  have c0 : w0.cell? ⟨w.heap.size, 0, none⟩ = some (.int .i64 y) := by rw [hw0]; simp
  have c1 : w0.cell? ⟨w.heap.size, 1, none⟩ = some (.int .i64 m) := by rw [hw0]; simp
  have c2 : w0.cell? ⟨w.heap.size, 2, none⟩ = some (.int .i64 d) := by rw [hw0]; simp
  have d1 : ∀ dr os, Calls Tryz.prog 79 #[.int .i64 y] (grow (redrawn w0 dr) os) (fun e w' => e = .returned (.int .i64 (Dt.year y)) ∧ ∃ p : Regrown, w' = grow (redrawn w0 p.d) p.os) :=
    fun dr os => Calls.regrown_of ((ryears_any y _ h1 (by omega)).mono fun _ _ hh => ⟨hh.1, below_of_eq hh.2⟩)
  have d2 : ∀ dr os, Calls Tryz.prog 34 #[.agg #[.int .i64 y, .int .i64 m, .int .i64 d]] (grow (redrawn w0 dr) os) (fun e w' => e = .returned (.int .i64 (d + Dt.before y m)) ∧ ∃ p : Regrown, w' = grow (redrawn w0 p.d) p.os) :=
    fun dr os => Calls.regrown_of (ryearday_ok y m d _ h)
  have hn : IntKind.i64.wrap (IntKind.i64.wrap (Dt.year y + (d + Dt.before y m)) - 1) = Dt.num y m d := by
    rw [IntWalk.i64_in (Dt.year y + (d + Dt.before y m)) (by omega), IntWalk.i64_in (Dt.year y + (d + Dt.before y m) - 1) (by omega)]
    unfold Dt.num; omega
  have D1 := Lib.hid d1; have D2 := Lib.hid d2; have HN := Lib.hid hn; have Hb0 := Lib.hid hb0; have Hw0 := Lib.hid hw0
  have k0 := cell_regrown c0
  have k1 := cell_regrown c1
  have k2 := cell_regrown c2
  clear h hy hb hdm h5 h6 h1 h2 d1 d2 hn hb0 hw0 c0 c1 c2
  go_enter Tryz.func60, Tryz.ntmps60
  go_wp2_with fail
  rw [← Hw0.out]
  refine wp_region_quiet_below (by kernel_rfl) (by kernel_rfl) ?_
  repeat (quiet_step (first | with_reducible exact D1.out _ _ | with_reducible exact D2.out _ _))
  refine wpQuiet_nil ?_
  intro _ hw'
  obtain ⟨⟨dq, osq⟩, hw''⟩ := hw'
  subst hw''
  go_wp2_with fail
  go_ret
  exact ⟨by rw [← HN.out]; rfl, Hb0.out.trans ((below_regrown w0 dq osq).mono Hb0.out.size)⟩

set_option maxHeartbeats 1000000 in
theorem rthursday_ok (n k : Int) (w : World) (h0 : 0 ≤ n) (h1 : n < 3652059) (hk0 : 1 ≤ k) (hk1 : k ≤ 9999) (hk : Dt.IsWeekYear n k) :
    Calls Tryz.prog 61 #[.int .i64 n] w fun e w' => e = .returned (.tuple #[.int .i64 k, .int .i64 (n - n % 7 + 3 - Dt.year k)]) ∧ w' = w := by
  have hk2 : Dt.year k ≤ n - n % 7 + 3 := (Dt.first_iff k n).1 hk.1
  have hk3 : n - n % 7 + 3 < Dt.year (k + 1) := by
    rcases Int.lt_or_le (n - n % 7 + 3) (Dt.year (k + 1)) with h | h
    · exact h
    · have := (Dt.first_iff (k + 1) n).2 h
      have := hk.2; omega
  have hs : Dt.year ((n - n % 7 + 3) / 366 + 1) ≤ n - n % 7 + 3 := by unfold Dt.year; omega
  have hsk : (n - n % 7 + 3) / 366 + 1 ≤ k := by
    rcases Int.lt_or_le k ((n - n % 7 + 3) / 366 + 1) with h | h
    · have := Dt.year_mono (a := k + 1) (b := (n - n % 7 + 3) / 366 + 1) (by omega); omega
    · exact h
  have hky := Dt.year_bd k hk0 (by omega)
  have H2 := Lib.hid hk2; have H3 := Lib.hid hk3; have HK := Lib.hid hsk
  clear hk hk2 hk3 hs hsk
  go_enter Tryz.func61, Tryz.ntmps61
  go_wp2_with fail
  go_loop [5] (fun v => ∃ z : Int, v = .int .i64 z ∧ 1 ≤ z ∧ z ≤ k) (fun v => (k - RowKit.intOf v).toNat)
  case atStart => exact ⟨(n - n % 7 + 3) / 366 + 1, rfl, by omega, HK.out⟩
  case round =>
    obtain ⟨z, rfl, hz1, hz2⟩ := hrel
    have hyb := Dt.year_bd (z + 1) (by omega) (by omega)
    by_cases hlt : z < k
    · have hle : Dt.year (z + 1) ≤ n - n % 7 + 3 := by
        have := Dt.year_mono (a := z + 1) (b := k) (by omega); have := H2.out; omega
      go_wp2_with fail
      refine (ryears_any (z + 1) _ (by omega) (by omega)).mono ?_
      rintro e w2 ⟨rfl, rfl⟩
      go_wp2_with fail
      go_round
      case rel => exact ⟨z + 1, rfl, by omega, by omega⟩
      case measure => simp [RowKit.intOf]; omega
    · have hzk : z = k := by omega
      subst hzk
      have hgt := H3.out
      go_wp2_with fail
      refine (ryears_any (z + 1) _ (by omega) (by omega)).mono ?_
      rintro e w2 ⟨rfl, rfl⟩
      go_wp2_with fail
      refine (ryears_any z _ (by omega) (by omega)).mono ?_
      rintro e w2 ⟨rfl, rfl⟩
      go_wp2_with fail
      go_ret2
      exact ⟨rfl, rfl⟩

theorem week_same (n k : Int) (h : Dt.IsWeekYear n k) : (n - n % 7 + 3 - Dt.year k) / 7 = (n - Dt.first k) / 7 := by
  have h1 : Dt.first k = Dt.year k + 3 - (Dt.year k + 3) % 7 := rfl
  obtain ⟨h2, h3⟩ := h
  rw [h1] at h2 ⊢
  omega

set_option maxHeartbeats 1000000 in
set_option maxRecDepth 100000 in
theorem rweek_ok (y m d : Int) (w : World) (h : Dt.ok y m d) :
    Calls Tryz.prog 33 #[.agg #[.int .i64 y, .int .i64 m, .int .i64 d]] w fun e w' => e = .returned (weekV (Dt.wy y (Dt.num y m d)) (Dt.num y m d)) ∧ Below w.heap.size w w' := by
  have hnb := Dt.num_bd y m d h
  have hkb := Dt.wy_bd y _ h.1 h.2.1 hnb.1 hnb.2.1 hnb.2.2.1 hnb.2.2.2
  have hki := Dt.wy_is y _ hnb.1 hnb.2.1
  have hN := rnum_ok y m d ((w.alloc (.cells #[.int .i64 y, .int .i64 m, .int .i64 d] 23)).alloc (.cells #[.int .i64 0, .int .i64 0, .int .i64 0] 67)) h
  generalize Dt.num y m d = n at hN hnb hkb hki ⊢
  generalize Dt.wy y n = k at hkb hki ⊢
  have hT := fun W => rthursday_ok n k W hnb.2.2.1 hnb.2.2.2 hkb.1 hkb.2.2.1 hki
  have hws := week_same n k hki
  have hn0 := hnb.2.2.1; have hn1 := hnb.2.2.2
  have hyk := Dt.year_bd k hkb.1 (by have := hkb.2.2.1; omega)
  obtain ⟨t, ht⟩ : ∃ t, n - n % 7 + 3 - Dt.year k = t := ⟨_, rfl⟩
  have ht0 : 0 ≤ t ∧ t ≤ 4000000 := by
    have := (Dt.first_iff k n).1 hki.1; omega
  rw [ht] at hT hws
  unfold weekV
  rw [← hws]
  obtain ⟨ht0, ht1⟩ := ht0
  have HN := Lib.hid hN; have HT := Lib.hid hT
  clear hN hT hnb hkb hki hws ht h hyk
  go_enter Tryz.func33, Tryz.ntmps33
  go_wp2_with fail
  refine HN.out.mono ?_
  rintro e w1 ⟨rfl, hb⟩
  have hb' : Below (w.heap.size + 1 + 1) ((w.alloc (.cells #[.int .i64 y, .int .i64 m, .int .i64 d] 23)).alloc (.cells #[.int .i64 0, .int .i64 0, .int .i64 0] 67)) w1 := by simpa using hb
  have hr : ∀ o, o < 3 → w1.cell? ⟨w.heap.size + 1, o, none⟩ = some (.int .i64 0) := by
    intro o ho
    rw [hb'.cell (p := ⟨_, _, none⟩) (by simp)]
    match o, ho with
    | 0, _ => simp
    | 1, _ => simp
    | 2, _ => simp
  have r0 := hr 0 (by omega); have r1 := hr 1 (by omega); have r2 := hr 2 (by omega)
  have hf : ∀ o, w1.frozen? ⟨w.heap.size + 1, o, none⟩ = false := by
    intro o
    rw [hb'.frozen (p := ⟨_, _, none⟩) (by simp)]; simp
  have f0 := hf 0; have f1 := hf 1; have f2 := hf 2
  have Hb := Lib.hid hb'; clear hb hb' hr hf
  go_wp2_with fail
  refine (HT.out _).mono ?_
  rintro e w2 ⟨rfl, rfl⟩
  go_wp2_with fail
  refine bodyPost_ret (v := .agg #[.int .i64 k, .int .i64 (t / 7 + 1), .int .i64 (n % 7 + 1)]) (by simp [results, Tryz.results33, go_sem, r0, r1, r2]) rfl ⟨rfl, ?_⟩
  have hb0 : Below w.heap.size w w2 := (((Below.refl _ _).alloc (by simp) _).alloc (by simp) _).trans (Hb.out.mono (by omega))
  exact ((hb0.setCell (p := ⟨w.heap.size + 1, 0, none⟩) (by simp) _).setCell (p := ⟨w.heap.size + 1, 1, none⟩) (by simp) _).setCell (p := ⟨w.heap.size + 1, 2, none⟩) (by simp) _
end Go.Proofs.YtmaccmhpcagcnaaGreatDoor
