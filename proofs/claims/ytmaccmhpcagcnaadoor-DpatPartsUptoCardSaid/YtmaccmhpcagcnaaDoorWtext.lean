/-
  week.Date and week.Text at the week of a day.
-/
import Derived.Test.YtmaccmhpcagcnaaDoorDof
import Derived.Deep.RegionHeld3
namespace Go.Proofs.YtmaccmhpcagcnaaDoor
open Go.RowKit Go.Lib Go.Sort

theorem after_of {w wb w2 : World} {k v t : Int} (h : wb = (w.alloc (.cells #[.int .i64 k, .int .i64 v, .int .i64 t] 32)).alloc (.cells #[.int .i64 0, .int .i64 0, .int .i64 0] 23)) (hz : wb.heap.size = w.heap.size + 1 + 1) (hb : Below wb.drew.heap.size wb.drew w2) :
    w2.cell? ⟨w.heap.size, 0, none⟩ = some (.int .i64 k) ∧ w2.cell? ⟨w.heap.size, 1, none⟩ = some (.int .i64 v) ∧ w2.cell? ⟨w.heap.size, 2, none⟩ = some (.int .i64 t) ∧
    w2.cell? ⟨w.heap.size + 1, 0, none⟩ = some (.int .i64 0) ∧ w2.cell? ⟨w.heap.size + 1, 1, none⟩ = some (.int .i64 0) ∧ w2.cell? ⟨w.heap.size + 1, 2, none⟩ = some (.int .i64 0) ∧
    w2.frozen? ⟨w.heap.size + 1, 0, none⟩ = false ∧ w2.frozen? ⟨w.heap.size + 1, 1, none⟩ = false ∧ w2.frozen? ⟨w.heap.size + 1, 2, none⟩ = false ∧ Hid (Below w.heap.size w w2) := by
  have hs : wb.drew.heap.size = w.heap.size + 1 + 1 := hz
  have hB : Below w.heap.size w wb := by rw [h]; exact ((Below.refl _ _).alloc (Nat.le_refl _) _).alloc (by simp) _
  have hc : ∀ b o, b < w.heap.size + 1 + 1 → w2.cell? ⟨b, o, none⟩ = wb.cell? ⟨b, o, none⟩ := fun b o hlt => by
    rw [hb.cell (p := ⟨_, _, none⟩) (by rw [hs]; exact hlt)]; rfl
  have hf : ∀ b o, b < w.heap.size + 1 + 1 → w2.frozen? ⟨b, o, none⟩ = wb.frozen? ⟨b, o, none⟩ := fun b o hlt => by
    rw [hb.frozen (p := ⟨_, _, none⟩) (by rw [hs]; exact hlt)]; rfl
  have hl : w.heap.size < (w.alloc (.cells #[.int .i64 k, .int .i64 v, .int .i64 t] 32)).heap.size := by simp
  refine ⟨?_, ?_, ?_, ?_, ?_, ?_, ?_, ?_, ?_, hB.trans (((Below.refl _ wb).drew).trans (hb.mono (Nat.le_refl _)) |>.mono hB.size)⟩
  · rw [hc _ _ (by omega), h, World.cell?_alloc_lt _ _ _ hl]; simp
  · rw [hc _ _ (by omega), h, World.cell?_alloc_lt _ _ _ hl]; simp
  · rw [hc _ _ (by omega), h, World.cell?_alloc_lt _ _ _ hl]; simp
  · rw [hc _ _ (by omega), h]; simp
  · rw [hc _ _ (by omega), h]; simp
  · rw [hc _ _ (by omega), h]; simp
  · rw [hf _ _ (by omega), h]; simp
  · rw [hf _ _ (by omega), h]; simp
  · rw [hf _ _ (by omega), h]; simp

theorem week_cells {w w1 : World} {y m d : Int} (hb : Below (w.heap.size + 1) (w.alloc (.cells #[.int .i64 y, .int .i64 m, .int .i64 d] 32)) w1) :
    w1.cell? ⟨w.heap.size, 0, none⟩ = some (.int .i64 y) ∧ w1.cell? ⟨w.heap.size, 1, none⟩ = some (.int .i64 m) ∧ w1.cell? ⟨w.heap.size, 2, none⟩ = some (.int .i64 d) := by
  refine ⟨?_, ?_, ?_⟩
  all_goals
    rw [hb.cell (p := ⟨_, _, none⟩) (by simp)]
    simp

set_option maxHeartbeats 2000000 in
set_option maxRecDepth 100000 in
theorem wdate_ok (k n : Int) (w : World) (hk0 : 1 ≤ k) (hk1 : k ≤ 9999) (hn0 : 0 ≤ n) (hn1 : n < 3652059) (hk : Dt.IsWeekYear n k) (hA : AheadAt w) :
    Calls Tryd.prog 25 #[weekV k n] w fun e w' => (∃ y m d, e = .returned (.tuple #[.agg #[.int .i64 y, .int .i64 m, .int .i64 d], .nilIface])) ∧ Below w.heap.size w w' := by
  have hb1 := Dt.first_bd k (by omega) (by omega)
  have hb2 := Dt.first_bd (k + 1) (by omega) (by omega)
  have hm1 := Dt.first_mod k
  have hm2 := Dt.first_mod (k + 1)
  obtain ⟨hf1, hf2⟩ := hk
  unfold weekV
  obtain ⟨v, hv⟩ : ∃ v, (n - Dt.first k) / 7 + 1 = v := ⟨_, rfl⟩
  obtain ⟨t, ht⟩ : ∃ t, n % 7 + 1 = t := ⟨_, rfl⟩
  obtain ⟨u, hu⟩ : ∃ u, (Dt.first (k + 1) - Dt.first k) / 7 = u := ⟨_, rfl⟩
  obtain ⟨a, ha⟩ : ∃ a, Dt.first k = a := ⟨_, rfl⟩
  have hWk := weeks_ok k
  rw [hu] at hWk
  rw [hv, ht]
  have hFk := fun W => first_any k W (by omega) (by omega)
  rw [ha] at hFk hb1 hm1 hf1 hv hu
  have hv1 : 1 ≤ v := by omega
  have hv2 : v ≤ u := by omega
  have ht1 : 1 ≤ t := by omega
  have ht2 : t ≤ 7 := by omega
  have hvb : v ≤ 600000 := by omega
  have hsum : a + 7 * (v - 1) + t - 1 = n := by omega
  have Hsum := Lib.hid hsum
  have d1 : decide (v < 1) = false := decide_eq_false (by omega)
  have d2 : decide (u < v) = false := decide_eq_false (by omega)
  have d3 : decide (t < 1) = false := decide_eq_false (by omega)
  have d4 : decide (7 < t) = false := decide_eq_false (by omega)
  have HA := Lib.hid hA
  have HW := Lib.hid hWk; have HF := Lib.hid hFk
  clear hWk hFk hA hv ht hu ha hm1 hm2 hf1 hf2 hb2 hsum
  obtain ⟨wb, hwb⟩ : ∃ wb, wb = (w.alloc (.cells #[.int .i64 k, .int .i64 v, .int .i64 t] 32)).alloc (.cells #[.int .i64 0, .int .i64 0, .int .i64 0] 23) := ⟨_, rfl⟩
  have hbb : Below w.heap.size w wb := by rw [hwb]; exact ((Below.refl _ _).alloc (Nat.le_refl _) _).alloc (by simp) _
  have HO := Lib.hid (fun W (hB : Below wb.heap.size wb W) => of_ok n W hn0 hn1 (HA.out.below (hbb.trans (hB.mono hbb.size))))
  have Hwb := Lib.hid hwb; have Hbb := Lib.hid hbb
  clear hwb hbb
  go_enter Tryd.func25, Tryd.ntmps25
  go_wp2_with fail
  refine (HW.out _ hk0 hk1).mono ?_
  rintro e w1 ⟨rfl, rfl⟩
  go_wp2_with fail
  rw [← Hwb.out]
  have m0 : wb.cell? ⟨w.heap.size, 0, none⟩ = some (.int .i64 k) := by rw [Hwb.out, World.cell?_alloc_lt _ _ _ (by simp)]; simp
  have m1 : wb.cell? ⟨w.heap.size, 1, none⟩ = some (.int .i64 v) := by rw [Hwb.out, World.cell?_alloc_lt _ _ _ (by simp)]; simp
  have m2 : wb.cell? ⟨w.heap.size, 2, none⟩ = some (.int .i64 t) := by rw [Hwb.out, World.cell?_alloc_lt _ _ _ (by simp)]; simp
  have hsw : IntKind.i64.wrap (IntKind.i64.wrap (IntKind.i64.wrap (a + IntKind.i64.wrap (7 * IntKind.i64.wrap (v - 1))) + t) - 1) = n := by
    rw [IntWalk.i64_in (v - 1) (by omega), IntWalk.i64_in (7 * (v - 1)) (by omega), IntWalk.i64_in (a + 7 * (v - 1)) (by omega), IntWalk.i64_in (a + 7 * (v - 1) + t) (by omega), IntWalk.i64_in (a + 7 * (v - 1) + t - 1) (by omega)]; exact Hsum.out
  have Hsw := Lib.hid hsw; clear hsw
  have hzb : wb.heap.size = w.heap.size + 1 + 1 := by rw [Hwb.out]; simp
  have Hzb := Lib.hid hzb; clear hzb
  go_region_held3 (fun w' => w'.cell? ⟨w.heap.size, 0, none⟩ = some (.int .i64 k) ∧ w'.cell? ⟨w.heap.size, 1, none⟩ = some (.int .i64 v) ∧ w'.cell? ⟨w.heap.size, 2, none⟩ = some (.int .i64 t)) (go_keep) (first | (go_at_call 16; refine (HF.out _).mono ?_; rintro e w2 ⟨rfl, rfl⟩) | (go_at_call 40; rw [Hsw.out]; refine (HO.out _ (Below.refl _ _).drew).mono ?_; rintro e w2 ⟨⟨y', m', d', _, _, rfl⟩, hb2⟩; obtain ⟨n0, n1, n2, n3, n4, n5, n6, n7, n8, hb9⟩ := after_of Hwb.out Hzb.out hb2; clear hb2))
  all_goals
    go_wp2_with fail
    refine bodyPost_ret (v := .tuple #[.agg #[.int .i64 y', .int .i64 m', .int .i64 d'], .nilIface]) (by simp [results, Tryd.results25, go_sem, n3, n4, n5]) rfl ⟨⟨y', m', d', rfl⟩, ?_⟩
    exact ((hb9.out.setCell (p := ⟨w.heap.size + 1, 0, none⟩) (by simp) _).setCell (p := ⟨w.heap.size + 1, 1, none⟩) (by simp) _).setCell (p := ⟨w.heap.size + 1, 2, none⟩) (by simp) _

/-- the text of a week -/
def wText (k n : Int) : List UInt8 := padTo 4 k ++ [45, 87] ++ padTo 2 ((n - Dt.first k) / 7 + 1) ++ [45] ++ padTo 1 (n % 7 + 1)

set_option maxHeartbeats 1000000 in
set_option maxRecDepth 100000 in
theorem wtext_ok (k n : Int) (w : World) (hk0 : 1 ≤ k) (hk1 : k ≤ 9999) (hn0 : 0 ≤ n) (hn1 : n < 3652059) (hk : Dt.IsWeekYear n k) (hA : AheadAt w) (hP : Pow10At w) :
    Calls Tryd.prog 12 #[weekV k n] w fun e w' => e = .returned (.tuple #[.string ⟨(wText k n).toArray⟩, .nilIface]) ∧ Below w.heap.size w w' := by
  have hfn1 := Dt.first_near k
  have hfn2 := Dt.first_near (k + 1)
  have hys := Dt.year_succ k
  have hlp := Dt.lp_01 k
  have hv0 : 0 ≤ (n - Dt.first k) / 7 + 1 ∧ (n - Dt.first k) / 7 + 1 ≤ 60 := by
    obtain ⟨f1, f2⟩ := hk; omega
  have hD0 := fun W (hB : Below w.heap.size w W) => wdate_ok k n W hk0 hk1 hn0 hn1 hk (hA.below hB)
  unfold wText
  unfold weekV at hD0 ⊢
  generalize (n - Dt.first k) / 7 + 1 = v at hv0 hD0 ⊢
  have ht0 : 0 ≤ n % 7 + 1 ∧ n % 7 + 1 ≤ 7 := by omega
  generalize n % 7 + 1 = t at ht0 hD0 ⊢
  obtain ⟨hv0, hv1⟩ := hv0
  obtain ⟨ht0, ht1⟩ := ht0
  have hb0 : Below w.heap.size w (w.alloc (.cells #[.int .i64 k, .int .i64 v, .int .i64 t] 32)) := (Below.refl _ _).alloc (Nat.le_refl _) _
  have Hb0 := Lib.hid hb0; have HP := Lib.hid hP; have HD0 := Lib.hid hD0
  have hl1 := padTo_len 4 k (by omega) (by omega) (by omega)
  have hl2 := padTo_len 2 v (by omega) (by omega) (by omega)
  have hl3 := padTo_len 1 t (by omega) (by omega) (by omega)
  have hD : ∀ (W : World), Pow10At W →
      (∀ dr os, Calls Tryd.prog 26 #[.int .i64 k, .int .i64 4] (grow (redrawn W dr) os) (fun e w' => e = .returned (.string ⟨(padTo 4 k).toArray⟩) ∧ ∃ p : Regrown, w' = grow (redrawn W p.d) p.os)) ∧
      (∀ dr os, Calls Tryd.prog 26 #[.int .i64 v, .int .i64 2] (grow (redrawn W dr) os) (fun e w' => e = .returned (.string ⟨(padTo 2 v).toArray⟩) ∧ ∃ p : Regrown, w' = grow (redrawn W p.d) p.os)) ∧
      (∀ dr os, Calls Tryd.prog 26 #[.int .i64 t, .int .i64 1] (grow (redrawn W dr) os) (fun e w' => e = .returned (.string ⟨(padTo 1 t).toArray⟩) ∧ ∃ p : Regrown, w' = grow (redrawn W p.d) p.os)) :=
    fun W hT => ⟨fun dr os => Calls.regrown_of (wdigits_any k 4 _ (by omega) (by omega) (by omega) (hT.below (below_regrown W dr os))),
      fun dr os => Calls.regrown_of (wdigits_any v 2 _ (by omega) (by omega) (by omega) (hT.below (below_regrown W dr os))),
      fun dr os => Calls.regrown_of (wdigits_any t 1 _ (by omega) (by omega) (by omega) (hT.below (below_regrown W dr os)))⟩
  generalize padTo 4 k = ly at hD hl1 ⊢
  generalize padTo 2 v = lm at hD hl2 ⊢
  generalize padTo 1 t = ld at hD hl3 ⊢
  have HD := Lib.hid hD
  clear hA hk hP hb0 hD hD0 hfn1 hfn2 hys hlp
  go_enter Tryd.func12, Tryd.ntmps12
  go_wp2_with fail
  refine (HD0.out _ Hb0.out).mono ?_
  rintro e w1 ⟨⟨y', m', d', rfl⟩, hb⟩
  have hb' : Below (w.heap.size + 1) (w.alloc (.cells #[.int .i64 k, .int .i64 v, .int .i64 t] 32)) w1 := by simpa using hb
  have hbx : Below (w.heap.size + 1) (w.alloc (.cells #[.int .i64 k, .int .i64 v, .int .i64 t] 32)) (w1.alloc (.cells #[.int .i64 y', .int .i64 m', .int .i64 d'] 23)) := hb'.alloc (by have := hb'.size; simpa using this) _
  obtain ⟨c0, c1, c2⟩ := week_cells hbx
  have Hb := Lib.hid (Hb0.out.trans (hbx.mono (by omega)))
  have hP1 := HP.out.below Hb.out
  obtain ⟨d1, d2, d3⟩ := HD.out _ hP1
  have D1 := Lib.hid d1; have D2 := Lib.hid d2; have D3 := Lib.hid d3
  clear hb hb' hbx hP1 d1 d2 d3
  have n1 : ¬ 9223372036854775807 < ly.length + 2 := by omega
  have n2 : ¬ 9223372036854775807 < ly.length + 2 + lm.length := by omega
  have n3 : ¬ 9223372036854775807 < ly.length + 2 + lm.length + 1 := by omega
  have n4 : ¬ 9223372036854775807 < ly.length + 2 + lm.length + 1 + ld.length := by omega
  have k0 := cell_regrown c0
  have k1 := cell_regrown c1
  have k2 := cell_regrown c2
  go_wp2_with fail
  refine wp_region_quiet_below (by kernel_rfl) (by kernel_rfl) ?_
  repeat (quiet_step (first | with_reducible exact D1.out _ _ | with_reducible exact D2.out _ _ | with_reducible exact D3.out _ _))
  refine wpQuiet_nil ?_
  intro _ hw'
  obtain ⟨⟨dq, osq⟩, hw''⟩ := hw'
  subst hw''
  go_wp2_with fail
  go_ret2
  exact ⟨by simp [cat_list], Hb.out.trans ((below_regrown _ dq osq).mono Hb.out.size)⟩
end Go.Proofs.YtmaccmhpcagcnaaDoor
