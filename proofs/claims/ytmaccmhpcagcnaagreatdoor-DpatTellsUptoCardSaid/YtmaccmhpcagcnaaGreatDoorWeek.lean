/-
  The walks of week.first and week.Of.
-/
import Derived.Test.YtmaccmhpcagcnaaGreatDoorDateB
namespace Go.Proofs.YtmaccmhpcagcnaaGreatDoor
open Go.RowKit

theorem first_any (y : Int) (w : World) (h0 : 1 ≤ y) (h1 : y ≤ 100000) :
    Calls Tryz.prog 87 #[.int .i64 y] w fun e w' => e = .returned (.int .i64 (Dt.first y)) ∧ w' = w := by
  go_enter Tryz.func87, Tryz.ntmps87
  go_wp2_with fail
  go_ret
  exact ⟨by unfold Dt.first Dt.year; rfl, rfl⟩

/-- the week of a day, as a value -/
def weekV (k n : Int) : Value := .agg #[.int .i64 k, .int .i64 ((n - Dt.first k) / 7 + 1), .int .i64 (n % 7 + 1)]

set_option maxHeartbeats 1000000 in
set_option maxRecDepth 100000 in
theorem week_ok (y m d : Int) (w : World) (h : Dt.ok y m d) (hA : AheadAt w) :
    Calls Tryz.prog 73 #[.agg #[.int .i64 y, .int .i64 m, .int .i64 d]] w fun e w' => e = .returned (.tuple #[weekV (Dt.wy y (Dt.num y m d)) (Dt.num y m d), .nilIface]) ∧ Below w.heap.size w w' := by
  obtain ⟨n, hn⟩ : ∃ n, Dt.num y m d = n := ⟨_, rfl⟩
  have hnb := Dt.num_bd y m d h
  rw [hn] at hnb
  have hkb := Dt.wy_bd y n h.1 h.2.1 hnb.1 hnb.2.1 hnb.2.2.1 hnb.2.2.2
  have hki := Dt.wy_is y n hnb.1 hnb.2.1
  obtain ⟨k, hk⟩ : ∃ k, Dt.wy y n = k := ⟨_, rfl⟩
  rw [hk] at hkb hki
  rw [hn, hk]
  have HK := Lib.hid hki
  have hN := number_ok y m d ((w.alloc (.cells #[.int .i64 y, .int .i64 m, .int .i64 d] 23)).alloc (.cells #[.int .i64 0, .int .i64 0, .int .i64 0] 67)) h ((hA.alloc _).alloc _)
  rw [hn] at hN
  have HN := Lib.hid hN
  have hy1 := h.1; have hy2 := h.2.1
  have hn0 := hnb.2.2.1; have hn1 := hnb.2.2.2
  obtain ⟨hk1, hk2, hk3, hk4⟩ := hkb
  clear hk4
  clear hN hki hk hn hnb hA h
  go_enter Tryz.func73, Tryz.ntmps73
  go_wp2_with fail
  refine HN.out.mono ?_
  rintro e w1 ⟨rfl, hb⟩
  have hb' : Below (w.heap.size + 1 + 1) ((w.alloc (.cells #[.int .i64 y, .int .i64 m, .int .i64 d] 23)).alloc (.cells #[.int .i64 0, .int .i64 0, .int .i64 0] 67)) w1 := by simpa using hb
  have hc0 : w1.cell? ⟨w.heap.size, 0, none⟩ = some (.int .i64 y) := by
    rw [hb'.cell (p := ⟨_, _, none⟩) (by simp; omega)]
    rw [World.cell?_alloc_lt _ _ _ (by simp)]; simp
  have hr : ∀ o, o < 3 → w1.cell? ⟨w.heap.size + 1, o, none⟩ = some (.int .i64 0) := by
    intro o ho
    rw [hb'.cell (p := ⟨_, _, none⟩) (by simp)]
    match o, ho with
    | 0, _ => simp
    | 1, _ => simp
    | 2, _ => simp
  have r0 := hr 0 (by omega); have r1 := hr 1 (by omega); have r2 := hr 2 (by omega)
  have hf : ∀ o, w1.frozen? ⟨w.heap.size + 1, o, none⟩ = false := by
    intro o
    rw [hb'.frozen (p := ⟨_, _, none⟩) (by simp)]; simp
  have f0 := hf 0; have f1 := hf 1; have f2 := hf 2
  have hz : w.heap.size + 1 + 1 ≤ w1.heap.size := by have := hb'.size; simpa using this
  have Hb := Lib.hid hb'; clear hb hb' hr hf
  go_wp2_with fail
  go_loop [6] (fun v => ∃ z : Int, v = .int .i64 z ∧ k ≤ z ∧ z ≤ y + 1) (fun v => (intOf v - k).toNat)
  case atStart => exact ⟨y + 1, rfl, hk2, by omega⟩
  case round =>
    obtain ⟨z, rfl, hz1, hz2⟩ := hrel
    have hfb := Dt.first_bd z (by omega) (by omega)
    by_cases hlt : n < Dt.first z
    · have hne : z ≠ k := by
        rintro rfl; have := HK.out.1; omega
      go_wp2_with fail
      refine (first_any z _ (by omega) (by omega)).mono ?_
      rintro e w2 ⟨rfl, rfl⟩
      go_wp2_with fail
      go_round
      case rel => exact ⟨z - 1, rfl, by omega, by omega⟩
      case measure => simp [intOf]; omega
    · have hzk : z = k := by
        by_cases e : z = k
        · exact e
        · have := Dt.first_mono (a := k + 1) (b := z) (by omega)
          have := HK.out.2
          omega
      subst hzk
      go_wp2_with fail
      refine (first_any z _ (by omega) (by omega)).mono ?_
      rintro e w2 ⟨rfl, rfl⟩
      go_wp2_with fail
      refine (first_any z _ (by omega) (by omega)).mono ?_
      rintro e w3 ⟨rfl, rfl⟩
      go_wp2_with fail
      refine bodyPost_ret (v := .tuple #[weekV z n, .nilIface]) (by simp [results, Tryz.results73, go_sem, weekV, r0, r1, r2]) rfl ⟨rfl, ?_⟩
      have hb0 : Below w.heap.size w w3 := (((Below.refl _ _).alloc (by simp) _).alloc (by simp) _).trans (Hb.out.mono (by omega))
      exact ((hb0.setCell (p := ⟨w.heap.size + 1, 0, none⟩) (by simp) _).setCell (p := ⟨w.heap.size + 1, 1, none⟩) (by simp) _).setCell (p := ⟨w.heap.size + 1, 2, none⟩) (by simp) _
end Go.Proofs.YtmaccmhpcagcnaaGreatDoor
