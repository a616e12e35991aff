/-
  The walks of dpat's fields: years, months, days, yearly, and weekly's closure.
-/
import Derived.Test.YtmaccmhpcagcnaaGreatDoorMap
namespace Go.Proofs.YtmaccmhpcagcnaaGreatDoor
open Go.RowKit

theorem years_any (y m d : Int) (w : World) :
    Calls Tryz.prog 46 #[.agg #[.int .i64 y, .int .i64 m, .int .i64 d]] w fun e w' => e = .returned (.int .i64 y) ∧ Below w.heap.size w w' := by
  go_enter Tryz.func46, Tryz.ntmps46
  go_wp2_with fail
  go_ret
  exact ⟨rfl, (Below.refl _ _).alloc (by simp) _⟩

theorem months_any (y m d : Int) (w : World) :
    Calls Tryz.prog 47 #[.agg #[.int .i64 y, .int .i64 m, .int .i64 d]] w fun e w' => e = .returned (.int .i64 m) ∧ Below w.heap.size w w' := by
  go_enter Tryz.func47, Tryz.ntmps47
  go_wp2_with fail
  go_ret
  exact ⟨rfl, (Below.refl _ _).alloc (by simp) _⟩

theorem days_any (y m d : Int) (w : World) :
    Calls Tryz.prog 48 #[.agg #[.int .i64 y, .int .i64 m, .int .i64 d]] w fun e w' => e = .returned (.int .i64 d) ∧ Below w.heap.size w w' := by
  go_enter Tryz.func48, Tryz.ntmps48
  go_wp2_with fail
  go_ret
  exact ⟨rfl, (Below.refl _ _).alloc (by simp) _⟩

theorem wf1_any (y m d : Int) (w : World) :
    Calls Tryz.prog 51 #[.agg #[.int .i64 y, .int .i64 m, .int .i64 d]] w fun e w' => e = .returned (.int .i64 y) ∧ Below w.heap.size w w' := by
  go_enter Tryz.func51, Tryz.ntmps51
  go_wp2_with fail
  go_ret
  exact ⟨rfl, (Below.refl _ _).alloc (by simp) _⟩

theorem wf2_any (y m d : Int) (w : World) :
    Calls Tryz.prog 52 #[.agg #[.int .i64 y, .int .i64 m, .int .i64 d]] w fun e w' => e = .returned (.int .i64 m) ∧ Below w.heap.size w w' := by
  go_enter Tryz.func52, Tryz.ntmps52
  go_wp2_with fail
  go_ret
  exact ⟨rfl, (Below.refl _ _).alloc (by simp) _⟩

theorem wf3_any (y m d : Int) (w : World) :
    Calls Tryz.prog 53 #[.agg #[.int .i64 y, .int .i64 m, .int .i64 d]] w fun e w' => e = .returned (.int .i64 d) ∧ Below w.heap.size w w' := by
  go_enter Tryz.func53, Tryz.ntmps53
  go_wp2_with fail
  go_ret
  exact ⟨rfl, (Below.refl _ _).alloc (by simp) _⟩

set_option maxHeartbeats 1000000 in
set_option maxRecDepth 100000 in
theorem wk_any (g : Nat) (x : Int) (y m d : Int) (b : Nat) (w : World) (h : Dt.ok y m d) (hA : AheadAt w) (eg : ∀ args W, (callFunc g args).run Tryz.prog W = .ok (.enter g args) W) (hb : w.cell? ⟨b, 0, none⟩ = some (fnV g)) (hlt : b < w.heap.size)
    (hC : ∀ W, Calls Tryz.prog g #[weekV (Dt.wy y (Dt.num y m d)) (Dt.num y m d)] W fun e w' => e = .returned (.int .i64 x) ∧ Below W.heap.size W w') :
    Calls Tryz.prog 72 #[.agg #[.int .i64 y, .int .i64 m, .int .i64 d], .pointer (some ⟨b, 0, none⟩)] w fun e w' => e = .returned (.int .i64 x) ∧ Below w.heap.size w w' := by
  have hW := week_ok y m d (w.alloc (.cells #[.int .i64 y, .int .i64 m, .int .i64 d] 23)) h (hA.alloc _)
  have HW := Lib.hid hW
  generalize Dt.wy y (Dt.num y m d) = k at hC HW
  generalize Dt.num y m d = n at hC HW
  have HC := Lib.hid hC
  clear hW hC h hA
  unfold fnV at hb
  have Hb := Lib.hid hb
  clear hb
  unfold weekV at HW HC
  generalize (n - Dt.first k) / 7 + 1 = k1 at HW HC
  generalize n % 7 + 1 = k2 at HW HC
  go_enter Tryz.func72, Tryz.ntmps72
  go_wp2_with fail
  refine HW.out.mono ?_
  rintro e w1 ⟨rfl, hb⟩
  have hb' : Below (w.heap.size + 1) (w.alloc (.cells #[.int .i64 y, .int .i64 m, .int .i64 d] 23)) w1 := by simpa using hb
  have hc0 : w1.cell? ⟨b, 0, none⟩ = some (.func (.func g) #[] #[]) := by
    rw [hb'.cell (p := ⟨_, _, none⟩) (by simp; omega), World.cell?_alloc_lt _ _ _ (by simpa using hlt)]; exact Hb.out
  have hc1 : (w1.alloc (.cells #[.int .i64 k, .int .i64 k1, .int .i64 k2] 67)).cell? ⟨b, 0, none⟩ = some (.func (.func g) #[] #[]) := by
    have := hb'.size
    rw [World.cell?_alloc_lt _ _ _ (by simp at this ⊢; omega)]; exact hc0
  have Hw := Lib.hid hb'
  clear hb hb'
  go_wp2_with fail
  refine (HC.out _).mono ?_
  rintro e w2 ⟨rfl, hb2⟩
  have Hb2 := Lib.hid hb2; clear hb2
  go_wp2_with fail
  go_ret
  refine ⟨rfl, ?_⟩
  have hb0 : Below w.heap.size w w1 := ((Below.refl _ _).alloc (by simp) _).trans (Hw.out.mono (by omega))
  have hs := hb0.size
  exact (hb0.alloc hs _).trans (Hb2.out.mono (by simp; omega))

set_option maxHeartbeats 1000000 in
set_option maxRecDepth 100000 in
theorem yearly_ok (y m d : Int) (w : World) (h : Dt.ok y m d) (hA : AheadAt w) :
    Calls Tryz.prog 49 #[.agg #[.int .i64 y, .int .i64 m, .int .i64 d]] w fun e w' => e = .returned (.int .i64 (Dt.num y m d - Dt.num y 1 1 + 1)) ∧ Below w.heap.size w w' := by
  have h1 : Dt.ok y 1 1 := ⟨h.1, h.2.1, by omega, by omega, by omega, by have := Dt.dim_bd y 1; omega⟩
  have hW := number_ok y m d (w.alloc (.cells #[.int .i64 y, .int .i64 m, .int .i64 d] 23)) h (hA.alloc _)
  have hV := fun W (hB : Below w.heap.size w W) => number_ok y 1 1 W h1 (hA.below hB)
  have HW := Lib.hid hW
  have HV := Lib.hid hV
  have hb1 := Dt.num_bd y m d h
  have hb2 := Dt.num_bd y 1 1 h1
  have hk1 := hb1.2.2; have hk2 := hb2.2.2
  clear hb1 hb2 hW hV h h1 hA
  generalize Dt.num y m d = n at HW hk1 ⊢
  generalize Dt.num y 1 1 = k at HV hk2 ⊢
  obtain ⟨hn0, hn1⟩ := hk1
  obtain ⟨hk0, hk1⟩ := hk2
  go_enter Tryz.func49, Tryz.ntmps49
  go_wp2_with fail
  refine HW.out.mono ?_
  rintro e w1 ⟨rfl, hb⟩
  have hb' : Below (w.heap.size + 1) (w.alloc (.cells #[.int .i64 y, .int .i64 m, .int .i64 d] 23)) w1 := by simpa using hb
  have hc0 : w1.cell? ⟨w.heap.size, 0, none⟩ = some (.int .i64 y) := by
    rw [hb'.cell (p := ⟨_, _, none⟩) (by simp)]; simp
  have hb0 : Below w.heap.size w w1 := ((Below.refl _ _).alloc (by simp) _).trans (hb'.mono (by omega))
  have Hb := Lib.hid hb0
  clear hb hb' hb0
  go_wp2_with fail
  refine (HV.out _ Hb.out).mono ?_
  rintro e w2 ⟨rfl, hb2⟩
  have Hc := Lib.hid (Hb.out.trans (hb2.mono Hb.out.size))
  clear hb2
  go_wp2_with fail
  go_ret
  exact ⟨rfl, Hc.out⟩

end Go.Proofs.YtmaccmhpcagcnaaGreatDoor
