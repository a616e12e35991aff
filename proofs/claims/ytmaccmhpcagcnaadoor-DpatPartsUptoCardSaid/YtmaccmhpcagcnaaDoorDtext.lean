/-
  date.Text.
-/
import Derived.Test.YtmaccmhpcagcnaaDoorDig
namespace Go.Proofs.YtmaccmhpcagcnaaDoor
open Go.RowKit Go.Lib Go.Sort

/-- three numbers in a block, strconv's table, and nothing below B turned -/
structure Tri (w : World) (b : Nat) (y m d : Int) (w' : World) : Prop where
  c0 : w'.cell? ⟨b, 0, none⟩ = some (.int .i64 y)
  c1 : w'.cell? ⟨b, 1, none⟩ = some (.int .i64 m)
  c2 : w'.cell? ⟨b, 2, none⟩ = some (.int .i64 d)
  lt : b < w'.heap.size
  pow : Pow10At w'
  below : Below w.heap.size w w'

theorem Tri.step {w w1 w2 : World} {b : Nat} {y m d : Int} (h : Tri w b y m d w1) (hb : Below w1.heap.size w1 w2) : Tri w b y m d w2 :=
  ⟨by rw [hb.cell (p := ⟨_, _, none⟩) h.lt]; exact h.c0, by rw [hb.cell (p := ⟨_, _, none⟩) h.lt]; exact h.c1, by rw [hb.cell (p := ⟨_, _, none⟩) h.lt]; exact h.c2, Nat.lt_of_lt_of_le h.lt hb.size, h.pow.below hb, h.below.trans (hb.mono h.below.size)⟩
theorem Tri.drew {w w1 : World} {b : Nat} {y m d : Int} (h : Tri w b y m d w1) : Tri w b y m d w1.drew := h.step (Below.refl _ _).drew

/-- the text of a date -/
def dText (y m d : Int) : List UInt8 := padTo 4 y ++ [45] ++ padTo 2 m ++ [45] ++ padTo 2 d

set_option maxHeartbeats 600000 in
set_option maxRecDepth 100000 in
theorem text_ok (y m d : Int) (w : World) (h : Dt.ok y m d) (hA : AheadAt w) (hP : Pow10At w) :
    Calls Tryd.prog 11 #[.agg #[.int .i64 y, .int .i64 m, .int .i64 d]] w fun e w' => e = .returned (.tuple #[.string ⟨(dText y m d).toArray⟩, .nilIface]) ∧ Below w.heap.size w w' := by
  have hdm := Dt.dim_bd y m
  have h1 := h.1; have h2 := h.2.1; have h3 := h.2.2.1; have h4 := h.2.2.2.1; have h5 := h.2.2.2.2.1
  have h6 : d ≤ 31 := by have := h.2.2.2.2.2; omega
  have H := Lib.hid h
  have HA := Lib.hid (hA.alloc (.cells #[.int .i64 y, .int .i64 m, .int .i64 d] 23))
  have HP := Lib.hid (hP.alloc (.cells #[.int .i64 y, .int .i64 m, .int .i64 d] 23))
  have hb0 : Below w.heap.size w (w.alloc (.cells #[.int .i64 y, .int .i64 m, .int .i64 d] 23)) := (Below.refl _ _).alloc (Nat.le_refl _) _
  have Hb0 := Lib.hid hb0
  unfold dText
  have hl1 := padTo_len 4 y (by omega) (by omega) (by omega)
  have hl2 := padTo_len 2 m (by omega) (by omega) (by omega)
  have hl3 := padTo_len 2 d (by omega) (by omega) (by omega)
  have hD : ∀ (W : World), Pow10At W →
      (∀ dr os, Calls Tryd.prog 24 #[.int .i64 y, .int .i64 4] (grow (redrawn W dr) os) (fun e w' => e = .returned (.string ⟨(padTo 4 y).toArray⟩) ∧ ∃ p : Regrown, w' = grow (redrawn W p.d) p.os)) ∧
      (∀ dr os, Calls Tryd.prog 24 #[.int .i64 m, .int .i64 2] (grow (redrawn W dr) os) (fun e w' => e = .returned (.string ⟨(padTo 2 m).toArray⟩) ∧ ∃ p : Regrown, w' = grow (redrawn W p.d) p.os)) ∧
      (∀ dr os, Calls Tryd.prog 24 #[.int .i64 d, .int .i64 2] (grow (redrawn W dr) os) (fun e w' => e = .returned (.string ⟨(padTo 2 d).toArray⟩) ∧ ∃ p : Regrown, w' = grow (redrawn W p.d) p.os)) :=
    fun W hT => ⟨fun dr os => Calls.regrown_of (digits_any y 4 _ (by omega) (by omega) (by omega) (hT.below (below_regrown W dr os))),
      fun dr os => Calls.regrown_of (digits_any m 2 _ (by omega) (by omega) (by omega) (hT.below (below_regrown W dr os))),
      fun dr os => Calls.regrown_of (digits_any d 2 _ (by omega) (by omega) (by omega) (hT.below (below_regrown W dr os)))⟩
  generalize padTo 4 y = ly at hD hl1 ⊢
  generalize padTo 2 m = lm at hD hl2 ⊢
  generalize padTo 2 d = ld at hD hl3 ⊢
  have HD := Lib.hid hD
  clear hA h hdm hP hb0 hD
  go_enter Tryd.func11, Tryd.ntmps11
  go_wp2_with fail
  refine (check_ok y m d _ H.out HA.out).mono ?_
  rintro e w1 ⟨rfl, hb⟩
  have hb' : Below (w.heap.size + 1) (w.alloc (.cells #[.int .i64 y, .int .i64 m, .int .i64 d] 23)) w1 := by simpa using hb
  obtain ⟨c0, c1, c2⟩ := date_cells hb'
  have hP1 := HP.out.below hb
  have Hb := Lib.hid (Hb0.out.trans (hb.mono (by simp)))
  obtain ⟨d1, d2, d3⟩ := HD.out w1 hP1
  have D1 := Lib.hid d1; have D2 := Lib.hid d2; have D3 := Lib.hid d3
  clear hb hb' hP1 d1 d2 d3
  have n1 : ¬ 9223372036854775807 < ly.length + 1 := by omega
  have n2 : ¬ 9223372036854775807 < ly.length + 1 + lm.length := by omega
  have n3 : ¬ 9223372036854775807 < ly.length + 1 + lm.length + 1 := by omega
  have n4 : ¬ 9223372036854775807 < ly.length + 1 + lm.length + 1 + ld.length := by omega
  have k0 := cell_regrown c0
  have k1 := cell_regrown c1
  have k2 := cell_regrown c2
  go_wp2_with fail
  refine wp_region_quiet_below (by kernel_rfl) (by kernel_rfl) ?_
  repeat (quiet_step (first | with_reducible exact D1.out _ _ | with_reducible exact D2.out _ _ | with_reducible exact D3.out _ _))
  refine wpQuiet_nil ?_
  intro _ hw'
  obtain ⟨⟨dq, osq⟩, hw''⟩ := hw'
  subst hw''
  go_wp2_with fail
  go_ret2
  exact ⟨by simp [cat_list], Hb.out.trans ((below_regrown w1 dq osq).mono Hb.out.size)⟩

set_option maxHeartbeats 600000 in
set_option maxRecDepth 100000 in
theorem text_bad (y m d : Int) (w : World) (h : ¬ Dt.ok y m d) (hA : AheadAt w) :
    Calls Tryd.prog 11 #[.agg #[.int .i64 y, .int .i64 m, .int .i64 d]] w fun e w' => e = .returned (.tuple #[.string ⟨#[]⟩, .iface 45 (.int .i64 1)]) ∧ Below w.heap.size w w' := by
  have HA := Lib.hid (hA.alloc (.cells #[.int .i64 y, .int .i64 m, .int .i64 d] 23))
  have hb0 : Below w.heap.size w (w.alloc (.cells #[.int .i64 y, .int .i64 m, .int .i64 d] 23)) := (Below.refl _ _).alloc (Nat.le_refl _) _
  have Hb0 := Lib.hid hb0; have H := Lib.hid h
  clear hA h hb0
  go_enter Tryd.func11, Tryd.ntmps11
  go_wp2_with fail
  refine (check_bad y m d _ H.out HA.out).mono ?_
  rintro e w1 ⟨rfl, hb⟩
  have Hb := Lib.hid (Hb0.out.trans (hb.mono (by simp))); clear hb
  go_wp2_with fail
  go_ret2
  exact ⟨rfl, Hb.out⟩
end Go.Proofs.YtmaccmhpcagcnaaDoor
