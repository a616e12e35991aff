/-
  The walk of the law LexParts: it answers true.
-/
import Derived.Test.YtmipkdbcagijaaaDoorWback
namespace Go.Proofs.YtmipkdbcagijaaaDoor
open Go.Shelf Go.RowKit Go.Lib

/-- what Quote hands back, under a name, with its length -/
theorem quote_named (m : Bool) (s : ByteArray) : ∃ Q : ByteArray, (⟨(Lx.quote m s.data.toList).toArray⟩ : ByteArray) = Q ∧ Q.data.toList = Lx.quote m s.data.toList ∧ s.size ≤ Q.size ∧ Q.size ≤ 4 * s.size := by
  refine ⟨_, rfl, rfl, ?_, ?_⟩
  · have := (Lx.quote_len m s.data.toList).1
    rw [Lib.size_eq, Lib.size_eq]; exact this
  · have := (Lx.quote_len m s.data.toList).2
    rw [Lib.size_eq, Lib.size_eq]; exact this

set_option maxHeartbeats 400000 in
theorem lexParts_walk (s t : ByteArray) (w : World) (hs : s.size ≤ 10000000) (ht : t.size ≤ 10000000) (hmax : MaxAt w) :
    Calls Tryd.prog 4 #[.string s, .string t] w fun e w' => e = .returned (.bool true) ∧ Below w.heap.size w w' := by
  obtain ⟨A, hA, hAl, hA1, hA2⟩ := quote_named false s
  obtain ⟨B, hB, hBl, hB1, hB2⟩ := quote_named false t
  obtain ⟨C, hC, hCl, hC1, hC2⟩ := quote_named false (s ++ t)
  obtain ⟨D, hD, hDl, hD1, hD2⟩ := quote_named true s
  have hst : (s ++ t).size = s.size + t.size := ByteArray.size_append
  have hle : C.size ≤ A.size + B.size := by
    have := Lx.quote_append_len false s.data.toList t.data.toList
    rw [Lib.size_eq, Lib.size_eq, Lib.size_eq, hAl, hBl, hCl]
    simpa using this
  have h1 : bareOut (Lx.bare false C.data.toList) = .tuple #[.string (s ++ t), .int .i64 C.size, .nilIface] := by
    rw [← bareOut_str, hCl, Lx.bare_quote', Lib.size_eq, hCl]
  have hCs : C.size ≤ 100000000 := by omega
  have hsts : (s ++ t).size ≤ 100000000 := by omega
  have HA := Lib.hid hA; have HB := Lib.hid hB; have HC := Lib.hid hC; have HD := Lib.hid hD; have H1 := Lib.hid h1; have HM := Lib.hid hmax
  clear hA hB hC hD h1 hmax hAl hBl hCl hDl hC1 hC2 hB1 hA1 hst
  go_enter Tryd.func4, Tryd.ntmps4
  go_wp2_with fail
  refine (bare_const _).mono ?_
  rintro e w1 ⟨rfl, hb1⟩
  have HM1 := Lib.hid (HM.out.below rfl hb1)
  have Hb1 := Lib.hid hb1; clear hb1
  go_wp2_with fail
  refine (quote_any s false _ (by omega) HM1.out).mono ?_
  rintro e w2 ⟨rfl, hb2⟩
  rw [HA.out]
  have HM2 := Lib.hid (HM1.out.below rfl hb2)
  have Hb2 := Lib.hid hb2; clear hb2
  go_wp2_with fail
  refine (quote_any t false _ (by omega) HM2.out).mono ?_
  rintro e w3 ⟨rfl, hb3⟩
  rw [HB.out]
  have HM3 := Lib.hid (HM2.out.below rfl hb3)
  have Hb3 := Lib.hid hb3; clear hb3
  go_wp2_with fail
  refine (quote_any (s ++ t) false _ hsts HM3.out).mono ?_
  rintro e w4 ⟨rfl, hb4⟩
  rw [HC.out]
  have HM4 := Lib.hid (HM3.out.below rfl hb4)
  have Hb4 := Lib.hid hb4; clear hb4
  go_wp2_with fail
  refine (bare_any C false _ (by omega)).mono ?_
  rintro e w5 ⟨rfl, hb5⟩
  rw [H1.out]
  have HM5 := Lib.hid (HM4.out.below rfl hb5)
  have Hb5 := Lib.hid hb5; clear hb5
  go_wp2_with fail
  refine (quote_any s true _ (by omega) HM5.out).mono ?_
  rintro e w6 ⟨rfl, hb6⟩
  rw [HD.out]
  have Hb6 := Lib.hid hb6; clear hb6
  go_wp2_with fail
  go_ret
  have b1 := Hb1.out
  have b2 := b1.trans (Hb2.out.mono b1.size)
  have b3 := b2.trans (Hb3.out.mono b2.size)
  have b4 := b3.trans (Hb4.out.mono b3.size)
  have b5 := b4.trans (Hb5.out.mono b4.size)
  exact ⟨rfl, b5.trans (Hb6.out.mono b5.size)⟩
end Go.Proofs.YtmipkdbcagijaaaDoor
