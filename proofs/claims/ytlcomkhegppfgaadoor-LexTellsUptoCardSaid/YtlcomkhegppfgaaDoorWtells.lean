/-
  The walk of the law LexTells: it answers true.
-/
import Derived.Test.YtlcomkhegppfgaaDoorFact
import Derived.Test.YtlcomkhegppfgaaDoorRefC
import Derived.Test.YtlcomkhegppfgaaDoorErr
namespace Go.Proofs.YtlcomkhegppfgaaDoor
open Go.Shelf Go.RowKit Go.Lib

set_option maxHeartbeats 1000000 in
theorem lexTells_walk (s : ByteArray) (m : Bool) (w : World) (hs : s.size ≤ 100000000) (hmax : MaxAt w) (hg : ErrTypeAt w) :
    Calls Tryd.prog 3 #[.string s, .bool m] w fun e w' => e = .returned (.bool true) ∧ Below w.heap.size w w' := by
  obtain ⟨Q, hQ, _, _, _⟩ := quote_named m s
  have HQ := Lib.hid hQ; have HM := Lib.hid hmax; have HG := Lib.hid hg
  clear hQ hmax hg
  cases hb : Lx.bare m s.data.toList with
  | none =>
    have Hb := Lib.hid hb; clear hb
    go_enter Tryd.func3, Tryd.ntmps3
    go_wp2_with fail
    refine (fact_bare _).mono ?_
    rintro e w1 ⟨rfl, hb1⟩
    have Hb1 := Lib.hid hb1; clear hb1
    go_wp2_with fail
    refine (bareOf_any s m _ (by omega)).mono ?_
    rintro e w2 ⟨rfl, rfl⟩
    rw [Hb.out]
    unfold bareOfOut
    go_wp2_with fail
    refine (bare_any s m _ (by omega)).mono ?_
    rintro e w3 ⟨rfl, hb3⟩
    rw [Hb.out]
    unfold bareOut
    have B3 := Lib.hid (Hb1.out.trans (hb3.mono Hb1.out.size)); clear hb3
    go_wp2_with fail
    refine (error_no 3 3 _ (HG.out.below B3.out)).mono ?_
    rintro e w4 ⟨rfl, hb4⟩
    have B4 := Lib.hid (B3.out.trans (hb4.mono B3.out.size)); clear hb4
    go_wp2_with fail
    refine (quote_any s m _ hs (HM.out.below rfl B4.out)).mono ?_
    rintro e w5 ⟨rfl, hb5⟩
    rw [HQ.out]
    have B5 := Lib.hid (B4.out.trans (hb5.mono B4.out.size)); clear hb5
    go_wp2_with fail
    refine (quoted_ref s m _ hs).mono ?_
    rintro e w6 ⟨rfl, rfl⟩
    rw [HQ.out]
    go_wp2_with fail
    go_ret
    exact ⟨rfl, B5.out⟩
  | some p =>
    obtain ⟨t, n⟩ := p
    have hpl := Lx.az_places hb
    rw [← Lib.size_eq] at hpl
    have Hb := Lib.hid hb; clear hb
    go_enter Tryd.func3, Tryd.ntmps3
    go_wp2_with fail
    refine (fact_bare _).mono ?_
    rintro e w1 ⟨rfl, hb1⟩
    have Hb1 := Lib.hid hb1; clear hb1
    go_wp2_with fail
    refine (bareOf_any s m _ (by omega)).mono ?_
    rintro e w2 ⟨rfl, rfl⟩
    rw [Hb.out]
    unfold bareOfOut
    go_wp2_with fail
    refine (bare_any s m _ (by omega)).mono ?_
    rintro e w3 ⟨rfl, hb3⟩
    rw [Hb.out]
    unfold bareOut
    have B3 := Lib.hid (Hb1.out.trans (hb3.mono Hb1.out.size)); clear hb3
    go_wp2_with fail
    refine (error_nil 0 _).mono ?_
    rintro e w4 ⟨rfl, rfl⟩
    go_wp2_with fail
    refine (quote_any s m _ hs (HM.out.below rfl B3.out)).mono ?_
    rintro e w5 ⟨rfl, hb5⟩
    rw [HQ.out]
    have B5 := Lib.hid (B3.out.trans (hb5.mono B3.out.size)); clear hb5
    go_wp2_with fail
    refine (quoted_ref s m _ hs).mono ?_
    rintro e w6 ⟨rfl, rfl⟩
    rw [HQ.out]
    go_wp2_with fail
    go_ret
    exact ⟨rfl, B5.out⟩
end Go.Proofs.YtlcomkhegppfgaaDoor
