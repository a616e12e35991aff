/-
  The walk of the law LexBack: it answers true.
-/
import Derived.Test.YtmipkdbcagijaaaDoorLexC
namespace Go.Proofs.YtmipkdbcagijaaaDoor
open Go.Shelf Go.RowKit Go.Lib

/-- Bare's answer at the constant that the laws' own facts ask. -/
theorem bare_const (w : World) :
    Calls Tryd.prog 11 #[.string ⟨#[97, 39, 39, 98, 39, 123, 39, 99, 123, 100]⟩, .bool false] w fun e w' => e = .returned (.tuple #[.string ⟨#[97, 39, 98, 123, 99]⟩, .int .i64 8, .nilIface]) ∧ Below w.heap.size w w' := by
  refine (bare_any _ false w (by decide)).mono fun e w' h => ⟨?_, h.2⟩
  rw [h.1]
  have e1 : Lx.bare false (⟨#[97, 39, 39, 98, 39, 123, 39, 99, 123, 100]⟩ : ByteArray).data.toList = some ([97, 39, 98, 123, 99], 8) := by decide
  rw [e1]; rfl

theorem fact_bare (w : World) :
    Calls Tryd.prog 9 #[] w fun e w' => e = .returned (.bool true) ∧ Below w.heap.size w w' := by
  go_enter Tryd.func9, Tryd.ntmps9
  go_wp2_with fail
  refine (bare_const _).mono ?_
  rintro e w1 ⟨rfl, hb1⟩
  have Hb1 := Lib.hid hb1; clear hb1
  go_wp2_with fail
  go_ret
  exact ⟨rfl, Hb1.out⟩

theorem bareOut_str (s : ByteArray) (n : Nat) : bareOut (some (s.data.toList, n)) = .tuple #[.string s, .int .i64 n, .nilIface] := by
  show Value.tuple #[.string ⟨s.data.toList.toArray⟩, .int .i64 n, .nilIface] = _
  rw [strOf_ext]

set_option maxHeartbeats 400000 in
theorem lexBack_walk (s : ByteArray) (m : Bool) (w : World) (hs : s.size ≤ 100000000) (hmax : MaxAt w) :
    Calls Tryd.prog 3 #[.string s, .bool m] w fun e w' => e = .returned (.bool true) ∧ Below w.heap.size w w' := by
  obtain ⟨Q, hQ⟩ : ∃ Q : ByteArray, (⟨(Lx.quote m s.data.toList).toArray⟩ : ByteArray) = Q := ⟨_, rfl⟩
  have hQl : Q.data.toList = Lx.quote m s.data.toList := by rw [← hQ]
  have hQs : Q.size ≤ 400000000 := by
    rw [Lib.size_eq, hQl]
    have := (Lx.quote_len m s.data.toList).2
    rw [← Lib.size_eq] at this; omega
  have h1 : bareOut (Lx.bare m Q.data.toList) = .tuple #[.string s, .int .i64 Q.size, .nilIface] := by
    rw [← bareOut_str, hQl, Lx.bare_quote', Lib.size_eq, hQl]
  have h2 : ∀ R : ByteArray, R.data.toList = Q.data.toList ++ [123] → bareOut (Lx.bare m R.data.toList) = .tuple #[.string s, .int .i64 Q.size, .nilIface] := by
    intro R hR
    rw [← bareOut_str, hR, hQl, Lx.bare_quote _ _ _ (.inr ⟨123, [], rfl, by cases m <;> rfl⟩), Lib.size_eq, hQl]
  have HQ := Lib.hid hQ; have H1 := Lib.hid h1; have H2 := Lib.hid h2; have HM := Lib.hid hmax
  clear hQ h1 h2 hQl hmax
  go_enter Tryd.func3, Tryd.ntmps3
  go_wp2_with fail
  refine (fact_bare _).mono ?_
  rintro e w1 ⟨rfl, hb1⟩
  have HM1 := Lib.hid (HM.out.below rfl hb1)
  have Hb1 := Lib.hid hb1; clear hb1
  go_wp2_with fail
  refine (quote_any s m _ hs HM1.out).mono ?_
  rintro e w2 ⟨rfl, hb2⟩
  rw [HQ.out]
  have Hb2 := Lib.hid hb2; clear hb2
  go_wp2_with fail
  refine (bare_any Q m _ (by omega)).mono ?_
  rintro e w3 ⟨rfl, hb3⟩
  rw [H1.out]
  have Hb3 := Lib.hid hb3; clear hb3
  go_wp2_with fail
  have hR : (Q ++ ⟨#[123]⟩ : ByteArray).data.toList = Q.data.toList ++ [123] := by simp
  have hRs : (Q ++ ⟨#[123]⟩ : ByteArray).size ≤ 1000000000 := by
    rw [Lib.size_eq, hR, List.length_append, ← Lib.size_eq]; simp; omega
  generalize (Q ++ ⟨#[123]⟩ : ByteArray) = R at hR hRs ⊢
  have HR := Lib.hid (H2.out R hR); clear hR
  refine (bare_any R m _ hRs).mono ?_
  rintro e w4 ⟨rfl, hb4⟩
  rw [HR.out]
  have Hb4 := Lib.hid hb4; clear hb4
  go_wp2_with fail
  go_ret
  refine ⟨?_, ((Hb1.out.trans (Hb2.out.mono Hb1.out.size)).trans (Hb3.out.mono (Nat.le_trans Hb1.out.size Hb2.out.size))).trans (Hb4.out.mono (Nat.le_trans (Nat.le_trans Hb1.out.size Hb2.out.size) Hb3.out.size))⟩
  go_show
  rfl
end Go.Proofs.YtmipkdbcagijaaaDoor
