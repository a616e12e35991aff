/-
  The reference's Only: are all letters of a text in a set, and is it so long?
-/
import Derived.Test.YtgkphpjnfigjiaaGreatDoorStarts
import Derived.Lib.QuietBelow
namespace Go.Proofs.YtgkphpjnfigjiaaGreatDoor
open Go.RowKit

theorem contains_take {l : List UInt8} {j : Nat} {x : UInt8} (h : l[j]? = some x) (c : UInt8) : (l.take (j + 1)).contains c = ((l.take j).contains c || c == x) := by
  rw [List.take_add_one, h]; simp [Bool.beq_eq_decide_eq]
theorem all_take {l : List UInt8} {j : Nat} {x : UInt8} (h : l[j]? = some x) (p : UInt8 → Bool) : (l.take (j + 1)).all p = ((l.take j).all p && p x) := by
  rw [List.take_add_one, h]; simp
theorem all_no {l : List UInt8} {j : Nat} {x : UInt8} (h : l[j]? = some x) {p : UInt8 → Bool} (hp : p x = false) : l.all p = false := by
  rw [List.all_eq_false]; exact ⟨x, List.mem_of_getElem? h, by rw [hp]; decide⟩
def onlyB (s t : List UInt8) (lo up : Int) : Bool := s.all (fun c => t.contains c) && (decide (lo ≤ (s.length : Int)) && decide ((s.length : Int) ≤ up))

set_option maxHeartbeats 1000000 in
set_option maxRecDepth 100000 in
theorem only_any (s t : ByteArray) (lo up : Int) (w : World) (hs : s.size ≤ 1000000000) (ht : t.size ≤ 1000000000) :
    Calls Tryz.prog 58 #[.string s, .string t, .int .i64 lo, .int .i64 up] w fun e w' => e = .returned (.bool (onlyB s.data.toList t.data.toList lo up)) ∧ Below w.heap.size w w' := by
  have Hl := Lib.hid (Lib.size_eq s).symm
  have Ht := Lib.hid (Lib.size_eq t).symm
  go_enter Tryz.func58, Tryz.ntmps58
  go_wp2_with fail
  go_loopw [9] (fun v wr => ∃ i : Nat, v = .int .i64 i ∧ i ≤ s.size ∧ Hid ((s.data.toList.take i).all (fun c => t.data.toList.contains c) = true) ∧ Hid (Below w.heap.size w wr)) (fun v _ => s.size - (RowKit.intOf v).toNat)
  case atStart => exact ⟨0, rfl, by omega, by simp [Hid], Below.refl _ _⟩
  case round =>
    obtain ⟨i, rfl, hi2, HA, HB⟩ := hrel
    by_cases hi : i < s.size
    · have hx := Lib.data_getElem? s i hi
      have Hx := Lib.hid hx; clear hx
      go_wp2_with fail
      go_loopw [10, 11] (fun b v wr => ∃ j : Nat, b = .bool ((t.data.toList.take j).contains s[i]) ∧ v = .int .i64 j ∧ j ≤ t.size ∧ Hid (Below w.heap.size w wr)) (fun _ v _ => t.size - (RowKit.intOf v).toNat)
      case atStart => exact ⟨0, by simp, rfl, by omega, HB⟩
      case round =>
        obtain ⟨j, rfl, rfl, hj2, HB2⟩ := hrel
        have HBd := Lib.hid (HB2.out.trans (Below.refl w.heap.size _).drew)
        by_cases hj : j < t.size
        · have hy := Lib.data_getElem? t j hj
          have hct := contains_take hy s[i]
          have he := byte_eq s[i] t[j]
          have Hct := Lib.hid hct; clear hct hy
          cases hp : (t.data.toList.take j).contains s[i] with
          | true =>
            rw [hp, Bool.true_or] at Hct
            clear hp
            go_wp2_with fail
            go_region
            go_wp2_with fail
            go_roundw
            case rel => exact ⟨j + 1, by rw [Hct.out], by go_num, by omega, HBd⟩
            case measure => simp [RowKit.intOf]; omega
          | false =>
            rw [hp, Bool.false_or] at Hct
            clear hp
            cases hq : (s[i] == t[j])
            all_goals
              rw [hq] at Hct he
              have hq' := hq
              clear hq
              go_wp2_with fail
              go_region
              go_wp2_with fail
              go_roundw
              case rel => exact ⟨j + 1, by rw [Hct.out], by go_num, by omega, HBd⟩
              case measure => simp [RowKit.intOf]; omega
        · have hje : j = t.size := by omega
          subst hje
          have htk : t.data.toList.take t.size = t.data.toList := by rw [← Ht.out]; exact List.take_length
          rw [htk]
          cases hc : t.data.toList.contains s[i] with
          | true =>
            have Hn := Lib.hid (show (s.data.toList.take (i + 1)).all (fun c => t.data.toList.contains c) = true by rw [all_take Hx.out, HA.out, hc]; rfl)
            clear hc htk
            go_wp2_with fail
            go_roundw
            case rel => exact ⟨i + 1, by go_num, by omega, Hn, HB2⟩
            case measure => simp [RowKit.intOf]; omega
          | false =>
            have Hn := Lib.hid (show onlyB s.data.toList t.data.toList lo up = false by unfold onlyB; rw [all_no Hx.out hc]; rfl)
            clear hc htk
            go_wp2_with fail
            go_ret
            exact ⟨by rw [Hn.out]; rfl, HB2.out⟩
    · have hie : i = s.size := by omega
      subst hie
      have hr : onlyB s.data.toList t.data.toList lo up = (decide (lo ≤ (s.size : Int)) && decide ((s.size : Int) ≤ up)) := by
        have h := HA.out
        rw [show s.data.toList.take s.size = s.data.toList by rw [← Hl.out]; exact List.take_length] at h
        unfold onlyB; rw [h, Bool.true_and, Hl.out]
      have Hr := Lib.hid hr; clear hr
      by_cases h1 : lo ≤ (s.size : Int)
      · by_cases h2 : (s.size : Int) ≤ up
        · have d1 : decide (lo ≤ (s.size : Int)) = true := decide_eq_true h1
          have d2 : decide ((s.size : Int) ≤ up) = true := decide_eq_true h2
          rw [d1, d2] at Hr
          go_wp2_with fail
          go_ret
          exact ⟨by rw [Hr.out]; rfl, HB.out⟩
        · have d1 : decide (lo ≤ (s.size : Int)) = true := decide_eq_true h1
          have d2 : decide ((s.size : Int) ≤ up) = false := decide_eq_false h2
          rw [d1, d2] at Hr
          go_wp2_with fail
          go_ret
          exact ⟨by rw [Hr.out]; rfl, HB.out⟩
      · have d1 : decide (lo ≤ (s.size : Int)) = false := decide_eq_false h1
        rw [d1] at Hr
        go_wp2_with fail
        go_ret
        exact ⟨by rw [Hr.out]; rfl, HB.out⟩
end Go.Proofs.YtgkphpjnfigjiaaGreatDoor
