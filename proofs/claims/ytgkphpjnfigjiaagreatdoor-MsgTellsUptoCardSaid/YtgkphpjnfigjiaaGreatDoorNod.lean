/-
  msg.node: the text of a node without cases.
-/
import Derived.Test.YtgkphpjnfigjiaaGreatDoorTxt
namespace Go.Proofs.YtgkphpjnfigjiaaGreatDoor
open Go.RowKit Ms

theorem bytes_app (a : ByteArray) (b : List UInt8) (l : List UInt8) (h : a.data.toList = l) : a ++ (⟨b.toArray⟩ : ByteArray) = ⟨(l ++ b).toArray⟩ := by
  subst h
  apply ByteArray.ext
  simp [ByteArray.data_append]
theorem nodeT1 (f : Int) (x : List UInt8) (cs : T) (mark : Bool) : nodeT 1 f x cs mark = Lx.quote mark x := by simp [nodeT, txt]
theorem nodeT2 (f : Int) (x : List UInt8) (cs : T) (mark : Bool) : nodeT 2 f x cs mark = [123] ++ x ++ [125] := by simp [nodeT, txt]
theorem nodeT3 (f : Int) (x : List UInt8) (cs : T) (mark : Bool) : nodeT 3 f x cs mark = [123] ++ x ++ [44, 32, 110, 117, 109, 98, 101, 114, 125] := by simp [nodeT, txt, number]
theorem nodeT6 (f : Int) (x : List UInt8) (cs : T) (mark : Bool) : nodeT 6 f x cs mark = [35] := by simp [nodeT, txt]

set_option maxHeartbeats 1000000 in
set_option maxRecDepth 100000 in
theorem node_simple (k f : Int) (x : List UInt8) (v : Value) (cs : T) (mark : Bool) (w : World) (hk : k = 1 ∨ k = 2 ∨ k = 3 ∨ k = 6) (hx : x.length ≤ 2000000) (hm : MaxAt w) :
    Calls Tryz.prog 46 #[.agg #[.int .i64 k, .string ⟨x.toArray⟩, .int .i64 f, v], .bool mark] w fun e w' => e = .returned (.string ⟨(nodeT k f x cs mark).toArray⟩) ∧ Below w.heap.size w w' := by
  have hxs : (⟨x.toArray⟩ : ByteArray).size ≤ 2000000 := by
    have h2 := Lib.size_eq (⟨x.toArray⟩ : ByteArray); simp only at h2; omega
  have hb0 := ((Below.refl w.heap.size w).alloc (Nat.le_refl _) (.cells #[.int .i64 k, .string ⟨x.toArray⟩, .int .i64 f, v] 35)).alloc (by simp) (.cells #[.pointer none, .slice none 0 0] 76)
  have HB0 := Lib.hid hb0; clear hb0
  have HM := Lib.hid (MaxAt.below hm rfl HB0.out); clear hm
  have HQ := Lib.hid (fun W (h : MaxAt W) => quote_any ⟨x.toArray⟩ mark W (by omega) h)
  rcases hk with rfl | rfl | rfl | rfl
  · have hT := nodeT1 f x cs mark
    have HT := Lib.hid hT; clear hT
    go_enter Tryz.func46, Tryz.ntmps46
    go_wp2_with fail
    refine (HQ.out _ HM.out).mono ?_
    rintro e w2 ⟨rfl, hb2⟩
    have HB2 := Lib.hid (HB0.out.trans (hb2.mono HB0.out.size)); clear hb2
    go_wp2_with fail
    go_ret
    exact ⟨by rw [HT.out] <;> rfl, HB2.out⟩
  · have hT : (⟨#[123]⟩ : ByteArray) ++ ⟨x.toArray⟩ ++ ⟨#[125]⟩ = ⟨(nodeT 2 f x cs mark).toArray⟩ := by
      rw [nodeT2, bytes_app ⟨#[123]⟩ x [123] rfl, bytes_app _ [125] ([123] ++ x) (by simp)]
    have HT := Lib.hid hT; clear hT
    go_enter Tryz.func46, Tryz.ntmps46
    go_wp2_with fail
    go_ret
    exact ⟨by rw [← HT.out] <;> rfl, HB0.out⟩
  · have hT : (⟨#[123]⟩ : ByteArray) ++ ⟨x.toArray⟩ ++ ⟨#[44, 32, 110, 117, 109, 98, 101, 114, 125]⟩ = ⟨(nodeT 3 f x cs mark).toArray⟩ := by
      rw [nodeT3, bytes_app ⟨#[123]⟩ x [123] rfl, bytes_app _ [44, 32, 110, 117, 109, 98, 101, 114, 125] ([123] ++ x) (by simp)]
    have HT := Lib.hid hT; clear hT
    go_enter Tryz.func46, Tryz.ntmps46
    go_wp2_with fail
    go_ret
    exact ⟨by rw [← HT.out] <;> rfl, HB0.out⟩
  · have hT := nodeT6 f x cs mark
    have HT := Lib.hid hT; clear hT
    go_enter Tryz.func46, Tryz.ntmps46
    go_wp2_with fail
    go_ret
    exact ⟨by rw [HT.out] <;> rfl, HB0.out⟩
end Go.Proofs.YtgkphpjnfigjiaaGreatDoor
