/-
  Numbers with so many digits: date.digits and week.digits.
-/
import Derived.Test.YtmaccmhpcagcnaaDoorDpA
import Derived.Test.YtmaccmhpcagcnaaDoorKit
import Derived.Test.YtmaccmhpcagcnaaDoorShelf
import Derived.Lib.SmallJoins
import Derived.Lib.QuietBelow
import Derived.Lib.ItoaLen
import Derived.BigQuiet
namespace Go.Proofs.YtmaccmhpcagcnaaDoor
open Go.RowKit Go.Lib Go.Sort

/-- strconv's table, as it is laid -/
def Pow10At (w : World) : Prop := Lib.TabIs Tryd.prog w "internal/strconv.uint64pow10" .u64 Lib.pow10Tab

theorem powNamed : Tryd.prog.globalNamed "internal/strconv.uint64pow10" = some 2 := by kernel_rfl
theorem Pow10At.below {w w' : World} (h : Pow10At w) (hb : Below w.heap.size w w') : Pow10At w' :=
  Go.Joins.tab_stays powNamed h hb (Nat.le_refl _)
theorem Pow10At.drew {w : World} (h : Pow10At w) : Pow10At w.drew := h.below (Below.refl _ _).drew
theorem Pow10At.drewN {w : World} (h : Pow10At w) (n : Nat) : Pow10At (w.drewN n) := h.below (below0N _ _ _)
theorem Pow10At.alloc {w : World} (h : Pow10At w) (o : Obj) : Pow10At (w.alloc o) := h.below ((Below.refl _ _).alloc (Nat.le_refl _) _)

theorem grow_drewN_below (w : World) (k : Nat) (os : Array Obj) : Below w.heap.size w (grow (w.drewN k) os) := by
  have h := Go.below_regrown w (w.drewN k).drawn os
  exact h

theorem itoa_any (n : Int) (w : World) (h0 : 0 ≤ n) (h1 : n ≤ 1000000) (h : Pow10At w) :
    Calls Tryd.prog 20 #[.int .i64 n] w fun e w' => e = .returned (.string ⟨(Lib.itoa n).toArray⟩) ∧ Below w.heap.size w w' :=
  (Tryd.strconv_Itoa n (by omega) (by omega) w h).mono fun e w' hh => ⟨hh.1, by obtain ⟨k, os, rfl⟩ := hh.2; exact grow_drewN_below w k os⟩

theorem repeatL_one (b : UInt8) : ∀ k, Lib.repeatL [b] k = List.replicate k b
  | 0 => rfl
  | k + 1 => by show [b] ++ Lib.repeatL [b] k = _; rw [repeatL_one b k]; rfl

theorem rep_any (k : Nat) (hk : k ≤ 1000) (w : World) :
    Calls Tryd.prog 21 #[.string ⟨#[48]⟩, .int .i64 k] w fun e w' => e = .returned (.string ⟨(List.replicate k 48).toArray⟩) ∧ Below w.heap.size w w' := by
  match k, hk with
  | 0, _ => exact (Tryd.strings_Repeat_zero _ w).mono fun e w' h => ⟨h.1, by rw [h.2]; exact Below.refl _ _⟩
  | 1, _ => exact (Tryd.strings_Repeat_one _ w).mono fun e w' h => ⟨h.1, by rw [h.2]; exact Below.refl _ _⟩
  | k + 2, hk => exact (Tryd.strings_Repeat_main ⟨#[48]⟩ (k + 2) w (by omega) (by omega) (by show 1 * (k + 2) ≤ _; omega) (by show 0 < 1; omega)).mono fun e w' h => ⟨by rw [h.1]; show Ending.returned (Value.string ⟨(Lib.repeatL [48] (k + 2)).toArray⟩) = _; rw [repeatL_one], h.2⟩

/-- a number with so many digits at least -/
def padTo (least : Nat) (n : Int) : List UInt8 := List.replicate (least - (Lib.itoa n).length) 48 ++ Lib.itoa n

theorem cat_list (a b : List UInt8) : (⟨a.toArray⟩ : ByteArray) ++ (⟨b.toArray⟩ : ByteArray) = ⟨(a ++ b).toArray⟩ := by
  apply ByteArray.ext
  simp [ByteArray.data_append]

theorem padTo_len (least : Nat) (n : Int) (hl : least ≤ 100) (h0 : 0 ≤ n) (h1 : n ≤ 1000000) : (padTo least n).length ≤ 200 := by
  have := Lib.itoa_length_le n (by omega) (by omega)
  unfold padTo; simp; omega

set_option maxHeartbeats 1000000 in
set_option maxRecDepth 100000 in
theorem digits_any (n : Int) (least : Nat) (w : World) (h0 : 0 ≤ n) (h1 : n ≤ 1000000) (hl : least ≤ 100) (hP : Pow10At w) :
    Calls Tryd.prog 24 #[.int .i64 n, .int .i64 least] w fun e w' => e = .returned (.string ⟨(padTo least n).toArray⟩) ∧ Below w.heap.size w w' := by
  have hI := itoa_any n w h0 h1 hP
  have hlen := Lib.itoa_length_le n (by omega) (by omega)
  unfold padTo
  generalize Lib.itoa n = l at hI hlen ⊢
  have HI := Lib.hid hI
  have HR := Lib.hid (rep_any (least - l.length) (by omega))
  clear hI hP
  have hmax : max 0 ((least : Int) - (l.length : Int)) = ((least - l.length : Nat) : Int) := by omega
  go_enter Tryd.func24, Tryd.ntmps24
  go_wp2_with fail
  refine HI.out.mono ?_
  rintro e w1 ⟨rfl, hb⟩
  have Hb := Lib.hid hb; clear hb
  go_wp2_with fail
  refine (HR.out _).mono ?_
  rintro e w2 ⟨rfl, hb2⟩
  have Hc := Lib.hid (Hb.out.trans (hb2.mono Hb.out.size))
  clear hb2
  go_wp2_with fail
  go_ret
  exact ⟨by rw [cat_list]; simp, Hc.out⟩

set_option maxHeartbeats 1000000 in
set_option maxRecDepth 100000 in
theorem wdigits_any (n : Int) (least : Nat) (w : World) (h0 : 0 ≤ n) (h1 : n ≤ 1000000) (hl : least ≤ 100) (hP : Pow10At w) :
    Calls Tryd.prog 26 #[.int .i64 n, .int .i64 least] w fun e w' => e = .returned (.string ⟨(padTo least n).toArray⟩) ∧ Below w.heap.size w w' := by
  have hI := itoa_any n w h0 h1 hP
  have hlen := Lib.itoa_length_le n (by omega) (by omega)
  unfold padTo
  generalize Lib.itoa n = l at hI hlen ⊢
  have HI := Lib.hid hI
  have HR := Lib.hid (rep_any (least - l.length) (by omega))
  clear hI hP
  have hmax : max 0 ((least : Int) - (l.length : Int)) = ((least - l.length : Nat) : Int) := by omega
  go_enter Tryd.func26, Tryd.ntmps26
  go_wp2_with fail
  refine HI.out.mono ?_
  rintro e w1 ⟨rfl, hb⟩
  have Hb := Lib.hid hb; clear hb
  go_wp2_with fail
  refine (HR.out _).mono ?_
  rintro e w2 ⟨rfl, hb2⟩
  have Hc := Lib.hid (Hb.out.trans (hb2.mono Hb.out.size))
  clear hb2
  go_wp2_with fail
  go_ret
  exact ⟨by rw [cat_list]; simp, Hc.out⟩

end Go.Proofs.YtmaccmhpcagcnaaDoor
