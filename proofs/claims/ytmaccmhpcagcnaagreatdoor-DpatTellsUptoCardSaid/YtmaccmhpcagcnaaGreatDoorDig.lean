/-
  Numbers with so many digits: date.digits and week.digits.
-/
import Derived.Test.YtmaccmhpcagcnaaGreatDoorDpA
import Derived.Test.YtmaccmhpcagcnaaGreatDoorKit
import Derived.Test.YtmaccmhpcagcnaaGreatDoorShelf
import Derived.Lib.SmallJoins
import Derived.Lib.QuietBelow
import Derived.Lib.ItoaLen
import Derived.BigQuiet
namespace Go.Proofs.YtmaccmhpcagcnaaGreatDoor
open Go.RowKit Go.Lib Go.Sort

/-- strconv's table, as it is laid -/
def Pow10At (w : World) : Prop := Lib.TabIs Tryz.prog w "internal/strconv.uint64pow10" .u64 Lib.pow10Tab

theorem powNamed : Tryz.prog.globalNamed "internal/strconv.uint64pow10" = some 2 := by kernel_rfl
theorem Pow10At.below {w w' : World} (h : Pow10At w) (hb : Below w.heap.size w w') : Pow10At w' :=
  Go.Joins.tab_stays powNamed h hb (Nat.le_refl _)
theorem Pow10At.drew {w : World} (h : Pow10At w) : Pow10At w.drew := h.below (Below.refl _ _).drew
theorem Pow10At.drewN {w : World} (h : Pow10At w) (n : Nat) : Pow10At (w.drewN n) := h.below (below0N _ _ _)
theorem Pow10At.alloc {w : World} (h : Pow10At w) (o : Obj) : Pow10At (w.alloc o) := h.below ((Below.refl _ _).alloc (Nat.le_refl _) _)

theorem grow_drewN_below (w : World) (k : Nat) (os : Array Obj) : Below w.heap.size w (grow (w.drewN k) os) := by
  have h := Go.below_regrown w (w.drewN k).drawn os
  exact h

theorem itoa_any (n : Int) (w : World) (h0 : 0 ≤ n) (h1 : n ≤ 1000000) (h : Pow10At w) :
    Calls Tryz.prog 12 #[.int .i64 n] w fun e w' => e = .returned (.string ⟨(Lib.itoa n).toArray⟩) ∧ Below w.heap.size w w' :=
  (Tryz.strconv_Itoa n (by omega) (by omega) w h).mono fun e w' hh => ⟨hh.1, by obtain ⟨k, os, rfl⟩ := hh.2; exact grow_drewN_below w k os⟩

theorem repeatL_one (b : UInt8) : ∀ k, Lib.repeatL [b] k = List.replicate k b
  | 0 => rfl
  | k + 1 => by show [b] ++ Lib.repeatL [b] k = _; rw [repeatL_one b k]; rfl

theorem rep_any (k : Nat) (hk : k ≤ 1000) (w : World) :
    Calls Tryz.prog 13 #[.string ⟨#[48]⟩, .int .i64 k] w fun e w' => e = .returned (.string ⟨(List.replicate k 48).toArray⟩) ∧ Below w.heap.size w w' := by
  match k, hk with
  | 0, _ => exact (Tryz.strings_Repeat_zero _ w).mono fun e w' h => ⟨h.1, by rw [h.2]; exact Below.refl _ _⟩
  | 1, _ => exact (Tryz.strings_Repeat_one _ w).mono fun e w' h => ⟨h.1, by rw [h.2]; exact Below.refl _ _⟩
  | k + 2, hk => exact (Tryz.strings_Repeat_main ⟨#[48]⟩ (k + 2) w (by omega) (by omega) (by show 1 * (k + 2) ≤ _; omega) (by show 0 < 1; omega)).mono fun e w' h => ⟨by rw [h.1]; show Ending.returned (Value.string ⟨(Lib.repeatL [48] (k + 2)).toArray⟩) = _; rw [repeatL_one], h.2⟩

/-- a number with so many digits at least -/
def padTo (least : Nat) (n : Int) : List UInt8 := List.replicate (least - (Lib.itoa n).length) 48 ++ Lib.itoa n

theorem cat_list (a b : List UInt8) : (⟨a.toArray⟩ : ByteArray) ++ (⟨b.toArray⟩ : ByteArray) = ⟨(a ++ b).toArray⟩ := by
  apply ByteArray.ext
  simp [ByteArray.data_append]

theorem padTo_len (least : Nat) (n : Int) (hl : least ≤ 100) (h0 : 0 ≤ n) (h1 : n ≤ 1000000) : (padTo least n).length ≤ 200 := by
  have := Lib.itoa_length_le n (by omega) (by omega)
  unfold padTo; simp; omega

end Go.Proofs.YtmaccmhpcagcnaaGreatDoor
