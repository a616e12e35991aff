/-
  The reference's Digits (Rdig, for the messages' seat).
-/
import Derived.Test.YtgkphpjnfigjiaaGreatDoorTxt
import Derived.Test.YtgkphpjnfigjiaaGreatDoorShelf
namespace Go.Proofs.YtgkphpjnfigjiaaGreatDoor
open Go.Shelf Go.RowKit Go.Lib

def padTo (least : Nat) (n : Int) : List UInt8 := List.replicate (least - (Lib.itoa n).length) 48 ++ Lib.itoa n
theorem cat_list (a b : List UInt8) : (⟨a.toArray⟩ : ByteArray) ++ (⟨b.toArray⟩ : ByteArray) = ⟨(a ++ b).toArray⟩ := by
  apply ByteArray.ext
  simp [ByteArray.data_append]
theorem sz_mk (l : List UInt8) : (⟨l.toArray⟩ : ByteArray).size = l.length := by simp [ByteArray.size]
def strSize : Value → Nat
  | .string r => r.size
  | _ => 0
theorem dec_len : ∀ (n u : Nat), u < 10 ^ n → (Lib.decDigits u).length ≤ max n 1
  | 0, u, h => by
    have : u = 0 := by simpa using h
    subst this; rw [Lib.decDigits_one (by omega)]; simp
  | n + 1, u, h => by
    by_cases h10 : u < 10
    · rw [Lib.decDigits_one h10]; simp
    · rw [Lib.decDigits, dif_neg h10, List.length_append]
      have h' : u / 10 < 10 ^ n := by
        rw [Nat.div_lt_iff_lt_mul (by omega)]; rw [Nat.pow_succ] at h; exact h
      have ih := dec_len n (u / 10) h'
      cases n with
      | zero => simp at h'; omega
      | succ n => simp; omega

theorem padTo_nat (least u : Nat) : padTo least (u : Int) = List.replicate (least - (Lib.decDigits u).length) 48 ++ Lib.decDigits u := by
  unfold padTo; rw [Lib.itoa_nonneg]
theorem dec_pos (u : Nat) : 1 ≤ (Lib.decDigits u).length := by rw [Lib.decDigits_length]; exact Lib.nDigits_pos u
theorem dec_big {u : Nat} (h : ¬ u < 10) : Lib.decDigits u = Lib.decDigits (u / 10) ++ [UInt8.ofNat (48 + u % 10)] := by rw [Lib.decDigits, dif_neg h]

theorem one_byte (u : Nat) : UInt8.ofNat (48 + u % 10) = ((48 + ((u : Int) % 10)).toNat).toUInt8 := by
  have e : (48 + ((u : Int) % 10)).toNat = 48 + u % 10 := by omega
  rw [e]

theorem conv_one (b : UInt8) (x : Int) (hx : x = (b.toNat : Int)) (w : World) : (convert 74 9 (.slice (some ⟨w.heap.size, 0, none⟩) 1 1)).run Tryz.prog (w.alloc (.cells #[.int .u8 x] 5)) = .ok (.string ⟨#[b]⟩) (w.alloc (.cells #[.int .u8 x] 5)) := by
  subst hx
  exact run_convert_bytes_back (P := Tryz.prog) (w.alloc (.cells #[.int .u8 (b.toNat : Int)] 5)) 74 9 5 ⟨w.heap.size, 0, none⟩ 1 [b] (by kernel_rfl) (by kernel_rfl) (by kernel_rfl) (fun j hj => by
    have : j = 0 := by simpa using hj
    subst this
    show (w.alloc _).cell? ⟨w.heap.size, 0, none⟩ = _
    simp)
theorem byte_dg (u : Nat) : (48 + (u : Int) % 10) = ((UInt8.ofNat (48 + u % 10)).toNat : Int) := by
  have h : u % 10 < 10 := Nat.mod_lt _ (by omega)
  rw [UInt8.toNat_ofNat']
  omega

set_option maxHeartbeats 1000000 in
set_option maxRecDepth 100000 in
theorem rdigits_any (k : Nat) : ∀ (u least : Nat) (w : World), u < 10 ^ (k + 1) → u ≤ 9223372036854775807 → least ≤ 100 →
    Calls Tryz.prog 33 #[.int .i64 u, .int .i64 least] w fun e w' => e = .returned (.string ⟨(padTo least u).toArray⟩) ∧ Below w.heap.size w w' := by
  induction k with
  | zero =>
    intro u least w hu hu2 hl
    have h10 : u < 10 := by simpa using hu
    rw [padTo_nat]
    have hcv := conv_one (UInt8.ofNat (48 + u % 10)) _ (byte_dg u) w
    have hD : Lib.decDigits u = [UInt8.ofNat (48 + u % 10)] := by rw [Lib.decDigits_one h10, Nat.mod_eq_of_lt h10]
    have hDl : (Lib.decDigits u).length ≤ 100 := by rw [hD]; simp
    have hD2 : (⟨#[UInt8.ofNat (48 + u % 10)]⟩ : ByteArray) = ⟨(Lib.decDigits u).toArray⟩ := by rw [hD]
    rw [hD2] at hcv
    have hb0 : Below w.heap.size w (w.alloc (.cells #[.int .u8 (48 + (u : Int) % 10)] 5)) := (Below.refl _ _).alloc (Nat.le_refl _) _
    have HB0 := Lib.hid hb0
    generalize Lib.decDigits u = D at hcv hDl ⊢
    clear hD hD2 hu hb0
    go_enter Tryz.func33, Tryz.ntmps33
    go_wp2_with fail
    go_loopw [5] (fun v wr => ∃ j : Nat, v = .string ⟨(List.replicate j 48 ++ D).toArray⟩ ∧ j ≤ least - D.length ∧ Hid (Below w.heap.size w wr)) (fun v _ => 200 - strSize v)
    case atStart => exact ⟨0, rfl, by omega, HB0.out⟩
    case round =>
      obtain ⟨j, rfl, hj, HB⟩ := hrel
      have hsz : (⟨(List.replicate j 48 ++ D).toArray⟩ : ByteArray).size = j + D.length := by rw [sz_mk, List.length_append, List.length_replicate]
      by_cases hlt : j + D.length < least
      · have hcat : (⟨#[48]⟩ : ByteArray) ++ ⟨(List.replicate j 48 ++ D).toArray⟩ = ⟨(List.replicate (j + 1) 48 ++ D).toArray⟩ := by
          rw [show (⟨#[48]⟩ : ByteArray) = ⟨[48].toArray⟩ from rfl, cat_list]; rfl
        have HC := Lib.hid hcat; clear hcat
        go_wp2_with fail
        go_roundw
        case rel => exact ⟨j + 1, by rw [HC.out], by omega, HB⟩
        case measure => rw [HC.out]; show 200 - ByteArray.size _ < 200 - ByteArray.size _; rw [sz_mk, sz_mk]; simp only [List.length_append, List.length_replicate]; omega
      · have he : j = least - D.length := by omega
        subst he
        go_wp2_with fail
        go_ret
        exact ⟨rfl, HB.out⟩
  | succ k ih =>
    intro u least w hu hu2 hl
    by_cases h10 : u < 10
    · exact ih u least w (by rw [Nat.pow_succ]; have := Nat.one_le_two_pow (n := 0); have h1 : 1 ≤ 10 ^ k := Nat.one_le_pow _ _ (by decide); omega) hu2 hl
    · rw [padTo_nat]
      have hcv := conv_one (UInt8.ofNat (48 + u % 10)) _ (byte_dg u) w
      have hD := dec_big h10
      have hDl : (Lib.decDigits u).length ≤ 100 := by
        have := dec_len 19 u (by omega)
        omega
      have hi := fun W => ih (u / 10) 0 W (by rw [Nat.div_lt_iff_lt_mul (by omega)]; rw [Nat.pow_succ] at hu; exact hu) (by omega) (by omega)
      rw [padTo_nat, Nat.zero_sub, List.replicate_zero, List.nil_append, show ((u / 10 : Nat) : Int) = (u : Int) / 10 by omega] at hi
      have hcat : (⟨(Lib.decDigits (u / 10)).toArray⟩ : ByteArray) ++ ⟨#[UInt8.ofNat (48 + u % 10)]⟩ = ⟨(Lib.decDigits u).toArray⟩ := by
        rw [hD, show (⟨#[UInt8.ofNat (48 + u % 10)]⟩ : ByteArray) = ⟨[UInt8.ofNat (48 + u % 10)].toArray⟩ from rfl, cat_list]
      have hE : (Lib.decDigits (u / 10)).length ≤ 100 := by
        have := dec_len 19 (u / 10) (by omega)
        omega
      generalize UInt8.ofNat (48 + u % 10) = c at hcv hcat
      generalize Lib.decDigits (u / 10) = E at hi hcat hE
      generalize Lib.decDigits u = D at hcat hDl ⊢
      have hEs : (⟨E.toArray⟩ : ByteArray).size = E.length := sz_mk E
      have HI := Lib.hid hi; have HCat := Lib.hid hcat
      have hb0 : Below w.heap.size w (w.alloc (.cells #[.int .u8 (48 + (u : Int) % 10)] 5)) := (Below.refl _ _).alloc (Nat.le_refl _) _
      have HB0 := Lib.hid hb0
      clear hD hi hcat hb0 ih hu
      go_enter Tryz.func33, Tryz.ntmps33
      go_wp2_with fail
      refine (HI.out _).mono ?_
      rintro e w1 ⟨rfl, hb1⟩
      have HB1 := Lib.hid (HB0.out.trans (hb1.mono HB0.out.size)); clear hb1
      go_wp2_with fail
      rw [HCat.out]
      go_loopw [5] (fun v wr => ∃ j : Nat, v = .string ⟨(List.replicate j 48 ++ D).toArray⟩ ∧ j ≤ least - D.length ∧ Hid (Below w.heap.size w wr)) (fun v _ => 200 - strSize v)
      case atStart => exact ⟨0, rfl, by omega, HB1.out⟩
      case round =>
        obtain ⟨j, rfl, hj, HB⟩ := hrel
        have hsz : (⟨(List.replicate j 48 ++ D).toArray⟩ : ByteArray).size = j + D.length := by rw [sz_mk, List.length_append, List.length_replicate]
        by_cases hlt : j + D.length < least
        · have hcat : (⟨#[48]⟩ : ByteArray) ++ ⟨(List.replicate j 48 ++ D).toArray⟩ = ⟨(List.replicate (j + 1) 48 ++ D).toArray⟩ := by
            rw [show (⟨#[48]⟩ : ByteArray) = ⟨[48].toArray⟩ from rfl, cat_list]; rfl
          have HC := Lib.hid hcat; clear hcat
          go_wp2_with fail
          go_roundw
          case rel => exact ⟨j + 1, by rw [HC.out], by omega, HB⟩
          case measure => rw [HC.out]; show 200 - ByteArray.size _ < 200 - ByteArray.size _; rw [sz_mk, sz_mk]; simp only [List.length_append, List.length_replicate]; omega
        · have he : j = least - D.length := by omega
          subst he
          go_wp2_with fail
          go_ret
          exact ⟨rfl, HB.out⟩
end Go.Proofs.YtgkphpjnfigjiaaGreatDoor
