/-
  msg.Name, msg.exact, msg.key: names and keys.
-/
import Derived.Test.YtgkphpjnfigjiaaGreatDoorRd
import Derived.Test.YtgkphpjnfigjiaaGreatDoorShelf
import Derived.Shelf.Strings.SlTrimAscii
import Derived.Shelf.Strconv.Itoa4
namespace Go.Proofs.YtgkphpjnfigjiaaGreatDoor
open Go.RowKit Ms

def nameSet : List UInt8 := [97, 98, 99, 100, 101, 102, 103, 104, 105, 106, 107, 108, 109, 110, 111, 112, 113, 114, 115, 116, 117, 118, 119, 120, 121, 122, 48, 49, 50, 51, 52, 53, 54, 55, 56, 57, 95]
def lowSet : List UInt8 := [97, 98, 99, 100, 101, 102, 103, 104, 105, 106, 107, 108, 109, 110, 111, 112, 113, 114, 115, 116, 117, 118, 119, 120, 121, 122]
set_option maxRecDepth 100000 in
theorem nameSet_is (c : UInt8) : nameSet.contains c = namec c := by
  have h : ∀ n : Fin 256, nameSet.contains (UInt8.ofNat n.1) = namec (UInt8.ofNat n.1) := by decide +kernel
  have := h ⟨c.toNat, c.toNat_lt⟩
  simpa using this
set_option maxRecDepth 100000 in
theorem lowSet_is (c : UInt8) : decide (0 ≤ Lib.indexByte lowSet c) = low c := by
  have h : ∀ n : Fin 256, decide (0 ≤ Lib.indexByte lowSet (UInt8.ofNat n.1)) = low (UInt8.ofNat n.1) := by decide +kernel
  have := h ⟨c.toNat, c.toNat_lt⟩
  simpa using this
theorem dropWhile_nil {p : UInt8 → Bool} : ∀ l : List UInt8, (l.dropWhile p = [] ↔ l.all p = true)
  | [] => by simp
  | a :: l => by
    cases h : p a
    · simp [List.dropWhile, h]
    · simp only [List.dropWhile, h, List.all_cons, Bool.true_and]; exact dropWhile_nil l
theorem dropWhile_head {p : UInt8 → Bool} : ∀ (l : List UInt8) (a : UInt8) (r : List UInt8), l.dropWhile p = a :: r → p a = false
  | [], _, _, h => by cases h
  | b :: l, a, r, h => by
    cases hb : p b
    · simp only [List.dropWhile, hb] at h; cases h; exact hb
    · simp only [List.dropWhile, hb] at h; exact dropWhile_head l a r h
theorem trim_nil (l cs : List UInt8) : (Lib.trimS l cs).isEmpty = l.all cs.contains := by
  have e : (Lib.trimS l cs).isEmpty = true ↔ l.all cs.contains = true := by
    rw [List.isEmpty_iff]
    show (((l.reverse.dropWhile (cs.contains ·)).reverse).dropWhile (cs.contains ·)) = [] ↔ _
    rw [dropWhile_nil, List.all_reverse]
    constructor
    · intro h
      cases hd : l.reverse.dropWhile (cs.contains ·) with
      | nil => have := (dropWhile_nil _).1 hd; rwa [List.all_reverse] at this
      | cons a r =>
        have h1 := dropWhile_head _ _ _ hd
        rw [hd] at h
        simp only [List.all_cons, Bool.and_eq_true] at h
        rw [h1] at h; cases h.1
    · intro h
      have : l.reverse.dropWhile (cs.contains ·) = [] := (dropWhile_nil _).2 (by rw [List.all_reverse]; exact h)
      rw [this]; rfl
  cases h1 : (Lib.trimS l cs).isEmpty <;> cases h2 : l.all cs.contains
  · rfl
  · exact absurd (e.2 h2) (by rw [h1]; simp)
  · exact absurd (e.1 h1) (by rw [h2]; simp)
  · rfl
theorem Tryz.trim (s cut : ByteArray) (w : World) (hs : s.size ≤ 9223372036854775807) (hc : cut.size < 4294967281) (hascii : ∀ (j : Nat) b, cut.data.toList[j]? = some b → b.toNat < 128) :
    Calls Tryz.prog 90 #[.string s, .string cut] w fun e w' => e = .returned (.string ⟨(Lib.trimS s.data.toList cut.data.toList).toArray⟩) ∧ Below w.heap.size w w' :=
  Any.strings_Trim_laid Tryz.lays160 (by kernel_rfl) s cut w hs hc hascii

set_option maxHeartbeats 1000000 in
set_option maxRecDepth 100000 in
theorem name_any (x : ByteArray) (w : World) (hx : x.size ≤ 2000000) :
    Calls Tryz.prog 62 #[.string x] w fun e w' => e = .returned (.bool (nameB x.data.toList)) ∧ Below w.heap.size w w' := by
  by_cases h0 : x.size = 0
  · have hn : nameB x.data.toList = false := by rw [nil_of_size h0]; rfl
    have he := emp_true h0
    have HN := Lib.hid hn; clear hn
    go_enter Tryz.func62, Tryz.ntmps62
    go_wp2_with fail
    go_ret
    exact ⟨by rw [HN.out]; rfl, Below.refl _ _⟩
  · have he := emp_false h0
    obtain ⟨c, r, hcr⟩ : ∃ c r, x.data.toList = c :: r := by
      cases h : x.data.toList with
      | nil => exact absurd (by have := Lib.size_eq x; rw [h] at this; exact this) h0
      | cons c r => exact ⟨c, r, rfl⟩
    have hlen : (c :: r).length = x.size := by rw [← hcr, ← Lib.size_eq]
    by_cases h20 : x.size ≤ 20
    · have ht : (⟨(Lib.trimS x.data.toList nameSet).toArray⟩ : ByteArray).toList.isEmpty = (c :: r).all namec := by
        rw [Lib.toList_data]
        show (Lib.trimS x.data.toList nameSet).isEmpty = _
        rw [trim_nil, hcr]
        exact congrArg (List.all (c :: r)) (funext nameSet_is)
      have hn : nameB x.data.toList = ((c :: r).all namec && low c) := by
        rw [hcr]; simp only [nameB]; rw [hlen, decide_eq_true h20, Bool.true_and]
      have h00 : 0 < x.size := by omega
      have hg : x[0]'h00 = c := by
        have : x.data.toList[0]? = some c := by rw [hcr]; rfl
        have h2 : x.data.toList[0]? = some (x[0]'h00) := by
          rw [List.getElem?_eq_getElem (by rw [← Lib.size_eq]; exact h00)]; rfl
        rw [h2] at this; exact Option.some.inj this
      have hlo := lowSet_is c
      have HT := Lib.hid ht; have HN := Lib.hid hn; have HG := Lib.hid hg; have HLO := Lib.hid hlo
      clear ht hn hg hlo hcr hlen
      cases hall : (c :: r).all namec with
      | false =>
        have ht2 : (⟨(Lib.trimS x.data.toList nameSet).toArray⟩ : ByteArray).toList.isEmpty = false := by rw [HT.out, hall]
        have HA := Lib.hid hall; clear hall
        go_enter Tryz.func62, Tryz.ntmps62
        go_wp2_with fail
        refine (Tryz.trim x ⟨nameSet.toArray⟩ _ (by omega) (by decide) (ascii_of_all (by decide))).mono ?_
        rintro e w1 ⟨rfl, hb⟩
        generalize (⟨(Lib.trimS x.data.toList nameSet).toArray⟩ : ByteArray) = tt at ht2
        have HB := Lib.hid hb; clear hb
        go_wp2_with fail
        go_ret
        exact ⟨by rw [HN.out, HA.out]; rfl, HB.out⟩
      | true =>
        have ht2 : (⟨(Lib.trimS x.data.toList nameSet).toArray⟩ : ByteArray).toList.isEmpty = true := by rw [HT.out, hall]
        have HA := Lib.hid hall; clear hall
        go_enter Tryz.func62, Tryz.ntmps62
        go_wp2_with fail
        refine (Tryz.trim x ⟨nameSet.toArray⟩ _ (by omega) (by decide) (ascii_of_all (by decide))).mono ?_
        rintro e w1 ⟨rfl, hb⟩
        generalize (⟨(Lib.trimS x.data.toList nameSet).toArray⟩ : ByteArray) = tt at ht2
        have HB := Lib.hid hb; clear hb
        go_wp2_with fail
        refine (Tryz.strings_IndexByte ⟨lowSet.toArray⟩ (x[0]'h00).toNat w1).mono ?_
        rintro e w2 ⟨rfl, rfl⟩
        have hk : decide (0 ≤ Lib.indexByte lowSet (((x[0]'h00).toNat : Int).toNat.toUInt8)) = low c := by
          rw [← HLO.out]
          have : (((x[0]'h00).toNat : Int).toNat.toUInt8) = c := by rw [HG.out]; simp
          rw [this]; rfl
        generalize hj : Lib.indexByte lowSet (((x[0]'h00).toNat : Int).toNat.toUInt8) = j at hk
        show _
        have hj2 : Lib.indexByte (⟨lowSet.toArray⟩ : ByteArray).data.toList (((x[0]'h00).toNat : Int).toNat.toUInt8) = j := hj
        simp only []
        clear hj hj2
        by_cases hjn : 0 ≤ j
        · have HL : Hid (low c = true) := by rw [← hk]; exact decide_eq_true hjn
          clear hk
          go_wp2_with fail
          go_ret
          exact ⟨by rw [HN.out, HA.out, HL.out]; rfl, HB.out⟩
        · have HL : Hid (low c = false) := by rw [← hk]; exact decide_eq_false hjn
          clear hk
          go_wp2_with fail
          go_ret
          exact ⟨by rw [HN.out, HA.out, HL.out]; rfl, HB.out⟩
    · have hn : nameB x.data.toList = false := by
        rw [hcr]; simp only [nameB]; rw [hlen, decide_eq_false h20]; rfl
      have HN := Lib.hid hn; clear hn hcr hlen
      go_enter Tryz.func62, Tryz.ntmps62
      go_wp2_with fail
      go_ret
      exact ⟨by rw [HN.out]; rfl, Below.refl _ _⟩
end Go.Proofs.YtgkphpjnfigjiaaGreatDoor
