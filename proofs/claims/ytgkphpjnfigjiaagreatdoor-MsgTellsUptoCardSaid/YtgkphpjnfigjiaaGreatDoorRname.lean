/-
  The reference's Name, In, Kinds, NumberOf, Exact, KeyFault: they answer as the program's own.
-/
import Derived.Test.YtgkphpjnfigjiaaGreatDoorOnly
import Derived.Test.YtgkphpjnfigjiaaGreatDoorMdig
import Derived.Test.YtgkphpjnfigjiaaGreatDoorChk
namespace Go.Proofs.YtgkphpjnfigjiaaGreatDoor
open Go.RowKit Ms

def nameL : List UInt8 := [97, 98, 99, 100, 101, 102, 103, 104, 105, 106, 107, 108, 109, 110, 111, 112, 113, 114, 115, 116, 117, 118, 119, 120, 121, 122, 48, 49, 50, 51, 52, 53, 54, 55, 56, 57, 95]
def lowL : List UInt8 := [97, 98, 99, 100, 101, 102, 103, 104, 105, 106, 107, 108, 109, 110, 111, 112, 113, 114, 115, 116, 117, 118, 119, 120, 121, 122]
theorem name_set (c : UInt8) : nameL.contains c = namec c := by
  have h : ∀ n, n < 256 → nameL.contains (UInt8.ofNat n) = namec (UInt8.ofNat n) := by decide +kernel
  have := h c.toNat c.toNat_lt
  rwa [UInt8.ofNat_toNat] at this
theorem low_set (c : UInt8) : lowL.contains c = low c := by
  have h : ∀ n, n < 256 → lowL.contains (UInt8.ofNat n) = low (UInt8.ofNat n) := by decide +kernel
  have := h c.toNat c.toNat_lt
  rwa [UInt8.ofNat_toNat] at this
theorem name_no {s : List UInt8} (h : onlyB s nameL 1 20 = false) : nameB s = false := by
  cases s with
  | nil => rfl
  | cons c r =>
    unfold onlyB at h
    have e : (c :: r).all (fun c => nameL.contains c) = (c :: r).all namec := by congr 1; funext c; exact name_set c
    rw [e] at h
    unfold nameB
    show (decide ((c :: r).length ≤ 20) && (c :: r).all namec && low c) = false
    cases ha : (c :: r).all namec with
    | false => rw [Bool.and_false, Bool.false_and]
    | true =>
      rw [ha, Bool.true_and, show decide ((1 : Int) ≤ ((c :: r).length : Int)) = true from decide_eq_true (by simp; omega), Bool.true_and] at h
      have h2 := of_decide_eq_false h
      rw [decide_eq_false (show ¬ (c :: r).length ≤ 20 by omega), Bool.false_and, Bool.false_and]
theorem name_yes {s : List UInt8} (h : onlyB s nameL 1 20 = true) : s ≠ [] ∧ nameB s = onlyB (s.take 1) lowL 1 1 := by
  cases s with
  | nil => cases h
  | cons c r =>
    refine ⟨by simp, ?_⟩
    unfold onlyB at h
    have e : (c :: r).all (fun c => nameL.contains c) = (c :: r).all namec := by congr 1; funext c; exact name_set c
    rw [e] at h
    simp only [Bool.and_eq_true, decide_eq_true_eq] at h
    show (decide ((c :: r).length ≤ 20) && (c :: r).all namec && low c) = _
    rw [h.1, decide_eq_true (show (c :: r).length ≤ 20 by omega)]
    simp only [onlyB]
    rw [show (List.take 1 (c :: r)) = [c] from rfl]
    simp only [List.all_cons, List.all_nil, low_set]
    simp

set_option maxHeartbeats 1000000 in
set_option maxRecDepth 100000 in
theorem rname_any (s : ByteArray) (w : World) (hs : s.size ≤ 2000000) :
    Calls Tryz.prog 47 #[.string s] w fun e w' => e = .returned (.bool (nameB s.data.toList)) ∧ Below w.heap.size w w' := by
  have h1 : ∀ W, Calls Tryz.prog 58 #[.string s, .string ⟨#[97, 98, 99, 100, 101, 102, 103, 104, 105, 106, 107, 108, 109, 110, 111, 112, 113, 114, 115, 116, 117, 118, 119, 120, 121, 122, 48, 49, 50, 51, 52, 53, 54, 55, 56, 57, 95]⟩, .int .i64 1, .int .i64 20] W fun e w' => e = .returned (.bool (onlyB s.data.toList nameL 1 20)) ∧ Below W.heap.size W w' := fun W => only_any s ⟨#[97, 98, 99, 100, 101, 102, 103, 104, 105, 106, 107, 108, 109, 110, 111, 112, 113, 114, 115, 116, 117, 118, 119, 120, 121, 122, 48, 49, 50, 51, 52, 53, 54, 55, 56, 57, 95]⟩ 1 20 W (by omega) (by decide)
  cases hb : onlyB s.data.toList nameL 1 20 with
  | false =>
    have HR := Lib.hid (name_no hb)
    rw [hb] at h1
    have H1 := Lib.hid h1
    clear h1 hb
    go_enter Tryz.func47, Tryz.ntmps47
    go_wp2_with fail
    refine (H1.out _).mono ?_
    rintro e w1 ⟨rfl, hb1⟩
    have HB1 := Lib.hid hb1; clear hb1
    go_wp2_with fail
    go_ret
    exact ⟨by rw [HR.out] <;> rfl, HB1.out⟩
  | true =>
    obtain ⟨hne, hr⟩ := name_yes hb
    have hpos : 1 ≤ s.size := by
      have h2 := Lib.size_eq s
      have := List.length_pos_iff.2 hne; omega
    have h2 : ∀ W, Calls Tryz.prog 58 #[.string (s.extract 0 1), .string ⟨#[97, 98, 99, 100, 101, 102, 103, 104, 105, 106, 107, 108, 109, 110, 111, 112, 113, 114, 115, 116, 117, 118, 119, 120, 121, 122]⟩, .int .i64 1, .int .i64 1] W fun e w' => e = .returned (.bool (nameB s.data.toList)) ∧ Below W.heap.size W w' := fun W => by
      have h3 := only_any (s.extract 0 1) ⟨#[97, 98, 99, 100, 101, 102, 103, 104, 105, 106, 107, 108, 109, 110, 111, 112, 113, 114, 115, 116, 117, 118, 119, 120, 121, 122]⟩ 1 1 W (by rw [ByteArray.size_extract]; omega) (by decide)
      rw [show (s.extract 0 1).data.toList = s.data.toList.take 1 from Lib.extract_from_zero s 1] at h3
      rw [hr]; exact h3
    rw [hb] at h1
    have H1 := Lib.hid h1; have H2 := Lib.hid h2
    clear h1 h2 hb hr hne
    go_enter Tryz.func47, Tryz.ntmps47
    go_wp2_with fail
    refine (H1.out _).mono ?_
    rintro e w1 ⟨rfl, hb1⟩
    have HB1 := Lib.hid hb1; clear hb1
    go_wp2_with fail
    refine (H2.out _).mono ?_
    rintro e w2 ⟨rfl, hb2⟩
    have HB2 := Lib.hid (HB1.out.trans (hb2.mono HB1.out.size)); clear hb2
    go_wp2_with fail
    go_ret
    exact ⟨rfl, HB2.out⟩

theorem str_eq (k : List UInt8) (x : ByteArray) : (k == x.toList) = (k == x.data.toList) := by
  rw [Lib.toList_data]
theorem contains_snoc {l : List (List UInt8)} {i : Nat} {k x : List UInt8} (h : l[i]? = some k) : (l.take (i + 1)).contains x = ((l.take i).contains x || (k == x)) := by
  rw [List.take_add_one, h, List.contains_eq_any_beq, List.contains_eq_any_beq, List.any_append]
  congr 1
  simp [Bool.beq_comm]
set_option maxHeartbeats 1000000 in
set_option maxRecDepth 100000 in
/-- In, of texts at a place -/
theorem in_any (b o n c : Nat) (l : List (List UInt8)) (x : ByteArray) (w : World) (hl : l.length = n) (hn : n ≤ 2000000) (hc : ∀ j k, l[j]? = some k → w.cell? ⟨b, o + j, none⟩ = some (.string ⟨k.toArray⟩)) :
    Calls Tryz.prog 49 #[.slice (some ⟨b, o, none⟩) n c, .string x] w fun e w' => e = .returned (.bool (l.contains x.data.toList)) ∧ w' = w := by
  have HC := Lib.hid hc; have HL := Lib.hid hl
  clear hc hl
  obtain ⟨ans, hans⟩ : ∃ ans, l.contains x.data.toList = ans := ⟨_, rfl⟩
  rw [hans]
  have HA := Lib.hid hans
  clear hans
  go_enter Tryz.func49, Tryz.ntmps49
  go_wp2_with fail
  go_loop [5] (fun i => ∃ i' : Nat, i = .int .i64 i' ∧ i' ≤ n ∧ Hid ((l.take i').contains x.data.toList = false)) (fun i => n - (RowKit.intOf i).toNat)
  case atStart => exact ⟨0, rfl, by omega, by simp [Hid]⟩
  case round =>
    obtain ⟨i, rfl, hi2, HI⟩ := hrel
    by_cases hi : i < n
    · obtain ⟨k, hk⟩ : ∃ k, l[i]? = some k := ⟨l[i]'(by have := HL.out; omega), by simp⟩
      have c0 := HC.out i k hk
      have hsn := contains_snoc (x := x.data.toList) hk
      rw [HI.out, Bool.false_or] at hsn
      have hse := str_eq k x
      cases hq : (k == x.data.toList) with
      | true =>
        rw [hq] at hsn hse
        have HR := Lib.hid (show ans = true by
          rw [← HA.out]
          have h1 : k = x.data.toList := by simpa using hq
          have h2 := List.mem_of_getElem? hk
          rw [h1] at h2; simpa using h2)
        clear hsn hq hk
        go_wp2_with fail
        go_ret
        exact ⟨by rw [HR.out] <;> rfl, rfl⟩
      | false =>
        rw [hq] at hsn hse
        have HSN := Lib.hid hsn
        clear hsn hq hk
        go_wp2_with fail
        go_round
        case rel => exact ⟨i + 1, by go_num, by omega, HSN⟩
        case measure => simp [RowKit.intOf]; omega
    · have hie : i = n := by omega
      subst hie
      have HR := Lib.hid (show ans = false by have := HI.out; rw [← HL.out, List.take_length] at this; rw [← HA.out]; exact this)
      go_wp2_with fail
      go_ret
      exact ⟨by rw [HR.out] <;> rfl, rfl⟩
theorem in_none (a : Option Addr) (c : Nat) (x : ByteArray) (w : World) :
    Calls Tryz.prog 49 #[.slice a 0 c, .string x] w fun e w' => e = .returned (.bool false) ∧ w' = w := by
  go_enter Tryz.func49, Tryz.ntmps49
  go_wp2_with fail
  go_loop [5] (fun i => i = .int .i64 0) (fun _ => 0)
  case atStart => rfl
  case round =>
    subst hrel
    go_wp2_with fail
    go_ret
    exact ⟨rfl, rfl⟩
/-- In, of texts that the call gathered -/
theorem in_own {w : World} {base : Nat} {vs : Value} {seen : List (List UInt8)} (h : w.ownsRow base 9 1 vs seen.length (keysV seen)) (x : ByteArray) (hl : seen.length ≤ 2000000) :
    Calls Tryz.prog 49 #[vs, .string x] w fun e w' => e = .returned (.bool (seen.contains x.data.toList)) ∧ w' = w := by
  rcases h.2 with ⟨rfl, h0⟩ | ⟨g, cap, cur, rfl, hb, hg, hcap, _, _, htake⟩
  · have : seen = [] := List.length_eq_zero_iff.1 h0
    subst this
    exact in_none none 0 x w
  · refine in_any g 0 seen.length cap seen x w rfl hl ?_
    intro j k hj
    have hc := h.cells (g := g) rfl j (.string ⟨k.toArray⟩) (by simp [keysV, hj])
    have ha : (⟨g, 0, none⟩ : Addr).add j = ⟨g, 0 + j, none⟩ := by rw [Nat.zero_add]; unfold Addr.add; split <;> simp_all
    rw [ha] at hc
    exact hc

def kinds5 : List (List UInt8) := [[122, 101, 114, 111], [111, 110, 101], [116, 119, 111], [102, 101, 119], [109, 97, 110, 121]]
theorem kinds_split (key : List UInt8) : kindsL.contains key = (kinds5.contains key || key == otherK) := by
  rw [Bool.eq_iff_iff]
  simp [kindsL, kinds5, otherK, or_assoc]
set_option maxHeartbeats 1000000 in
set_option maxRecDepth 100000 in
/-- In, of the kinds -/
theorem kinds_any (w : World) : Calls Tryz.prog 77 #[] w fun e w' => (∃ b c, e = .returned (.slice (some ⟨b, 0, none⟩) 5 c) ∧ ∀ j k, kinds5[j]? = some k → w'.cell? ⟨b, 0 + j, none⟩ = some (.string ⟨k.toArray⟩)) ∧ Below w.heap.size w w' := by
  go_enter Tryz.func77, Tryz.ntmps77
  go_wp2_with fail
  go_ret
  refine ⟨⟨_, _, rfl, ?_⟩, (Below.refl _ _).alloc (Nat.le_refl _) _⟩
  intro j k hj
  have hj5 : j < 5 := (List.getElem?_eq_some_iff.1 hj).1
  match j, hj5 with
  | 0, _ => cases hj; simp
  | 1, _ => cases hj; simp
  | 2, _ => cases hj; simp
  | 3, _ => cases hj; simp
  | 4, _ => cases hj; simp

/-! ### numbers -/
def val (l : List UInt8) : Nat := l.foldl (fun a c => 10 * a + (c.toNat - 48)) 0
theorem val_snoc (l : List UInt8) (c : UInt8) : val (l ++ [c]) = 10 * val l + (c.toNat - 48) := by simp [val]
theorem val_dec (n : Nat) : val (Lib.decDigits n) = n := by
  induction n using Nat.strongRecOn with
  | _ n ih =>
    have hb : ∀ k, k < 10 → (UInt8.ofNat (48 + k)).toNat - 48 = k := by decide
    by_cases h : n < 10
    · rw [Lib.decDigits, dif_pos h]
      simp only [val, List.foldl_cons, List.foldl_nil]
      rw [hb n h]; omega
    · rw [Lib.decDigits, dif_neg h, val_snoc, ih (n / 10) (by omega), hb _ (Nat.mod_lt _ (by omega))]; omega
theorem num_yes {r : List UInt8} {n : Nat} (hn : n < 1000) (h : Lib.decDigits n = r) : numOf r = some n := by
  cases hf : numOf r with
  | none =>
    unfold numOf at hf
    have := List.find?_eq_none.1 hf n (List.mem_range.2 hn)
    simp [h] at this
  | some m =>
    unfold numOf at hf
    have h1 : Lib.decDigits m = r := by simpa using List.find?_some hf
    have h2 := val_dec m
    rw [h1, ← h, val_dec] at h2
    rw [h2]
theorem num_no {r : List UInt8} (h : ∀ n, n < 1000 → Lib.decDigits n ≠ r) : numOf r = none := by
  unfold numOf
  rw [List.find?_eq_none]
  intro n hn
  simpa using h n (List.mem_range.1 hn)
def numV (r : List UInt8) : Int := match numOf r with
  | some n => (n : Int)
  | none => -1
theorem numV_yes {r : List UInt8} {n : Nat} (hn : n < 1000) (h : Lib.decDigits n = r) : numV r = n := by unfold numV; rw [num_yes hn h]
theorem numV_no {r : List UInt8} (h : ∀ n, n < 1000 → Lib.decDigits n ≠ r) : numV r = -1 := by unfold numV; rw [num_no h]
theorem byte_lt (c : UInt8) : ((c.toNat : Int) < 48) = (c.toNat < 48) := by simp; omega
theorem digit_of (c : UInt8) : digit c = true ↔ 48 ≤ c.toNat ∧ c.toNat ≤ 57 := by
  unfold digit
  rw [Bool.and_eq_true, decide_eq_true_eq, decide_eq_true_eq, UInt8.le_iff_toNat_le, UInt8.le_iff_toNat_le]
  exact Iff.rfl

set_option maxHeartbeats 1000000 in
set_option maxRecDepth 100000 in
theorem rnumber_any (r : ByteArray) (w : World) (hr : r.size ≤ 3) :
    Calls Tryz.prog 103 #[.string r] w fun e w' => e = .returned (.int .i64 (numV r.data.toList)) ∧ Below w.heap.size w w' := by
  have Hl := Lib.hid (Lib.size_eq r).symm
  by_cases h0 : r.size = 0
  · have HR := Lib.hid (show numV r.data.toList = -1 from numV_no fun n _ h => by
      have := dec_pos n
      rw [h, nil_of_size h0] at this; cases this)
    have h0b : ((r.size : Int) == 0) = true := by rw [beq_iff_eq]; omega
    go_enter Tryz.func103, Tryz.ntmps103
    go_wp2_with fail
    go_ret
    exact ⟨by rw [HR.out] <;> rfl, Below.refl _ _⟩
  · have h0b : ((r.size : Int) == 0) = false := beq_eq_false_iff_ne.2 (by omega)
    go_enter Tryz.func103, Tryz.ntmps103
    go_wp2_with fail
    go_loop [3, 4] (fun a i => ∃ i' u : Nat, a = .int .i64 u ∧ i = .int .i64 i' ∧ i' ≤ r.size ∧ u < 10 ^ i' ∧ Hid (u = val (r.data.toList.take i'))) (fun _ i => r.size - (RowKit.intOf i).toNat)
    case atStart => exact ⟨0, 0, rfl, rfl, by omega, by decide, by simp [Hid, val]⟩
    case round =>
      obtain ⟨i, u, rfl, rfl, hi2, hu, HV⟩ := hrel
      have hu3 : u < 1000 := Nat.lt_of_lt_of_le hu (show 10 ^ i ≤ 10 ^ 3 from Nat.pow_le_pow_right (by decide) (by omega))
      by_cases hi : i < r.size
      · have hx := Lib.data_getElem? r i hi
        have hx2 : r.data.toList.take (i + 1) = r.data.toList.take i ++ [r[i]] := by rw [List.take_add_one, hx]; rfl
        have hbad : digit r[i] = false → numV r.data.toList = -1 := fun hd => numV_no fun n _ h => by
          have h1 := dec_digit n r[i] (by rw [h]; exact List.mem_of_getElem? hx)
          rw [hd] at h1; cases h1
        have HX2 := Lib.hid hx2; have HBad := Lib.hid hbad
        clear hx hx2 hbad
        have hb8 := UInt8.toNat_lt r[i]
        by_cases hlo : r[i].toNat < 48
        · have HR := Lib.hid (HBad.out (by cases h : digit r[i] with
            | false => rfl
            | true => have := (digit_of _).1 h; omega))
          have hlo' : decide ((r[i].toNat : Int) < 48) = true := decide_eq_true (by omega)
          go_wp2_with fail
          go_ret
          exact ⟨by rw [HR.out] <;> rfl, Below.refl _ _⟩
        · have hlo' : decide ((r[i].toNat : Int) < 48) = false := decide_eq_false (by omega)
          by_cases hhi : 57 < r[i].toNat
          · have HR := Lib.hid (HBad.out (by cases h : digit r[i] with
              | false => rfl
              | true => have := (digit_of _).1 h; omega))
            have hhi' : decide ((57 : Int) < (r[i].toNat : Int)) = true := decide_eq_true (by omega)
            go_wp2_with fail
            go_ret
            exact ⟨by rw [HR.out] <;> rfl, Below.refl _ _⟩
          · have hhi' : decide ((57 : Int) < (r[i].toNat : Int)) = false := decide_eq_false (by omega)
            go_wp2_with fail
            go_round
            case rel =>
              refine ⟨i + 1, 10 * u + (r[i].toNat - 48), by go_num, by go_num, by omega, ?_, ?_⟩
              · rw [Nat.pow_succ]; omega
              · show _ = _
                rw [HX2.out, val_snoc, ← HV.out]
            case measure => simp [RowKit.intOf]; omega
      · have hie : i = r.size := by omega
        have HV2 := Lib.hid (show u = val r.data.toList by have := HV.out; rw [hie, ← Hl.out, List.take_length] at this; exact this)
        have hdg := fun W => rdigits_any 2 u 0 W (by omega) (by omega) (by decide)
        rw [show padTo 0 (u : Int) = Lib.decDigits u by rw [padTo_nat]; simp] at hdg
        have HD := Lib.hid hdg
        clear hdg
        subst hie
        go_wp2_with fail
        refine (HD.out _).mono ?_
        rintro e w1 ⟨rfl, hb⟩
        have HB := Lib.hid hb; clear hb
        have hse := str_eq (Lib.decDigits u) r
        cases hq : (Lib.decDigits u == r.data.toList) with
        | true =>
          have HR := Lib.hid (numV_yes hu3 (by simpa using hq))
          rw [hq] at hse
          clear hq
          go_wp2_with fail
          go_ret
          exact ⟨by rw [HR.out] <;> rfl, HB.out⟩
        | false =>
          have HR := Lib.hid (show numV r.data.toList = -1 from numV_no fun n hn h => by
            have h1 := HV2.out
            rw [← h, val_dec] at h1
            subst h1
            rw [h] at hq; simp at hq)
          rw [hq] at hse
          clear hq
          go_wp2_with fail
          go_ret
          exact ⟨by rw [HR.out] <;> rfl, HB.out⟩
theorem dec_three {n : Nat} (h : n < 1000) : (Lib.decDigits n).length ≤ 3 := by have := dec_len 3 n (by omega); omega
set_option maxHeartbeats 1000000 in
set_option maxRecDepth 100000 in
theorem rexact_any (x : ByteArray) (w : World) (hx : x.size ≤ 2000000) :
    Calls Tryz.prog 78 #[.string x] w fun e w' => e = .returned (.int .i64 (exactN x.data.toList)) ∧ Below w.heap.size w w' := by
  have HS := Lib.hid (fun W => starts_any x ⟨#[61]⟩ W)
  cases hp : Lib.hasPrefix x.data.toList (⟨#[61]⟩ : ByteArray).data.toList with
  | false =>
    have HR := Lib.hid (show exactN x.data.toList = -1 by
      cases h : x.data.toList with
      | nil => rfl
      | cons a r =>
        rw [exactN_cons, if_neg]
        rintro rfl
        rw [h] at hp
        simp [Lib.hasPrefix] at hp)
    rw [hp] at HS
    clear hp
    go_enter Tryz.func78, Tryz.ntmps78
    go_wp2_with fail
    refine (HS.out _).mono ?_
    rintro e w1 ⟨rfl, rfl⟩
    go_wp2_with fail
    go_ret
    exact ⟨by rw [HR.out] <;> rfl, Below.refl _ _⟩
  | true =>
    obtain ⟨r, hr⟩ : ∃ r, x.data.toList = 61 :: r := by
      cases h : x.data.toList with
      | nil => rw [h] at hp; cases hp
      | cons a r =>
        rw [h] at hp
        have : 61 = a := by simpa [Lib.hasPrefix] using hp
        exact ⟨r, by rw [← this]⟩
    have hE : exactN x.data.toList = numV r := by rw [hr, exactN_cons, if_pos rfl]; rfl
    have hl : x.size = r.length + 1 := by rw [Lib.size_eq, hr]; rfl
    have HL := Lib.hid hl; have Hr := Lib.hid hr
    clear hl hr
    rw [hp] at HS
    clear hp
    by_cases h4 : 4 < x.size
    · have HR := Lib.hid (show exactN x.data.toList = -1 by
        rw [hE]
        exact numV_no fun n hn h => by have := dec_three hn; rw [h] at this; have := HL.out; omega)
      clear hE
      go_enter Tryz.func78, Tryz.ntmps78
      go_wp2_with fail
      refine (HS.out _).mono ?_
      rintro e w1 ⟨rfl, rfl⟩
      go_wp2_with fail
      go_ret
      exact ⟨by rw [HR.out] <;> rfl, Below.refl _ _⟩
    · have hN : ∀ W, Calls Tryz.prog 103 #[.string (x.extract 1 x.size)] W fun e w' => e = .returned (.int .i64 (exactN x.data.toList)) ∧ Below W.heap.size W w' := fun W => by
        have h := rnumber_any (x.extract 1 x.size) W (by rw [ByteArray.size_extract]; omega)
        have e : (x.extract 1 x.size).data.toList = r := by
          rw [Lib.extract_data, Hr.out]
          simp [HL.out]
        rw [e, ← hE] at h; exact h
      have HN := Lib.hid hN
      have hx1 : 1 ≤ x.size := by have := HL.out; omega
      clear hN hE
      go_enter Tryz.func78, Tryz.ntmps78
      go_wp2_with fail
      refine (HS.out _).mono ?_
      rintro e w1 ⟨rfl, rfl⟩
      go_wp2_with fail
      refine (HN.out _).mono ?_
      rintro e w1 ⟨rfl, hb⟩
      have HB := Lib.hid hb; clear hb
      go_wp2_with fail
      go_ret
      exact ⟨rfl, HB.out⟩

theorem other_eq (x : ByteArray) : (x.toList == [111, 116, 104, 101, 114]) = (x.data.toList == otherK) := by
  rw [Lib.toList_data]; rfl
set_option maxHeartbeats 1000000 in
set_option maxRecDepth 100000 in
theorem keyfault_any (k f : Int) (t : ByteArray) (v : Value) (x : ByteArray) (w : World) (hx : x.size ≤ 2000000) :
    Calls Tryz.prog 48 #[.agg #[.int .i64 k, .string t, .int .i64 f, v], .string x] w fun e w' => e = .returned (.bool (!keyB k x.data.toList)) ∧ Below w.heap.size w w' := by
  have HB0 := Lib.hid ((Below.refl w.heap.size w).alloc (Nat.le_refl _) (.cells #[.int .i64 k, .string t, .int .i64 f, v] 35))
  by_cases h5 : k = 5
  · subst h5
    have HK := Lib.hid (show keyB 5 x.data.toList = nameB x.data.toList from rfl)
    go_enter Tryz.func48, Tryz.ntmps48
    go_wp2_with fail
    refine (rname_any x _ hx).mono ?_
    rintro e w1 ⟨rfl, hb⟩
    have HB := Lib.hid (HB0.out.trans (hb.mono HB0.out.size)); clear hb
    go_wp2_with fail
    go_ret
    exact ⟨by rw [HK.out] <;> rfl, HB.out⟩
  · have hk : keyB k x.data.toList = ((kinds5.contains x.data.toList || x.data.toList == otherK) || decide (0 ≤ exactN x.data.toList)) := by unfold keyB; rw [if_neg h5, kinds_split]
    have ho := other_eq x
    cases hq : (x.data.toList == otherK) with
    | true =>
      rw [hq] at ho hk
      have ho2 : x.toList = [111, 116, 104, 101, 114] := by simpa using ho
      have HK := Lib.hid (show keyB k x.data.toList = true by rw [hk]; simp)
      clear hk hq
      go_enter Tryz.func48, Tryz.ntmps48
      go_wp2_with fail
      go_ret
      exact ⟨by rw [HK.out] <;> rfl, HB0.out⟩
    | false =>
      rw [hq, Bool.or_false] at hk
      rw [hq] at ho
      have HK := Lib.hid hk
      clear hk hq
      go_enter Tryz.func48, Tryz.ntmps48
      go_wp2_with fail
      refine (kinds_any _).mono ?_
      rintro e w1 ⟨⟨b, c, rfl, hc⟩, hb⟩
      have HB := Lib.hid (HB0.out.trans (hb.mono HB0.out.size)); clear hb
      have HI := Lib.hid (in_any b 0 5 c kinds5 x w1 rfl (by decide) hc)
      clear hc
      go_wp2_with fail
      refine HI.out.mono ?_
      rintro e w2 ⟨rfl, rfl⟩
      cases hin : kinds5.contains x.data.toList with
      | true =>
        have HR := Lib.hid (show keyB k x.data.toList = true by rw [HK.out, hin]; rfl)
        clear hin
        go_wp2_with fail
        go_ret
        exact ⟨by rw [HR.out] <;> rfl, HB.out⟩
      | false =>
        have HR := Lib.hid (show keyB k x.data.toList = decide (0 ≤ exactN x.data.toList) by rw [HK.out, hin]; rfl)
        clear hin
        go_wp2_with fail
        refine (rexact_any x _ hx).mono ?_
        rintro e w3 ⟨rfl, hb3⟩
        have HB3 := Lib.hid (HB.out.trans (hb3.mono HB.out.size)); clear hb3
        go_wp2_with fail
        go_ret
        refine ⟨?_, HB3.out⟩
        rw [HR.out]
        refine ret_bool ?_
        by_cases h0 : 0 ≤ exactN x.data.toList
        · rw [decide_eq_true h0, decide_eq_false (by omega)]; rfl
        · rw [decide_eq_false h0, decide_eq_true (by omega)]; rfl
end Go.Proofs.YtgkphpjnfigjiaaGreatDoor
