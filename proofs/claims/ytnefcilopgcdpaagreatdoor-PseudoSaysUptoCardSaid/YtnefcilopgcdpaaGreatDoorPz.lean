/-
  Plain laws of louder messages; pseudo.doubled, pseudo.Text.
-/
import Derived.Test.YtnefcilopgcdpaaGreatDoorTxt
import Derived.Test.YtnefcilopgcdpaaGreatDoorSame
namespace Go.Proofs.YtnefcilopgcdpaaGreatDoor
open Go.RowKit Ms

def vows : List UInt8 := [97, 101, 105, 111, 117, 65, 69, 73, 79, 85]
def vow (c : UInt8) : Bool := vows.contains c
/-- each vowel twice -/
def dbl (l : List UInt8) : List UInt8 := l.flatMap fun c => if vow c = true then [c, c] else [c]
theorem dbl_cons (c : UInt8) (l : List UInt8) : dbl (c :: l) = (if vow c = true then [c, c] else [c]) ++ dbl l := by simp [dbl]
theorem dbl_snoc (l : List UInt8) (c : UInt8) : dbl (l ++ [c]) = dbl l ++ (if vow c = true then [c, c] else [c]) := by simp [dbl]
theorem dbl_len : ∀ l : List UInt8, l.length ≤ (dbl l).length ∧ (dbl l).length ≤ 2 * l.length
  | [] => by simp [dbl]
  | c :: l => by
    have := dbl_len l
    rw [dbl_cons]; split <;> simp <;> omega
theorem dbl_empty (l : List UInt8) : (dbl l).isEmpty = l.isEmpty := by
  cases l with
  | nil => rfl
  | cons c l => rw [dbl_cons]; split <;> rfl
/-- louder: the words' vowels twice; what is not looked at is zero -/
def pz : T → T
  | .nil => .nil
  | .node k x f cs nx => .node k (if k = 1 then dbl x else if k = 6 then [] else x) (if k = 4 then f else 0) (if hasC k = true then pz cs else .nil) (pz nx)
  | .case key body nx => .case key (pz body) (pz nx)
theorem pz_isN : ∀ t : T, (isN t = true → isN (pz t) = true) ∧ (isN.isC t = true → isN.isC (pz t) = true)
  | .nil => ⟨fun _ => rfl, fun _ => rfl⟩
  | .node k x f cs nx => by
    refine ⟨fun h => ?_, fun h => by cases h⟩
    have h' : isN.isC cs = true ∧ isN nx = true := by simpa [isN] using h
    simp only [pz, isN, (pz_isN nx).1 h'.2, Bool.and_true]
    split
    · exact (pz_isN cs).2 h'.1
    · rfl
  | .case key body nx => by
    refine ⟨fun h => (by cases h), fun h => ?_⟩
    have h' : isN body = true ∧ isN.isC nx = true := by simpa [isN.isC] using h
    simp only [pz, isN.isC, (pz_isN nx).2 h'.2, (pz_isN body).1 h'.1, Bool.and_true]
theorem pz_fine (k : Int) (x : List UInt8) (mark pw : Bool) : fine k (if k = 1 then dbl x else if k = 6 then [] else x) mark pw = fine k x mark pw := by
  by_cases h : k = 1
  · subst h; simp [fine, dbl_empty]
  · rw [if_neg h]; exact clean_fine k x mark pw
theorem pz_flt : ∀ (t : T) (mark pw : Bool) (kind : Int) (seen : List (List UInt8)), flt (pz t) mark pw kind seen = flt t mark pw kind seen
  | .nil, _, _, _, _ => rfl
  | .node k x f cs nx, mark, pw, kind, seen => by
    have e4 : (k = 4 ∧ ((if k = 4 then f else 0) < 0 ∨ (if k = 4 then f else 0) > 9)) ↔ (k = 4 ∧ (f < 0 ∨ f > 9)) := by
      constructor
      · rintro ⟨h, h'⟩; rw [if_pos h] at h'; exact ⟨h, h'⟩
      · rintro ⟨h, h'⟩; rw [if_pos h]; exact ⟨h, h'⟩
    simp only [pz, flt, pz_fine, pz_flt nx]
    by_cases hc : hasC k = true
    · simp only [hc, if_true, pz_flt cs, e4]
    · simp [hc, e4]
  | .case key body nx, mark, pw, kind, seen => by simp only [pz, flt, pz_flt body, pz_flt nx]
theorem pz_cnt : ∀ t : T, cnt (pz t) = cnt t
  | .nil => rfl
  | .node k x f cs nx => by
    simp only [pz, cnt, pz_cnt nx]
    by_cases hc : hasC k = true
    · simp only [hc, if_true, pz_cnt cs]
    · simp only [hc, if_false, Bool.false_eq_true]
  | .case key body nx => by simp only [pz, cnt, pz_cnt nx, pz_cnt body]
theorem pz_deep : ∀ (t : T) (d : Nat), deepB (pz t) d = deepB t d
  | .nil, _ => rfl
  | .node k x f cs nx, d => by
    simp only [pz, deepB, pz_deep nx]
    by_cases hc : hasC k = true
    · simp only [hc, if_true, pz_deep cs]
    · simp only [hc, Bool.false_and]
  | .case key body nx, d => by simp only [pz, deepB, pz_deep nx, pz_deep body]
theorem pz_fault (t : T) : fault (pz t) = fault t := by
  unfold fault big
  rw [pz_cnt, pz_deep, pz_flt]
theorem pz_wt : ∀ t : T, wt (pz t) ≤ 2 * wt t
  | .nil => by simp [pz, wt]
  | .node k x f cs nx => by
    have h1 := pz_wt nx; have h2 := pz_wt cs
    have h3 : 1 ≤ wt cs := by cases cs <;> simp [wt] <;> omega
    have h4 := (dbl_len x).2
    simp only [pz, wt]
    split <;> split <;> (try split) <;> simp [wt] <;> omega
  | .case key body nx => by have h1 := pz_wt nx; have h2 := pz_wt body; simp only [pz, wt]; omega
theorem pz_clean : ∀ t : T, clean (pz t) = pz t
  | .nil => rfl
  | .node k x f cs nx => by
    simp only [pz, clean, pz_clean nx]
    have e1 : (if k = 6 then [] else if k = 1 then dbl x else if k = 6 then [] else x) = (if k = 1 then dbl x else if k = 6 then [] else x) := by
      by_cases h : k = 6
      · subst h; simp
      · simp [h]
    have e2 : (if k = 4 then (if k = 4 then f else 0) else 0) = (if k = 4 then f else 0) := by split <;> rfl
    rw [e1, e2]
    by_cases hc : hasC k = true
    · simp only [hc, if_true, pz_clean cs]
    · simp [hc]
  | .case key body nx => by simp only [pz, clean, pz_clean body, pz_clean nx]
theorem txt_clean : ∀ (t : T) (mark pw : Bool) (kind : Int) (seen : List (List UInt8)), flt t mark pw kind seen = 0 → ∀ m, txt (clean t) m = txt t m
  | .nil, _, _, _, _, _, _ => rfl
  | .node k x f cs nx, mark, pw, kind, seen, h, m => by
    obtain ⟨h1, _, h3, h4⟩ := Ms.flt_node h
    have e := txt_clean nx _ _ _ _ h4 m
    rcases fine_kind h1 with rfl | rfl | rfl | rfl | rfl | ⟨rfl, _⟩
    · simp [clean, txt, e]
    · simp [clean, txt, e]
    · simp [clean, txt, e]
    · have e2 := txt_clean cs _ _ _ _ (h3 rfl) true
      simp [clean, txt, e, hasC, e2]
    · have e2 := txt_clean cs _ _ _ _ (h3 rfl) m
      simp [clean, txt, e, hasC, e2]
    · simp [clean, txt, e]
  | .case key body nx, mark, pw, kind, seen, h, m => by
    obtain ⟨_, _, h3, h4⟩ := Ms.flt_case h
    simp only [clean, txt, txt_clean body _ _ _ _ h3 m, txt_clean nx _ _ _ _ h4 m]
/-- it is the message just where the texts are the same -/
theorem pz_same {t : T} (hn : isN t = true) (h : fault t = 0) : sameT (pz t) (clean t) = (txt t false == txt (pz t) false) := by
  have hp := parse_back hn h
  have hp2 := parse_back ((pz_isN t).1 hn) (by rw [pz_fault]; exact h)
  rw [pz_clean] at hp2
  cases hs : sameT (pz t) (clean t) with
  | true =>
    have e := sameT_eq _ _ hs
    have e2 := txt_clean t _ _ _ _ (fault_0 h).1 false
    rw [e, e2]; simp
  | false =>
    cases he : (txt t false == txt (pz t) false) with
    | false => rfl
    | true =>
      have e : txt t false = txt (pz t) false := by simpa using he
      rw [e, hp2] at hp
      rw [Option.some.inj hp, sameT_refl] at hs
      cases hs

theorem vow_index (c : UInt8) : decide (0 ≤ Lib.indexByte vows ((c.toNat : Int).toNat.toUInt8)) = vow c := by
  have h : ∀ n, n < 256 → decide (0 ≤ Lib.indexByte vows (((UInt8.ofNat n).toNat : Int).toNat.toUInt8)) = vow (UInt8.ofNat n) := by decide +kernel
  have := h c.toNat c.toNat_lt
  rwa [UInt8.ofNat_toNat] at this

set_option maxHeartbeats 1000000 in
set_option maxRecDepth 100000 in
theorem doubled_any (s : ByteArray) (w : World) (hs : s.size ≤ 1000000000) :
    Calls Tryz.prog 11 #[.string s] w fun e w' => e = .returned (.string ⟨(dbl s.data.toList).toArray⟩) ∧ Below w.heap.size w w' := by
  have Hl := Lib.hid (Lib.size_eq s).symm
  have hI0 := Lib.hid (Lib.IsBuilderF.of (Lib.fresh_isBuilder 45 5 w))
  have hb0 := Lib.hid ((Below.refl w.heap.size w).alloc (Nat.le_refl _) (.cells #[.pointer none, .slice none 0 0] 45))
  go_enter Tryz.func11, Tryz.ntmps11
  go_wp2_with fail
  go_loopw [7] (fun i wr => ∃ (i' : Nat) (acc : List UInt8), i = .int .i64 i' ∧ i' ≤ s.size ∧ acc.length ≤ 2 * i' ∧ Hid (acc = dbl (s.data.toList.take i')) ∧ Hid (Lib.IsBuilderF 45 5 w.heap.size w.heap.size (Lib.byteCells acc) wr) ∧ Hid (Below w.heap.size w wr) ∧ w.heap.size < wr.heap.size) (fun i _ => s.size - (RowKit.intOf i).toNat)
  case atStart => exact ⟨0, [], rfl, by omega, by simp, by simp [Hid, dbl], hI0.out, hb0.out, by simp⟩
  case round =>
    obtain ⟨i, acc, rfl, hi2, hal, HA, HI, HB, hsz⟩ := hrel
    by_cases hi : i < s.size
    · have hx := Lib.data_getElem? s i hi
      have hx2 : s.data.toList.take (i + 1) = s.data.toList.take i ++ [s[i]] := by rw [List.take_add_one, hx]; rfl
      have HA2 := Lib.hid (show dbl (s.data.toList.take (i + 1)) = acc ++ (if vow s[i] = true then [s[i], s[i]] else [s[i]]) by rw [hx2, dbl_snoc, HA.out])
      have hv := vow_index s[i]
      have HX := Lib.hid (Tryz.strings_IndexByte ⟨#[97, 101, 105, 111, 117, 65, 69, 73, 79, 85]⟩ (s[i].toNat : Int))
      have hvl : (⟨#[97, 101, 105, 111, 117, 65, 69, 73, 79, 85]⟩ : ByteArray).data.toList = vows := rfl
      rw [hvl] at HX
      generalize Lib.indexByte vows ((s[i].toNat : Int).toNat.toUInt8) = q at HX hv
      clear hx hx2 hvl
      go_wp2_with fail
      refine (Tryz.writeByte w.heap.size w.heap.size _ (s[i].toNat : Int) _ HI.out (by rw [Lib.byteCells_length]; omega) (Nat.le_of_lt hsz)).mono ?_
      rintro e w2 ⟨rfl, h2, hb2, _⟩
      have Hb2 := Lib.hid (HB.out.trans hb2); have H2 := Lib.hid h2
      have hsz2 := Nat.lt_of_lt_of_le hsz hb2.size
      clear hb2 h2
      go_wp2_with fail
      refine (HX.out w2).mono ?_
      rintro e w3 ⟨rfl, rfl⟩
      have hI2 : Hid (Lib.IsBuilderF 45 5 w.heap.size w.heap.size (Lib.byteCells (acc ++ [s[i]])) w3) := by
        show Lib.IsBuilderF _ _ _ _ _ _
        rw [Lib.byteCells_append]; exact Or.inr H2.out
      cases hvw : vow s[i] with
      | true =>
        rw [hvw] at hv HA2
        simp only [if_true] at HA2
        have hq : 0 ≤ q := of_decide_eq_true hv
        clear hvw
        go_wp2_with fail
        refine (Tryz.writeByte w.heap.size w.heap.size _ (s[i].toNat : Int) _ hI2.out (by rw [Lib.byteCells_length]; simp; omega) (Nat.le_of_lt hsz2)).mono ?_
        rintro e w4 ⟨rfl, h4, hb4, _⟩
        have Hb4 := Lib.hid (Hb2.out.trans hb4); have H4 := Lib.hid h4
        have hsz4 := Nat.lt_of_lt_of_le hsz2 hb4.size
        clear hb4 h4
        go_wp2_with fail
        go_roundw
        case rel =>
          refine ⟨i + 1, acc ++ [s[i]] ++ [s[i]], by go_num, by omega, by simp; omega, ?_, ?_, Hb4, hsz4⟩
          · show _ = _
            rw [HA2.out]; simp
          · show Lib.IsBuilderF _ _ _ _ _ _
            rw [Lib.byteCells_append]; exact Or.inr H4.out
        case measure => simp [RowKit.intOf]; omega
      | false =>
        rw [hvw] at hv HA2
        simp only [Bool.false_eq_true, if_false] at HA2
        have hq : ¬ 0 ≤ q := of_decide_eq_false hv
        clear hvw
        go_wp2_with fail
        go_roundw
        case rel =>
          refine ⟨i + 1, acc ++ [s[i]], by go_num, by omega, by simp; omega, ?_, hI2, Hb2, hsz2⟩
          show _ = _
          rw [HA2.out]
        case measure => simp [RowKit.intOf]; omega
    · have hie : i = s.size := by omega
      have HF := Lib.hid (show acc = dbl s.data.toList by have h := HA.out; rw [hie, ← Hl.out, List.take_length] at h; exact h)
      clear hie
      go_wp2_with fail
      refine (Tryz.Builder_String_any_k w.heap.size w.heap.size acc _ HI.out (Nat.le_of_lt hsz)).mono ?_
      rintro e w1 ⟨rfl, _, hb1, _⟩
      have HB1 := Lib.hid (HB.out.trans hb1); clear hb1
      go_wp2_with fail
      go_ret
      exact ⟨by rw [HF.out] <;> rfl, HB1.out⟩
theorem bee_dbl : dbl [98, 101, 101] = [98, 101, 101, 101, 101] := by decide +kernel
set_option maxHeartbeats 1000000 in
set_option maxRecDepth 100000 in
theorem bee_any (w : World) : Calls Tryz.prog 4 #[.string ⟨#[98, 101, 101]⟩] w fun e w' => e = .returned (.string ⟨#[91, 98, 101, 101, 101, 101, 93]⟩) ∧ Below w.heap.size w w' := by
  have HD := Lib.hid (show Calls Tryz.prog 11 #[.string ⟨#[98, 101, 101]⟩] w fun e w' => e = .returned (.string ⟨#[98, 101, 101, 101, 101]⟩) ∧ Below w.heap.size w w' from by
    have h := doubled_any ⟨#[98, 101, 101]⟩ w (by decide)
    rw [show (⟨#[98, 101, 101]⟩ : ByteArray).data.toList = [98, 101, 101] from rfl, bee_dbl] at h; exact h)
  go_enter Tryz.func4, Tryz.ntmps4
  go_wp2_with fail
  refine HD.out.mono ?_
  rintro e w1 ⟨rfl, hb⟩
  have HB := Lib.hid hb; clear hb
  go_wp2_with fail
  go_ret
  exact ⟨rfl, HB.out⟩
end Go.Proofs.YtnefcilopgcdpaaGreatDoor
