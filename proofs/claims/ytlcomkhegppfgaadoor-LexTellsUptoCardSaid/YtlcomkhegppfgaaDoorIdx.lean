/-
  strings.IndexAny and ContainsAny at a set of ASCII bytes, for whatever text: the library's contracts ask that the short text be ASCII too. Here the short road is walked for every text: a rune beyond ASCII is never found among ASCII bytes.
-/
import Derived.Test.YtlcomkhegppfgaaDoorShelf
import Derived.Test.YtlcomkhegppfgaaDoorBld
import Derived.Test.YtlcomkhegppfgaaDoorKit
import Derived.Laws.RangeAny
import Derived.Lib.OthersKept
import Derived.Shelf.Strings.SlTrimAscii
namespace Go.Proofs.YtlcomkhegppfgaaDoor
open Go.Shelf Go.RowKit Go.Lib

theorem Tryd.cont_high (s : ByteArray) (i : Nat) (hk : i < s.size) (h : (s.get! i).toNat / 64 = 2) : 128 ≤ (s[i]'hk).toNat := by
  have e2 : s.get! i = s[i]'hk := by
    simp [ByteArray.get!, getElem!_pos, hk]; rfl
  rw [e2] at h; omega
/-- what a step over a rune beyond ASCII skips is no ASCII byte -/
theorem Tryd.decode_skips (s : ByteArray) (pos : Nat) (h : pos < s.size) (ha : 128 ≤ (s[pos]'h).toNat) :
    ∀ j (hj : j < s.size), pos ≤ j → j < pos + (Utf8.decode s pos).2 → 128 ≤ (s[j]'hj).toNat := by
  intro j hjs hj hlt
  have hn : ¬ (s[pos]'h).toNat < 128 := by omega
  rcases Nat.lt_or_ge pos j with h1 | h1
  · obtain ⟨k, rfl⟩ : ∃ k, j = pos + k := ⟨j - pos, by omega⟩
    refine Tryd.cont_high s (pos + k) hjs ?_
    simp only [Utf8.decode, get_at s pos h, hn, if_false] at hlt
    repeat' split at hlt
    all_goals simp only [Bool.and_eq_true, beq_iff_eq, decide_eq_true_eq] at *
    all_goals try omega
    all_goals
      have hk : k = 1 ∨ k = 2 ∨ k = 3 := by omega
      rcases hk with rfl | rfl | rfl <;> omega
  · have : j = pos := by omega
    subst this
    exact ha

theorem Tryd.indexByte_none (l : List UInt8) (x : UInt8) (h : ∀ b ∈ l, b ≠ x) : Lib.indexByte l x = -1 := by
  induction l with
  | nil => rfl
  | cons b l ih =>
    have := ih (fun c hc => h c (by simp [hc]))
    have hb := h b (by simp)
    simp [Lib.indexByte, this, hb]

set_option maxHeartbeats 2000000 in
set_option maxRecDepth 1000000 in
/-- the error rune is none of ASCII bytes -/
theorem Tryd.indexRune_err (s : ByteArray) (w : World) (hascii : ∀ (j : Nat) b, s.data.toList[j]? = some b → b.toNat < 128) :
    Calls Tryd.prog 30 #[.string s, .int .i32 65533] w fun e w' => e = .returned (.int .i64 (-1)) ∧ Below w.heap.size w w' := by
  have HA := Lib.hid hascii; clear hascii
  go_enter Tryd.func30, Tryd.ntmps30
  go_wp2_with fail
  go_loopg [5, 6] s.size (fun g _ _ wx => ∃ i : Nat, i + g = s.size ∧ wx = w.iter s i)
  case atStart => exact ⟨0, by omega, rfl⟩
  case round =>
    obtain ⟨i, hig, rfl⟩ := hrel
    cases gk with
    | zero =>
      obtain rfl : i = s.size := by omega
      have hnx := run_next_end (P := Tryd.prog) w s s.size
      go_wp2
      go_ret
      exact ⟨rfl, (Below.refl _ _).alloc (Nat.le_refl _) _⟩
    | succ g =>
      have hi : i < s.size := by omega
      obtain ⟨x, hx⟩ : ∃ x : UInt8, s[i]'hi = x := ⟨_, rfl⟩
      have hxl : s.data.toList[i]? = some x := by rw [← hx]; exact Lib.data_getElem? s i hi
      have hx128 : x.toNat < 128 := HA.out i x hxl
      have hnx := fun ty => run_next_ascii (P := Tryd.prog) w s i ty hi (by rw [hx]; exact hx128)
      rw [hx] at hnx
      clear hxl hx
      have hne : ((x.toNat : Int) == 65533) = false := beq_eq_false_iff_ne.2 (by omega)
      go_wp2
      go_roundg g
      case measure => omega
      case rel => exact ⟨i + 1, by omega, rfl⟩

set_option maxHeartbeats 2000000 in
set_option maxRecDepth 1000000 in
/-- a rune beyond ASCII that is none: not found -/
theorem Tryd.indexRune_invalid (s : ByteArray) (r : Int) (w : World) (h0 : 128 ≤ r) (h1 : r ≤ 2147483647) (hv : Lib.validRune r = false) (hne : (r == 65533) = false) :
    Calls Tryd.prog 30 #[.string s, .int .i32 r] w fun e w' => e = .returned (.int .i64 (-1)) ∧ w' = w := by
  have hlt : ¬ r < 128 := by omega
  have hz : 0 ≤ r := by omega
  go_enter Tryd.func30, Tryd.ntmps30
  go_wp2_with (go_at_call 44; refine (Tryd.utf8_ValidRune _ _).mono ?_; rintro e w' ⟨rfl, hw⟩; rw [hw, hv]; clear hw)
  go_ret
  exact ⟨rfl, rfl⟩

def Tryd.HighB (E : ByteArray) : Prop := 2 ≤ E.size ∧ E.size ≤ 4 ∧ ∀ i (h : i < E.size), 128 ≤ (E[i]'h).toNat
theorem Tryd.encode_high (r : Int) (h0 : 128 ≤ r) : Tryd.HighB (Utf8.encode r) := by
  have hv : Utf8.valid r = true → r ≤ 1114111 := by
    intro h; simp [Utf8.valid] at h; omega
  unfold Utf8.encode Utf8.runeError
  simp only []
  obtain ⟨c, hc⟩ : ∃ c, (if Utf8.valid r = true then r.toNat else 0xFFFD) = c := ⟨_, rfl⟩
  have hc1 : 128 ≤ c ∧ c ≤ 1114111 := by
    rw [← hc]
    split
    · rename_i h; have := hv h; omega
    · omega
  rw [hc]
  clear hc hv
  have h3 : ¬ c < 128 := by omega
  rw [if_neg h3]
  have hb : ∀ n : Nat, 128 ≤ n → n < 256 → 128 ≤ (UInt8.ofNat n).toNat := by
    intro n h1 h2; simp; omega
  split
  · refine ⟨(by decide : 2 ≤ 2), (by decide : 2 ≤ 4), ?_⟩
    intro i h
    have h' : i < 2 := h
    match i, h' with
    | 0, _ => exact hb _ (by omega) (by omega)
    | 1, _ => exact hb _ (by omega) (by omega)
  · split
    · refine ⟨(by decide : 2 ≤ 3), (by decide : 3 ≤ 4), ?_⟩
      intro i h
      have h' : i < 3 := h
      match i, h' with
      | 0, _ => exact hb _ (by omega) (by omega)
      | 1, _ => exact hb _ (by omega) (by omega)
      | 2, _ => exact hb _ (by omega) (by omega)
    · refine ⟨(by decide : 2 ≤ 4), (by decide : 4 ≤ 4), ?_⟩
      intro i h
      have h' : i < 4 := h
      match i, h' with
      | 0, _ => exact hb _ (by omega) (by omega)
      | 1, _ => exact hb _ (by omega) (by omega)
      | 2, _ => exact hb _ (by omega) (by omega)
      | 3, _ => exact hb _ (by omega) (by omega)

set_option maxHeartbeats 2000000 in
set_option maxRecDepth 1000000 in
/-- a rune beyond ASCII: not found among ASCII bytes -/
theorem Tryd.indexRune_high (s : ByteArray) (r : Int) (w : World) (h0 : 128 ≤ r) (h1 : r ≤ 2147483647) (hv : Lib.validRune r = true) (hne : (r == 65533) = false)
    (hascii : ∀ (j : Nat) b, s.data.toList[j]? = some b → b.toNat < 128) :
    Calls Tryd.prog 30 #[.string s, .int .i32 r] w fun e w' => e = .returned (.int .i64 (-1)) ∧ Below w.heap.size w w' := by
  have HA := Lib.hid hascii; clear hascii
  have hlt : ¬ r < 128 := by omega
  have hz : 0 ≤ r := by omega
  obtain ⟨E, hE, hE2, hE4, hEb⟩ : ∃ E, Utf8.encode r = E ∧ Tryd.HighB E := ⟨_, rfl, Tryd.encode_high r h0⟩
  have HB := Lib.hid hEb; clear hEb
  obtain ⟨K, hK⟩ : ∃ K, E.size = K + 1 := ⟨E.size - 1, by omega⟩
  go_enter Tryd.func30, Tryd.ntmps30
  go_wp2_with (go_at_call 44; refine (Tryd.utf8_ValidRune _ _).mono ?_; rintro e w' ⟨rfl, hw⟩; rw [hw, hv]; clear hw)
  go_step3
  go_wp2_with fail
  refine wp_loop_rounds 1 ?_
  rw [rounds_succ]
  by_cases hl : K < s.size
  · have hx : (s[K]'hl).toNat < 128 := HA.out _ _ (Lib.data_getElem? s _ hl)
    have hy : 128 ≤ (E[K]'(by omega)).toNat := HB.out _ _
    have hq : (((s[K]'hl).toNat : Int) != ((E[K]'(by omega)).toNat : Int)) = true := by rw [bne_iff_ne]; omega
    have hl2 : (K : Int) < (s.size : Int) := by omega
    have hl3 : (K : Int) < (K : Int) + 1 := by omega
    clear hE
    go_wp2_with fail
    go_step3
    go_wp2_with fail
    go_quiet (fail)
    go_wp2_with fail
    have HC : Hid (∀ b ∈ (s.extract (K + 1) s.size).data.toList, b ≠ ((((E[K]'(by omega)).toNat : Nat) : Int)).toNat.toUInt8) := by
      intro b hb
      have h1 : b ∈ s.data.toList := by
        rw [Lib.extract_data] at hb
        exact List.mem_of_mem_drop (List.mem_of_mem_take hb)
      obtain ⟨j, hj⟩ := List.mem_iff_getElem?.1 h1
      have h2 := HA.out j b hj
      rintro rfl
      simp at h2
      omega
    have hnone : ∀ W, Calls Tryd.prog 13 #[.string (s.extract (K + 1) s.size), .int .u8 ((E[K]'(by omega)).toNat : Int)] W fun e w' => e = .returned (.int .i64 (-1)) ∧ w' = W := fun W =>
      (Tryd.strings_IndexByte _ _ W).mono fun _ _ h => ⟨by rw [h.1, Tryd.indexByte_none]; exact fun b hb => HC.out b hb, h.2⟩
    go_quiet ((go_at_call 13; exact quiet2 (hnone _)))
    go_wp2_with fail
    rw [Exit.noGoto_ret]
    go_wp2_with fail
    rw [Exit.noGoto_ret]
    go_ret
    exact ⟨rfl, belowN (Below.refl _ _) _⟩
  · go_wp2_with fail
    rw [Exit.noGoto_ret]
    go_ret
    exact ⟨rfl, Below.refl _ _⟩

/-- a rune beyond ASCII is not found among ASCII bytes -/
theorem Tryd.indexRune_none (s : ByteArray) (r : Int) (w : World) (h0 : 128 ≤ r) (h1 : r ≤ 2147483647)
    (hascii : ∀ (j : Nat) b, s.data.toList[j]? = some b → b.toNat < 128) :
    Calls Tryd.prog 30 #[.string s, .int .i32 r] w fun e w' => e = .returned (.int .i64 (-1)) ∧ Below w.heap.size w w' := by
  by_cases he : r = 65533
  · subst he; exact Tryd.indexRune_err s w hascii
  · have hne : (r == 65533) = false := beq_eq_false_iff_ne.2 he
    cases hv : Lib.validRune r with
    | false => exact (Tryd.indexRune_invalid s r w h0 h1 hv hne).mono fun _ _ h => ⟨h.1, below_of_eq h.2⟩
    | true => exact Tryd.indexRune_high s r w h0 h1 hv hne hascii

set_option maxHeartbeats 2000000 in
set_option maxRecDepth 1000000 in
/-- strings.IndexAny at a short text, whatever its bytes, and a set of two to a thousand ASCII bytes -/
theorem Tryd.indexAny_short (s chars : ByteArray) (w : World) (h2 : 2 ≤ chars.size) (h8 : s.size ≤ 8)
    (hascii : ∀ (j : Nat) b, chars.data.toList[j]? = some b → b.toNat < 128) :
    Calls Tryd.prog 22 #[.string s, .string chars] w fun e w' => e = .returned (.int .i64 (Lib.indexAny s.data.toList chars.data.toList)) ∧ Below w.heap.size w w' := by
  have HA := Lib.hid hascii; clear hascii
  have hemp : chars.toList.isEmpty = false := by
    rw [Lib.toList_data]
    cases h : chars.data.toList with
    | nil => have := Lib.size_eq chars; rw [h, List.length_nil] at this; omega
    | cons _ _ => rfl
  have hn1 : ((chars.size : Int) == 1) = false := beq_eq_false_iff_ne.2 (by omega)
  have h8z : decide ((8 : Int) < (s.size : Int)) = false := decide_eq_false (by omega)
  go_enter Tryd.func22, Tryd.ntmps22
  go_wp2_with (go_at_call 31; refine (Tryd.strings_shouldUseASCIISet _ _).mono ?_; rintro e w' ⟨rfl, hw⟩; rw [hw, h8z])
  go_loopg [9, 10] s.size (fun g _ _ wx => ∃ i : Nat, s.size ≤ i + g ∧ wx.heap[w.heap.size]? = some (.stringIter s i) ∧ Below w.heap.size w wx ∧ Lib.NoAny s.data.toList chars.data.toList i)
  case atStart => exact ⟨0, by omega, by simpa using World.iter_heap w s 0, (Below.refl _ _).alloc (Nat.le_refl _) _, Lib.NoAny.zero _ _⟩
  case round =>
    obtain ⟨i, hig, hit, hbw, hno⟩ := hrel
    have HN := Lib.hid hno; clear hno
    have HI := Lib.hid hit
    have hszw : w.heap.size < wr.heap.size := (Array.getElem?_eq_some_iff.1 hit).1
    by_cases hi : i < s.size
    · obtain ⟨g, rfl⟩ : ∃ g, gk = g + 1 := ⟨gk - 1, by omega⟩
      have hnx : ∀ ty, (Instr.next (.pointer (some ⟨w.heap.size, 0, none⟩)) true ty).run Tryd.prog wr = _ := fun ty => Lib.run_next_any_at wr w.heap.size s i ty hit hi
      have hit2 := Lib.hid (Lib.iterAt_heap wr w.heap.size s i (i + (Utf8.decode s i).2) hit)
      have hbw2 := Lib.hid (Lib.below_iterAt hbw (k := w.heap.size) (by omega) s (i + (Utf8.decode s i).2))
      have hszd : (wr.iterAt w.heap.size s (i + (Utf8.decode s i).2)).heap.size = wr.heap.size := Lib.iterAt_size _ _ _ _
      have Hszd := Lib.hid hszd; clear hszd
      clear hit hbw
      have hd1 := decode_le s i
      by_cases ha : (s[i]'hi).toNat < 128
      · have hdec := decode_ascii s i hi ha
        obtain ⟨x, hx⟩ : ∃ x : UInt8, s[i]'hi = x := ⟨_, rfl⟩
        rw [hx] at hdec ha
        have hxl : s.data.toList[i]? = some x := by rw [← hx]; exact Lib.data_getElem? s i hi
        have Hx := Lib.hid hxl
        clear hxl hx
        rw [hdec] at hnx hit2 hbw2 Hszd
        clear hdec hd1
        have hcon := Lib.contains_iff_indexByte chars.data.toList x
        have hback : ((x.toNat : Int)).toNat.toUInt8 = x := by simp
        cases hin : chars.data.toList.contains x
        · rw [hin] at hcon
          have hlt : ¬ ((0 : Int) ≤ Lib.indexByte chars.data.toList x) := of_decide_eq_false hcon.symm
          clear hcon
          go_wp2_with (go_at_call 30; refine (Tryd.strings_IndexRune_ascii _ _ _ (by omega) (by omega)).mono ?_; rintro e w' ⟨rfl, hw⟩; rw [hw, hback]; clear hw)
          go_roundg g
          case measure => omega
          case rel => exact ⟨i + 1, by omega, hit2.out, hbw2.out, HN.out.succ Hx.out hin⟩
        · rw [hin] at hcon
          have hge : (0 : Int) ≤ Lib.indexByte chars.data.toList x := of_decide_eq_true hcon.symm
          clear hcon
          go_wp2_with (go_at_call 30; refine (Tryd.strings_IndexRune_ascii _ _ _ (by omega) (by omega)).mono ?_; rintro e w' ⟨rfl, hw⟩; rw [hw, hback]; clear hw)
          go_ret
          exact ⟨by rw [Lib.indexAny_hit HN.out Hx.out hin]; rfl, hbw2.out⟩
      · have ha' : 128 ≤ (s[i]'hi).toNat := by omega
        obtain ⟨hd2, hd3⟩ := decode_high s i hi ha'
        have hsk := Tryd.decode_skips s i hi ha'
        have hno2 : Hid (Lib.NoAny s.data.toList chars.data.toList (i + (Utf8.decode s i).2)) := by
          intro j b hj hb
          by_cases hji : j < i
          · exact HN.out j b hji hb
          · have hjs : j < s.size := by
              have := (List.getElem?_eq_some_iff.1 hb).1
              rw [← Lib.size_eq] at this; exact this
            have h1 := hsk j hjs (by omega) hj
            have h2 : b = s[j]'hjs := by
              have := Lib.data_getElem? s j hjs
              rw [this] at hb; exact (Option.some.inj hb).symm
            cases hc : chars.data.toList.contains b with
            | false => rfl
            | true =>
              obtain ⟨k, hk⟩ := List.mem_iff_getElem?.1 (List.contains_iff_mem.1 hc)
              have := HA.out k b hk
              rw [h2] at this; omega
        clear hsk
        go_wp2_with (go_at_call 30; refine (Tryd.indexRune_none _ _ _ (by omega) (by omega) HA.out).mono ?_; rintro e w' ⟨rfl, hb⟩)
        go_roundg g
        case measure => omega
        case rel =>
          refine ⟨i + (Utf8.decode s i).2, by omega, ?_, hbw2.out.trans (hb.mono ?_), hno2.out⟩
          · rw [hb.block _ (by rw [Hszd.out]; exact hszw)]; exact hit2.out
          · rw [Hszd.out]; exact Nat.le_of_lt hszw
    · have hnx : ∀ ty, (Instr.next (.pointer (some ⟨w.heap.size, 0, none⟩)) true ty).run Tryd.prog wr = _ := fun ty => Lib.run_next_end_at wr w.heap.size s i ty hit hi
      clear hit
      have hbw2 := Lib.hid hbw; clear hbw
      go_wp2
      go_ret
      refine ⟨?_, hbw2.out⟩
      rw [Lib.indexAny_none]
      · rfl
      · intro j b hj hb
        exact HN.out j b (by rw [← Lib.size_eq] at hj; omega) hb

theorem Tryd.setOk : (Tryd.prog.info? 57).map (fun i => (i.zero, i.size)) = some (some (.agg (Array.replicate 256 (.bool false))), 256) := by kernel_rfl
theorem Tryd.setZero : ∀ w, (zeroValue 57).run Tryd.prog w = .ok (.agg (Array.replicate 256 (.bool false))) w := fun _ => by kernel_rfl

/-- strings.IndexAny: a set of two or more ASCII bytes, whatever text -/
theorem Tryd.indexAny (s chars : ByteArray) (w : World) (h2 : 2 ≤ chars.size) (hc : chars.size < 4294967281) (hs : s.size < 4294967281)
    (hascii : ∀ (j : Nat) b, chars.data.toList[j]? = some b → b.toNat < 128) :
    Calls Tryd.prog 22 #[.string s, .string chars] w fun e w' => e = .returned (.int .i64 (Lib.indexAny s.data.toList chars.data.toList)) ∧ Below w.heap.size w w' := by
  by_cases h8 : s.size ≤ 8
  · exact Tryd.indexAny_short s chars w h2 h8 hascii
  · refine (Tryd.strings_IndexAny_long Tryd.setZero s chars w h2 (by omega) hs hc hascii).mono fun e w' h => ⟨h.1, ?_⟩
    rw [h.2]
    exact ((Below.refl _ _).alloc (Nat.le_refl _) _).alloc (by simp) _
/-- strings.ContainsAny likewise -/
theorem Tryd.containsAny (s chars : ByteArray) (w : World) (h2 : 2 ≤ chars.size) (hc : chars.size < 4294967281) (hs : s.size < 4294967281)
    (hascii : ∀ (j : Nat) b, chars.data.toList[j]? = some b → b.toNat < 128) :
    Calls Tryd.prog 24 #[.string s, .string chars] w fun e w' => e = .returned (.bool (decide (0 ≤ Lib.indexAny s.data.toList chars.data.toList))) ∧ Below w.heap.size w w' := by
  have HA := Lib.hid hascii; clear hascii
  go_enter Tryd.func24, Tryd.ntmps24
  go_wp2_with (go_at_call 22; refine (Tryd.indexAny _ _ _ h2 hc hs HA.out).mono ?_; rintro e w' ⟨rfl, hb⟩)
  go_ret
  exact ⟨rfl, hb⟩
/-- strings.TrimLeft at ASCII bytes, whatever text -/
theorem Tryd.trimLeft (s cut : ByteArray) (w : World) (hc : cut.size < 4294967281) (hascii : ∀ (j : Nat) b, cut.data.toList[j]? = some b → b.toNat < 128) :
    Calls Tryd.prog 29 #[.string s, .string cut] w fun e w' => e = .returned (.string ⟨(Lib.trimLeftS s.data.toList cut.data.toList).toArray⟩) ∧ Below w.heap.size w w' :=
  Any.strings_TrimLeft_laid Tryd.lays161 (by kernel_rfl) s cut w hc hascii
#print axioms Tryd.containsAny
#print axioms Tryd.trimLeft
end Go.Proofs.YtlcomkhegppfgaaDoor
