/-
  The library's contracts for (*strings.Builder).WriteByte and WriteString, laid at this program by hand: the laying command passes them over (its structure names two types that no body names any more).
  strings.IndexAny and ContainsAny at a set of ASCII bytes, for whatever text: the library's contracts ask that the short text be ASCII too. Here the short road is walked for every text: a rune beyond ASCII is never found among ASCII bytes.
  The walks of lex.signs, lex.span, and the references Sign and Starts.
  The walk of lex.Quote: it computes the plain law's quote.
-/
import Derived.Test.YtnefcilopgcdpaaGreatDoorProg
import Derived.Shelf.Strings.BuilderK
import Derived.KernelRfl
import Derived.Test.YtnefcilopgcdpaaGreatDoorShelf
import Derived.Test.YtnefcilopgcdpaaGreatDoorBase
import Derived.Laws.RangeAny
import Derived.Lib.OthersKept
import Derived.Shelf.Strings.SlTrimAscii
namespace Go.Proofs
open Go.Shelf
/-- the type of the method Error -/
def Tryz.errTy : Nat := 55
def Tryz.bldRen : Go.Shelf.Ren := ⟨fun | 167 => 21 | 166 => 32 | 169 => 17 | 240 => 34 | 276 => 52 | n => n, fun | 0 => 0 | 4 => 4 | 5 => 5 | 9 => 9 | 20 => 20 | 37 => 43 | 70 => 42 | 72 => 45 | 75 => 26 | 164 => 100 | 3 => 3 | 80 => Tryz.errTy | n => n, fun n => n⟩
theorem Tryz.bld167 : Go.Proofs.Lays.n167 Tryz.prog Tryz.bldRen := {
  mixed := by kernel_rfl
  f167 := Tryz.func21.trans (congrArg some (by kernel_rfl))
  f240 := Tryz.func34.trans (congrArg some (by kernel_rfl))
  f276 := Tryz.func52.trans (congrArg some (by kernel_rfl))
  t0 := Tryz.underlying0
  a0 := Tryz.isAgg0
  z0 := Tryz.sizeOf0
  v0 := Tryz.zeroValue0
  t4 := Tryz.underlying4
  a4 := Tryz.isAgg4
  z4 := Tryz.sizeOf4
  v4 := Tryz.zeroValue4
  t5 := Tryz.underlying5
  a5 := Tryz.isAgg5
  z5 := Tryz.sizeOf5
  v5 := Tryz.zeroValue5
  t9 := Tryz.underlying9
  a9 := Tryz.isAgg9
  z9 := Tryz.sizeOf9
  v9 := Tryz.zeroValue9
  t20 := Tryz.underlying20
  a20 := Tryz.isAgg20
  z20 := Tryz.sizeOf20
  v20 := Tryz.zeroValue20
  t37 := Tryz.underlying43
  a37 := Tryz.isAgg43
  z37 := Tryz.sizeOf43
  v37 := Tryz.zeroValue43
  t70 := Tryz.underlying42
  a70 := Tryz.isAgg42
  z70 := Tryz.sizeOf42
  v70 := Tryz.zeroValue42
  t72 := Tryz.underlying45
  a72 := Tryz.isAgg45
  z72 := Tryz.sizeOf45
  v72 := Tryz.zeroValue45
  t75 := Tryz.underlying26
  a75 := Tryz.isAgg26
  z75 := Tryz.sizeOf26
  v75 := Tryz.zeroValue26
  t164 := Tryz.underlying100
  a164 := Tryz.isAgg100
  z164 := Tryz.sizeOf100
  v164 := Tryz.zeroValue100 }
theorem Tryz.bld166 : Go.Proofs.Lays.n166 Tryz.prog Tryz.bldRen := {
  mixed := by kernel_rfl
  f166 := Tryz.func32.trans (congrArg some (by kernel_rfl))
  f240 := Tryz.func34.trans (congrArg some (by kernel_rfl))
  f276 := Tryz.func52.trans (congrArg some (by kernel_rfl))
  t0 := Tryz.underlying0
  a0 := Tryz.isAgg0
  z0 := Tryz.sizeOf0
  v0 := Tryz.zeroValue0
  t3 := Tryz.underlying3
  a3 := Tryz.isAgg3
  z3 := Tryz.sizeOf3
  v3 := Tryz.zeroValue3
  t4 := Tryz.underlying4
  a4 := Tryz.isAgg4
  z4 := Tryz.sizeOf4
  v4 := Tryz.zeroValue4
  t9 := Tryz.underlying9
  a9 := Tryz.isAgg9
  z9 := Tryz.sizeOf9
  v9 := Tryz.zeroValue9
  t20 := Tryz.underlying20
  a20 := Tryz.isAgg20
  z20 := Tryz.sizeOf20
  v20 := Tryz.zeroValue20
  t37 := Tryz.underlying43
  a37 := Tryz.isAgg43
  z37 := Tryz.sizeOf43
  v37 := Tryz.zeroValue43
  t70 := Tryz.underlying42
  a70 := Tryz.isAgg42
  z70 := Tryz.sizeOf42
  v70 := Tryz.zeroValue42
  t72 := Tryz.underlying45
  a72 := Tryz.isAgg45
  z72 := Tryz.sizeOf45
  v72 := Tryz.zeroValue45
  t75 := Tryz.underlying26
  a75 := Tryz.isAgg26
  z75 := Tryz.sizeOf26
  v75 := Tryz.zeroValue26
  t164 := Tryz.underlying100
  a164 := Tryz.isAgg100
  z164 := Tryz.sizeOf100
  v164 := Tryz.zeroValue100 }
theorem Tryz.bldExtra : Builder.Extra Tryz.prog Tryz.bldRen := {
  sizeBuilder := by kernel_rfl
  liesBuilder := by kernel_rfl
  t5 := Tryz.underlying5
  a5 := Tryz.isAgg5
  z5 := Tryz.sizeOf5
  v5 := Tryz.zeroValue5
  infoByte := by kernel_rfl
  cellsByte := by kernel_rfl
  sizeByte := by kernel_rfl
  neB5 := by decide }
open Go.RowKit
theorem Tryz.writeByte (B b : Nat) (bs : List Value) (c : Int) (w : World) (h : Lib.IsBuilderF 45 5 B b bs w) (hlen : bs.length + 1 ≤ 140737488355328) (hBw : B ≤ w.heap.size) :
    Calls Tryz.prog 21 #[.pointer (some ⟨b, 0, none⟩), .int .u8 c] w fun e w' => e = .returned .nilIface ∧ (Lib.BuilderAtF 45 5 B b (.pointer (some ⟨b, 0, none⟩)) (bs ++ [.int .u8 c]) w' ∧ Below B w w' ∧ Lib.OthersKept 5 (some b) w w') :=
  Any.Builder_WriteByte_k Tryz.bld167 Tryz.bldExtra B b bs c w h hlen hBw
theorem Tryz.writeString (B b : Nat) (bs : List Value) (s : ByteArray) (w : World) (h : Lib.IsBuilderF 45 5 B b bs w) (hlen : bs.length + s.size ≤ 140737488355328) (hBw : B ≤ w.heap.size) :
    Calls Tryz.prog 32 #[.pointer (some ⟨b, 0, none⟩), .string s] w fun e w' => e = .returned (.tuple #[.int .i64 s.size, .nilIface]) ∧ (Lib.BuilderAtF 45 5 B b (.pointer (some ⟨b, 0, none⟩)) (bs ++ Lib.byteCells s.data.toList) w' ∧ Below B w w' ∧ Lib.OthersKept 5 (some b) w w') :=
  Any.Builder_WriteString_k Tryz.bld166 Tryz.bldExtra B b bs s w h hlen hBw
#print axioms Tryz.writeString
end Go.Proofs
namespace Go.Proofs.YtnefcilopgcdpaaGreatDoor
open Go.Shelf Go.RowKit Go.Lib

theorem Tryz.cont_high (s : ByteArray) (i : Nat) (hk : i < s.size) (h : (s.get! i).toNat / 64 = 2) : 128 ≤ (s[i]'hk).toNat := by
  have e2 : s.get! i = s[i]'hk := by
    simp [ByteArray.get!, getElem!_pos, hk]; rfl
  rw [e2] at h; omega
/-- what a step over a rune beyond ASCII skips is no ASCII byte -/
theorem Tryz.decode_skips (s : ByteArray) (pos : Nat) (h : pos < s.size) (ha : 128 ≤ (s[pos]'h).toNat) :
    ∀ j (hj : j < s.size), pos ≤ j → j < pos + (Utf8.decode s pos).2 → 128 ≤ (s[j]'hj).toNat := by
  intro j hjs hj hlt
  have hn : ¬ (s[pos]'h).toNat < 128 := by omega
  rcases Nat.lt_or_ge pos j with h1 | h1
  · obtain ⟨k, rfl⟩ : ∃ k, j = pos + k := ⟨j - pos, by omega⟩
    refine Tryz.cont_high s (pos + k) hjs ?_
    simp only [Utf8.decode, get_at s pos h, hn, if_false] at hlt
    repeat' split at hlt
    all_goals simp only [Bool.and_eq_true, beq_iff_eq, decide_eq_true_eq] at *
    all_goals try omega
    all_goals
      have hk : k = 1 ∨ k = 2 ∨ k = 3 := by omega
      rcases hk with rfl | rfl | rfl <;> omega
  · have : j = pos := by omega
    subst this
    exact ha

theorem Tryz.indexByte_none (l : List UInt8) (x : UInt8) (h : ∀ b ∈ l, b ≠ x) : Lib.indexByte l x = -1 := by
  induction l with
  | nil => rfl
  | cons b l ih =>
    have := ih (fun c hc => h c (by simp [hc]))
    have hb := h b (by simp)
    simp [Lib.indexByte, this, hb]

set_option maxHeartbeats 2000000 in
set_option maxRecDepth 1000000 in
/-- the error rune is none of ASCII bytes -/
theorem Tryz.indexRune_err (s : ByteArray) (w : World) (hascii : ∀ (j : Nat) b, s.data.toList[j]? = some b → b.toNat < 128) :
    Calls Tryz.prog 103 #[.string s, .int .i32 65533] w fun e w' => e = .returned (.int .i64 (-1)) ∧ Below w.heap.size w w' := by
  have HA := Lib.hid hascii; clear hascii
  go_enter Tryz.func103, Tryz.ntmps103
  go_wp2_with fail
  go_loopg [5, 6] s.size (fun g _ _ wx => ∃ i : Nat, i + g = s.size ∧ wx = w.iter s i)
  case atStart => exact ⟨0, by omega, rfl⟩
  case round =>
    obtain ⟨i, hig, rfl⟩ := hrel
    cases gk with
    | zero =>
      obtain rfl : i = s.size := by omega
      have hnx := run_next_end (P := Tryz.prog) w s s.size
      go_wp2
      go_ret
      exact ⟨rfl, (Below.refl _ _).alloc (Nat.le_refl _) _⟩
    | succ g =>
      have hi : i < s.size := by omega
      obtain ⟨x, hx⟩ : ∃ x : UInt8, s[i]'hi = x := ⟨_, rfl⟩
      have hxl : s.data.toList[i]? = some x := by rw [← hx]; exact Lib.data_getElem? s i hi
      have hx128 : x.toNat < 128 := HA.out i x hxl
      have hnx := fun ty => run_next_ascii (P := Tryz.prog) w s i ty hi (by rw [hx]; exact hx128)
      rw [hx] at hnx
      clear hxl hx
      have hne : ((x.toNat : Int) == 65533) = false := beq_eq_false_iff_ne.2 (by omega)
      go_wp2
      go_roundg g
      case measure => omega
      case rel => exact ⟨i + 1, by omega, rfl⟩

set_option maxHeartbeats 2000000 in
set_option maxRecDepth 1000000 in
/-- a rune beyond ASCII that is none: not found -/
theorem Tryz.indexRune_invalid (s : ByteArray) (r : Int) (w : World) (h0 : 128 ≤ r) (h1 : r ≤ 2147483647) (hv : Lib.validRune r = false) (hne : (r == 65533) = false) :
    Calls Tryz.prog 103 #[.string s, .int .i32 r] w fun e w' => e = .returned (.int .i64 (-1)) ∧ w' = w := by
  have hlt : ¬ r < 128 := by omega
  have hz : 0 ≤ r := by omega
  go_enter Tryz.func103, Tryz.ntmps103
  go_wp2_with (go_at_call 130; refine (Tryz.utf8_ValidRune _ _).mono ?_; rintro e w' ⟨rfl, hw⟩; rw [hw, hv]; clear hw)
  go_ret
  exact ⟨rfl, rfl⟩

def Tryz.HighB (E : ByteArray) : Prop := 2 ≤ E.size ∧ E.size ≤ 4 ∧ ∀ i (h : i < E.size), 128 ≤ (E[i]'h).toNat
theorem Tryz.encode_high (r : Int) (h0 : 128 ≤ r) : Tryz.HighB (Utf8.encode r) := by
  have hv : Utf8.valid r = true → r ≤ 1114111 := by
    intro h; simp [Utf8.valid] at h; omega
  unfold Utf8.encode Utf8.runeError
  simp only []
  obtain ⟨c, hc⟩ : ∃ c, (if Utf8.valid r = true then r.toNat else 0xFFFD) = c := ⟨_, rfl⟩
  have hc1 : 128 ≤ c ∧ c ≤ 1114111 := by
    rw [← hc]
    split
    · rename_i h; have := hv h; omega
    · omega
  rw [hc]
  clear hc hv
  have h3 : ¬ c < 128 := by omega
  rw [if_neg h3]
  have hb : ∀ n : Nat, 128 ≤ n → n < 256 → 128 ≤ (UInt8.ofNat n).toNat := by
    intro n h1 h2; simp; omega
  split
  · refine ⟨(by decide : 2 ≤ 2), (by decide : 2 ≤ 4), ?_⟩
    intro i h
    have h' : i < 2 := h
    match i, h' with
    | 0, _ => exact hb _ (by omega) (by omega)
    | 1, _ => exact hb _ (by omega) (by omega)
  · split
    · refine ⟨(by decide : 2 ≤ 3), (by decide : 3 ≤ 4), ?_⟩
      intro i h
      have h' : i < 3 := h
      match i, h' with
      | 0, _ => exact hb _ (by omega) (by omega)
      | 1, _ => exact hb _ (by omega) (by omega)
      | 2, _ => exact hb _ (by omega) (by omega)
    · refine ⟨(by decide : 2 ≤ 4), (by decide : 4 ≤ 4), ?_⟩
      intro i h
      have h' : i < 4 := h
      match i, h' with
      | 0, _ => exact hb _ (by omega) (by omega)
      | 1, _ => exact hb _ (by omega) (by omega)
      | 2, _ => exact hb _ (by omega) (by omega)
      | 3, _ => exact hb _ (by omega) (by omega)

set_option maxHeartbeats 2000000 in
set_option maxRecDepth 1000000 in
/-- a rune beyond ASCII: not found among ASCII bytes -/
theorem Tryz.indexRune_high (s : ByteArray) (r : Int) (w : World) (h0 : 128 ≤ r) (h1 : r ≤ 2147483647) (hv : Lib.validRune r = true) (hne : (r == 65533) = false)
    (hascii : ∀ (j : Nat) b, s.data.toList[j]? = some b → b.toNat < 128) :
    Calls Tryz.prog 103 #[.string s, .int .i32 r] w fun e w' => e = .returned (.int .i64 (-1)) ∧ Below w.heap.size w w' := by
  have HA := Lib.hid hascii; clear hascii
  have hlt : ¬ r < 128 := by omega
  have hz : 0 ≤ r := by omega
  obtain ⟨E, hE, hE2, hE4, hEb⟩ : ∃ E, Utf8.encode r = E ∧ Tryz.HighB E := ⟨_, rfl, Tryz.encode_high r h0⟩
  have HB := Lib.hid hEb; clear hEb
  obtain ⟨K, hK⟩ : ∃ K, E.size = K + 1 := ⟨E.size - 1, by omega⟩
  go_enter Tryz.func103, Tryz.ntmps103
  go_wp2_with (go_at_call 130; refine (Tryz.utf8_ValidRune _ _).mono ?_; rintro e w' ⟨rfl, hw⟩; rw [hw, hv]; clear hw)
  go_step3
  go_wp2_with fail
  refine wp_loop_rounds 1 ?_
  rw [rounds_succ]
  by_cases hl : K < s.size
  · have hx : (s[K]'hl).toNat < 128 := HA.out _ _ (Lib.data_getElem? s _ hl)
    have hy : 128 ≤ (E[K]'(by omega)).toNat := HB.out _ _
    have hq : (((s[K]'hl).toNat : Int) != ((E[K]'(by omega)).toNat : Int)) = true := by rw [bne_iff_ne]; omega
    have hl2 : (K : Int) < (s.size : Int) := by omega
    have hl3 : (K : Int) < (K : Int) + 1 := by omega
    clear hE
    go_wp2_with fail
    go_step3
    go_wp2_with fail
    go_quiet (fail)
    go_wp2_with fail
    have HC : Hid (∀ b ∈ (s.extract (K + 1) s.size).data.toList, b ≠ ((((E[K]'(by omega)).toNat : Nat) : Int)).toNat.toUInt8) := by
      intro b hb
      have h1 : b ∈ s.data.toList := by
        rw [Lib.extract_data] at hb
        exact List.mem_of_mem_drop (List.mem_of_mem_take hb)
      obtain ⟨j, hj⟩ := List.mem_iff_getElem?.1 h1
      have h2 := HA.out j b hj
      rintro rfl
      simp at h2
      omega
    have hnone : ∀ W, Calls Tryz.prog 22 #[.string (s.extract (K + 1) s.size), .int .u8 ((E[K]'(by omega)).toNat : Int)] W fun e w' => e = .returned (.int .i64 (-1)) ∧ w' = W := fun W =>
      (Tryz.strings_IndexByte _ _ W).mono fun _ _ h => ⟨by rw [h.1, Tryz.indexByte_none]; exact fun b hb => HC.out b hb, h.2⟩
    go_quiet ((go_at_call 22; exact quiet2 (hnone _)))
    go_wp2_with fail
    rw [Exit.noGoto_ret]
    go_wp2_with fail
    rw [Exit.noGoto_ret]
    go_ret
    exact ⟨rfl, belowN (Below.refl _ _) _⟩
  · go_wp2_with fail
    rw [Exit.noGoto_ret]
    go_ret
    exact ⟨rfl, Below.refl _ _⟩

/-- a rune beyond ASCII is not found among ASCII bytes -/
theorem Tryz.indexRune_none (s : ByteArray) (r : Int) (w : World) (h0 : 128 ≤ r) (h1 : r ≤ 2147483647)
    (hascii : ∀ (j : Nat) b, s.data.toList[j]? = some b → b.toNat < 128) :
    Calls Tryz.prog 103 #[.string s, .int .i32 r] w fun e w' => e = .returned (.int .i64 (-1)) ∧ Below w.heap.size w w' := by
  by_cases he : r = 65533
  · subst he; exact Tryz.indexRune_err s w hascii
  · have hne : (r == 65533) = false := beq_eq_false_iff_ne.2 he
    cases hv : Lib.validRune r with
    | false => exact (Tryz.indexRune_invalid s r w h0 h1 hv hne).mono fun _ _ h => ⟨h.1, below_of_eq h.2⟩
    | true => exact Tryz.indexRune_high s r w h0 h1 hv hne hascii

set_option maxHeartbeats 2000000 in
set_option maxRecDepth 1000000 in
/-- strings.IndexAny at a short text, whatever its bytes, and a set of two to a thousand ASCII bytes -/
theorem Tryz.indexAny_short (s chars : ByteArray) (w : World) (h2 : 2 ≤ chars.size) (h8 : s.size ≤ 8)
    (hascii : ∀ (j : Nat) b, chars.data.toList[j]? = some b → b.toNat < 128) :
    Calls Tryz.prog 77 #[.string s, .string chars] w fun e w' => e = .returned (.int .i64 (Lib.indexAny s.data.toList chars.data.toList)) ∧ Below w.heap.size w w' := by
  have HA := Lib.hid hascii; clear hascii
  have hemp : chars.toList.isEmpty = false := by
    rw [Lib.toList_data]
    cases h : chars.data.toList with
    | nil => have := Lib.size_eq chars; rw [h, List.length_nil] at this; omega
    | cons _ _ => rfl
  have hn1 : ((chars.size : Int) == 1) = false := beq_eq_false_iff_ne.2 (by omega)
  have h8z : decide ((8 : Int) < (s.size : Int)) = false := decide_eq_false (by omega)
  go_enter Tryz.func77, Tryz.ntmps77
  go_wp2_with (go_at_call 104; refine (Tryz.strings_shouldUseASCIISet _ _).mono ?_; rintro e w' ⟨rfl, hw⟩; rw [hw, h8z])
  go_loopg [9, 10] s.size (fun g _ _ wx => ∃ i : Nat, s.size ≤ i + g ∧ wx.heap[w.heap.size]? = some (.stringIter s i) ∧ Below w.heap.size w wx ∧ Lib.NoAny s.data.toList chars.data.toList i)
  case atStart => exact ⟨0, by omega, by simpa using World.iter_heap w s 0, (Below.refl _ _).alloc (Nat.le_refl _) _, Lib.NoAny.zero _ _⟩
  case round =>
    obtain ⟨i, hig, hit, hbw, hno⟩ := hrel
    have HN := Lib.hid hno; clear hno
    have HI := Lib.hid hit
    have hszw : w.heap.size < wr.heap.size := (Array.getElem?_eq_some_iff.1 hit).1
    by_cases hi : i < s.size
    · obtain ⟨g, rfl⟩ : ∃ g, gk = g + 1 := ⟨gk - 1, by omega⟩
      have hnx : ∀ ty, (Instr.next (.pointer (some ⟨w.heap.size, 0, none⟩)) true ty).run Tryz.prog wr = _ := fun ty => Lib.run_next_any_at wr w.heap.size s i ty hit hi
      have hit2 := Lib.hid (Lib.iterAt_heap wr w.heap.size s i (i + (Utf8.decode s i).2) hit)
      have hbw2 := Lib.hid (Lib.below_iterAt hbw (k := w.heap.size) (by omega) s (i + (Utf8.decode s i).2))
      have hszd : (wr.iterAt w.heap.size s (i + (Utf8.decode s i).2)).heap.size = wr.heap.size := Lib.iterAt_size _ _ _ _
      have Hszd := Lib.hid hszd; clear hszd
      clear hit hbw
      have hd1 := decode_le s i
      by_cases ha : (s[i]'hi).toNat < 128
      · have hdec := decode_ascii s i hi ha
        obtain ⟨x, hx⟩ : ∃ x : UInt8, s[i]'hi = x := ⟨_, rfl⟩
        rw [hx] at hdec ha
        have hxl : s.data.toList[i]? = some x := by rw [← hx]; exact Lib.data_getElem? s i hi
        have Hx := Lib.hid hxl
        clear hxl hx
        rw [hdec] at hnx hit2 hbw2 Hszd
        clear hdec hd1
        have hcon := Lib.contains_iff_indexByte chars.data.toList x
        have hback : ((x.toNat : Int)).toNat.toUInt8 = x := by simp
        cases hin : chars.data.toList.contains x
        · rw [hin] at hcon
          have hlt : ¬ ((0 : Int) ≤ Lib.indexByte chars.data.toList x) := of_decide_eq_false hcon.symm
          clear hcon
          go_wp2_with (go_at_call 103; refine (Tryz.strings_IndexRune_ascii _ _ _ (by omega) (by omega)).mono ?_; rintro e w' ⟨rfl, hw⟩; rw [hw, hback]; clear hw)
          go_roundg g
          case measure => omega
          case rel => exact ⟨i + 1, by omega, hit2.out, hbw2.out, HN.out.succ Hx.out hin⟩
        · rw [hin] at hcon
          have hge : (0 : Int) ≤ Lib.indexByte chars.data.toList x := of_decide_eq_true hcon.symm
          clear hcon
          go_wp2_with (go_at_call 103; refine (Tryz.strings_IndexRune_ascii _ _ _ (by omega) (by omega)).mono ?_; rintro e w' ⟨rfl, hw⟩; rw [hw, hback]; clear hw)
          go_ret
          exact ⟨by rw [Lib.indexAny_hit HN.out Hx.out hin]; rfl, hbw2.out⟩
      · have ha' : 128 ≤ (s[i]'hi).toNat := by omega
        obtain ⟨hd2, hd3⟩ := decode_high s i hi ha'
        have hsk := Tryz.decode_skips s i hi ha'
        have hno2 : Hid (Lib.NoAny s.data.toList chars.data.toList (i + (Utf8.decode s i).2)) := by
          intro j b hj hb
          by_cases hji : j < i
          · exact HN.out j b hji hb
          · have hjs : j < s.size := by
              have := (List.getElem?_eq_some_iff.1 hb).1
              rw [← Lib.size_eq] at this; exact this
            have h1 := hsk j hjs (by omega) hj
            have h2 : b = s[j]'hjs := by
              have := Lib.data_getElem? s j hjs
              rw [this] at hb; exact (Option.some.inj hb).symm
            cases hc : chars.data.toList.contains b with
            | false => rfl
            | true =>
              obtain ⟨k, hk⟩ := List.mem_iff_getElem?.1 (List.contains_iff_mem.1 hc)
              have := HA.out k b hk
              rw [h2] at this; omega
        clear hsk
        go_wp2_with (go_at_call 103; refine (Tryz.indexRune_none _ _ _ (by omega) (by omega) HA.out).mono ?_; rintro e w' ⟨rfl, hb⟩)
        go_roundg g
        case measure => omega
        case rel =>
          refine ⟨i + (Utf8.decode s i).2, by omega, ?_, hbw2.out.trans (hb.mono ?_), hno2.out⟩
          · rw [hb.block _ (by rw [Hszd.out]; exact hszw)]; exact hit2.out
          · rw [Hszd.out]; exact Nat.le_of_lt hszw
    · have hnx : ∀ ty, (Instr.next (.pointer (some ⟨w.heap.size, 0, none⟩)) true ty).run Tryz.prog wr = _ := fun ty => Lib.run_next_end_at wr w.heap.size s i ty hit hi
      clear hit
      have hbw2 := Lib.hid hbw; clear hbw
      go_wp2
      go_ret
      refine ⟨?_, hbw2.out⟩
      rw [Lib.indexAny_none]
      · rfl
      · intro j b hj hb
        exact HN.out j b (by rw [← Lib.size_eq] at hj; omega) hb

theorem Tryz.setOk : (Tryz.prog.info? 124).map (fun i => (i.zero, i.size)) = some (some (.agg (Array.replicate 256 (.bool false))), 256) := by kernel_rfl
theorem Tryz.setZero : ∀ w, (zeroValue 124).run Tryz.prog w = .ok (.agg (Array.replicate 256 (.bool false))) w := fun _ => by kernel_rfl

/-- strings.IndexAny: a set of two or more ASCII bytes, whatever text -/
theorem Tryz.indexAny (s chars : ByteArray) (w : World) (h2 : 2 ≤ chars.size) (hc : chars.size < 4294967281) (hs : s.size < 4294967281)
    (hascii : ∀ (j : Nat) b, chars.data.toList[j]? = some b → b.toNat < 128) :
    Calls Tryz.prog 77 #[.string s, .string chars] w fun e w' => e = .returned (.int .i64 (Lib.indexAny s.data.toList chars.data.toList)) ∧ Below w.heap.size w w' := by
  by_cases h8 : s.size ≤ 8
  · exact Tryz.indexAny_short s chars w h2 h8 hascii
  · refine (Tryz.strings_IndexAny_long Tryz.setZero s chars w h2 (by omega) hs hc hascii).mono fun e w' h => ⟨h.1, ?_⟩
    rw [h.2]
    exact ((Below.refl _ _).alloc (Nat.le_refl _) _).alloc (by simp) _
/-- strings.ContainsAny likewise -/
theorem Tryz.containsAny (s chars : ByteArray) (w : World) (h2 : 2 ≤ chars.size) (hc : chars.size < 4294967281) (hs : s.size < 4294967281)
    (hascii : ∀ (j : Nat) b, chars.data.toList[j]? = some b → b.toNat < 128) :
    Calls Tryz.prog 79 #[.string s, .string chars] w fun e w' => e = .returned (.bool (decide (0 ≤ Lib.indexAny s.data.toList chars.data.toList))) ∧ Below w.heap.size w w' := by
  have HA := Lib.hid hascii; clear hascii
  go_enter Tryz.func79, Tryz.ntmps79
  go_wp2_with (go_at_call 77; refine (Tryz.indexAny _ _ _ h2 hc hs HA.out).mono ?_; rintro e w' ⟨rfl, hb⟩)
  go_ret
  exact ⟨rfl, hb⟩
/-- strings.TrimLeft at ASCII bytes, whatever text -/
theorem Tryz.trimLeft (s cut : ByteArray) (w : World) (hc : cut.size < 4294967281) (hascii : ∀ (j : Nat) b, cut.data.toList[j]? = some b → b.toNat < 128) :
    Calls Tryz.prog 102 #[.string s, .string cut] w fun e w' => e = .returned (.string ⟨(Lib.trimLeftS s.data.toList cut.data.toList).toArray⟩) ∧ Below w.heap.size w w' :=
  Any.strings_TrimLeft_laid Tryz.lays161 (by kernel_rfl) s cut w hc hascii
#print axioms Tryz.containsAny
#print axioms Tryz.trimLeft
end Go.Proofs.YtnefcilopgcdpaaGreatDoor
namespace Go.Proofs.YtnefcilopgcdpaaGreatDoor
open Go.Shelf Go.RowKit Go.Lib

def signsB (m : Bool) : ByteArray := if m then ⟨#[123, 125, 35]⟩ else ⟨#[123, 125]⟩
def specB (m : Bool) : ByteArray := signsB m ++ ⟨#[39]⟩
theorem signsB_contains (m : Bool) (c : UInt8) : (signsB m).data.toList.contains c = Lx.sg m c := by
  rw [Bool.eq_iff_iff]
  cases m <;> simp [signsB, Lx.sg, or_assoc]
theorem specB_contains (m : Bool) (c : UInt8) : (specB m).data.toList.contains c = Lx.sp m c := by
  rw [Bool.eq_iff_iff]
  have e : (specB m).data.toList = if m then [123, 125, 35, 39] else [123, 125, 39] := by cases m <;> rfl
  rw [e]
  cases m <;> simp [Lx.sg, Lx.sp, or_assoc]
theorem specB_ascii (m : Bool) : ∀ (j : Nat) b, (specB m).data.toList[j]? = some b → b.toNat < 128 := by
  have e : (specB m).data.toList = if m then [123, 125, 35, 39] else [123, 125, 39] := by cases m <;> rfl
  rw [e]
  cases m
  · exact ascii_of_all (by decide)
  · exact ascii_of_all (by decide)
theorem specB_size (m : Bool) : 2 ≤ (specB m).size ∧ (specB m).size ≤ 4 := by
  have e : (specB m).size = if m then 4 else 3 := by cases m <;> rfl
  rw [e]; cases m <;> decide
theorem signsB_ascii (m : Bool) : ∀ (j : Nat) b, (signsB m).data.toList[j]? = some b → b.toNat < 128 := by
  cases m
  · exact ascii_of_all (by decide)
  · exact ascii_of_all (by decide)

theorem signs_any (m : Bool) (w : World) :
    Calls Tryz.prog 76 #[.bool m] w fun e w' => e = .returned (.string (signsB m)) ∧ w' = w := by
  cases m
  · go_enter Tryz.func76, Tryz.ntmps76
    go_wp2_with fail
    go_ret
    exact ⟨rfl, rfl⟩
  · go_enter Tryz.func76, Tryz.ntmps76
    go_wp2_with fail
    go_ret
    exact ⟨rfl, rfl⟩

theorem trimLeft_len (m : Bool) (l : List UInt8) : (Lib.trimLeftS l (specB m).data.toList).length + (l.takeWhile (Lx.sp m)).length = l.length := by
  have e : Lib.trimLeftS l (specB m).data.toList = l.dropWhile (Lx.sp m) := by
    unfold Lib.trimLeftS
    congr 1
    funext c
    exact specB_contains m c
  rw [e]
  have := congrArg List.length (List.takeWhile_append_dropWhile (p := Lx.sp m) (l := l))
  rw [List.length_append] at this
  omega

theorem span_any (s : ByteArray) (m : Bool) (w : World) (hs : s.size ≤ 1000000000) :
    Calls Tryz.prog 75 #[.string s, .string (signsB m ++ ⟨#[39]⟩)] w fun e w' => e = .returned (.int .i64 ((s.data.toList.takeWhile (Lx.sp m)).length : Nat)) ∧ Below w.heap.size w w' := by
  have hl := trimLeft_len m s.data.toList
  rw [← Lib.size_eq s] at hl
  obtain ⟨t, ht⟩ : ∃ t, Lib.trimLeftS s.data.toList (specB m).data.toList = t := ⟨_, rfl⟩
  have hc := Tryz.trimLeft s (specB m) w (by have := specB_size m; omega) (specB_ascii m)
  rw [ht] at hc hl
  have HC := Lib.hid hc
  clear hc ht
  obtain ⟨k, hk⟩ : ∃ k, (s.data.toList.takeWhile (Lx.sp m)).length = k := ⟨_, rfl⟩
  rw [hk] at hl
  have Hk := Lib.hid hk; clear hk
  have hl1 : t.length + k ≤ s.size := by omega
  have hl2 : s.size ≤ t.length + k := by omega
  clear hl
  go_enter Tryz.func75, Tryz.ntmps75
  go_wp2_with fail
  refine HC.out.mono ?_
  rintro e w' ⟨rfl, hb⟩
  have Hb := Lib.hid hb; clear hb
  go_wp2_with fail
  go_ret
  exact ⟨by rw [Hk.out]; exact ret_int (by omega), Hb.out⟩

/-! what IndexAny, ContainsAny and ReplaceAll tell, in the plain laws' words -/
theorem indexAny_spec (m : Bool) (l : List UInt8) :
    (Lib.indexAny l (specB m).data.toList = -1 ∧ ∀ c ∈ l, Lx.sp m c = false) ∨
    (∃ j : Nat, Lib.indexAny l (specB m).data.toList = j ∧ j < l.length ∧ (∀ c ∈ l.take j, Lx.sp m c = false) ∧ ∀ c, l[j]? = some c → Lx.sp m c = true) := by
  induction l with
  | nil => exact .inl ⟨rfl, by simp⟩
  | cons b l ih =>
    unfold Lib.indexAny
    rw [specB_contains]
    cases hb : Lx.sp m b with
    | true => exact .inr ⟨0, rfl, by simp, by simp, by intro c hc; simp at hc; subst hc; exact hb⟩
    | false =>
      rcases ih with ⟨h1, h2⟩ | ⟨j, h1, h2, h3, h4⟩
      · left
        rw [h1]
        exact ⟨rfl, by simp [hb]; exact fun c hc => h2 c hc⟩
      · right
        rw [h1]
        refine ⟨j + 1, ?_, by simp; omega, ?_, ?_⟩
        · have hne : ((j : Int) == -1) = false := beq_eq_false_iff_ne.2 (by omega)
          rw [hne]; simp
        · simp [hb]; exact fun c hc => h3 c hc
        · simpa using h4
theorem indexAny_any (m : Bool) (l : List UInt8) : decide (0 ≤ Lib.indexAny l (signsB m).data.toList) = l.any (Lx.sg m) := by
  induction l with
  | nil => rfl
  | cons b l ih =>
    unfold Lib.indexAny
    rw [signsB_contains, List.any_cons]
    cases hb : Lx.sg m b with
    | true => simp
    | false =>
      have hge := Lib.indexAny_ge (signsB m).data.toList l
      rw [Bool.false_or, ← ih]
      simp only [Bool.false_eq_true, ↓reduceIte]
      split
      · rename_i h
        have := beq_iff_eq.1 h
        rw [this]
      · rename_i h
        have : Lib.indexAny l (signsB m).data.toList ≠ -1 := fun e => h (beq_iff_eq.2 e)
        rw [Bool.eq_iff_iff, decide_eq_true_iff, decide_eq_true_iff]; omega
theorem replaceK_dup : ∀ l : List UInt8, Lib.replaceK [39] [39, 39] (l.count 39) l = Lx.dup l
  | [] => rfl
  | b :: l => by
    have ih := replaceK_dup l
    rw [Lx.dup_cons]
    by_cases hb : b = 39
    · subst hb
      have e : Lib.index (39 :: l) [39] = ((0 : Nat) : Int) := by rw [Lib.index_one]; simp [Lib.indexByte]
      rw [List.count_cons_self, Lib.replaceK_hit _ _ _ _ 0 e]
      simp [ih]
    · rw [List.count_cons_of_ne hb]
      simp only [beq_iff_eq, hb, ↓reduceIte, List.cons_append, List.nil_append]
      rw [← ih]
      cases hk : l.count 39 with
      | zero => rfl
      | succ k =>
        obtain ⟨i, hi⟩ := Lib.index_of_count (s := l) (old := [39]) (by rw [Lib.count_one, hk]; omega)
        rw [Lib.replaceK_hit _ _ _ _ i hi]
        have e : Lib.index (b :: l) [39] = ((i + 1 : Nat) : Int) := by
          rw [Lib.index_one] at hi ⊢
          have hne : ((i : Int) == -1) = false := beq_eq_false_iff_ne.2 (by omega)
          simp [Lib.indexByte, hb, hi, hne]
        rw [Lib.replaceK_hit _ _ _ _ (i + 1) e]
        simp
theorem replaceAll_dup (l : List UInt8) : Lib.replaceAll l [39] [39, 39] = Lx.dup l := by
  unfold Lib.replaceAll Lib.replace
  rw [if_neg (by decide)]
  have : Lib.replaceNum l [39] (-1) = l.count 39 := by
    unfold Lib.replaceNum
    rw [if_pos (Or.inl (by decide)), Lib.count_one]
  rw [this, replaceK_dup]

theorem idx_any (r : ByteArray) (m : Bool) (w : World) (hs : r.size ≤ 1000000000) :
    Calls Tryz.prog 77 #[.string r, .string (signsB m ++ ⟨#[39]⟩)] w fun e w' => e = .returned (.int .i64 (Lib.indexAny r.data.toList (specB m).data.toList)) ∧ Below w.heap.size w w' := by
  have := specB_size m
  exact Tryz.indexAny r (specB m) w (by omega) (by omega) (by omega) (specB_ascii m)
theorem cont_any (r : ByteArray) (m : Bool) (w : World) (hs : r.size ≤ 1000000000) :
    Calls Tryz.prog 79 #[.string r, .string (signsB m)] w fun e w' => e = .returned (.bool (r.data.toList.any (Lx.sg m))) ∧ Below w.heap.size w w' := by
  have h2 : 2 ≤ (signsB m).size ∧ (signsB m).size ≤ 3 := by cases m <;> decide
  refine (Tryz.containsAny r (signsB m) w (by omega) (by omega) (by omega) (signsB_ascii m)).mono fun e w' h => ⟨?_, h.2⟩
  rw [h.1, indexAny_any]
end Go.Proofs.YtnefcilopgcdpaaGreatDoor
namespace Go.Proofs.YtnefcilopgcdpaaGreatDoor
open Go.Shelf Go.RowKit Go.Lib

/-- the library's variable MaxLen holds some number -/
def MaxAt (w : World) : Prop := ∃ m : Int, w.cell? ⟨1, 0, none⟩ = some (.int .i64 m)
theorem lt_of_cell {w : World} {b o : Nat} {v : Value} (h : w.cell? ⟨b, o, none⟩ = some v) : b < w.heap.size := by
  rcases Nat.lt_or_ge b w.heap.size with h' | h'
  · exact h'
  · simp [World.cell?, Array.getElem?_eq_none h'] at h
theorem MaxAt.below {w w' : World} (h : MaxAt w) {B : Nat} (hB : B = w.heap.size) (hb : Below B w w') : MaxAt w' := by
  subst hB
  obtain ⟨m, hm⟩ := h
  exact ⟨m, by rw [hb.cell (p := ⟨_, 0, none⟩) (lt_of_cell hm)]; exact hm⟩
theorem MaxAt.keep {w w' : World} {B : Nat} (h : MaxAt w) (hB : 1 < B) (hb : Below B w w') : MaxAt w' := by
  obtain ⟨m, hm⟩ := h
  exact ⟨m, by rw [hb.cell (p := ⟨_, 0, none⟩) hB]; exact hm⟩
theorem MaxAt.lt {w : World} (h : MaxAt w) : 1 < w.heap.size := by
  obtain ⟨m, hm⟩ := h
  exact lt_of_cell hm

def strLen : Value → Nat
  | .string s => s.size
  | _ => 0

theorem quote_acc {m : Bool} {acc x l : List UInt8} (h : acc ++ x = Lx.quote m l) : acc.length ≤ 4 * l.length := by
  have := congrArg List.length h
  have := (Lx.quote_len m l).2
  simp at *; omega
theorem quote_all {m : Bool} {acc l q : List UInt8} (h : acc ++ Lx.quote m l = q) (hp : ∀ c ∈ l, Lx.sp m c = false) : (acc ++ l) ++ Lx.quote m [] = q := by
  rw [← h]
  have := Lx.quote_plain m l [] hp
  simp only [List.append_nil] at this
  rw [this, List.append_assoc]
theorem quote_some {m : Bool} {acc l q : List UInt8} (j : Nat) (h : acc ++ Lx.quote m l = q) (hp : ∀ c ∈ l.take j, Lx.sp m c = false) : (acc ++ l.take j) ++ Lx.quote m (l.drop j) = q := by
  rw [← h, List.append_assoc, ← Lx.quote_plain m _ _ hp, List.take_append_drop]
theorem take_run {m : Bool} {l : List UInt8} {k : Nat} (hk : (l.takeWhile (Lx.sp m)).length = k) : (∀ c ∈ l.take k, Lx.sp m c = true) ∧ (∀ c, (l.drop k).head? = some c → Lx.sp m c = false) := by
  subst hk
  have e1 : l.take (l.takeWhile (Lx.sp m)).length = l.takeWhile (Lx.sp m) := by
    conv => lhs; arg 2; rw [← List.takeWhile_append_dropWhile (p := Lx.sp m) (l := l)]
    rw [List.take_left']
    rfl
  have e2 : l.drop (l.takeWhile (Lx.sp m)).length = l.dropWhile (Lx.sp m) := by
    conv => lhs; arg 2; rw [← List.takeWhile_append_dropWhile (p := Lx.sp m) (l := l)]
    rw [List.drop_left']
    rfl
  rw [e1, e2]
  refine ⟨fun c hc => ?_, fun c hc => ?_⟩
  · exact List.all_eq_true.1 (List.all_takeWhile (l := l) (p := Lx.sp m)) c hc
  · cases hd : l.dropWhile (Lx.sp m) with
    | nil => rw [hd] at hc; simp at hc
    | cons a t =>
      rw [hd] at hc
      simp at hc
      subst hc
      have := List.head?_dropWhile_not (Lx.sp m) l
      rw [hd] at this
      simpa using this
theorem quote_run' {m : Bool} {acc l q : List UInt8} {k : Nat} (hk : (l.takeWhile (Lx.sp m)).length = k) (h : acc ++ Lx.quote m l = q) : (acc ++ Lx.dupq m (l.take k)) ++ Lx.quote m (l.drop k) = q := by
  have := take_run hk
  rw [← h, List.append_assoc, ← Lx.quote_run m _ _ this.1 this.2, List.take_append_drop]

theorem plain_pos {m : Bool} {l : List UInt8} {j : Nat} (hk : (l.takeWhile (Lx.sp m)).length = 0) (hj : j < l.length) (h : ∀ c, l[j]? = some c → Lx.sp m c = true) : 1 ≤ j := by
  rcases Nat.eq_zero_or_pos j with rfl | h1
  · cases l with
    | nil => simp at hj
    | cons c t =>
      have := h c (by simp)
      rw [List.takeWhile_cons, this] at hk
      simp at hk
  · exact h1

set_option maxHeartbeats 400000 in
set_option maxRecDepth 100000 in
theorem quote_any (s : ByteArray) (m : Bool) (w : World) (hs : s.size ≤ 100000000) (hmax : MaxAt w) :
    Calls Tryz.prog 50 #[.string s, .bool m] w fun e w' => e = .returned (.string ⟨(Lx.quote m s.data.toList).toArray⟩) ∧ Below w.heap.size w w' := by
  have hmlt := hmax.lt
  have HM := Lib.hid hmax; clear hmax
  have hsg : (signsB m).size ≤ 3 := by cases m <;> decide
  go_enter Tryz.func50, Tryz.ntmps50
  go_wp2_with fail
  go_loopw [0] (fun v wr => ∃ (r : ByteArray) (acc : List UInt8), v = .string r ∧ r.size ≤ s.size ∧ acc.length ≤ 400000000 ∧ Hid (acc ++ Lx.quote m r.data.toList = Lx.quote m s.data.toList) ∧ Lib.IsBuilderF 45 5 w.heap.size w.heap.size (Lib.byteCells acc) wr ∧ Below w.heap.size w wr ∧ w.heap.size < wr.heap.size) (fun v _ => strLen v)
  case atStart =>
    refine ⟨s, [], rfl, Nat.le_refl _, by simp, rfl, Lib.IsBuilderF.of (Lib.fresh_isBuilder _ _ w), (Below.refl _ _).alloc (Nat.le_refl _) _, by simp⟩
  case round =>
    obtain ⟨r, acc, rfl, hr, ha, HQ, hI, hbw, hsz⟩ := hrel
    by_cases h0 : r.size = 0
    · have hemp := emp_true h0
      have Hr0 := Lib.hid (nil_of_size h0); clear h0
      go_wp2_with fail
      refine (Tryz.Builder_String_any_k w.heap.size w.heap.size acc _ hI (Nat.le_of_lt hsz)).mono ?_
      rintro e w1 ⟨rfl, _, hb1, _⟩
      have Hb1 := Lib.hid hb1; clear hb1
      go_wp2_with fail
      go_ret
      have h := HQ.out
      rw [Hr0.out] at h
      refine ⟨?_, hbw.trans Hb1.out⟩
      rw [← h]; simp [Lx.quote, Lx.qz, Lx.dupq, Lx.dup]
    · have hemp := emp_false h0
      obtain ⟨k, hk⟩ : ∃ k, (r.data.toList.takeWhile (Lx.sp m)).length = k := ⟨_, rfl⟩
      have Hk := Lib.hid hk; clear hk
      by_cases hk0 : k = 0
      · subst hk0
        rcases indexAny_spec m r.data.toList with ⟨h1, h2⟩ | ⟨j, h1, h2, h3, h4⟩
        · have Hidx := Lib.hid h1; have Hpl := Lib.hid h2; clear h1 h2
          go_wp2_with fail
          refine (signs_any m _).mono ?_
          rintro e w1 ⟨rfl, rfl⟩
          go_wp2_with fail
          refine (span_any r m _ (by omega)).mono ?_
          rintro e w2 ⟨rfl, hb2⟩
          rw [Hk.out]
          have Hb2 := Lib.hid hb2; clear hb2
          go_wp2_with fail
          refine (signs_any m _).mono ?_
          rintro e w3 ⟨rfl, rfl⟩
          go_wp2_with fail
          refine (idx_any r m _ (by omega)).mono ?_
          rintro e w4 ⟨rfl, hb4⟩
          rw [Hidx.out]
          have Hb4 := Lib.hid hb4; clear hb4
          go_wp2_with fail
          have hI4 := builder_below (builder_below hI Hb2.out) Hb4.out
          have hsz4 : w.heap.size < w4.heap.size := Nat.lt_of_lt_of_le hsz (Nat.le_trans Hb2.out.size Hb4.out.size)
          have hsz0 := hsz
          clear hI hsz
          refine (Tryz.writeString w.heap.size w.heap.size _ r _ hI4 (by rw [Lib.byteCells_length]; omega) (by omega)).mono ?_
          rintro e w5 ⟨rfl, h5, hb5, _⟩
          have Hb5 := Lib.hid hb5; have H5 := Lib.hid h5; clear hb5 h5
          go_wp2_with fail
          go_roundw
          case rel =>
            refine ⟨ByteArray.empty, acc ++ r.data.toList, rfl, by simp, ?_, ?_, ?_, ?_, ?_⟩
            · have := quote_acc (quote_all HQ.out Hpl.out); rw [← Lib.size_eq] at this; omega
            · exact quote_all HQ.out Hpl.out
            · rw [Lib.byteCells_append]; exact Or.inr H5.out
            · exact ((hbw.trans (Hb2.out.mono (Nat.le_of_lt hsz0))).trans (Hb4.out.mono (Nat.le_trans (Nat.le_of_lt hsz0) Hb2.out.size))).trans Hb5.out
            · exact Nat.lt_of_lt_of_le hsz4 Hb5.out.size
          case measure => simp [strLen]; omega
        · have Hidx := Lib.hid h1; have Hpl := Lib.hid h3; have Hsp := Lib.hid h4; clear h1 h3 h4
          have hj : j < r.size := by rw [Lib.size_eq]; exact h2
          have hj1 : 1 ≤ j := plain_pos Hk.out h2 Hsp.out
          clear h2
          go_wp2_with fail
          refine (signs_any m _).mono ?_
          rintro e w1 ⟨rfl, rfl⟩
          go_wp2_with fail
          refine (span_any r m _ (by omega)).mono ?_
          rintro e w2 ⟨rfl, hb2⟩
          rw [Hk.out]
          have Hb2 := Lib.hid hb2; clear hb2
          go_wp2_with fail
          refine (signs_any m _).mono ?_
          rintro e w3 ⟨rfl, rfl⟩
          go_wp2_with fail
          refine (idx_any r m _ (by omega)).mono ?_
          rintro e w4 ⟨rfl, hb4⟩
          rw [Hidx.out]
          have Hb4 := Lib.hid hb4; clear hb4
          go_wp2_with fail
          have hI4 := builder_below (builder_below hI Hb2.out) Hb4.out
          have hsz4 : w.heap.size < w4.heap.size := Nat.lt_of_lt_of_le hsz (Nat.le_trans Hb2.out.size Hb4.out.size)
          have hsz0 := hsz
          clear hI hsz
          have hes : (r.extract 0 j).size ≤ 100000000 := by simp; omega
          refine (Tryz.writeString w.heap.size w.heap.size _ (r.extract 0 j) _ hI4 (by rw [Lib.byteCells_length]; omega) (by omega)).mono ?_
          rintro e w5 ⟨rfl, h5, hb5, _⟩
          have Hb5 := Lib.hid hb5; have H5 := Lib.hid h5; clear hb5 h5
          go_wp2_with fail
          go_roundw
          case rel =>
            refine ⟨r.extract j r.size, acc ++ r.data.toList.take j, rfl, by simp; omega, ?_, ?_, ?_, ?_, ?_⟩
            · have := quote_acc (quote_some j HQ.out Hpl.out); rw [← Lib.size_eq] at this; omega
            · rw [Lib.extract_to_end]; exact quote_some j HQ.out Hpl.out
            · rw [Lib.byteCells_append]; have := H5.out; rw [Lib.extract_from_zero] at this; exact Or.inr this
            · exact ((hbw.trans (Hb2.out.mono (Nat.le_of_lt hsz0))).trans (Hb4.out.mono (Nat.le_trans (Nat.le_of_lt hsz0) Hb2.out.size))).trans Hb5.out
            · exact Nat.lt_of_lt_of_le hsz4 Hb5.out.size
          case measure => simp [strLen]; omega
      · have hk1 : 1 ≤ k := by omega
        have hkb : ((k : Int) == 0) = false := beq_eq_false_iff_ne.2 (by omega)
        have hkr : k ≤ r.size := by
          rw [← Hk.out, Lib.size_eq]; exact (List.takeWhile_prefix _).length_le
        have hsz0 := hsz
        go_wp2_with fail
        refine (signs_any m _).mono ?_
        rintro e w1 ⟨rfl, rfl⟩
        go_wp2_with fail
        refine (span_any r m _ (by omega)).mono ?_
        rintro e w2 ⟨rfl, hb2⟩
        rw [Hk.out]
        have Hb2 := Lib.hid hb2; clear hb2
        go_wp2_with fail
        obtain ⟨mx, hmx⟩ := (HM.out.keep hmlt hbw).below rfl Hb2.out
        have hes : (r.extract 0 k).size ≤ 100000000 := by simp; omega
        have hlen : (r.extract 0 k).size + Lib.countB (r.extract 0 k) ⟨#[39]⟩ * (⟨#[39, 39]⟩ : ByteArray).size ≤ 140737488355328 := by
          have := Lib.countB_le ⟨#[39]⟩ (by decide) _ (r.extract 0 k) (Nat.le_refl _)
          have e : (⟨#[39, 39]⟩ : ByteArray).size = 2 := rfl
          rw [e]; omega
        refine (Tryz.strings_ReplaceAll (r.extract 0 k) ⟨#[39]⟩ ⟨#[39, 39]⟩ mx _ (by omega) hmx (by decide) hlen).mono ?_
        clear hmx
        rintro e w3 ⟨rfl, hb3⟩
        have Hb3 := Lib.hid hb3; clear hb3
        rw [show (⟨#[39]⟩ : ByteArray).data.toList = [39] from rfl, show (⟨#[39, 39]⟩ : ByteArray).data.toList = [39, 39] from rfl, replaceAll_dup, Lib.extract_from_zero]
        obtain ⟨d, hd⟩ : ∃ d, Lx.dup (r.data.toList.take k) = d := ⟨_, rfl⟩
        rw [hd]
        have Hd := Lib.hid hd; clear hd
        have hI3 := builder_below (builder_below hI Hb2.out) Hb3.out
        have hsz3 : w.heap.size < w3.heap.size := Nat.lt_of_lt_of_le hsz (Nat.le_trans Hb2.out.size Hb3.out.size)
        have Hbw3 := Lib.hid ((hbw.trans (Hb2.out.mono (Nat.le_of_lt hsz0))).trans (Hb3.out.mono (Nat.le_trans (Nat.le_of_lt hsz0) Hb2.out.size)))
        clear hI hsz hsz0 hbw
        have hdl : d.length ≤ 200000000 := by
          rw [← Hd.out]
          have h1 := (Lx.dup_len (r.data.toList.take k)).2
          have h2 : (r.data.toList.take k).length ≤ r.data.toList.length := List.length_take_le' _ _
          rw [← Lib.size_eq] at h2
          omega
        obtain ⟨sb, hsb⟩ : ∃ sb, (r.data.toList.take k).any (Lx.sg m) = sb := ⟨_, rfl⟩
        have hcont : ∀ W, Calls Tryz.prog 79 #[.string (r.extract 0 k), .string (signsB m)] W fun e w' => e = .returned (.bool sb) ∧ Below W.heap.size W w' := fun W =>
          (cont_any _ m W (by omega)).mono fun _ _ h => ⟨by rw [h.1, Lib.extract_from_zero, hsb], h.2⟩
        have Hcont := Lib.hid hcont; clear hcont
        have Hsb := Lib.hid hsb; clear hsb
        go_wp2_with fail
        go_region_with (first | (go_at_call 76; refine (signs_any m _).mono ?_; rintro e w4 ⟨rfl, rfl⟩) | (go_at_call 79; refine (Hcont.out _).mono ?_; rintro e w4 ⟨rfl, hb4⟩))
        have Hb4 : Hid (Below w3.heap.size w3 w4) := ((Below.refl _ w3).drew).trans hb4
        clear hb4
        cases sb
        · go_wp2_with fail
          have hI4 := builder_below hI3 Hb4.out
          have hsz4 : w.heap.size < w4.heap.size := Nat.lt_of_lt_of_le hsz3 Hb4.out.size
          have hsz5 := hsz3
          clear hI3 hsz3
          have hbl : (Lib.byteCells acc).length + (⟨d.toArray⟩ : ByteArray).size ≤ 140737488355328 := by
            have e : (⟨d.toArray⟩ : ByteArray).size = d.length := by simp [ByteArray.size]
            rw [Lib.byteCells_length, e]; omega
          refine (Tryz.writeString w.heap.size w.heap.size _ ⟨d.toArray⟩ _ hI4 hbl (Nat.le_of_lt hsz4)).mono ?_
          rintro e w5 ⟨rfl, h5, hb5, _⟩
          have Hb5 := Lib.hid hb5; have H5 := Lib.hid h5; clear hb5 h5
          go_wp2_with fail
          go_roundw
          case rel =>
            have hq : Lx.dupq m (r.data.toList.take k) = d := by
              unfold Lx.dupq; rw [Hsb.out, Hd.out]; rfl
            have hQ := quote_run' Hk.out HQ.out
            rw [hq] at hQ
            refine ⟨r.extract k r.size, acc ++ d, rfl, by simp; omega, ?_, ?_, ?_, ?_, ?_⟩
            · have := quote_acc hQ; rw [← Lib.size_eq] at this; omega
            · rw [Lib.extract_to_end]; exact hQ
            · rw [Lib.byteCells_append]; exact Or.inr H5.out
            · exact (Hbw3.out.trans (Hb4.out.mono (Nat.le_of_lt hsz5))).trans Hb5.out
            · exact Nat.lt_of_lt_of_le hsz4 Hb5.out.size
          case measure => simp [strLen]; omega
        · go_wp2_with fail
          have hI4 := builder_below hI3 Hb4.out
          have hsz4 : w.heap.size < w4.heap.size := Nat.lt_of_lt_of_le hsz3 Hb4.out.size
          have hsz5 := hsz3
          clear hI3 hsz3
          have hbl : (Lib.byteCells acc).length + ((⟨#[39]⟩ : ByteArray) ++ ⟨d.toArray⟩ ++ ⟨#[39]⟩).size ≤ 140737488355328 := by
            have e : ((⟨#[39]⟩ : ByteArray) ++ ⟨d.toArray⟩ ++ ⟨#[39]⟩).size = d.length + 2 := by
              rw [ByteArray.size_append, ByteArray.size_append]; simp [ByteArray.size]; omega
            rw [Lib.byteCells_length, e]; omega
          have hqd : ((⟨#[39]⟩ : ByteArray) ++ ⟨d.toArray⟩ ++ ⟨#[39]⟩).data.toList = 39 :: (d ++ [39]) := by simp
          generalize ((⟨#[39]⟩ : ByteArray) ++ ⟨d.toArray⟩ ++ ⟨#[39]⟩) = q at hbl hqd ⊢
          have Hqd := Lib.hid hqd; clear hqd
          refine (Tryz.writeString w.heap.size w.heap.size _ q _ hI4 hbl (Nat.le_of_lt hsz4)).mono ?_
          rintro e w5 ⟨rfl, h5, hb5, _⟩
          have Hb5 := Lib.hid hb5; have H5 := Lib.hid h5; clear hb5 h5
          go_wp2_with fail
          go_roundw
          case rel =>
            have hq : Lx.dupq m (r.data.toList.take k) = 39 :: (d ++ [39]) := by
              unfold Lx.dupq; rw [Hsb.out, Hd.out]; rfl
            have hQ := quote_run' Hk.out HQ.out
            rw [hq] at hQ
            refine ⟨r.extract k r.size, acc ++ 39 :: (d ++ [39]), rfl, by simp; omega, ?_, ?_, ?_, ?_, ?_⟩
            · have := quote_acc hQ; rw [← Lib.size_eq] at this; omega
            · rw [Lib.extract_to_end]; exact hQ
            · rw [Lib.byteCells_append]; have := H5.out; rw [Hqd.out] at this; exact Or.inr this
            · exact (Hbw3.out.trans (Hb4.out.mono (Nat.le_of_lt hsz5))).trans Hb5.out
            · exact Nat.lt_of_lt_of_le hsz4 Hb5.out.size
          case measure => simp [strLen]; omega
end Go.Proofs.YtnefcilopgcdpaaGreatDoor
