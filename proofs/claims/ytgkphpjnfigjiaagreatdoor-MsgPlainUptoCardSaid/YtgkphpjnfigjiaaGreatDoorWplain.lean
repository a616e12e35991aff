/-
  The walk of the law MsgPlain: it answers true.
-/
import Derived.Test.YtgkphpjnfigjiaaGreatDoorRead
import Derived.Test.YtgkphpjnfigjiaaGreatDoorTxt
namespace Go.Proofs.YtgkphpjnfigjiaaGreatDoor
open Go.RowKit Ms

def wordsT (s : List UInt8) : T := .node 1 s 0 .nil .nil
theorem words_fault {s : List UInt8} (h : s ≠ []) : fault (wordsT s) = 0 := by
  have h1 : fine 1 s false false = true := by
    cases s with
    | nil => exact absurd rfl h
    | cons a r => rfl
  have h2 : flt (wordsT s) false false 0 [] = 0 := by simp [wordsT, flt, h1, hasC]
  have h3 : big (wordsT s) 0 = false := by simp [wordsT, big, deepB, cnt, hasC]
  unfold fault
  rw [h3, h2]; rfl
theorem words_txt (s : List UInt8) : txt (wordsT s) false = Lx.quote false s := by simp [wordsT, txt]
theorem words_parse {s : List UInt8} (h : s ≠ []) : parse (Lx.quote false s) = some (wordsT s) := by
  have := parse_back (t := wordsT s) rfl (words_fault h)
  rw [words_txt] at this
  rw [this]; simp [wordsT, clean, hasC]
theorem parse_nil : parseErr [] = 0 ∧ parseTree [] = .nil := by
  have h : parse [] = some .nil := parse_back (t := .nil) rfl rfl
  unfold parseErr parseTree
  rw [if_neg (by simp), if_neg (by simp), h]
  exact ⟨rfl, rfl⟩
def plainB (s : List UInt8) : Bool := s.all fun c => !Lx.sp false c
theorem plain_quote (s : List UInt8) : (Lx.quote false s == s) = plainB s := by
  have h := quote_same false s
  cases hp : plainB s with
  | true =>
    have h1 : ∀ c ∈ s, Lx.sp false c = false := by
      unfold plainB at hp
      rw [List.all_eq_true] at hp
      exact fun c hc => by simpa using hp c hc
    rw [h.2 h1]; simp
  | false =>
    cases he : (Lx.quote false s == s) with
    | false => rfl
    | true =>
      have h1 := h.1 (by simpa using he)
      have : plainB s = true := by unfold plainB; rw [List.all_eq_true]; exact fun c hc => by simp [h1 c hc]
      rw [this] at hp; cases hp
theorem sp_plain (c : UInt8) : Lx.sp false c = (c == 123 || c == 125 || c == 39) := by simp [Lx.sp, Lx.sg]
theorem plain_take {s : List UInt8} {i : Nat} {c : UInt8} (h : s[i]? = some c) : plainB (s.take (i + 1)) = (plainB (s.take i) && !Lx.sp false c) := by
  unfold plainB
  rw [List.take_add_one, h]; simp

theorem byte_is {c : UInt8} {n : Nat} (h : ((c.toNat : Int) != (n : Int)) = false) : c = UInt8.ofNat n := by
  have h1 : (c.toNat : Int) = n := by simpa using h
  have h2 : c.toNat = n := by omega
  rw [← h2]; simp
theorem byte_not {c : UInt8} {n : Nat} (h : ((c.toNat : Int) != (n : Int)) = true) (hn : n < 256 := by decide) : c ≠ UInt8.ofNat n := by
  rintro rfl
  have h1 : ¬ ((UInt8.ofNat n).toNat : Int) = n := by simpa using h
  apply h1
  simp; omega

set_option maxHeartbeats 2000000 in
set_option maxRecDepth 100000 in
theorem msgPlain_walk (s : List UInt8) (w : World) (hs : s.length ≤ 1048576) (hm : MW w) (hM : MaxAt w) :
    Calls Tryz.prog 4 #[.string ⟨s.toArray⟩] w fun e w' => e = .returned (.bool true) ∧ Below w.heap.size w w' := by
  have HR := Lib.hid (read_any w hm)
  have hsz : (⟨s.toArray⟩ : ByteArray).size = s.length := sizeOf_mk s
  by_cases hne : s = []
  · subst hne
    have HP := Lib.hid (fun W (hB : Below w.heap.size w W) => parse_any [] W (by simp) (hm.below hB))
    clear hm hM
    go_enter Tryz.func4, Tryz.ntmps4
    go_wp2_with fail
    refine HR.out.mono ?_
    rintro e w1 ⟨rfl, hb1⟩
    have hp := HP.out w1 hb1
    unfold ParseOut at hp
    rw [parse_nil.1, parse_nil.2, errVal_0] at hp
    have HP1 := Lib.hid hp
    have HB1 := Lib.hid hb1
    clear hp hb1
    go_wp2_with fail
    refine HP1.out.mono ?_
    rintro e w2 ⟨⟨v, rfl, hv⟩, hb2⟩
    have hv0 : ∃ a c, v = .slice a 0 c := by
      rcases hv with ⟨⟨a0, rfl⟩, _⟩ | ⟨b, o, n, c, rfl, _, _, hr⟩
      · exact ⟨_, _, rfl⟩
      · have h0 : n = 0 := hr
        subst h0; exact ⟨_, _, rfl⟩
    obtain ⟨va, vc, rfl⟩ := hv0
    have HB2 := Lib.hid (HB1.out.trans (hb2.mono HB1.out.size))
    clear hv hb2
    go_wp2_with fail
    go_ret
    exact ⟨rfl, HB2.out⟩
  · have hse : s.isEmpty = false := by cases s with
      | nil => exact absurd rfl hne
      | cons a b => rfl
    have hql := (Lx.quote_len false s).2
    have hnq := Lib.hid hne
    obtain ⟨Q, hQ⟩ : ∃ Q, Q = Lx.quote false s := ⟨_, rfl⟩
    have hqs : (Q == s) = plainB s := by rw [hQ]; exact plain_quote s
    have HQS := Lib.hid hqs
    rw [← hQ] at hql
    have hw : wt (wordsT s) ≤ 2100000 := by simp only [wordsT, wt]; omega
    have HT := Lib.hid (fun W v (hB : Below w.heap.size w W) (hv : SV W v (wordsT s)) => (show Calls Tryz.prog 10 #[v] W fun e w' => e = .returned (.tuple #[.string ⟨Q.toArray⟩, .nilIface]) ∧ Below W.heap.size W w' by
      have h := mtext_any (wordsT s) v W rfl hw (hm.below hB) (MaxAt.below hM rfl hB) hv
      rw [words_fault hne, if_pos rfl, words_txt, errVal_0, ← hQ] at h; exact h))
    have HP := Lib.hid (fun W (hB : Below w.heap.size w W) => parse_any Q W (by omega) (hm.below hB))
    have HPe : Hid ((2000 < Q.length → parseErr Q = 4 ∧ parseTree Q = .nil) ∧ (¬ 2000 < Q.length → parseErr Q = 0 ∧ parseTree Q = wordsT s)) := by
      have h := words_parse hne
      rw [← hQ] at h
      unfold parseErr parseTree
      constructor
      · intro hl; rw [if_pos hl, if_pos hl]; exact ⟨rfl, rfl⟩
      · intro hl; rw [if_neg hl, if_neg hl, h]; exact ⟨rfl, rfl⟩
    clear hm hM hql hQ hqs hne
    have HW := Lib.hid hw
    clear hw
    go_enter Tryz.func4, Tryz.ntmps4
    go_wp2_with fail
    refine HR.out.mono ?_
    rintro e w1 ⟨rfl, hb1⟩
    have HB1 := Lib.hid hb1
    clear hb1
    go_wp2_with fail
    have hB2 := HB1.out.alloc HB1.out.size (.cells #[.int .i64 1, .string ⟨s.toArray⟩, .int .i64 0, .slice none 0 0] 35)
    have hbk := Go.heap_alloc_new w1 (.cells #[.int .i64 1, .string ⟨s.toArray⟩, .int .i64 0, .slice none 0 0] 35)
    have hv : SV (w1.alloc (.cells #[.int .i64 1, .string ⟨s.toArray⟩, .int .i64 0, .slice none 0 0] 35)) (.slice (some ⟨w1.heap.size, 0, none⟩) 1 1) (wordsT s) :=
      .inr ⟨w1.heap.size, 0, 1, 1, rfl, Nat.le_refl _, .slice none 0 0, 0, rfl, Joins.cell_of_block hbk 0, Joins.cell_of_block hbk 1, Joins.cell_of_block hbk 2, Joins.cell_of_block hbk 3, .inl ⟨⟨_, rfl⟩, rfl⟩, rfl⟩
    have hcall := HT.out _ _ hB2 hv
    generalize w1.alloc (.cells #[.int .i64 1, .string ⟨s.toArray⟩, .int .i64 0, .slice none 0 0] 35) = w2 at *
    have HB2 := Lib.hid hB2; have HV2 := Lib.hid hv; have HC := Lib.hid hcall
    clear hB2 hv hcall hbk HT
    refine HC.out.mono ?_
    rintro e w3 ⟨rfl, hb3⟩
    have HV3 := Lib.hid (SV.below HV2.out hb3)
    have HB3 := Lib.hid (HB2.out.trans (hb3.mono HB2.out.size))
    clear hb3 HC HV2
    have hp := HP.out w3 HB3.out
    go_wp2_with fail
    refine hp.mono ?_
    rintro e w4 ⟨⟨pv, rfl, hpv⟩, hb4⟩
    clear hp
    obtain ⟨pa, pn, pc, rfl⟩ := hpv.form
    have HV4 := Lib.hid (SV.below HV3.out hb4)
    have HB4 := Lib.hid (HB3.out.trans (hb4.mono HB3.out.size))
    have HPV := Lib.hid hpv.sv
    clear hb4 hpv HP HV3
    by_cases hl : 2000 < Q.length
    · obtain ⟨pe, pt⟩ := HPe.out.1 hl
      rw [pe]
      have HS := Lib.hid (same_of (parseTree Q) (wordsT s) (.slice pa pn pc) (.slice (some ⟨w1.heap.size, 0, none⟩) 1 1) w4 (by rw [pt]; rfl) rfl (by rw [pt]; decide) HW.out HPV.out HV4.out)
      rw [pt] at HS
      rw [errVal_no (by decide)]
      have hl2 : (2000 : Int) < Q.length := by omega
      clear pe pt HPe HPV
      go_wp2_with fail
      refine HS.out.mono ?_
      rintro e w5 ⟨rfl, hb5⟩
      have HB5 := Lib.hid (HB4.out.trans (hb5.mono HB4.out.size))
      clear hb5 HS
      go_wp2_with fail
      go_loopw [12, 13] (fun p iv wr => ∃ (i : Nat), i ≤ s.length ∧ iv = .int .i64 i ∧ p = .bool (plainB (s.take i)) ∧ wr = w5) (fun _ iv _ => s.length - (RowKit.intOf iv).toNat)
      case atStart => exact ⟨0, by omega, rfl, rfl, rfl⟩
      case round =>
        obtain ⟨i, hi, rfl, rfl, rfl⟩ := hrel
        by_cases hlt : i < s.length
        · have hget : s[i]? = some s[i] := List.getElem?_eq_getElem hlt
          obtain ⟨c, hc⟩ : ∃ c, c = s[i] := ⟨_, rfl⟩
          rw [← hc] at hget
          have hpt := Lib.hid (plain_take hget)
          have hix : ∀ h, (⟨s.toArray⟩ : ByteArray)[i]'h = c := fun _ => by rw [hc]; simp [ByteArray.getElem_eq_getElem_data]
          clear hget hc
          cases hb : plainB (s.take i) with
          | false =>
            rw [hb] at hpt
            have HP2 := hpt
            clear hb hpt
            go_wp2_with fail
            go_roundw
            case rel => exact ⟨i + 1, by omega, by go_num, by rw [HP2.out]; rfl, by first | rfl | trivial⟩
            case measure => simp [RowKit.intOf]; omega
          | true =>
            rw [hb, sp_plain] at hpt
            have HP2 := hpt
            clear hb hpt
            cases e1 : ((c.toNat : Int) != 123) with
            | false =>
              have HC1 := Lib.hid (byte_is (n := 123) e1)
              go_wp2_with fail
              go_roundw
              case rel => exact ⟨i + 1, by omega, by go_num, by rw [HP2.out, HC1.out]; rfl, by first | rfl | trivial⟩
              case measure => simp [RowKit.intOf]; omega
            | true =>
              cases e2 : ((c.toNat : Int) != 125) with
              | false =>
                have HC1 := Lib.hid (byte_is (n := 125) e2)
                go_wp2_with fail
                go_roundw
                case rel => exact ⟨i + 1, by omega, by go_num, by rw [HP2.out, HC1.out]; rfl, by first | rfl | trivial⟩
                case measure => simp [RowKit.intOf]; omega
              | true =>
                cases e3 : ((c.toNat : Int) != 39) with
                | false =>
                  have HC1 := Lib.hid (byte_is (n := 39) e3)
                  go_wp2_with fail
                  go_roundw
                  case rel => exact ⟨i + 1, by omega, by go_num, by rw [HP2.out, HC1.out]; rfl, by first | rfl | trivial⟩
                  case measure => simp [RowKit.intOf]; omega
                | true =>
                  have HC1 := Lib.hid (show (c == 123 || c == 125 || c == 39) = false by
                    have h1 : c ≠ 123 := byte_not (n := 123) e1
                    have h2 : c ≠ 125 := byte_not (n := 125) e2
                    have h3 : c ≠ 39 := byte_not (n := 39) e3
                    simp [h1, h2, h3])
                  go_wp2_with fail
                  go_roundw
                  case rel => exact ⟨i + 1, by omega, by go_num, by rw [HP2.out, HC1.out]; rfl, by first | rfl | trivial⟩
                  case measure => simp [RowKit.intOf]; omega
        · have hie : i = s.length := by omega
          subst hie
          rw [List.take_length]
          have hqs := HQS.out
          generalize plainB s = b at hqs
          cases b
          all_goals
            go_wp2_with fail
            go_ret
            exact ⟨rfl, HB5.out⟩
    · obtain ⟨pe, pt⟩ := HPe.out.2 hl
      rw [pe]
      have HS := Lib.hid (same_of (parseTree Q) (wordsT s) (.slice pa pn pc) (.slice (some ⟨w1.heap.size, 0, none⟩) 1 1) w4 (by rw [pt]; rfl) rfl (by rw [pt]; exact HW.out) HW.out HPV.out HV4.out)
      rw [pt, sameT_refl] at HS
      rw [errVal_0]
      have hl2 : ¬ (2000 : Int) < Q.length := by omega
      clear pe pt HPe HPV
      go_wp2_with fail
      refine HS.out.mono ?_
      rintro e w5 ⟨rfl, hb5⟩
      have HB5 := Lib.hid (HB4.out.trans (hb5.mono HB4.out.size))
      clear hb5 HS
      go_wp2_with fail
      go_loopw [12, 13] (fun p iv wr => ∃ (i : Nat), i ≤ s.length ∧ iv = .int .i64 i ∧ p = .bool (plainB (s.take i)) ∧ wr = w5) (fun _ iv _ => s.length - (RowKit.intOf iv).toNat)
      case atStart => exact ⟨0, by omega, rfl, rfl, rfl⟩
      case round =>
        obtain ⟨i, hi, rfl, rfl, rfl⟩ := hrel
        by_cases hlt : i < s.length
        · have hget : s[i]? = some s[i] := List.getElem?_eq_getElem hlt
          obtain ⟨c, hc⟩ : ∃ c, c = s[i] := ⟨_, rfl⟩
          rw [← hc] at hget
          have hpt := Lib.hid (plain_take hget)
          have hix : ∀ h, (⟨s.toArray⟩ : ByteArray)[i]'h = c := fun _ => by rw [hc]; simp [ByteArray.getElem_eq_getElem_data]
          clear hget hc
          cases hb : plainB (s.take i) with
          | false =>
            rw [hb] at hpt
            have HP2 := hpt
            clear hb hpt
            go_wp2_with fail
            go_roundw
            case rel => exact ⟨i + 1, by omega, by go_num, by rw [HP2.out]; rfl, by first | rfl | trivial⟩
            case measure => simp [RowKit.intOf]; omega
          | true =>
            rw [hb, sp_plain] at hpt
            have HP2 := hpt
            clear hb hpt
            cases e1 : ((c.toNat : Int) != 123) with
            | false =>
              have HC1 := Lib.hid (byte_is (n := 123) e1)
              go_wp2_with fail
              go_roundw
              case rel => exact ⟨i + 1, by omega, by go_num, by rw [HP2.out, HC1.out]; rfl, by first | rfl | trivial⟩
              case measure => simp [RowKit.intOf]; omega
            | true =>
              cases e2 : ((c.toNat : Int) != 125) with
              | false =>
                have HC1 := Lib.hid (byte_is (n := 125) e2)
                go_wp2_with fail
                go_roundw
                case rel => exact ⟨i + 1, by omega, by go_num, by rw [HP2.out, HC1.out]; rfl, by first | rfl | trivial⟩
                case measure => simp [RowKit.intOf]; omega
              | true =>
                cases e3 : ((c.toNat : Int) != 39) with
                | false =>
                  have HC1 := Lib.hid (byte_is (n := 39) e3)
                  go_wp2_with fail
                  go_roundw
                  case rel => exact ⟨i + 1, by omega, by go_num, by rw [HP2.out, HC1.out]; rfl, by first | rfl | trivial⟩
                  case measure => simp [RowKit.intOf]; omega
                | true =>
                  have HC1 := Lib.hid (show (c == 123 || c == 125 || c == 39) = false by
                    have h1 : c ≠ 123 := byte_not (n := 123) e1
                    have h2 : c ≠ 125 := byte_not (n := 125) e2
                    have h3 : c ≠ 39 := byte_not (n := 39) e3
                    simp [h1, h2, h3])
                  go_wp2_with fail
                  go_roundw
                  case rel => exact ⟨i + 1, by omega, by go_num, by rw [HP2.out, HC1.out]; rfl, by first | rfl | trivial⟩
                  case measure => simp [RowKit.intOf]; omega
        · have hie : i = s.length := by omega
          subst hie
          rw [List.take_length]
          have hqs := HQS.out
          generalize plainB s = b at hqs
          cases b
          all_goals
            go_wp2_with fail
            go_ret
            exact ⟨rfl, HB5.out⟩
theorem msgPlain_bytes (s : ByteArray) (w : World) (hs : s.size ≤ 1048576) (hm : MW w) (hM : MaxAt w) :
    Calls Tryz.prog 4 #[.string s] w fun e w' => e = .returned (.bool true) ∧ Below w.heap.size w w' := by
  have h := msgPlain_walk s.data.toList w (by rw [← Lib.size_eq]; exact hs) hm hM
  rw [strOf_ext] at h; exact h
end Go.Proofs.YtgkphpjnfigjiaaGreatDoor
