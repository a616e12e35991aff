/-
  The walks of lex.quoted and of the closure in lex.Bare.
-/
import Derived.Test.YtlcomkhegppfgaaDoorLexQ
namespace Go.Proofs.YtlcomkhegppfgaaDoor
open Go.Shelf Go.RowKit Go.Lib

theorem sgIdx (m : Bool) (c : UInt8) : decide (0 ≤ Lib.indexByte (signsB m).data.toList ((c.toNat : Int).toNat.toUInt8)) = Lx.sg m c := by
  have e : ((c.toNat : Int)).toNat.toUInt8 = c := by simp
  rw [e, ← Lib.contains_iff_indexByte, signsB_contains]

set_option maxHeartbeats 400000 in
theorem sign_in (s : ByteArray) (m : Bool) (i : Nat) (a1 a2 : Nat) (w : World) (hi : i < s.size) (h1 : w.cell? ⟨a1, 0, none⟩ = some (.string s)) (h2 : w.cell? ⟨a2, 0, none⟩ = some (.bool m)) :
    Calls Tryd.prog 12 #[.int .i64 i, .pointer (some ⟨a1, 0, none⟩), .pointer (some ⟨a2, 0, none⟩)] w fun e w' => e = .returned (.bool (Lx.sg m s[i])) ∧ ∃ n, w' = w.drewN n := by
  have hlt : (i : Int) < (s.size : Int) := by omega
  have hd : decide ((i : Int) < (s.size : Int)) = true := decide_eq_true hlt
  obtain ⟨x, hx⟩ : ∃ x, Lib.indexByte (signsB m).data.toList ((s[i].toNat : Int).toNat.toUInt8) = x := ⟨_, rfl⟩
  have hc : ∀ W, Calls Tryd.prog 13 #[.string (signsB m), .int .u8 (s[i].toNat : Int)] W fun e w' => e = .returned (.int .i64 x) ∧ w' = W := fun W =>
    (Tryd.strings_IndexByte _ _ W).mono fun _ _ h => ⟨by rw [h.1, hx], h.2⟩
  have HC := Lib.hid hc
  have hsg := sgIdx m s[i]
  rw [hx] at hsg
  have Hsg := Lib.hid hsg
  clear hc hx hsg
  go_enter Tryd.func12, Tryd.ntmps12
  go_wp2_with fail
  go_quiet ((first | (go_at_call 14; exact Calls.quiet_of_same ((signs_any m _).mono fun _ _ h => ⟨h.1, h.2⟩)) | (go_at_call 13; exact Calls.quiet_of_same (HC.out _))))
  go_wp2_with fail
  go_ret
  exact ⟨by rw [← Hsg.out]; rfl, _, rfl⟩

set_option maxHeartbeats 400000 in
theorem sign_out (s : ByteArray) (i : Nat) (a1 a2 : Nat) (w : World) (hi : ¬ i < s.size) (h1 : w.cell? ⟨a1, 0, none⟩ = some (.string s)) :
    Calls Tryd.prog 12 #[.int .i64 i, .pointer (some ⟨a1, 0, none⟩), .pointer (some ⟨a2, 0, none⟩)] w fun e w' => e = .returned (.bool false) ∧ ∃ n, w' = w.drewN n := by
  have hd : decide ((i : Int) < (s.size : Int)) = false := decide_eq_false (by omega)
  go_enter Tryd.func12, Tryd.ntmps12
  go_wp2_with fail
  go_quiet (fail)
  go_wp2_with fail
  go_ret
  exact ⟨rfl, _, rfl⟩

/-- what lex.quoted hands back -/
def quotedOut (i : Nat) : Option (List UInt8 × Nat) → Value
  | none => .tuple #[.string ⟨#[]⟩, .int .i64 0, .bool false]
  | some (t, n) => .tuple #[.string ⟨t.toArray⟩, .int .i64 ((i + n : Nat) : Int), .bool true]
theorem hasPrefix_two {l : List UInt8} {i : Nat} : Lib.hasPrefix (l.drop i) [39, 39] = true ↔ l[i]? = some 39 ∧ l[i + 1]? = some 39 := by
  have e : l[i + 1]? = (l.drop i)[1]? := by simp
  have e0 : l[i]? = (l.drop i)[0]? := by simp
  rw [e, e0]
  generalize l.drop i = k
  match k with
  | [] => exact ⟨(fun h => by cases h), (fun h => by cases h.1)⟩
  | [a] =>
    refine ⟨fun h => ?_, (fun h => by cases h.2)⟩
    have : ((39 == a) && false) = true := h
    simp at this
  | a :: b :: t =>
    show ((39 == a) && ((39 == b) && true)) = true ↔ some a = some 39 ∧ some b = some 39
    rw [Bool.and_true, Bool.and_eq_true, beq_iff_eq, beq_iff_eq]
    exact ⟨fun h => ⟨by rw [h.1], by rw [h.2]⟩, fun h => ⟨(Option.some.inj h.1).symm, (Option.some.inj h.2).symm⟩⟩

theorem iqAcc_none {acc : List UInt8} {j : Nat} {l L : List UInt8} {i : Nat} (h : Lx.add acc j (Lx.iq l) = Lx.iq L) (hl : l = []) : quotedOut i (Lx.iq L) = .tuple #[.string ⟨#[]⟩, .int .i64 0, .bool false] := by
  subst hl
  rw [← h]; rfl

set_option maxHeartbeats 400000 in
set_option maxRecDepth 100000 in
theorem quoted_any (s : ByteArray) (i0 : Nat) (w : World) (hs : s.size ≤ 1000000000) (hi0 : i0 ≤ s.size) :
    Calls Tryd.prog 18 #[.string s, .int .i64 i0] w fun e w' => e = .returned (quotedOut i0 (Lx.iq (s.data.toList.drop i0))) ∧ Below w.heap.size w w' := by
  go_enter Tryd.func18, Tryd.ntmps18
  go_wp2_with fail
  go_loopw [1] (fun v wr => ∃ (i : Nat) (acc : List UInt8), v = .int .i64 i ∧ i0 ≤ i ∧ i ≤ s.size ∧ acc.length ≤ i ∧ Hid (Lx.add acc (i - i0) (Lx.iq (s.data.toList.drop i)) = Lx.iq (s.data.toList.drop i0)) ∧ Lib.IsBuilderF 38 5 w.heap.size w.heap.size (Lib.byteCells acc) wr ∧ Below w.heap.size w wr ∧ w.heap.size < wr.heap.size) (fun v _ => s.size - (RowKit.intOf v).toNat)
  case atStart =>
    refine ⟨i0, [], rfl, Nat.le_refl _, hi0, by simp, ?_, Lib.IsBuilderF.of (Lib.fresh_isBuilder _ _ w), (Below.refl _ _).alloc (Nat.le_refl _) _, by simp⟩
    show Lx.add [] (i0 - i0) _ = _
    rw [Nat.sub_self, Lx.add_nil]
  case round =>
    obtain ⟨i, acc, rfl, hi1, hi2, ha, HQ, hI, hbw, hsz⟩ := hrel
    by_cases hi : i < s.size
    · have hxl := Lib.data_getElem? s i hi
      by_cases hx : s[i] = 39
      · have hx1 : ((s[i].toNat : Int) == 39) = true := by rw [hx]; rfl
        rw [hx] at hxl
        have hpc : ∀ W, Calls Tryd.prog 16 #[.string (s.extract i s.size), .string ⟨#[39, 39]⟩] W fun e w' => e = .returned (.bool (Lib.hasPrefix (s.data.toList.drop i) [39, 39])) ∧ w' = W := fun W =>
          (Tryd.strings_HasPrefix _ _ W).mono fun _ _ h => ⟨by rw [h.1, Lib.extract_to_end], h.2⟩
        cases hpp : Lib.hasPrefix (s.data.toList.drop i) [39, 39]
        · rw [hpp] at hpc
          have HPC := Lib.hid hpc; clear hpc
          have hst := Lx.iq_at_close hxl (fun h => by rw [hasPrefix_two.2 ⟨hxl, h⟩] at hpp; cases hpp)
          have Hst := Lib.hid hst; clear hst hxl hpp hx
          go_wp2_with fail
          refine (HPC.out _).mono ?_
          rintro e w1 ⟨rfl, rfl⟩
          go_wp2_with fail
          refine (Tryd.Builder_String_any_k w.heap.size w.heap.size acc _ hI (Nat.le_of_lt hsz)).mono ?_
          rintro e w2 ⟨rfl, _, hb2, _⟩
          have Hb2 := Lib.hid hb2; clear hb2
          go_wp2_with fail
          go_ret3
          refine ⟨?_, hbw.trans Hb2.out⟩
          have h := HQ.out
          rw [Hst.out] at h
          rw [← h]
          show _ = Ending.returned (.tuple #[.string ⟨(acc ++ []).toArray⟩, .int .i64 ((i0 + (i - i0 + 1) : Nat) : Int), .bool true])
          rw [List.append_nil, show i0 + (i - i0 + 1) = i + 1 from by omega]
          simp
        · rw [hpp] at hpc
          have HPC := Lib.hid hpc; clear hpc
          have h2 := (hasPrefix_two.1 hpp).2
          have hi3 : i + 1 < s.size := by
            have := (List.getElem?_eq_some_iff.1 h2).1
            rw [← Lib.size_eq] at this; exact this
          have hst := Lx.iq_at_pair hxl h2
          have hy : s[i + 1] = 39 := by
            have := Lib.data_getElem? s (i + 1) hi3
            rw [this] at h2; exact Option.some.inj h2
          have hy1 : (s[i + 1].toNat : Int) = 39 := by rw [hy]; rfl
          have Hst := Lib.hid hst; have Hy := Lib.hid hy1; clear hst hxl hpp hx h2 hy hy1
          go_wp2_with fail
          refine (HPC.out _).mono ?_
          rintro e w1 ⟨rfl, rfl⟩
          go_wp2_with fail
          rw [Hy.out]
          refine (Tryd.writeByte w.heap.size w.heap.size _ 39 _ hI (by rw [Lib.byteCells_length]; omega) (Nat.le_of_lt hsz)).mono ?_
          rintro e w2 ⟨rfl, h2, hb2, _⟩
          have Hb2 := Lib.hid hb2; have H2 := Lib.hid h2; clear hb2 h2
          go_wp2_with fail
          go_roundw
          case rel =>
            refine ⟨i + 2, acc ++ [39], by go_num, by omega, by omega, by simp; omega, ?_, ?_, hbw.trans Hb2.out, Nat.lt_of_lt_of_le hsz Hb2.out.size⟩
            · have h := HQ.out
              rw [Hst.out, Lx.add_add] at h
              rw [show i + 2 - i0 = i - i0 + 2 from by omega]; exact h
            · rw [Lib.byteCells_append]; exact Or.inr H2.out
          case measure => simp [RowKit.intOf]; omega
      · have hx1 : ((s[i].toNat : Int) == 39) = false := by
          rw [beq_eq_false_iff_ne]
          intro e
          exact hx (UInt8.toNat_inj.1 (by simpa using (Int.ofNat.inj e)))
        have hst := Lx.iq_at_plain hxl hx
        have Hst := Lib.hid hst; clear hst hxl hx
        go_wp2_with fail
        refine (Tryd.writeByte w.heap.size w.heap.size _ (s[i].toNat : Int) _ hI (by rw [Lib.byteCells_length]; omega) (Nat.le_of_lt hsz)).mono ?_
        rintro e w2 ⟨rfl, h2, hb2, _⟩
        have Hb2 := Lib.hid hb2; have H2 := Lib.hid h2; clear hb2 h2
        go_wp2_with fail
        go_roundw
        case rel =>
          refine ⟨i + 1, acc ++ [s[i]], by go_num, by omega, by omega, by simp; omega, ?_, ?_, hbw.trans Hb2.out, Nat.lt_of_lt_of_le hsz Hb2.out.size⟩
          · have h := HQ.out
            rw [Hst.out, Lx.add_add] at h
            rw [show i + 1 - i0 = i - i0 + 1 from by omega]; exact h
          · rw [Lib.byteCells_append]; exact Or.inr H2.out
        case measure => simp [RowKit.intOf]; omega
    · go_wp2_with fail
      go_ret3
      refine ⟨?_, hbw⟩
      have hd : s.data.toList.drop i = [] := List.drop_eq_nil_of_le (by rw [← Lib.size_eq]; omega)
      rw [iqAcc_none HQ.out hd]
      rfl
end Go.Proofs.YtlcomkhegppfgaaDoor
