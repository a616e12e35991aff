/-
  The walks of dpat.letter and dpat.quoted.
-/
import Derived.Test.YtmaccmhpcagcnaaGreatDoorBld
import Derived.Test.YtmaccmhpcagcnaaGreatDoorKit
import Derived.Test.YtmaccmhpcagcnaaGreatDoorShelf
import Derived.Test.YtmaccmhpcagcnaaGreatDoorPdpat
namespace Go.Proofs.YtmaccmhpcagcnaaGreatDoor
open Go.Shelf Go.RowKit Go.Lib

/-- the library's MaxLen holds a number -/
def MaxAt (w : World) : Prop := ∃ m : Int, w.cell? ⟨3, 0, none⟩ = some (.int .i64 m)
theorem MaxAt.lt {w : World} (h : MaxAt w) : 3 < w.heap.size := by
  obtain ⟨m, h⟩ := h
  rcases Nat.lt_or_ge 3 w.heap.size with h' | h'
  · exact h'
  · simp [World.cell?, Array.getElem?_eq_none h'] at h
theorem MaxAt.keep {w w' : World} {B : Nat} (h : MaxAt w) (hB : 3 < B) (hb : Below B w w') : MaxAt w' := by
  obtain ⟨m, h⟩ := h
  exact ⟨m, by rw [hb.cell (p := ⟨_, _, none⟩) hB]; exact h⟩
theorem MaxAt.below {w w' : World} (h : MaxAt w) (hb : Below w.heap.size w w') : MaxAt w' := h.keep h.lt hb

theorem cut_cons (b : UInt8) (l : List UInt8) (hb : b ≠ 39) : Lib.cut (b :: l) [39] = if 0 ≤ Lib.index l [39] then (b :: (Lib.cut l [39]).1, (Lib.cut l [39]).2.1, true) else (b :: l, [], false) := by
  have hge := Lib.index_ge l [39]
  have e : Lib.index (b :: l) [39] = if Lib.index l [39] == -1 then -1 else Lib.index l [39] + 1 := by
    show (if [39].isPrefixOf (b :: l) then 0 else _) = _
    rw [if_neg]
    simpa [List.isPrefixOf] using hb.symm
  unfold Lib.cut
  rw [e]
  by_cases h : Lib.index l [39] = -1
  · rw [h]; rfl
  · have h0 : 0 ≤ Lib.index l [39] := by omega
    rw [if_pos h0, if_pos h0]
    have h1 : (Lib.index l [39] == -1) = false := by simpa using h
    rw [h1]
    simp only [Bool.false_eq_true, if_false]
    generalize Lib.index l [39] = i at *
    have hi : (i + 1).toNat = i.toNat + 1 := by omega
    rw [if_pos (by omega), hi]
    simp

/-- the text so far ahead of what is still read -/
def addq (acc : List UInt8) (r : Option (List UInt8 × List UInt8)) : Option (List UInt8 × List UInt8) := r.map fun p => (acc ++ p.1, p.2)
theorem addq_nil (r : Option (List UInt8 × List UInt8)) : addq [] r = r := by cases r <;> rfl
theorem addq_add (a b : List UInt8) (r : Option (List UInt8 × List UInt8)) : addq a (addq b r) = addq (a ++ b) r := by cases r <;> simp [addq]

theorem index_39 (l : List UInt8) : Lib.index (39 :: l) [39] = 0 := by
  show (if [39].isPrefixOf (39 :: l) then 0 else _) = 0
  rw [if_pos]; simp [List.isPrefixOf]
theorem cut39 : ∀ l : List UInt8, (Lib.cut l [39] = (l, [], false) ∧ Dp.qin l = none) ∨
    ∃ h t, Lib.cut l [39] = (h, t, true) ∧ h.length + 1 + t.length = l.length ∧ (∀ r, t = 39 :: r → Dp.qin l = addq (h ++ [39]) (Dp.qin r)) ∧ ((∀ r, t ≠ 39 :: r) → Dp.qin l = some (h, t))
  | [] => .inl ⟨rfl, Dp.qin_nil⟩
  | b :: l => by
    by_cases hb : b = 39
    · subst hb
      refine .inr ⟨[], l, ?_, by simp; omega, ?_, ?_⟩
      · unfold Lib.cut; rw [index_39]; rfl
      · rintro r rfl; rw [Dp.qin_pair]; rfl
      · intro hn
        match l, hn with
        | [], _ => exact Dp.qin_end1
        | c :: r, hn => exact Dp.qin_end r (fun e => hn r (by rw [e]))
    · rcases cut39 l with ⟨h1, h2⟩ | ⟨h, t, h1, h2, h3, h4⟩
      · refine .inl ⟨?_, ?_⟩
        · rw [cut_cons b l hb, if_neg]
          intro h0
          unfold Lib.cut at h1
          rw [if_pos h0] at h1
          have := congrArg (fun p => p.2.2) h1
          cases this
        · rw [Dp.qin_cons l hb, h2]; rfl
      · refine .inr ⟨b :: h, t, ?_, by simp at h2 ⊢; omega, ?_, ?_⟩
        · rw [cut_cons b l hb, if_pos, h1]
          apply Decidable.byContradiction
          intro h0
          unfold Lib.cut at h1
          rw [if_neg h0] at h1
          have := congrArg (fun p => p.2.2) h1
          cases this
        · intro r hr
          rw [Dp.qin_cons l hb, h3 r hr]
          cases Dp.qin r <;> rfl
        · intro hn
          rw [Dp.qin_cons l hb, h4 hn]; rfl

theorem hasPrefix_39 : ∀ t : List UInt8, (Lib.hasPrefix t [39] = true ∧ ∃ r, t = 39 :: r) ∨ (Lib.hasPrefix t [39] = false ∧ ∀ r, t ≠ 39 :: r)
  | [] => .inr ⟨rfl, fun r h => by cases h⟩
  | b :: r => by
    by_cases hb : b = 39
    · subst hb; exact .inl ⟨by simp [Lib.hasPrefix, List.isPrefixOf], r, rfl⟩
    · exact .inr ⟨by simpa [Lib.hasPrefix, List.isPrefixOf] using fun h => hb h.symm, fun r' h => by cases h; exact hb rfl⟩

/-- what dpat.quoted hands back -/
def dqOut : Option (List UInt8 × List UInt8) → Value
  | none => .tuple #[.string ⟨#[]⟩, .string ⟨#[]⟩, .bool false]
  | some (t, x) => .tuple #[.string ⟨t.toArray⟩, .string ⟨x.toArray⟩, .bool true]

theorem sz_mk (l : List UInt8) : (⟨l.toArray⟩ : ByteArray).size = l.length := by simp [ByteArray.size]
/-- a text's size, as a measure -/
def strSize : Value → Nat
  | .string r => r.size
  | _ => 0

set_option maxRecDepth 100000 in
theorem letter_bits (c : UInt8) : Dp.letter c = (decide (97 ≤ bits BinOp.or IntKind.u8 (c.toNat : Int) 32) && decide (bits BinOp.or IntKind.u8 (c.toNat : Int) 32 ≤ 122)) := by
  have h : ∀ n : Fin 256, Dp.letter (UInt8.ofNat n.1) = (decide (97 ≤ bits BinOp.or IntKind.u8 (n.1 : Int) 32) && decide (bits BinOp.or IntKind.u8 (n.1 : Int) 32 ≤ 122)) := by decide +kernel
  have := h ⟨c.toNat, c.toNat_lt⟩
  simpa using this
theorem letter_any (c : UInt8) (w : World) : Calls Tryz.prog 24 #[.int .u8 c.toNat] w fun e w' => e = .returned (.bool (Dp.letter c)) ∧ w' = w := by
  rw [letter_bits]
  go_enter Tryz.func24, Tryz.ntmps24
  go_wp2_with fail
  · have h1 : 97 ≤ bits BinOp.or IntKind.u8 (c.toNat : Int) 32 := by assumption
    go_ret
    exact ⟨by rw [decide_eq_true h1, Bool.true_and]; rfl, rfl⟩
  · have h1 : bits BinOp.or IntKind.u8 (c.toNat : Int) 32 < 97 := by assumption
    go_ret
    exact ⟨by rw [decide_eq_false (Int.not_le.2 h1), Bool.false_and]; rfl, rfl⟩

set_option maxHeartbeats 1000000 in
set_option maxRecDepth 100000 in
theorem dquoted_any (s : ByteArray) (w : World) (hs : s.size ≤ 1000000000) (hM : MaxAt w) :
    Calls Tryz.prog 23 #[.string s] w fun e w' => e = .returned (dqOut (Dp.quoted s.data.toList)) ∧ Below w.heap.size w w' := by
  have HM := Lib.hid hM; clear hM
  rcases hasPrefix_39 s.data.toList with ⟨h1, r, h2⟩ | ⟨h1, h2⟩
  · have hpc : ∀ W, Calls Tryz.prog 39 #[.string s, .string ⟨#[39]⟩] W fun e w' => e = .returned (.tuple #[.string ⟨r.toArray⟩, .bool true]) ∧ w' = W := fun W =>
      (Tryz.strings_CutPrefix s ⟨#[39]⟩ W).mono fun _ _ h => ⟨by
        have e := h.1
        have e2 : Lib.trimPrefix s.data.toList [39] = r := by unfold Lib.trimPrefix; rw [h1, h2]; rfl
        have e3 : (⟨#[39]⟩ : ByteArray).data.toList = [39] := rfl
        rw [e3, e2, h1] at e; exact e, h.2⟩
    have HPC := Lib.hid hpc
    have hq : Dp.quoted s.data.toList = some ([39], r) := by rw [h2]; rfl
    rw [hq]
    clear hpc h1 h2 hq
    unfold dqOut
    go_enter Tryz.func23, Tryz.ntmps23
    go_wp2_with fail
    refine (HPC.out _).mono ?_
    rintro e w1 ⟨rfl, rfl⟩
    go_wp2_with fail
    go_ret3
    exact ⟨rfl, Below.refl _ _⟩
  · have hpc : ∀ W, Calls Tryz.prog 39 #[.string s, .string ⟨#[39]⟩] W fun e w' => e = .returned (.tuple #[.string s, .bool false]) ∧ w' = W := fun W =>
      (Tryz.strings_CutPrefix s ⟨#[39]⟩ W).mono fun _ _ h => ⟨by
        have e := h.1
        have e3 : (⟨#[39]⟩ : ByteArray).data.toList = [39] := rfl
        have e2 : Lib.trimPrefix s.data.toList [39] = s.data.toList := by unfold Lib.trimPrefix; rw [h1]; rfl
        rw [e3, e2, h1, strOf_ext] at e; exact e, h.2⟩
    have HPC := Lib.hid hpc
    have hq : Dp.quoted s.data.toList = Dp.qin s.data.toList := Dp.quoted_qin h2
    rw [hq]
    clear hpc h1 h2 hq
    go_enter Tryz.func23, Tryz.ntmps23
    go_wp2_with fail
    refine (HPC.out _).mono ?_
    rintro e w1 ⟨rfl, rfl⟩
    go_wp2_with fail
    go_loopw [0] (fun v wr => ∃ (r : ByteArray) (acc : List UInt8), v = .string r ∧ acc.length + r.size ≤ s.size ∧ Hid (addq acc (Dp.qin r.data.toList) = Dp.qin s.data.toList) ∧ Lib.IsBuilderF 39 5 w1.heap.size w1.heap.size (Lib.byteCells acc) wr ∧ Below w1.heap.size w1 wr ∧ w1.heap.size < wr.heap.size) (fun v _ => strSize v)
    case atStart =>
      exact ⟨s, [], rfl, by simp, addq_nil _, Lib.IsBuilderF.of (Lib.fresh_isBuilder _ _ w1), (Below.refl _ _).alloc (Nat.le_refl _) _, by simp⟩
    case round =>
      obtain ⟨r, acc, rfl, hlen, HQ, hI, hbw, hsz⟩ := hrel
      have hMr : MaxAt wr := HM.out.keep HM.out.lt hbw
      obtain ⟨mm, hmm⟩ := hMr
      have hcut := Tryz.strings_Cut r ⟨#[39]⟩ mm wr (by omega) hmm
      have e3 : (⟨#[39]⟩ : ByteArray).data.toList = [39] := rfl
      rw [e3] at hcut
      clear e3 hmm
      rcases cut39 r.data.toList with ⟨h1, h2⟩ | ⟨h, t, h1, h2, h3, h4⟩
      · rw [h1] at hcut
        have hq : Dp.qin s.data.toList = none := by rw [← HQ.out, h2]; rfl
        have HC := Lib.hid hcut; have Hq := Lib.hid hq
        clear hcut hq h1 h2
        go_wp2_with fail
        refine HC.out.mono ?_
        rintro e w2 ⟨rfl, n, rfl⟩
        go_wp2_with fail
        go_ret3
        exact ⟨by rw [Hq.out]; rfl, belowN hbw _⟩
      · rw [h1] at hcut
        rw [← Lib.size_eq] at h2
        have HC := Lib.hid hcut
        clear hcut h1
        have hI2 := builder_below hI (below0N _ _ 0)
        rcases hasPrefix_39 t with ⟨p1, x, p2⟩ | ⟨p1, p2⟩
        · have hpc2 : ∀ W, Calls Tryz.prog 39 #[.string ⟨t.toArray⟩, .string ⟨#[39]⟩] W fun e w' => e = .returned (.tuple #[.string ⟨x.toArray⟩, .bool true]) ∧ w' = W := fun W =>
            (Tryz.strings_CutPrefix ⟨t.toArray⟩ ⟨#[39]⟩ W).mono fun _ _ h => ⟨by
              have e := h.1
              have e3 : (⟨#[39]⟩ : ByteArray).data.toList = [39] := rfl
              have e4 : (⟨t.toArray⟩ : ByteArray).data.toList = t := by simp
              have e2 : Lib.trimPrefix t [39] = x := by unfold Lib.trimPrefix; rw [p1, p2]; rfl
              rw [e3, e4, e2, p1] at e; exact e, h.2⟩
          have hq : Dp.qin s.data.toList = addq (acc ++ (h ++ [39])) (Dp.qin x) := by rw [← HQ.out, h3 x p2, addq_add]
          have hx : t.length = x.length + 1 := by rw [p2]; simp
          have HPC2 := Lib.hid hpc2; have Hq := Lib.hid hq
          clear hpc2 hq p1 p2 h3 h4
          go_wp2_with fail
          refine HC.out.mono ?_
          rintro e w2 ⟨rfl, n, rfl⟩
          go_wp2_with fail
          refine (Tryz.writeString w1.heap.size w1.heap.size _ ⟨h.toArray⟩ _ (builder_below hI (below0N _ _ _)) (by rw [Lib.byteCells_length, sz_mk]; omega) (Nat.le_of_lt hsz)).mono ?_
          rintro e w3 ⟨rfl, h3, hb3, _⟩
          have Hb3 := Lib.hid hb3; have H3 := Lib.hid h3; clear hb3 h3
          go_wp2_with fail
          refine (HPC2.out _).mono ?_
          rintro e w4 ⟨rfl, rfl⟩
          go_wp2_with fail
          refine (Tryz.writeByte w1.heap.size w1.heap.size _ 39 _ (Or.inr H3.out) (by rw [List.length_append, Lib.byteCells_length, Lib.byteCells_length]; simp; omega) (Nat.le_trans (Nat.le_of_lt hsz) Hb3.out.size)).mono ?_
          rintro e w5 ⟨rfl, h5, hb5, _⟩
          have Hb5 := Lib.hid hb5; have H5 := Lib.hid h5; clear hb5 h5
          go_wp2_with fail
          go_roundw
          case rel =>
            refine ⟨⟨x.toArray⟩, acc ++ (h ++ [39]), rfl, ?_, ?_, ?_, ((belowN hbw _).trans Hb3.out).trans Hb5.out, Nat.lt_of_lt_of_le (Nat.lt_of_lt_of_le hsz Hb3.out.size) Hb5.out.size⟩
            · rw [sz_mk]; simp only [List.length_append, List.length_cons, List.length_nil]; omega
            · exact Hq.out.symm
            · have := H5.out
              rw [← List.append_assoc, Lib.byteCells_append, Lib.byteCells_append]
              exact Or.inr this
          case measure => show ByteArray.size _ < ByteArray.size _; rw [sz_mk]; omega
        · have hpc2 : ∀ W, Calls Tryz.prog 39 #[.string ⟨t.toArray⟩, .string ⟨#[39]⟩] W fun e w' => e = .returned (.tuple #[.string ⟨t.toArray⟩, .bool false]) ∧ w' = W := fun W =>
            (Tryz.strings_CutPrefix ⟨t.toArray⟩ ⟨#[39]⟩ W).mono fun _ _ h => ⟨by
              have e := h.1
              have e3 : (⟨#[39]⟩ : ByteArray).data.toList = [39] := rfl
              have e4 : (⟨t.toArray⟩ : ByteArray).data.toList = t := by simp
              have e2 : Lib.trimPrefix t [39] = t := by unfold Lib.trimPrefix; rw [p1]; rfl
              rw [e3, e4, e2, p1] at e; exact e, h.2⟩
          have hq : Dp.qin s.data.toList = some (acc ++ h, t) := by rw [← HQ.out, h4 p2]; rfl
          have HPC2 := Lib.hid hpc2; have Hq := Lib.hid hq
          clear hpc2 hq p1 p2 h3 h4
          go_wp2_with fail
          refine HC.out.mono ?_
          rintro e w2 ⟨rfl, n, rfl⟩
          go_wp2_with fail
          refine (Tryz.writeString w1.heap.size w1.heap.size _ ⟨h.toArray⟩ _ (builder_below hI (below0N _ _ _)) (by rw [Lib.byteCells_length, sz_mk]; omega) (Nat.le_of_lt hsz)).mono ?_
          rintro e w3 ⟨rfl, h3, hb3, _⟩
          have h3' : Lib.IsBuilderF 39 5 w1.heap.size w1.heap.size (Lib.byteCells (acc ++ h)) w3 := by rw [Lib.byteCells_append]; exact Or.inr h3
          have Hb3 := Lib.hid hb3; have H3 := Lib.hid h3'; clear hb3 h3 h3'
          go_wp2_with fail
          refine (HPC2.out _).mono ?_
          rintro e w4 ⟨rfl, rfl⟩
          go_wp2_with fail
          refine (Tryz.Builder_String_any_k w1.heap.size w1.heap.size (acc ++ h) _ H3.out (Nat.le_trans (Nat.le_of_lt hsz) Hb3.out.size)).mono ?_
          rintro e w5 ⟨rfl, _, hb5, _⟩
          have Hb5 := Lib.hid hb5; clear hb5
          go_wp2_with fail
          go_ret3
          refine ⟨?_, ((belowN hbw _).trans Hb3.out).trans Hb5.out⟩
          rw [Hq.out]; rfl
end Go.Proofs.YtmaccmhpcagcnaaGreatDoor
