/-
  The walk of lex.Quote: it computes the plain law's quote.
-/
import Derived.Test.YtlcomkhegppfgaaDoorLexA
namespace Go.Proofs.YtlcomkhegppfgaaDoor
open Go.Shelf Go.RowKit Go.Lib

/-- the library's variable MaxLen holds some number -/
def MaxAt (w : World) : Prop := ∃ m : Int, w.cell? ⟨1, 0, none⟩ = some (.int .i64 m)
theorem lt_of_cell {w : World} {b o : Nat} {v : Value} (h : w.cell? ⟨b, o, none⟩ = some v) : b < w.heap.size := by
  rcases Nat.lt_or_ge b w.heap.size with h' | h'
  · exact h'
  · simp [World.cell?, Array.getElem?_eq_none h'] at h
theorem MaxAt.below {w w' : World} (h : MaxAt w) {B : Nat} (hB : B = w.heap.size) (hb : Below B w w') : MaxAt w' := by
  subst hB
  obtain ⟨m, hm⟩ := h
  exact ⟨m, by rw [hb.cell (p := ⟨_, 0, none⟩) (lt_of_cell hm)]; exact hm⟩
theorem MaxAt.keep {w w' : World} {B : Nat} (h : MaxAt w) (hB : 1 < B) (hb : Below B w w') : MaxAt w' := by
  obtain ⟨m, hm⟩ := h
  exact ⟨m, by rw [hb.cell (p := ⟨_, 0, none⟩) hB]; exact hm⟩
theorem MaxAt.lt {w : World} (h : MaxAt w) : 1 < w.heap.size := by
  obtain ⟨m, hm⟩ := h
  exact lt_of_cell hm

def strLen : Value → Nat
  | .string s => s.size
  | _ => 0

theorem quote_acc {m : Bool} {acc x l : List UInt8} (h : acc ++ x = Lx.quote m l) : acc.length ≤ 4 * l.length := by
  have := congrArg List.length h
  have := (Lx.quote_len m l).2
  simp at *; omega
theorem quote_all {m : Bool} {acc l q : List UInt8} (h : acc ++ Lx.quote m l = q) (hp : ∀ c ∈ l, Lx.sp m c = false) : (acc ++ l) ++ Lx.quote m [] = q := by
  rw [← h]
  have := Lx.quote_plain m l [] hp
  simp only [List.append_nil] at this
  rw [this, List.append_assoc]
theorem quote_some {m : Bool} {acc l q : List UInt8} (j : Nat) (h : acc ++ Lx.quote m l = q) (hp : ∀ c ∈ l.take j, Lx.sp m c = false) : (acc ++ l.take j) ++ Lx.quote m (l.drop j) = q := by
  rw [← h, List.append_assoc, ← Lx.quote_plain m _ _ hp, List.take_append_drop]
theorem take_run {m : Bool} {l : List UInt8} {k : Nat} (hk : (l.takeWhile (Lx.sp m)).length = k) : (∀ c ∈ l.take k, Lx.sp m c = true) ∧ (∀ c, (l.drop k).head? = some c → Lx.sp m c = false) := by
  subst hk
  have e1 : l.take (l.takeWhile (Lx.sp m)).length = l.takeWhile (Lx.sp m) := by
    conv => lhs; arg 2; rw [← List.takeWhile_append_dropWhile (p := Lx.sp m) (l := l)]
    rw [List.take_left']
    rfl
  have e2 : l.drop (l.takeWhile (Lx.sp m)).length = l.dropWhile (Lx.sp m) := by
    conv => lhs; arg 2; rw [← List.takeWhile_append_dropWhile (p := Lx.sp m) (l := l)]
    rw [List.drop_left']
    rfl
  rw [e1, e2]
  refine ⟨fun c hc => ?_, fun c hc => ?_⟩
  · exact List.all_eq_true.1 (List.all_takeWhile (l := l) (p := Lx.sp m)) c hc
  · cases hd : l.dropWhile (Lx.sp m) with
    | nil => rw [hd] at hc; simp at hc
    | cons a t =>
      rw [hd] at hc
      simp at hc
      subst hc
      have := List.head?_dropWhile_not (Lx.sp m) l
      rw [hd] at this
      simpa using this
theorem quote_run' {m : Bool} {acc l q : List UInt8} {k : Nat} (hk : (l.takeWhile (Lx.sp m)).length = k) (h : acc ++ Lx.quote m l = q) : (acc ++ Lx.dupq m (l.take k)) ++ Lx.quote m (l.drop k) = q := by
  have := take_run hk
  rw [← h, List.append_assoc, ← Lx.quote_run m _ _ this.1 this.2, List.take_append_drop]

theorem plain_pos {m : Bool} {l : List UInt8} {j : Nat} (hk : (l.takeWhile (Lx.sp m)).length = 0) (hj : j < l.length) (h : ∀ c, l[j]? = some c → Lx.sp m c = true) : 1 ≤ j := by
  rcases Nat.eq_zero_or_pos j with rfl | h1
  · cases l with
    | nil => simp at hj
    | cons c t =>
      have := h c (by simp)
      rw [List.takeWhile_cons, this] at hk
      simp at hk
  · exact h1

set_option maxHeartbeats 400000 in
set_option maxRecDepth 100000 in
theorem quote_any (s : ByteArray) (m : Bool) (w : World) (hs : s.size ≤ 100000000) (hmax : MaxAt w) :
    Calls Tryd.prog 8 #[.string s, .bool m] w fun e w' => e = .returned (.string ⟨(Lx.quote m s.data.toList).toArray⟩) ∧ Below w.heap.size w w' := by
  have hmlt := hmax.lt
  have HM := Lib.hid hmax; clear hmax
  have hsg : (signsB m).size ≤ 3 := by cases m <;> decide
  go_enter Tryd.func8, Tryd.ntmps8
  go_wp2_with fail
  go_loopw [0] (fun v wr => ∃ (r : ByteArray) (acc : List UInt8), v = .string r ∧ r.size ≤ s.size ∧ acc.length ≤ 400000000 ∧ Hid (acc ++ Lx.quote m r.data.toList = Lx.quote m s.data.toList) ∧ Lib.IsBuilderF 38 5 w.heap.size w.heap.size (Lib.byteCells acc) wr ∧ Below w.heap.size w wr ∧ w.heap.size < wr.heap.size) (fun v _ => strLen v)
  case atStart =>
    refine ⟨s, [], rfl, Nat.le_refl _, by simp, rfl, Lib.IsBuilderF.of (Lib.fresh_isBuilder _ _ w), (Below.refl _ _).alloc (Nat.le_refl _) _, by simp⟩
  case round =>
    obtain ⟨r, acc, rfl, hr, ha, HQ, hI, hbw, hsz⟩ := hrel
    by_cases h0 : r.size = 0
    · have hemp := emp_true h0
      have Hr0 := Lib.hid (nil_of_size h0); clear h0
      go_wp2_with fail
      refine (Tryd.Builder_String_any_k w.heap.size w.heap.size acc _ hI (Nat.le_of_lt hsz)).mono ?_
      rintro e w1 ⟨rfl, _, hb1, _⟩
      have Hb1 := Lib.hid hb1; clear hb1
      go_wp2_with fail
      go_ret
      have h := HQ.out
      rw [Hr0.out] at h
      refine ⟨?_, hbw.trans Hb1.out⟩
      rw [← h]; simp [Lx.quote, Lx.qz, Lx.dupq, Lx.dup]
    · have hemp := emp_false h0
      obtain ⟨k, hk⟩ : ∃ k, (r.data.toList.takeWhile (Lx.sp m)).length = k := ⟨_, rfl⟩
      have Hk := Lib.hid hk; clear hk
      by_cases hk0 : k = 0
      · subst hk0
        rcases indexAny_spec m r.data.toList with ⟨h1, h2⟩ | ⟨j, h1, h2, h3, h4⟩
        · have Hidx := Lib.hid h1; have Hpl := Lib.hid h2; clear h1 h2
          go_wp2_with fail
          refine (signs_any m _).mono ?_
          rintro e w1 ⟨rfl, rfl⟩
          go_wp2_with fail
          refine (span_any r m _ (by omega)).mono ?_
          rintro e w2 ⟨rfl, hb2⟩
          rw [Hk.out]
          have Hb2 := Lib.hid hb2; clear hb2
          go_wp2_with fail
          refine (signs_any m _).mono ?_
          rintro e w3 ⟨rfl, rfl⟩
          go_wp2_with fail
          refine (idx_any r m _ (by omega)).mono ?_
          rintro e w4 ⟨rfl, hb4⟩
          rw [Hidx.out]
          have Hb4 := Lib.hid hb4; clear hb4
          go_wp2_with fail
          have hI4 := builder_below (builder_below hI Hb2.out) Hb4.out
          have hsz4 : w.heap.size < w4.heap.size := Nat.lt_of_lt_of_le hsz (Nat.le_trans Hb2.out.size Hb4.out.size)
          have hsz0 := hsz
          clear hI hsz
          refine (Tryd.writeString w.heap.size w.heap.size _ r _ hI4 (by rw [Lib.byteCells_length]; omega) (by omega)).mono ?_
          rintro e w5 ⟨rfl, h5, hb5, _⟩
          have Hb5 := Lib.hid hb5; have H5 := Lib.hid h5; clear hb5 h5
          go_wp2_with fail
          go_roundw
          case rel =>
            refine ⟨ByteArray.empty, acc ++ r.data.toList, rfl, by simp, ?_, ?_, ?_, ?_, ?_⟩
            · have := quote_acc (quote_all HQ.out Hpl.out); rw [← Lib.size_eq] at this; omega
            · exact quote_all HQ.out Hpl.out
            · rw [Lib.byteCells_append]; exact Or.inr H5.out
            · exact ((hbw.trans (Hb2.out.mono (Nat.le_of_lt hsz0))).trans (Hb4.out.mono (Nat.le_trans (Nat.le_of_lt hsz0) Hb2.out.size))).trans Hb5.out
            · exact Nat.lt_of_lt_of_le hsz4 Hb5.out.size
          case measure => simp [strLen]; omega
        · have Hidx := Lib.hid h1; have Hpl := Lib.hid h3; have Hsp := Lib.hid h4; clear h1 h3 h4
          have hj : j < r.size := by rw [Lib.size_eq]; exact h2
          have hj1 : 1 ≤ j := plain_pos Hk.out h2 Hsp.out
          clear h2
          go_wp2_with fail
          refine (signs_any m _).mono ?_
          rintro e w1 ⟨rfl, rfl⟩
          go_wp2_with fail
          refine (span_any r m _ (by omega)).mono ?_
          rintro e w2 ⟨rfl, hb2⟩
          rw [Hk.out]
          have Hb2 := Lib.hid hb2; clear hb2
          go_wp2_with fail
          refine (signs_any m _).mono ?_
          rintro e w3 ⟨rfl, rfl⟩
          go_wp2_with fail
          refine (idx_any r m _ (by omega)).mono ?_
          rintro e w4 ⟨rfl, hb4⟩
          rw [Hidx.out]
          have Hb4 := Lib.hid hb4; clear hb4
          go_wp2_with fail
          have hI4 := builder_below (builder_below hI Hb2.out) Hb4.out
          have hsz4 : w.heap.size < w4.heap.size := Nat.lt_of_lt_of_le hsz (Nat.le_trans Hb2.out.size Hb4.out.size)
          have hsz0 := hsz
          clear hI hsz
          have hes : (r.extract 0 j).size ≤ 100000000 := by simp; omega
          refine (Tryd.writeString w.heap.size w.heap.size _ (r.extract 0 j) _ hI4 (by rw [Lib.byteCells_length]; omega) (by omega)).mono ?_
          rintro e w5 ⟨rfl, h5, hb5, _⟩
          have Hb5 := Lib.hid hb5; have H5 := Lib.hid h5; clear hb5 h5
          go_wp2_with fail
          go_roundw
          case rel =>
            refine ⟨r.extract j r.size, acc ++ r.data.toList.take j, rfl, by simp; omega, ?_, ?_, ?_, ?_, ?_⟩
            · have := quote_acc (quote_some j HQ.out Hpl.out); rw [← Lib.size_eq] at this; omega
            · rw [Lib.extract_to_end]; exact quote_some j HQ.out Hpl.out
            · rw [Lib.byteCells_append]; have := H5.out; rw [Lib.extract_from_zero] at this; exact Or.inr this
            · exact ((hbw.trans (Hb2.out.mono (Nat.le_of_lt hsz0))).trans (Hb4.out.mono (Nat.le_trans (Nat.le_of_lt hsz0) Hb2.out.size))).trans Hb5.out
            · exact Nat.lt_of_lt_of_le hsz4 Hb5.out.size
          case measure => simp [strLen]; omega
      · have hk1 : 1 ≤ k := by omega
        have hkb : ((k : Int) == 0) = false := beq_eq_false_iff_ne.2 (by omega)
        have hkr : k ≤ r.size := by
          rw [← Hk.out, Lib.size_eq]; exact (List.takeWhile_prefix _).length_le
        have hsz0 := hsz
        go_wp2_with fail
        refine (signs_any m _).mono ?_
        rintro e w1 ⟨rfl, rfl⟩
        go_wp2_with fail
        refine (span_any r m _ (by omega)).mono ?_
        rintro e w2 ⟨rfl, hb2⟩
        rw [Hk.out]
        have Hb2 := Lib.hid hb2; clear hb2
        go_wp2_with fail
        obtain ⟨mx, hmx⟩ := (HM.out.keep hmlt hbw).below rfl Hb2.out
        have hes : (r.extract 0 k).size ≤ 100000000 := by simp; omega
        have hlen : (r.extract 0 k).size + Lib.countB (r.extract 0 k) ⟨#[39]⟩ * (⟨#[39, 39]⟩ : ByteArray).size ≤ 140737488355328 := by
          have := Lib.countB_le ⟨#[39]⟩ (by decide) _ (r.extract 0 k) (Nat.le_refl _)
          have e : (⟨#[39, 39]⟩ : ByteArray).size = 2 := rfl
          rw [e]; omega
        refine (Tryd.strings_ReplaceAll (r.extract 0 k) ⟨#[39]⟩ ⟨#[39, 39]⟩ mx _ (by omega) hmx (by decide) hlen).mono ?_
        clear hmx
        rintro e w3 ⟨rfl, hb3⟩
        have Hb3 := Lib.hid hb3; clear hb3
        rw [show (⟨#[39]⟩ : ByteArray).data.toList = [39] from rfl, show (⟨#[39, 39]⟩ : ByteArray).data.toList = [39, 39] from rfl, replaceAll_dup, Lib.extract_from_zero]
        obtain ⟨d, hd⟩ : ∃ d, Lx.dup (r.data.toList.take k) = d := ⟨_, rfl⟩
        rw [hd]
        have Hd := Lib.hid hd; clear hd
        have hI3 := builder_below (builder_below hI Hb2.out) Hb3.out
        have hsz3 : w.heap.size < w3.heap.size := Nat.lt_of_lt_of_le hsz (Nat.le_trans Hb2.out.size Hb3.out.size)
        have Hbw3 := Lib.hid ((hbw.trans (Hb2.out.mono (Nat.le_of_lt hsz0))).trans (Hb3.out.mono (Nat.le_trans (Nat.le_of_lt hsz0) Hb2.out.size)))
        clear hI hsz hsz0 hbw
        have hdl : d.length ≤ 200000000 := by
          rw [← Hd.out]
          have h1 := (Lx.dup_len (r.data.toList.take k)).2
          have h2 : (r.data.toList.take k).length ≤ r.data.toList.length := List.length_take_le' _ _
          rw [← Lib.size_eq] at h2
          omega
        obtain ⟨sb, hsb⟩ : ∃ sb, (r.data.toList.take k).any (Lx.sg m) = sb := ⟨_, rfl⟩
        have hcont : ∀ W, Calls Tryd.prog 24 #[.string (r.extract 0 k), .string (signsB m)] W fun e w' => e = .returned (.bool sb) ∧ Below W.heap.size W w' := fun W =>
          (cont_any _ m W (by omega)).mono fun _ _ h => ⟨by rw [h.1, Lib.extract_from_zero, hsb], h.2⟩
        have Hcont := Lib.hid hcont; clear hcont
        have Hsb := Lib.hid hsb; clear hsb
        go_wp2_with fail
        go_region_with (first | (go_at_call 14; refine (signs_any m _).mono ?_; rintro e w4 ⟨rfl, rfl⟩) | (go_at_call 24; refine (Hcont.out _).mono ?_; rintro e w4 ⟨rfl, hb4⟩))
        have Hb4 : Hid (Below w3.heap.size w3 w4) := ((Below.refl _ w3).drew).trans hb4
        clear hb4
        cases sb
        · go_wp2_with fail
          have hI4 := builder_below hI3 Hb4.out
          have hsz4 : w.heap.size < w4.heap.size := Nat.lt_of_lt_of_le hsz3 Hb4.out.size
          have hsz5 := hsz3
          clear hI3 hsz3
          have hbl : (Lib.byteCells acc).length + (⟨d.toArray⟩ : ByteArray).size ≤ 140737488355328 := by
            have e : (⟨d.toArray⟩ : ByteArray).size = d.length := by simp [ByteArray.size]
            rw [Lib.byteCells_length, e]; omega
          refine (Tryd.writeString w.heap.size w.heap.size _ ⟨d.toArray⟩ _ hI4 hbl (Nat.le_of_lt hsz4)).mono ?_
          rintro e w5 ⟨rfl, h5, hb5, _⟩
          have Hb5 := Lib.hid hb5; have H5 := Lib.hid h5; clear hb5 h5
          go_wp2_with fail
          go_roundw
          case rel =>
            have hq : Lx.dupq m (r.data.toList.take k) = d := by
              unfold Lx.dupq; rw [Hsb.out, Hd.out]; rfl
            have hQ := quote_run' Hk.out HQ.out
            rw [hq] at hQ
            refine ⟨r.extract k r.size, acc ++ d, rfl, by simp; omega, ?_, ?_, ?_, ?_, ?_⟩
            · have := quote_acc hQ; rw [← Lib.size_eq] at this; omega
            · rw [Lib.extract_to_end]; exact hQ
            · rw [Lib.byteCells_append]; exact Or.inr H5.out
            · exact (Hbw3.out.trans (Hb4.out.mono (Nat.le_of_lt hsz5))).trans Hb5.out
            · exact Nat.lt_of_lt_of_le hsz4 Hb5.out.size
          case measure => simp [strLen]; omega
        · go_wp2_with fail
          have hI4 := builder_below hI3 Hb4.out
          have hsz4 : w.heap.size < w4.heap.size := Nat.lt_of_lt_of_le hsz3 Hb4.out.size
          have hsz5 := hsz3
          clear hI3 hsz3
          have hbl : (Lib.byteCells acc).length + ((⟨#[39]⟩ : ByteArray) ++ ⟨d.toArray⟩ ++ ⟨#[39]⟩).size ≤ 140737488355328 := by
            have e : ((⟨#[39]⟩ : ByteArray) ++ ⟨d.toArray⟩ ++ ⟨#[39]⟩).size = d.length + 2 := by
              rw [ByteArray.size_append, ByteArray.size_append]; simp [ByteArray.size]; omega
            rw [Lib.byteCells_length, e]; omega
          have hqd : ((⟨#[39]⟩ : ByteArray) ++ ⟨d.toArray⟩ ++ ⟨#[39]⟩).data.toList = 39 :: (d ++ [39]) := by simp
          generalize ((⟨#[39]⟩ : ByteArray) ++ ⟨d.toArray⟩ ++ ⟨#[39]⟩) = q at hbl hqd ⊢
          have Hqd := Lib.hid hqd; clear hqd
          refine (Tryd.writeString w.heap.size w.heap.size _ q _ hI4 hbl (Nat.le_of_lt hsz4)).mono ?_
          rintro e w5 ⟨rfl, h5, hb5, _⟩
          have Hb5 := Lib.hid hb5; have H5 := Lib.hid h5; clear hb5 h5
          go_wp2_with fail
          go_roundw
          case rel =>
            have hq : Lx.dupq m (r.data.toList.take k) = 39 :: (d ++ [39]) := by
              unfold Lx.dupq; rw [Hsb.out, Hd.out]; rfl
            have hQ := quote_run' Hk.out HQ.out
            rw [hq] at hQ
            refine ⟨r.extract k r.size, acc ++ 39 :: (d ++ [39]), rfl, by simp; omega, ?_, ?_, ?_, ?_, ?_⟩
            · have := quote_acc hQ; rw [← Lib.size_eq] at this; omega
            · rw [Lib.extract_to_end]; exact hQ
            · rw [Lib.byteCells_append]; have := H5.out; rw [Hqd.out] at this; exact Or.inr this
            · exact (Hbw3.out.trans (Hb4.out.mono (Nat.le_of_lt hsz5))).trans Hb5.out
            · exact Nat.lt_of_lt_of_le hsz4 Hb5.out.size
          case measure => simp [strLen]; omega
end Go.Proofs.YtlcomkhegppfgaaDoor
