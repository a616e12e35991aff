/-
  msg.text: the text of a message's nodes, by what a node's text is.
-/
import Derived.Test.YtgkphpjnfigjiaaGreatDoorMchk
import Derived.Test.YtgkphpjnfigjiaaGreatDoorLexQ
import Derived.Test.YtgkphpjnfigjiaaGreatDoorBld
namespace Go.Proofs.YtgkphpjnfigjiaaGreatDoor
open Go.RowKit Ms

/-- the text of one node -/
def nodeT (k f : Int) (x : List UInt8) (cs : T) (mark : Bool) : List UInt8 := txt (.node k x f cs .nil) mark
theorem txt_node (k f : Int) (x : List UInt8) (cs nx : T) (mark : Bool) : txt (.node k x f cs nx) mark = nodeT k f x cs mark ++ txt nx mark := by
  unfold nodeT; simp only [txt, List.append_nil]
theorem flt_one {k f : Int} {x : List UInt8} {cs nx : T} {mark pw : Bool} (h : flt (.node k x f cs nx) mark pw 0 [] = 0) : flt (.node k x f cs .nil) mark pw 0 [] = 0 := by
  obtain ⟨h1, h2, h3, h4⟩ := Ms.flt_node h
  rw [flt_node, if_neg (by rw [h1]; decide), if_neg h2, if_neg (fun hh => hh.2 (h3 hh.1))]
  rfl
theorem itoa_nine (f : Int) (h0 : 0 ≤ f) (h9 : f ≤ 9) : (Lib.itoa f).length = 1 := by
  obtain ⟨m, rfl⟩ : ∃ m : Nat, f = m := ⟨f.toNat, by omega⟩
  rw [Lib.itoa_nonneg, Lib.decDigits_one (by omega)]; rfl
theorem txt_len : ∀ (t : T) (mark pw : Bool) (kind : Int) (seen : List (List UInt8)), flt t mark pw kind seen = 0 → (txt t mark).length ≤ 6 * wt t
  | .nil, _, _, _, _, _ => by simp [txt]
  | .case key body nx, mark, pw, kind, seen, h => by
    obtain ⟨_, _, h1, h2⟩ := Ms.flt_case h
    have e1 := txt_len body mark false 0 [] h1
    have e2 := txt_len nx mark false kind _ h2
    simp only [txt, wt, List.length_append, List.length_cons, List.length_nil]; omega
  | .node k x f cs nx, mark, pw, kind, seen, h => by
    obtain ⟨h1, h2, h3, h4⟩ := Ms.flt_node h
    have e2 := txt_len nx mark (k == 1) 0 [] h4
    have eq := (Lx.quote_len mark x).2
    rcases fine_kind h1 with rfl | rfl | rfl | rfl | rfl | ⟨rfl, _⟩
    · simp [txt, wt] at *; omega
    · simp [txt, wt] at *; omega
    · simp [txt, wt, number] at *; omega
    · have e1 := txt_len cs _ false 4 [] (h3 rfl)
      rw [show (mark || (4 : Int) == 4) = true by simp] at e1
      have e3 := itoa_nine f (by omega) (by omega)
      by_cases hf : f = 0
      · subst hf; simp [txt, wt, plural] at *; omega
      · simp [txt, wt, plural, offset, hf] at *; omega
    · have e1 := txt_len cs _ false 5 [] (h3 rfl)
      rw [show (mark || (5 : Int) == 4) = mark by simp] at e1
      simp [txt, wt, select] at *; omega
    · simp [txt, wt] at *; omega

def NodeIH (N : Nat) : Prop := ∀ (k f : Int) (x : List UInt8) (v : Value) (cs : T) (mark pw : Bool) (w : World), sz cs ≤ N → isN.isC cs = true → wt (.node k x f cs .nil) ≤ 2000000 → MaxAt w → SV w v cs → flt (.node k x f cs .nil) mark pw 0 [] = 0 →
  Calls Tryz.prog 46 #[.agg #[.int .i64 k, .string ⟨x.toArray⟩, .int .i64 f, v], .bool mark] w fun e w' => e = .returned (.string ⟨(nodeT k f x cs mark).toArray⟩) ∧ Below w.heap.size w w'
def TextOut (t : T) (mark : Bool) (w : World) (e : Ending) (w' : World) : Prop := e = .returned (.string ⟨(txt t mark).toArray⟩) ∧ Below w.heap.size w w'

set_option maxHeartbeats 1000000 in
set_option maxRecDepth 100000 in
theorem text_of (N : Nat) (IH : NodeIH N) (t : T) (v : Value) (mark : Bool) (w : World) (hz : sz t ≤ N + 1) (hn : isN t = true) (hw : wt t ≤ 2000000) (hm : MaxAt w) (hs : SV w v t) (hf : flt t mark false 0 [] = 0) :
    Calls Tryz.prog 25 #[v, .bool mark] w (TextOut t mark w) := by
  have htl := txt_len t mark false 0 [] hf
  rcases hs with ⟨⟨a, rfl⟩, rfl⟩ | ⟨b, o, n, c, rfl, hnc, hr⟩
  · have HI0 := Lib.fresh_isBuilder 76 5 w
    go_enter Tryz.func25, Tryz.ntmps25
    go_wp2_with fail
    refine wp_loop_rounds 1 ?_
    rw [rounds_succ]
    go_wp2_with fail
    refine (Tryz.Builder_String_any_k w.heap.size w.heap.size [] _ (Lib.IsBuilderF.of HI0) (by simp)).mono ?_
    rintro e w1 ⟨rfl, _, hb1, _⟩
    have HB1 := Lib.hid (((Below.refl w.heap.size w).alloc (Nat.le_refl _) _).trans hb1)
    clear hb1
    go_wp2_with fail
    go_ret
    exact ⟨rfl, HB1.out⟩
  have hnl := Rd.len t b o n hr
  have hlw := len_wt t
  have hn2 : n ≤ 2000000 := by omega
  have htl2 : (txt t mark).length ≤ 12000000 := by omega
  have HM := Lib.hid hm; have HR := Lib.hid hr; have HN := Lib.hid hn; have HZ := Lib.hid hz; have HWt := Lib.hid hw; have IH := Lib.hid IH; have HF := Lib.hid hf; have HTL := Lib.hid htl2
  clear hm hr hn hz hw hnl hlw hf htl htl2
  go_enter Tryz.func25, Tryz.ntmps25
  go_wp2_with fail
  go_loopw [10] (fun i wr => ∃ (i' : Nat) (t' : T) (acc : List UInt8) (pw : Bool), i' ≤ n ∧ i = .int .i64 i' ∧ acc.length ≤ 12000000 ∧ Hid (Rd w t' b (o + i' * 4) (n - i') ∧ isN t' = true ∧ sz t' ≤ sz t ∧ wt t' ≤ wt t ∧ acc ++ txt t' mark = txt t mark ∧ flt t' mark pw 0 [] = 0) ∧ Lib.IsBuilderF 76 5 w.heap.size w.heap.size (Lib.byteCells acc) wr ∧ Below w.heap.size w wr ∧ w.heap.size < wr.heap.size) (fun i _ => n - (RowKit.intOf i).toNat)
  case atStart => exact ⟨0, t, [], false, by omega, rfl, by simp, ⟨by simpa using HR.out, HN.out, Nat.le_refl _, Nat.le_refl _, rfl, HF.out⟩, Lib.IsBuilderF.of (Lib.fresh_isBuilder _ _ w), (Below.refl _ _).alloc (Nat.le_refl _) _, by simp⟩
  case round =>
    obtain ⟨i, t', acc, pw, hin, rfl, hal, HT, hI, hbw, hsz⟩ := hrel
    by_cases hlt : i < n
    · cases t' with
      | nil =>
        have h0 : n - i = 0 := HT.out.1
        omega
      | case _ _ _ => cases HT.out.2.1
      | node k x f cs nx =>
        obtain ⟨hr1, hn1, hz1, hw1, hac, hfl⟩ := HT.out
        obtain ⟨hncs, hnnx⟩ := isN_node hn1
        obtain ⟨v, m, hm1, q0, q1, q2, q3, hv, hrest⟩ := hr1
        have hsv : SV w v cs := hv
        have hv5 : ∃ a n' c', v = .slice a n' c' := by
          rcases hv with ⟨⟨_, h⟩, _⟩ | ⟨b', o', n', c', h, _⟩
          · exact ⟨_, _, _, h⟩
          · exact ⟨_, _, _, h⟩
        obtain ⟨a3, n3, c3', rfl⟩ := hv5
        have kc := keepCells hbw
        have c0 := kc _ _ _ q0; have c1 := kc _ _ _ q1; have c2 := kc _ _ _ q2; have c3 := kc _ _ _ q3
        have hrest' : Rd w nx b (o + (i + 1) * 4) (n - (i + 1)) := by
          rw [show o + (i + 1) * 4 = o + i * 4 + 4 by omega, show n - (i + 1) = m by omega]; exact hrest
        have hcsz : sz cs ≤ N := by have := HZ.out; simp only [sz] at hz1; omega
        have hcsw : wt (.node k x f cs .nil) ≤ 2000000 := by
          have := HWt.out
          have e : 1 ≤ wt nx := by cases nx <;> simp [wt] <;> omega
          simp only [wt] at hw1 ⊢; omega
        have hnz : sz nx ≤ sz t := by simp only [sz] at hz1; omega
        have hnw : wt nx ≤ wt t := by simp only [wt] at hw1; omega
        rw [txt_node, ← List.append_assoc] at hac
        have hfx := (Ms.flt_node hfl).2.2.2
        have hal2 : (acc ++ nodeT k f x cs mark).length ≤ 12000000 := by
          have h1 := HTL.out
          rw [← hac, List.length_append] at h1; omega
        have hal3 : acc.length + (⟨(nodeT k f x cs mark).toArray⟩ : ByteArray).size ≤ 12000000 := by
          have h2 := Lib.size_eq (⟨(nodeT k f x cs mark).toArray⟩ : ByteArray)
          simp only [List.length_append] at hal2; simp only at h2; omega
        have hcv := fun W (hB : Below w.heap.size w W) => IH.out k f x (.slice a3 n3 c3') cs mark pw W hcsz hncs hcsw (MaxAt.below HM.out rfl hB) (SV.below hsv hB) (flt_one hfl)
        have HCV := Lib.hid hcv; have HNX : Hid (Rd w nx b (o + (i + 1) * 4) (n - (i + 1)) ∧ isN nx = true ∧ sz nx ≤ sz t ∧ wt nx ≤ wt t ∧ (acc ++ nodeT k f x cs mark) ++ txt nx mark = txt t mark ∧ flt nx mark (k == 1) 0 [] = 0) := ⟨hrest', hnnx, hnz, hnw, hac, hfx⟩
        have HAL2 := Lib.hid hal2
        generalize nodeT k f x cs mark = nt at HCV HNX HAL2 hal3
        have HI := Lib.hid (builder_below hI ((Below.refl _ _).alloc (Nat.le_refl _) (.cells #[.int .i64 k, .string ⟨x.toArray⟩, .int .i64 f, .slice a3 n3 c3'] 35)))
        have HB1 := Lib.hid (hbw.alloc hbw.size (.cells #[.int .i64 k, .string ⟨x.toArray⟩, .int .i64 f, .slice a3 n3 c3'] 35))
        clear hcv hal2 hfx hac hnz hnw hcsz hcsw hrest hrest' kc hsv hv q0 q1 q2 q3 hnnx hncs hn1 hz1 hw1 hfl hI hbw hm1
        go_wp2_with fail
        refine (HCV.out _ HB1.out).mono ?_
        rintro e w2 ⟨rfl, hb2⟩
        have hs2 : wr.heap.size + 1 ≤ w2.heap.size := by have := hb2.size; simpa using this
        have HB2 := Lib.hid (HB1.out.trans (hb2.mono HB1.out.size))
        have HI2 := Lib.hid (builder_below HI.out hb2)
        clear hb2 c0 c1 c2 c3
        go_wp2_with fail
        refine (Tryz.writeString w.heap.size w.heap.size _ ⟨nt.toArray⟩ _ HI2.out (by rw [Lib.byteCells_length]; omega) (by omega)).mono ?_
        rintro e w3 ⟨rfl, hI3, hb3, _⟩
        have HB3 := Lib.hid (HB2.out.trans hb3)
        have hs3 : w.heap.size < w3.heap.size := by have := hb3.size; omega
        have HI3 := Lib.hid hI3
        clear hb3 hI3
        go_wp2_with fail
        go_roundw
        case rel =>
          refine ⟨i + 1, nx, acc ++ nt, (k == 1), by omega, by go_num, HAL2.out, HNX.out, ?_, HB3.out, hs3⟩
          have e : Lib.byteCells (acc ++ nt) = Lib.byteCells acc ++ Lib.byteCells nt := by simp [Lib.byteCells]
          rw [e]; exact .inr HI3.out
        case measure => simp [RowKit.intOf]; omega
    · have hie : i = n := by omega
      have ht0 : t' = .nil := by
        have h1 := HT.out.1
        rw [hie, Nat.sub_self] at h1
        cases t' with
        | nil => rfl
        | node _ _ _ _ _ => obtain ⟨_, _, h, _⟩ := h1; cases h
        | case _ _ _ => obtain ⟨_, _, h, _⟩ := h1; cases h
      subst ht0
      have hac : acc = txt t mark := by have := HT.out.2.2.2.2.1; simpa [txt] using this
      have HA := Lib.hid hac; have HBW := Lib.hid hbw; have HI := Lib.hid hI
      clear hac hbw hI
      go_wp2_with fail
      refine (Tryz.Builder_String_any_k w.heap.size w.heap.size acc _ HI.out (Nat.le_of_lt hsz)).mono ?_
      rintro e w1 ⟨rfl, _, hb1, _⟩
      have HB1 := Lib.hid (HBW.out.trans hb1); clear hb1
      go_wp2_with fail
      go_ret
      exact ⟨by rw [← HA.out] <;> rfl, HB1.out⟩
end Go.Proofs.YtgkphpjnfigjiaaGreatDoor
