/-
  msg.text: the text of a message's nodes, by what a node's text is.
  msg.node: the text of a node without cases.
  msg.node: the text of a node with cases.
  msg.node: the text of a Plural.
  msg.node, msg.text, msg.Text: the text of a right message.
-/
import Derived.Test.YtnefcilopgcdpaaGreatDoorChk
import Derived.Test.YtnefcilopgcdpaaGreatDoorLex
import Derived.Deep.RegionHeld3
import Derived.Laws.Concat
import Derived.Test.YtnefcilopgcdpaaGreatDoorBase
namespace Go.Proofs.YtnefcilopgcdpaaGreatDoor
open Go.RowKit Ms

/-- the text of one node -/
def nodeT (k f : Int) (x : List UInt8) (cs : T) (mark : Bool) : List UInt8 := txt (.node k x f cs .nil) mark
theorem txt_node (k f : Int) (x : List UInt8) (cs nx : T) (mark : Bool) : txt (.node k x f cs nx) mark = nodeT k f x cs mark ++ txt nx mark := by
  unfold nodeT; simp only [txt, List.append_nil]
theorem flt_one {k f : Int} {x : List UInt8} {cs nx : T} {mark pw : Bool} (h : flt (.node k x f cs nx) mark pw 0 [] = 0) : flt (.node k x f cs .nil) mark pw 0 [] = 0 := by
  obtain ⟨h1, h2, h3, h4⟩ := Ms.flt_node h
  rw [flt_node, if_neg (by rw [h1]; decide), if_neg h2, if_neg (fun hh => hh.2 (h3 hh.1))]
  rfl
theorem itoa_nine (f : Int) (h0 : 0 ≤ f) (h9 : f ≤ 9) : (Lib.itoa f).length = 1 := by
  obtain ⟨m, rfl⟩ : ∃ m : Nat, f = m := ⟨f.toNat, by omega⟩
  rw [Lib.itoa_nonneg, Lib.decDigits_one (by omega)]; rfl
theorem txt_len : ∀ (t : T) (mark pw : Bool) (kind : Int) (seen : List (List UInt8)), flt t mark pw kind seen = 0 → (txt t mark).length ≤ 6 * wt t
  | .nil, _, _, _, _, _ => by simp [txt]
  | .case key body nx, mark, pw, kind, seen, h => by
    obtain ⟨_, _, h1, h2⟩ := Ms.flt_case h
    have e1 := txt_len body mark false 0 [] h1
    have e2 := txt_len nx mark false kind _ h2
    simp only [txt, wt, List.length_append, List.length_cons, List.length_nil]; omega
  | .node k x f cs nx, mark, pw, kind, seen, h => by
    obtain ⟨h1, h2, h3, h4⟩ := Ms.flt_node h
    have e2 := txt_len nx mark (k == 1) 0 [] h4
    have eq := (Lx.quote_len mark x).2
    rcases fine_kind h1 with rfl | rfl | rfl | rfl | rfl | ⟨rfl, _⟩
    · simp [txt, wt] at *; omega
    · simp [txt, wt] at *; omega
    · simp [txt, wt, number] at *; omega
    · have e1 := txt_len cs _ false 4 [] (h3 rfl)
      rw [show (mark || (4 : Int) == 4) = true by simp] at e1
      have e3 := itoa_nine f (by omega) (by omega)
      by_cases hf : f = 0
      · subst hf; simp [txt, wt, plural] at *; omega
      · simp [txt, wt, plural, offset, hf] at *; omega
    · have e1 := txt_len cs _ false 5 [] (h3 rfl)
      rw [show (mark || (5 : Int) == 4) = mark by simp] at e1
      simp [txt, wt, select] at *; omega
    · simp [txt, wt] at *; omega

def NodeIH (N : Nat) : Prop := ∀ (k f : Int) (x : List UInt8) (v : Value) (cs : T) (mark pw : Bool) (w : World), sz cs ≤ N → isN.isC cs = true → wt (.node k x f cs .nil) ≤ 2100000 → MaxAt w → SV w v cs → flt (.node k x f cs .nil) mark pw 0 [] = 0 →
  Calls Tryz.prog 33 #[.agg #[.int .i64 k, .string ⟨x.toArray⟩, .int .i64 f, v], .bool mark] w fun e w' => e = .returned (.string ⟨(nodeT k f x cs mark).toArray⟩) ∧ Below w.heap.size w w'
def TextOut (t : T) (mark : Bool) (w : World) (e : Ending) (w' : World) : Prop := e = .returned (.string ⟨(txt t mark).toArray⟩) ∧ Below w.heap.size w w'

set_option maxHeartbeats 1000000 in
set_option maxRecDepth 100000 in
theorem text_of (N : Nat) (IH : NodeIH N) (t : T) (v : Value) (mark : Bool) (w : World) (hz : sz t ≤ N + 1) (hn : isN t = true) (hw : wt t ≤ 2100000) (hm : MaxAt w) (hs : SV w v t) (hf : flt t mark false 0 [] = 0) :
    Calls Tryz.prog 20 #[v, .bool mark] w (TextOut t mark w) := by
  have htl := txt_len t mark false 0 [] hf
  rcases hs with ⟨⟨a, rfl⟩, rfl⟩ | ⟨b, o, n, c, rfl, hnc, hr⟩
  · have HI0 := Lib.fresh_isBuilder 45 5 w
    go_enter Tryz.func20, Tryz.ntmps20
    go_wp2_with fail
    refine wp_loop_rounds 1 ?_
    rw [rounds_succ]
    go_wp2_with fail
    refine (Tryz.Builder_String_any_k w.heap.size w.heap.size [] _ (Lib.IsBuilderF.of HI0) (by simp)).mono ?_
    rintro e w1 ⟨rfl, _, hb1, _⟩
    have HB1 := Lib.hid (((Below.refl w.heap.size w).alloc (Nat.le_refl _) _).trans hb1)
    clear hb1
    go_wp2_with fail
    go_ret
    exact ⟨rfl, HB1.out⟩
  have hnl := Rd.len t b o n hr
  have hlw := len_wt t
  have hn2 : n ≤ 2100000 := by omega
  have htl2 : (txt t mark).length ≤ 12600000 := by omega
  have HM := Lib.hid hm; have HR := Lib.hid hr; have HN := Lib.hid hn; have HZ := Lib.hid hz; have HWt := Lib.hid hw; have IH := Lib.hid IH; have HF := Lib.hid hf; have HTL := Lib.hid htl2
  clear hm hr hn hz hw hnl hlw hf htl htl2
  go_enter Tryz.func20, Tryz.ntmps20
  go_wp2_with fail
  go_loopw [10] (fun i wr => ∃ (i' : Nat) (t' : T) (acc : List UInt8) (pw : Bool), i' ≤ n ∧ i = .int .i64 i' ∧ acc.length ≤ 12600000 ∧ Hid (Rd w t' b (o + i' * 4) (n - i') ∧ isN t' = true ∧ sz t' ≤ sz t ∧ wt t' ≤ wt t ∧ acc ++ txt t' mark = txt t mark ∧ flt t' mark pw 0 [] = 0) ∧ Lib.IsBuilderF 45 5 w.heap.size w.heap.size (Lib.byteCells acc) wr ∧ Below w.heap.size w wr ∧ w.heap.size < wr.heap.size) (fun i _ => n - (RowKit.intOf i).toNat)
  case atStart => exact ⟨0, t, [], false, by omega, rfl, by simp, ⟨by simpa using HR.out, HN.out, Nat.le_refl _, Nat.le_refl _, rfl, HF.out⟩, Lib.IsBuilderF.of (Lib.fresh_isBuilder _ _ w), (Below.refl _ _).alloc (Nat.le_refl _) _, by simp⟩
  case round =>
    obtain ⟨i, t', acc, pw, hin, rfl, hal, HT, hI, hbw, hsz⟩ := hrel
    by_cases hlt : i < n
    · cases t' with
      | nil =>
        have h0 : n - i = 0 := HT.out.1
        omega
      | case _ _ _ => cases HT.out.2.1
      | node k x f cs nx =>
        obtain ⟨hr1, hn1, hz1, hw1, hac, hfl⟩ := HT.out
        obtain ⟨hncs, hnnx⟩ := isN_node hn1
        obtain ⟨v, m, hm1, q0, q1, q2, q3, hv, hrest⟩ := hr1
        have hsv : SV w v cs := hv
        have hv5 : ∃ a n' c', v = .slice a n' c' := by
          rcases hv with ⟨⟨_, h⟩, _⟩ | ⟨b', o', n', c', h, _⟩
          · exact ⟨_, _, _, h⟩
          · exact ⟨_, _, _, h⟩
        obtain ⟨a3, n3, c3', rfl⟩ := hv5
        have kc := keepCells hbw
        have c0 := kc _ _ _ q0; have c1 := kc _ _ _ q1; have c2 := kc _ _ _ q2; have c3 := kc _ _ _ q3
        have hrest' : Rd w nx b (o + (i + 1) * 4) (n - (i + 1)) := by
          rw [show o + (i + 1) * 4 = o + i * 4 + 4 by omega, show n - (i + 1) = m by omega]; exact hrest
        have hcsz : sz cs ≤ N := by have := HZ.out; simp only [sz] at hz1; omega
        have hcsw : wt (.node k x f cs .nil) ≤ 2100000 := by
          have := HWt.out
          have e : 1 ≤ wt nx := by cases nx <;> simp [wt] <;> omega
          simp only [wt] at hw1 ⊢; omega
        have hnz : sz nx ≤ sz t := by simp only [sz] at hz1; omega
        have hnw : wt nx ≤ wt t := by simp only [wt] at hw1; omega
        rw [txt_node, ← List.append_assoc] at hac
        have hfx := (Ms.flt_node hfl).2.2.2
        have hal2 : (acc ++ nodeT k f x cs mark).length ≤ 12600000 := by
          have h1 := HTL.out
          rw [← hac, List.length_append] at h1; omega
        have hal3 : acc.length + (⟨(nodeT k f x cs mark).toArray⟩ : ByteArray).size ≤ 12600000 := by
          have h2 := Lib.size_eq (⟨(nodeT k f x cs mark).toArray⟩ : ByteArray)
          simp only [List.length_append] at hal2; simp only at h2; omega
        have hcv := fun W (hB : Below w.heap.size w W) => IH.out k f x (.slice a3 n3 c3') cs mark pw W hcsz hncs hcsw (MaxAt.below HM.out rfl hB) (SV.below hsv hB) (flt_one hfl)
        have HCV := Lib.hid hcv; have HNX : Hid (Rd w nx b (o + (i + 1) * 4) (n - (i + 1)) ∧ isN nx = true ∧ sz nx ≤ sz t ∧ wt nx ≤ wt t ∧ (acc ++ nodeT k f x cs mark) ++ txt nx mark = txt t mark ∧ flt nx mark (k == 1) 0 [] = 0) := ⟨hrest', hnnx, hnz, hnw, hac, hfx⟩
        have HAL2 := Lib.hid hal2
        generalize nodeT k f x cs mark = nt at HCV HNX HAL2 hal3
        have HI := Lib.hid (builder_below hI ((Below.refl _ _).alloc (Nat.le_refl _) (.cells #[.int .i64 k, .string ⟨x.toArray⟩, .int .i64 f, .slice a3 n3 c3'] 60)))
        have HB1 := Lib.hid (hbw.alloc hbw.size (.cells #[.int .i64 k, .string ⟨x.toArray⟩, .int .i64 f, .slice a3 n3 c3'] 60))
        clear hcv hal2 hfx hac hnz hnw hcsz hcsw hrest hrest' kc hsv hv q0 q1 q2 q3 hnnx hncs hn1 hz1 hw1 hfl hI hbw hm1
        go_wp2_with fail
        refine (HCV.out _ HB1.out).mono ?_
        rintro e w2 ⟨rfl, hb2⟩
        have hs2 : wr.heap.size + 1 ≤ w2.heap.size := by have := hb2.size; simpa using this
        have HB2 := Lib.hid (HB1.out.trans (hb2.mono HB1.out.size))
        have HI2 := Lib.hid (builder_below HI.out hb2)
        clear hb2 c0 c1 c2 c3
        go_wp2_with fail
        refine (Tryz.writeString w.heap.size w.heap.size _ ⟨nt.toArray⟩ _ HI2.out (by rw [Lib.byteCells_length]; omega) (by omega)).mono ?_
        rintro e w3 ⟨rfl, hI3, hb3, _⟩
        have HB3 := Lib.hid (HB2.out.trans hb3)
        have hs3 : w.heap.size < w3.heap.size := by have := hb3.size; omega
        have HI3 := Lib.hid hI3
        clear hb3 hI3
        go_wp2_with fail
        go_roundw
        case rel =>
          refine ⟨i + 1, nx, acc ++ nt, (k == 1), by omega, by go_num, HAL2.out, HNX.out, ?_, HB3.out, hs3⟩
          have e : Lib.byteCells (acc ++ nt) = Lib.byteCells acc ++ Lib.byteCells nt := by simp [Lib.byteCells]
          rw [e]; exact .inr HI3.out
        case measure => simp [RowKit.intOf]; omega
    · have hie : i = n := by omega
      have ht0 : t' = .nil := by
        have h1 := HT.out.1
        rw [hie, Nat.sub_self] at h1
        cases t' with
        | nil => rfl
        | node _ _ _ _ _ => obtain ⟨_, _, h, _⟩ := h1; cases h
        | case _ _ _ => obtain ⟨_, _, h, _⟩ := h1; cases h
      subst ht0
      have hac : acc = txt t mark := by have := HT.out.2.2.2.2.1; simpa [txt] using this
      have HA := Lib.hid hac; have HBW := Lib.hid hbw; have HI := Lib.hid hI
      clear hac hbw hI
      go_wp2_with fail
      refine (Tryz.Builder_String_any_k w.heap.size w.heap.size acc _ HI.out (Nat.le_of_lt hsz)).mono ?_
      rintro e w1 ⟨rfl, _, hb1, _⟩
      have HB1 := Lib.hid (HBW.out.trans hb1); clear hb1
      go_wp2_with fail
      go_ret
      exact ⟨by rw [← HA.out] <;> rfl, HB1.out⟩
end Go.Proofs.YtnefcilopgcdpaaGreatDoor
namespace Go.Proofs.YtnefcilopgcdpaaGreatDoor
open Go.RowKit Ms

theorem bytes_app (a : ByteArray) (b : List UInt8) (l : List UInt8) (h : a.data.toList = l) : a ++ (⟨b.toArray⟩ : ByteArray) = ⟨(l ++ b).toArray⟩ := by
  subst h
  apply ByteArray.ext
  simp [ByteArray.data_append]
theorem nodeT1 (f : Int) (x : List UInt8) (cs : T) (mark : Bool) : nodeT 1 f x cs mark = Lx.quote mark x := by simp [nodeT, txt]
theorem nodeT2 (f : Int) (x : List UInt8) (cs : T) (mark : Bool) : nodeT 2 f x cs mark = [123] ++ x ++ [125] := by simp [nodeT, txt]
theorem nodeT3 (f : Int) (x : List UInt8) (cs : T) (mark : Bool) : nodeT 3 f x cs mark = [123] ++ x ++ [44, 32, 110, 117, 109, 98, 101, 114, 125] := by simp [nodeT, txt, number]
theorem nodeT6 (f : Int) (x : List UInt8) (cs : T) (mark : Bool) : nodeT 6 f x cs mark = [35] := by simp [nodeT, txt]

set_option maxHeartbeats 1000000 in
set_option maxRecDepth 100000 in
theorem node_simple (k f : Int) (x : List UInt8) (v : Value) (cs : T) (mark : Bool) (w : World) (hk : k = 1 ∨ k = 2 ∨ k = 3 ∨ k = 6) (hx : x.length ≤ 2100000) (hm : MaxAt w) :
    Calls Tryz.prog 33 #[.agg #[.int .i64 k, .string ⟨x.toArray⟩, .int .i64 f, v], .bool mark] w fun e w' => e = .returned (.string ⟨(nodeT k f x cs mark).toArray⟩) ∧ Below w.heap.size w w' := by
  have hxs : (⟨x.toArray⟩ : ByteArray).size ≤ 2100000 := by
    have h2 := Lib.size_eq (⟨x.toArray⟩ : ByteArray); simp only at h2; omega
  have hb0 := ((Below.refl w.heap.size w).alloc (Nat.le_refl _) (.cells #[.int .i64 k, .string ⟨x.toArray⟩, .int .i64 f, v] 60)).alloc (by simp) (.cells #[.pointer none, .slice none 0 0] 45)
  have HB0 := Lib.hid hb0; clear hb0
  have HM := Lib.hid (MaxAt.below hm rfl HB0.out); clear hm
  have HQ := Lib.hid (fun W (h : MaxAt W) => quote_any ⟨x.toArray⟩ mark W (by omega) h)
  rcases hk with rfl | rfl | rfl | rfl
  · have hT := nodeT1 f x cs mark
    have HT := Lib.hid hT; clear hT
    go_enter Tryz.func33, Tryz.ntmps33
    go_wp2_with fail
    refine (HQ.out _ HM.out).mono ?_
    rintro e w2 ⟨rfl, hb2⟩
    have HB2 := Lib.hid (HB0.out.trans (hb2.mono HB0.out.size)); clear hb2
    go_wp2_with fail
    go_ret
    exact ⟨by rw [HT.out] <;> rfl, HB2.out⟩
  · have hT : (⟨#[123]⟩ : ByteArray) ++ ⟨x.toArray⟩ ++ ⟨#[125]⟩ = ⟨(nodeT 2 f x cs mark).toArray⟩ := by
      rw [nodeT2, bytes_app ⟨#[123]⟩ x [123] rfl, bytes_app _ [125] ([123] ++ x) (by simp)]
    have HT := Lib.hid hT; clear hT
    go_enter Tryz.func33, Tryz.ntmps33
    go_wp2_with fail
    go_ret
    exact ⟨by rw [← HT.out] <;> rfl, HB0.out⟩
  · have hT : (⟨#[123]⟩ : ByteArray) ++ ⟨x.toArray⟩ ++ ⟨#[44, 32, 110, 117, 109, 98, 101, 114, 125]⟩ = ⟨(nodeT 3 f x cs mark).toArray⟩ := by
      rw [nodeT3, bytes_app ⟨#[123]⟩ x [123] rfl, bytes_app _ [44, 32, 110, 117, 109, 98, 101, 114, 125] ([123] ++ x) (by simp)]
    have HT := Lib.hid hT; clear hT
    go_enter Tryz.func33, Tryz.ntmps33
    go_wp2_with fail
    go_ret
    exact ⟨by rw [← HT.out] <;> rfl, HB0.out⟩
  · have hT := nodeT6 f x cs mark
    have HT := Lib.hid hT; clear hT
    go_enter Tryz.func33, Tryz.ntmps33
    go_wp2_with fail
    go_ret
    exact ⟨by rw [HT.out] <;> rfl, HB0.out⟩
end Go.Proofs.YtnefcilopgcdpaaGreatDoor
namespace Go.Proofs.YtnefcilopgcdpaaGreatDoor
open Go.RowKit Ms

def TextIH (N : Nat) : Prop := ∀ (t : T) (v : Value) (mark : Bool) (w : World), sz t ≤ N → isN t = true → wt t ≤ 2100000 → MaxAt w → SV w v t → flt t mark false 0 [] = 0 → Calls Tryz.prog 20 #[v, .bool mark] w (TextOut t mark w)
/-- the text of one case -/
def caseT (key : List UInt8) (body : T) (mark : Bool) : List UInt8 := [32] ++ key ++ [32, 123] ++ txt body mark ++ [125]
theorem txt_case (key : List UInt8) (body nx : T) (mark : Bool) : txt (.case key body nx) mark = caseT key body mark ++ txt nx mark := by simp [txt, caseT]
theorem case_sum (key : List UInt8) (tb : List UInt8) : (⟨#[32]⟩ : ByteArray) ++ ⟨key.toArray⟩ ++ ⟨#[32, 123]⟩ ++ ⟨tb.toArray⟩ ++ ⟨#[125]⟩ = ⟨([32] ++ key ++ [32, 123] ++ tb ++ [125]).toArray⟩ := by
  rw [bytes_app ⟨#[32]⟩ key [32] rfl, bytes_app _ [32, 123] ([32] ++ key) (by simp), bytes_app _ tb ([32] ++ key ++ [32, 123]) (by simp), bytes_app _ [125] ([32] ++ key ++ [32, 123] ++ tb) (by simp)]
theorem nodeT5 (f : Int) (x : List UInt8) (cs : T) (mark : Bool) : nodeT 5 f x cs mark = [123] ++ x ++ [44, 32, 115, 101, 108, 101, 99, 116, 44] ++ txt cs mark ++ [125] := by simp [nodeT, txt, select]
theorem sizeOf_mk (l : List UInt8) : (⟨l.toArray⟩ : ByteArray).size = l.length := by have h2 := Lib.size_eq (⟨l.toArray⟩ : ByteArray); simpa using h2

set_option maxHeartbeats 2000000 in
set_option maxRecDepth 100000 in
theorem node_select (N : Nat) (IH : TextIH N) (f : Int) (x : List UInt8) (b o n c : Nat) (cs : T) (mark : Bool) (w : World) (hx : x.length ≤ 2100000) (hz : sz cs ≤ N) (hc : isN.isC cs = true) (hw : wt cs ≤ 2100000) (hm : MaxAt w) (hr : Rd w cs b o n) (hf : flt cs mark false 5 [] = 0) :
    Calls Tryz.prog 33 #[.agg #[.int .i64 5, .string ⟨x.toArray⟩, .int .i64 f, .slice (some ⟨b, o, none⟩) n c], .bool mark] w fun e w' => e = .returned (.string ⟨(nodeT 5 f x cs mark).toArray⟩) ∧ Below w.heap.size w w' := by
  have htl := txt_len cs mark false 5 [] hf
  have hnl := Rd.len cs b o n hr
  have hlw := len_wt cs
  have hn2 : n ≤ 2100000 := by omega
  have hxs : (⟨x.toArray⟩ : ByteArray).size ≤ 2100000 := by rw [sizeOf_mk]; exact hx
  obtain ⟨Hd, hHd⟩ : ∃ Hd : List UInt8, Hd = [123] ++ x ++ [44, 32, 115, 101, 108, 101, 99, 116, 44] := ⟨_, rfl⟩
  have hT : nodeT 5 f x cs mark = Hd ++ txt cs mark ++ [125] := by rw [hHd]; exact nodeT5 f x cs mark
  have hHl : Hd.length ≤ 2100100 := by rw [hHd]; simp; omega
  have htot : (Hd ++ txt cs mark).length ≤ 15750000 := by rw [List.length_append]; omega
  have hHs : (⟨#[123]⟩ : ByteArray) ++ ⟨x.toArray⟩ ++ ⟨#[44, 32, 115, 101, 108, 101, 99, 116, 44]⟩ = ⟨Hd.toArray⟩ := by rw [hHd]; rw [bytes_app ⟨#[123]⟩ x [123] rfl, bytes_app _ [44, 32, 115, 101, 108, 101, 99, 116, 44] ([123] ++ x) (by simp)]
  have hb0 := ((Below.refl w.heap.size w).alloc (Nat.le_refl _) (.cells #[.int .i64 5, .string ⟨x.toArray⟩, .int .i64 f, .slice (some ⟨b, o, none⟩) n c] 60)).alloc (by simp) (.cells #[.pointer none, .slice none 0 0] 45)
  have hI0 := Lib.IsBuilderF.of (Lib.fresh_isBuilder 45 5 (w.alloc (.cells #[.int .i64 5, .string ⟨x.toArray⟩, .int .i64 f, .slice (some ⟨b, o, none⟩) n c] 60)))
  have HT0 := Lib.hid hT; have HHs := Lib.hid hHs; have HTot := Lib.hid htot; have HB0 := Lib.hid hb0; have HI0 := Lib.hid hI0
  have HM := Lib.hid hm; have HR := Lib.hid hr; have HC := Lib.hid hc; have HZ := Lib.hid hz; have HWt := Lib.hid hw; have IH := Lib.hid IH; have HF := Lib.hid hf
  clear hT hHs htot hb0 hI0 hm hr hc hz hw hf htl hnl hlw hHd
  go_enter Tryz.func33, Tryz.ntmps33
  go_wp2_with fail
  rw [HHs.out]
  have hI1 : Lib.IsBuilderF 45 5 (w.heap.size + 1) (w.heap.size + 1) (Lib.byteCells []) ((w.alloc (.cells #[.int .i64 5, .string ⟨x.toArray⟩, .int .i64 f, .slice (some ⟨b, o, none⟩) n c] 60)).alloc (.cells #[.pointer none, .slice none 0 0] 45)) := by have h := HI0.out; simp at h; exact h
  refine (Tryz.writeString (w.heap.size + 1) (w.heap.size + 1) _ ⟨Hd.toArray⟩ _ hI1 (by rw [Lib.byteCells_length, sizeOf_mk]; simp; omega) (by simp)).mono ?_
  rintro e w2 ⟨rfl, hI2, hb2, _⟩
  have n3 : w2.cell? ⟨w.heap.size, 3, none⟩ = some (.slice (some ⟨b, o, none⟩) n c) := by
    rw [hb2.cell (p := ⟨w.heap.size, 3, none⟩) (by simp), World.cell?_alloc_lt _ _ ⟨w.heap.size, 3, none⟩ (by simp)]; simp
  have HB2 := Lib.hid (HB0.out.trans (hb2.mono (by omega)))
  have hs2 : w.heap.size + 1 < w2.heap.size := by have := hb2.size; simp at this; omega
  have HI2 := Lib.hid hI2
  clear hb2 hI2 hI1
  go_wp2_with fail
  
  go_loopw [53] (fun i wr => ∃ (i' : Nat) (t' : T) (acc : List UInt8) (seen : List (List UInt8)), i' ≤ n ∧ i = .int .i64 i' ∧ acc.length ≤ 15750000 ∧ Hid (Rd w t' b (o + i' * 2) (n - i') ∧ isN.isC t' = true ∧ sz t' ≤ sz cs ∧ wt t' ≤ wt cs ∧ acc ++ txt t' mark = Hd ++ txt cs mark ∧ flt t' mark false 5 seen = 0) ∧ Hid (Lib.IsBuilderF 45 5 (w.heap.size + 1) (w.heap.size + 1) (Lib.byteCells acc) wr) ∧ Hid (Below w.heap.size w wr) ∧ w.heap.size + 1 < wr.heap.size) (fun i _ => n - (RowKit.intOf i).toNat)
  case atStart => exact ⟨0, cs, Hd, [], by omega, rfl, by omega, ⟨by simpa using HR.out, HC.out, Nat.le_refl _, Nat.le_refl _, rfl, HF.out⟩, by exact .inr HI2.out, HB2, hs2⟩
  case round =>
    obtain ⟨i, t', acc, seen, hin, rfl, hal, HT, HI, HB, hsz⟩ := hrel
    by_cases hlt : i < n
    · cases t' with
      | nil =>
        have h0 : n - i = 0 := HT.out.1
        omega
      | node _ _ _ _ _ => cases HT.out.2.1
      | case key body nx =>
        obtain ⟨hr1, hn1, hz1, hw1, hac, hfl⟩ := HT.out
        obtain ⟨hnb, hnnx⟩ := isC_case hn1
        obtain ⟨v, m, hm1, q0, q1, hv, hrest⟩ := hr1
        have hsv : SV w v body := hv
        have hv5 : ∃ a n' c', v = .slice a n' c' := by
          rcases hv with ⟨⟨_, h⟩, _⟩ | ⟨b', o', n', c', h, _⟩
          · exact ⟨_, _, _, h⟩
          · exact ⟨_, _, _, h⟩
        obtain ⟨a3, n3', c3', rfl⟩ := hv5
        have kc := keepCells HB.out
        have c0 := kc _ _ _ q0; have c1 := kc _ _ _ q1
        have hrest' : Rd w nx b (o + (i + 1) * 2) (n - (i + 1)) := by
          rw [show o + (i + 1) * 2 = o + i * 2 + 2 by omega, show n - (i + 1) = m by omega]; exact hrest
        have hbz : sz body ≤ N := by have := HZ.out; simp only [sz] at hz1; omega
        have hbw : wt body ≤ 2100000 := by have := HWt.out; simp only [wt] at hw1; omega
        have hkl : key.length ≤ 2100000 := by have := HWt.out; simp only [wt] at hw1; omega
        have hnz : sz nx ≤ sz cs := by simp only [sz] at hz1; omega
        have hnw : wt nx ≤ wt cs := by simp only [wt] at hw1; omega
        obtain ⟨_, _, hfb, hfx⟩ := Ms.flt_case hfl
        have hbl := txt_len body mark false 0 [] hfb
        have hbl2 : (txt body mark).length ≤ 12600000 := by omega
        rw [txt_case, ← List.append_assoc] at hac
        have hal2 : (acc ++ caseT key body mark).length ≤ 15750000 := by
          have h1 := HTot.out
          rw [← hac, List.length_append] at h1; omega
        have hal3 : acc.length + (caseT key body mark).length ≤ 15750000 := by simpa using hal2
        have hcv := fun W (hB : Below w.heap.size w W) => IH.out body (.slice a3 n3' c3') mark W hbz hnb hbw (MaxAt.below HM.out rfl hB) (SV.below hsv hB) hfb
        have hks : (⟨key.toArray⟩ : ByteArray).size ≤ 2100000 := by rw [sizeOf_mk]; exact hkl
        have hbs : (⟨(txt body mark).toArray⟩ : ByteArray).size ≤ 12600000 := by rw [sizeOf_mk]; omega
        have hsum : (⟨#[32]⟩ : ByteArray) ++ ⟨key.toArray⟩ ++ ⟨#[32, 123]⟩ ++ ⟨(txt body mark).toArray⟩ ++ ⟨#[125]⟩ = ⟨(caseT key body mark).toArray⟩ := case_sum key _
        have e32 : (⟨#[32]⟩ : ByteArray).size = 1 := rfl
        have e33 : (⟨#[32, 123]⟩ : ByteArray).size = 2 := rfl
        have e34 : (⟨#[125]⟩ : ByteArray).size = 1 := rfl
        have s1 : (⟨#[32]⟩ : ByteArray).size + (⟨key.toArray⟩ : ByteArray).size ≤ 9223372036854775807 := by omega
        have s2 : ((⟨#[32]⟩ : ByteArray) ++ ⟨key.toArray⟩).size + (⟨#[32, 123]⟩ : ByteArray).size ≤ 9223372036854775807 := by rw [ByteArray.size_append]; omega
        have s3 : ((⟨#[32]⟩ : ByteArray) ++ ⟨key.toArray⟩ ++ ⟨#[32, 123]⟩).size + (⟨(txt body mark).toArray⟩ : ByteArray).size ≤ 9223372036854775807 := by rw [ByteArray.size_append, ByteArray.size_append]; omega
        have s4 : ((⟨#[32]⟩ : ByteArray) ++ ⟨key.toArray⟩ ++ ⟨#[32, 123]⟩ ++ ⟨(txt body mark).toArray⟩).size + (⟨#[125]⟩ : ByteArray).size ≤ 9223372036854775807 := by rw [ByteArray.size_append, ByteArray.size_append, ByteArray.size_append]; omega
        clear e32 e33 e34
        obtain ⟨K1, hK1⟩ : ∃ K : ByteArray, (⟨#[32]⟩ : ByteArray) ++ ⟨key.toArray⟩ = K := ⟨_, rfl⟩
        have o1 : ∀ w : World, (Op.stringOp .add ⟨#[32]⟩ ⟨key.toArray⟩).run Tryz.prog w = .ok (.string K1) w := fun w => by rw [← hK1]; exact run_string_add_sum _ _ _ s1
        rw [hK1] at s2 s3 s4 hsum
        obtain ⟨K2, hK2⟩ : ∃ K : ByteArray, K1 ++ (⟨#[32, 123]⟩ : ByteArray) = K := ⟨_, rfl⟩
        have o2 : ∀ w : World, (Op.stringOp .add K1 ⟨#[32, 123]⟩).run Tryz.prog w = .ok (.string K2) w := fun w => by rw [← hK2]; exact run_string_add_sum _ _ _ s2
        rw [hK2] at s3 s4 hsum
        obtain ⟨K3, hK3⟩ : ∃ K : ByteArray, K2 ++ (⟨(txt body mark).toArray⟩ : ByteArray) = K := ⟨_, rfl⟩
        have o3 : ∀ w : World, (Op.stringOp .add K2 ⟨(txt body mark).toArray⟩).run Tryz.prog w = .ok (.string K3) w := fun w => by rw [← hK3]; exact run_string_add_sum _ _ _ s3
        rw [hK3] at s4 hsum
        have o4 : ∀ w : World, (Op.stringOp .add K3 ⟨#[125]⟩).run Tryz.prog w = .ok (.string ⟨(caseT key body mark).toArray⟩) w := fun w => by rw [← hsum]; exact run_string_add_sum _ _ _ s4
        clear s1 s2 s3 s4 hK1 hK2 hK3
        have HCV := Lib.hid hcv
        have HNX : Hid (Rd w nx b (o + (i + 1) * 2) (n - (i + 1)) ∧ isN.isC nx = true ∧ sz nx ≤ sz cs ∧ wt nx ≤ wt cs ∧ (acc ++ caseT key body mark) ++ txt nx mark = Hd ++ txt cs mark ∧ flt nx mark false 5 (seen ++ [key]) = 0) := ⟨hrest', hnnx, hnz, hnw, hac, hfx⟩
        have HAL2 := Lib.hid hal2; have HAL3 := Lib.hid hal3
        have HB1 := Lib.hid ((HB.out.alloc HB.out.size (.cells #[.string ⟨key.toArray⟩, .slice a3 n3' c3'] 62)).trans (Below.refl w.heap.size _).drew)
        have HI1 := Lib.hid (builder_below HI.out (((Below.refl wr.heap.size wr).alloc (Nat.le_refl _) (.cells #[.string ⟨key.toArray⟩, .slice a3 n3' c3'] 62)).trans (Below.refl wr.heap.size _).drew))
        clear hcv hal2 hal3 hfx hfb hac hnz hnw hbz hbw hrest hrest' kc hsv hv q0 q1 hnnx hnb hn1 hz1 hw1 hfl hm1 hsum hbl HT n3
        go_wp2_with fail
        go_region_held3 (fun w' => w'.cell? ⟨wr.heap.size, 0, none⟩ = some (.string ⟨key.toArray⟩) ∧ w'.cell? ⟨wr.heap.size, 1, none⟩ = some (.slice a3 n3' c3')) (go_keep) (first | (go_at_call 20; refine (HCV.out _ HB1.out).mono ?_; rintro e w3 ⟨rfl, hb3⟩; have z0 : w3.cell? ⟨wr.heap.size, 0, none⟩ = some (.string ⟨key.toArray⟩) := (by rw [hb3.cell (p := ⟨wr.heap.size, 0, none⟩) (by simp)]; simp); have y0 : w3.heap[wr.heap.size]? = some (.cells #[.string ⟨key.toArray⟩, .slice a3 n3' c3'] 62) := (by rw [hb3.block wr.heap.size (by simp)]; exact heap_alloc_new wr _); have z1 : w3.cell? ⟨wr.heap.size, 1, none⟩ = some (.slice a3 n3' c3') := (by rw [hb3.cell (p := ⟨wr.heap.size, 1, none⟩) (by simp)]; simp); have hs3 : wr.heap.size + 1 ≤ w3.heap.size := (by have := hb3.size; simpa using this); have HI3 := Lib.hid (builder_below HI1.out hb3); have HB3 := Lib.hid (HB1.out.trans (hb3.mono HB1.out.size)); clear hb3) | (go_at_call 32; refine (Tryz.writeString (w.heap.size + 1) (w.heap.size + 1) _ ⟨(caseT key body mark).toArray⟩ _ HI3.out (by have := HAL3.out; rw [Lib.byteCells_length, sizeOf_mk]; omega) (by omega)).mono ?_; rintro e w4 ⟨rfl, hI4, hb4, ho4⟩; have y4 := ho4 _ _ y0 (by simp; omega) (fun c fz h => by cases h); have x0 : w4.cell? ⟨wr.heap.size, 0, none⟩ = some (.string ⟨key.toArray⟩) := (by simp [World.cell?, y4]); have x1 : w4.cell? ⟨wr.heap.size, 1, none⟩ = some (.slice a3 n3' c3') := (by simp [World.cell?, y4]); have HI4 := Lib.hid hI4; have HB4 := Lib.hid (HB3.out.trans (hb4.mono (by omega))); have hs4 := Nat.lt_of_lt_of_le (show w.heap.size + 1 < w3.heap.size by omega) hb4.size; clear hI4 hb4))
        all_goals
          go_wp2_with fail
          go_roundw
          case rel =>
            refine ⟨i + 1, nx, acc ++ caseT key body mark, seen ++ [key], by omega, by go_num, HAL2.out, HNX, ?_, HB4, hs4⟩
            have e : Lib.byteCells (acc ++ caseT key body mark) = Lib.byteCells acc ++ Lib.byteCells (caseT key body mark) := by simp [Lib.byteCells]
            have h := HI4.out
            show Lib.IsBuilderF _ _ _ _ _ _
            rw [e]; exact .inr h
          case measure => simp [RowKit.intOf]; omega
    · have hie : i = n := by omega
      have ht0 : t' = .nil := by
        have h1 := HT.out.1
        rw [hie, Nat.sub_self] at h1
        cases t' with
        | nil => rfl
        | node _ _ _ _ _ => obtain ⟨_, _, h, _⟩ := h1; cases h
        | case _ _ _ => obtain ⟨_, _, h, _⟩ := h1; cases h
      subst ht0
      have hac : acc = Hd ++ txt cs mark := by have := HT.out.2.2.2.2.1; simpa [txt] using this
      have hfin : (⟨acc.toArray⟩ : ByteArray) ++ ⟨#[125]⟩ = ⟨(nodeT 5 f x cs mark).toArray⟩ := by
        rw [HT0.out, ← hac, bytes_app ⟨acc.toArray⟩ [125] acc (by simp)]
      have has : (⟨acc.toArray⟩ : ByteArray).size ≤ 15750000 := by rw [sizeOf_mk]; exact hal
      have HA := Lib.hid hfin
      clear hac hfin n3
      go_wp2_with fail
      refine (Tryz.Builder_String_any_k (w.heap.size + 1) (w.heap.size + 1) acc _ HI.out (Nat.le_of_lt hsz)).mono ?_
      rintro e w1 ⟨rfl, _, hb1, _⟩
      have HB1 := Lib.hid (HB.out.trans (hb1.mono (by omega))); clear hb1
      go_wp2_with fail
      go_ret
      exact ⟨by rw [← HA.out] <;> rfl, HB1.out⟩
end Go.Proofs.YtnefcilopgcdpaaGreatDoor
namespace Go.Proofs.YtnefcilopgcdpaaGreatDoor
open Go.RowKit Ms

theorem nodeT40 (x : List UInt8) (cs : T) (mark : Bool) : nodeT 4 0 x cs mark = [123] ++ x ++ [44, 32, 112, 108, 117, 114, 97, 108, 44] ++ txt cs true ++ [125] := by simp [nodeT, txt, plural]
theorem nodeT4p (x : List UInt8) (cs : T) (mark : Bool) (d : Nat) (h : 1 ≤ d) : nodeT 4 (d : Int) x cs mark = [123] ++ x ++ [44, 32, 112, 108, 117, 114, 97, 108, 44] ++ ([32, 111, 102, 102, 115, 101, 116, 58] ++ Lib.decDigits d) ++ txt cs true ++ [125] := by
  have h0 : d ≠ 0 := by omega
  simp [nodeT, txt, plural, offset, h0, Lib.itoa_nonneg]

set_option maxHeartbeats 2000000 in
set_option maxRecDepth 100000 in
theorem node_plural0 (N : Nat) (IH : TextIH N)  (x : List UInt8) (b o n c : Nat) (cs : T) (mark : Bool) (w : World) (hx : x.length ≤ 2100000) (hz : sz cs ≤ N) (hc : isN.isC cs = true) (hw : wt cs ≤ 2100000) (hm : MaxAt w) (hr : Rd w cs b o n) (hf : flt cs true false 4 [] = 0) :
    Calls Tryz.prog 33 #[.agg #[.int .i64 4, .string ⟨x.toArray⟩, .int .i64 0, .slice (some ⟨b, o, none⟩) n c], .bool mark] w fun e w' => e = .returned (.string ⟨(nodeT 4 0 x cs mark).toArray⟩) ∧ Below w.heap.size w w' := by
  have htl := txt_len cs true false 4 [] hf
  have hnl := Rd.len cs b o n hr
  have hlw := len_wt cs
  have hn2 : n ≤ 2100000 := by omega
  have hxs : (⟨x.toArray⟩ : ByteArray).size ≤ 2100000 := by rw [sizeOf_mk]; exact hx
  obtain ⟨Hd, hHd⟩ : ∃ Hd : List UInt8, Hd = [123] ++ x ++ [44, 32, 112, 108, 117, 114, 97, 108, 44] := ⟨_, rfl⟩
  have hT : nodeT 4 0 x cs mark = Hd ++ txt cs true ++ [125] := by rw [hHd]; exact nodeT40 x cs mark
  have hHl : Hd.length ≤ 2100100 := by rw [hHd]; simp; omega
  have htot : (Hd ++ txt cs true).length ≤ 15750000 := by rw [List.length_append]; omega
  have hHs : (⟨#[123]⟩ : ByteArray) ++ ⟨x.toArray⟩ ++ ⟨#[44, 32, 112, 108, 117, 114, 97, 108, 44]⟩ = ⟨Hd.toArray⟩ := by rw [hHd]; rw [bytes_app ⟨#[123]⟩ x [123] rfl, bytes_app _ [44, 32, 112, 108, 117, 114, 97, 108, 44] ([123] ++ x) (by simp)]
  have hb0 := ((Below.refl w.heap.size w).alloc (Nat.le_refl _) (.cells #[.int .i64 4, .string ⟨x.toArray⟩, .int .i64 0, .slice (some ⟨b, o, none⟩) n c] 60)).alloc (by simp) (.cells #[.pointer none, .slice none 0 0] 45)
  have hI0 := Lib.IsBuilderF.of (Lib.fresh_isBuilder 45 5 (w.alloc (.cells #[.int .i64 4, .string ⟨x.toArray⟩, .int .i64 0, .slice (some ⟨b, o, none⟩) n c] 60)))
  have HT0 := Lib.hid hT; have HHs := Lib.hid hHs; have HTot := Lib.hid htot; have HB0 := Lib.hid hb0; have HI0 := Lib.hid hI0
  have HM := Lib.hid hm; have HR := Lib.hid hr; have HC := Lib.hid hc; have HZ := Lib.hid hz; have HWt := Lib.hid hw; have IH := Lib.hid IH; have HF := Lib.hid hf
  clear hT hHs htot hb0 hI0 hm hr hc hz hw hf htl hnl hlw hHd
  go_enter Tryz.func33, Tryz.ntmps33
  go_wp2_with fail
  rw [HHs.out]
  have hI1 : Lib.IsBuilderF 45 5 (w.heap.size + 1) (w.heap.size + 1) (Lib.byteCells []) ((w.alloc (.cells #[.int .i64 4, .string ⟨x.toArray⟩, .int .i64 0, .slice (some ⟨b, o, none⟩) n c] 60)).alloc (.cells #[.pointer none, .slice none 0 0] 45)) := by have h := HI0.out; simp at h; exact h
  refine (Tryz.writeString (w.heap.size + 1) (w.heap.size + 1) _ ⟨Hd.toArray⟩ _ hI1 (by rw [Lib.byteCells_length, sizeOf_mk]; simp; omega) (by simp)).mono ?_
  rintro e w2 ⟨rfl, hI2, hb2, _⟩
  have n3 : w2.cell? ⟨w.heap.size, 3, none⟩ = some (.slice (some ⟨b, o, none⟩) n c) := by
    rw [hb2.cell (p := ⟨w.heap.size, 3, none⟩) (by simp), World.cell?_alloc_lt _ _ ⟨w.heap.size, 3, none⟩ (by simp)]; simp
  have n2 : w2.cell? ⟨w.heap.size, 2, none⟩ = some (.int .i64 0) := by
    rw [hb2.cell (p := ⟨w.heap.size, 2, none⟩) (by simp), World.cell?_alloc_lt _ _ ⟨w.heap.size, 2, none⟩ (by simp)]; simp
  have HB2 := Lib.hid (HB0.out.trans (hb2.mono (by omega)))
  have hs2 : w.heap.size + 1 < w2.heap.size := by have := hb2.size; simp at this; omega
  have HI2 := Lib.hid hI2
  clear hb2 hI2 hI1
  go_wp2_with fail
  clear n2
  go_loopw [53] (fun i wr => ∃ (i' : Nat) (t' : T) (acc : List UInt8) (seen : List (List UInt8)), i' ≤ n ∧ i = .int .i64 i' ∧ acc.length ≤ 15750000 ∧ Hid (Rd w t' b (o + i' * 2) (n - i') ∧ isN.isC t' = true ∧ sz t' ≤ sz cs ∧ wt t' ≤ wt cs ∧ acc ++ txt t' true = Hd ++ txt cs true ∧ flt t' true false 4 seen = 0) ∧ Hid (Lib.IsBuilderF 45 5 (w.heap.size + 1) (w.heap.size + 1) (Lib.byteCells acc) wr) ∧ Hid (Below w.heap.size w wr) ∧ w.heap.size + 1 < wr.heap.size) (fun i _ => n - (RowKit.intOf i).toNat)
  case atStart => exact ⟨0, cs, Hd, [], by omega, rfl, by omega, ⟨by simpa using HR.out, HC.out, Nat.le_refl _, Nat.le_refl _, rfl, HF.out⟩, by exact .inr HI2.out, HB2, hs2⟩
  case round =>
    obtain ⟨i, t', acc, seen, hin, rfl, hal, HT, HI, HB, hsz⟩ := hrel
    by_cases hlt : i < n
    · cases t' with
      | nil =>
        have h0 : n - i = 0 := HT.out.1
        omega
      | node _ _ _ _ _ => cases HT.out.2.1
      | case key body nx =>
        obtain ⟨hr1, hn1, hz1, hw1, hac, hfl⟩ := HT.out
        obtain ⟨hnb, hnnx⟩ := isC_case hn1
        obtain ⟨v, m, hm1, q0, q1, hv, hrest⟩ := hr1
        have hsv : SV w v body := hv
        have hv5 : ∃ a n' c', v = .slice a n' c' := by
          rcases hv with ⟨⟨_, h⟩, _⟩ | ⟨b', o', n', c', h, _⟩
          · exact ⟨_, _, _, h⟩
          · exact ⟨_, _, _, h⟩
        obtain ⟨a3, n3', c3', rfl⟩ := hv5
        have kc := keepCells HB.out
        have c0 := kc _ _ _ q0; have c1 := kc _ _ _ q1
        have hrest' : Rd w nx b (o + (i + 1) * 2) (n - (i + 1)) := by
          rw [show o + (i + 1) * 2 = o + i * 2 + 2 by omega, show n - (i + 1) = m by omega]; exact hrest
        have hbz : sz body ≤ N := by have := HZ.out; simp only [sz] at hz1; omega
        have hbw : wt body ≤ 2100000 := by have := HWt.out; simp only [wt] at hw1; omega
        have hkl : key.length ≤ 2100000 := by have := HWt.out; simp only [wt] at hw1; omega
        have hnz : sz nx ≤ sz cs := by simp only [sz] at hz1; omega
        have hnw : wt nx ≤ wt cs := by simp only [wt] at hw1; omega
        obtain ⟨_, _, hfb, hfx⟩ := Ms.flt_case hfl
        have hbl := txt_len body true false 0 [] hfb
        have hbl2 : (txt body true).length ≤ 12600000 := by omega
        rw [txt_case, ← List.append_assoc] at hac
        have hal2 : (acc ++ caseT key body true).length ≤ 15750000 := by
          have h1 := HTot.out
          rw [← hac, List.length_append] at h1; omega
        have hal3 : acc.length + (caseT key body true).length ≤ 15750000 := by simpa using hal2
        have hcv := fun W (hB : Below w.heap.size w W) => IH.out body (.slice a3 n3' c3') true W hbz hnb hbw (MaxAt.below HM.out rfl hB) (SV.below hsv hB) hfb
        have hks : (⟨key.toArray⟩ : ByteArray).size ≤ 2100000 := by rw [sizeOf_mk]; exact hkl
        have hbs : (⟨(txt body true).toArray⟩ : ByteArray).size ≤ 12600000 := by rw [sizeOf_mk]; omega
        have hsum : (⟨#[32]⟩ : ByteArray) ++ ⟨key.toArray⟩ ++ ⟨#[32, 123]⟩ ++ ⟨(txt body true).toArray⟩ ++ ⟨#[125]⟩ = ⟨(caseT key body true).toArray⟩ := case_sum key _
        have e32 : (⟨#[32]⟩ : ByteArray).size = 1 := rfl
        have e33 : (⟨#[32, 123]⟩ : ByteArray).size = 2 := rfl
        have e34 : (⟨#[125]⟩ : ByteArray).size = 1 := rfl
        have s1 : (⟨#[32]⟩ : ByteArray).size + (⟨key.toArray⟩ : ByteArray).size ≤ 9223372036854775807 := by omega
        have s2 : ((⟨#[32]⟩ : ByteArray) ++ ⟨key.toArray⟩).size + (⟨#[32, 123]⟩ : ByteArray).size ≤ 9223372036854775807 := by rw [ByteArray.size_append]; omega
        have s3 : ((⟨#[32]⟩ : ByteArray) ++ ⟨key.toArray⟩ ++ ⟨#[32, 123]⟩).size + (⟨(txt body true).toArray⟩ : ByteArray).size ≤ 9223372036854775807 := by rw [ByteArray.size_append, ByteArray.size_append]; omega
        have s4 : ((⟨#[32]⟩ : ByteArray) ++ ⟨key.toArray⟩ ++ ⟨#[32, 123]⟩ ++ ⟨(txt body true).toArray⟩).size + (⟨#[125]⟩ : ByteArray).size ≤ 9223372036854775807 := by rw [ByteArray.size_append, ByteArray.size_append, ByteArray.size_append]; omega
        clear e32 e33 e34
        obtain ⟨K1, hK1⟩ : ∃ K : ByteArray, (⟨#[32]⟩ : ByteArray) ++ ⟨key.toArray⟩ = K := ⟨_, rfl⟩
        have o1 : ∀ w : World, (Op.stringOp .add ⟨#[32]⟩ ⟨key.toArray⟩).run Tryz.prog w = .ok (.string K1) w := fun w => by rw [← hK1]; exact run_string_add_sum _ _ _ s1
        rw [hK1] at s2 s3 s4 hsum
        obtain ⟨K2, hK2⟩ : ∃ K : ByteArray, K1 ++ (⟨#[32, 123]⟩ : ByteArray) = K := ⟨_, rfl⟩
        have o2 : ∀ w : World, (Op.stringOp .add K1 ⟨#[32, 123]⟩).run Tryz.prog w = .ok (.string K2) w := fun w => by rw [← hK2]; exact run_string_add_sum _ _ _ s2
        rw [hK2] at s3 s4 hsum
        obtain ⟨K3, hK3⟩ : ∃ K : ByteArray, K2 ++ (⟨(txt body true).toArray⟩ : ByteArray) = K := ⟨_, rfl⟩
        have o3 : ∀ w : World, (Op.stringOp .add K2 ⟨(txt body true).toArray⟩).run Tryz.prog w = .ok (.string K3) w := fun w => by rw [← hK3]; exact run_string_add_sum _ _ _ s3
        rw [hK3] at s4 hsum
        have o4 : ∀ w : World, (Op.stringOp .add K3 ⟨#[125]⟩).run Tryz.prog w = .ok (.string ⟨(caseT key body true).toArray⟩) w := fun w => by rw [← hsum]; exact run_string_add_sum _ _ _ s4
        clear s1 s2 s3 s4 hK1 hK2 hK3
        have HCV := Lib.hid hcv
        have HNX : Hid (Rd w nx b (o + (i + 1) * 2) (n - (i + 1)) ∧ isN.isC nx = true ∧ sz nx ≤ sz cs ∧ wt nx ≤ wt cs ∧ (acc ++ caseT key body true) ++ txt nx true = Hd ++ txt cs true ∧ flt nx true false 4 (seen ++ [key]) = 0) := ⟨hrest', hnnx, hnz, hnw, hac, hfx⟩
        have HAL2 := Lib.hid hal2; have HAL3 := Lib.hid hal3
        have HB1 := Lib.hid ((HB.out.alloc HB.out.size (.cells #[.string ⟨key.toArray⟩, .slice a3 n3' c3'] 62)).trans (Below.refl w.heap.size _).drew)
        have HI1 := Lib.hid (builder_below HI.out (((Below.refl wr.heap.size wr).alloc (Nat.le_refl _) (.cells #[.string ⟨key.toArray⟩, .slice a3 n3' c3'] 62)).trans (Below.refl wr.heap.size _).drew))
        clear hcv hal2 hal3 hfx hfb hac hnz hnw hbz hbw hrest hrest' kc hsv hv q0 q1 hnnx hnb hn1 hz1 hw1 hfl hm1 hsum hbl HT n3
        go_wp2_with fail
        go_region_held3 (fun w' => w'.cell? ⟨wr.heap.size, 0, none⟩ = some (.string ⟨key.toArray⟩) ∧ w'.cell? ⟨wr.heap.size, 1, none⟩ = some (.slice a3 n3' c3')) (go_keep) (first | (go_at_call 20; refine (HCV.out _ HB1.out).mono ?_; rintro e w3 ⟨rfl, hb3⟩; have z0 : w3.cell? ⟨wr.heap.size, 0, none⟩ = some (.string ⟨key.toArray⟩) := (by rw [hb3.cell (p := ⟨wr.heap.size, 0, none⟩) (by simp)]; simp); have y0 : w3.heap[wr.heap.size]? = some (.cells #[.string ⟨key.toArray⟩, .slice a3 n3' c3'] 62) := (by rw [hb3.block wr.heap.size (by simp)]; exact heap_alloc_new wr _); have z1 : w3.cell? ⟨wr.heap.size, 1, none⟩ = some (.slice a3 n3' c3') := (by rw [hb3.cell (p := ⟨wr.heap.size, 1, none⟩) (by simp)]; simp); have hs3 : wr.heap.size + 1 ≤ w3.heap.size := (by have := hb3.size; simpa using this); have HI3 := Lib.hid (builder_below HI1.out hb3); have HB3 := Lib.hid (HB1.out.trans (hb3.mono HB1.out.size)); clear hb3) | (go_at_call 32; refine (Tryz.writeString (w.heap.size + 1) (w.heap.size + 1) _ ⟨(caseT key body true).toArray⟩ _ HI3.out (by have := HAL3.out; rw [Lib.byteCells_length, sizeOf_mk]; omega) (by omega)).mono ?_; rintro e w4 ⟨rfl, hI4, hb4, ho4⟩; have y4 := ho4 _ _ y0 (by simp; omega) (fun c fz h => by cases h); have x0 : w4.cell? ⟨wr.heap.size, 0, none⟩ = some (.string ⟨key.toArray⟩) := (by simp [World.cell?, y4]); have x1 : w4.cell? ⟨wr.heap.size, 1, none⟩ = some (.slice a3 n3' c3') := (by simp [World.cell?, y4]); have HI4 := Lib.hid hI4; have HB4 := Lib.hid (HB3.out.trans (hb4.mono (by omega))); have hs4 := Nat.lt_of_lt_of_le (show w.heap.size + 1 < w3.heap.size by omega) hb4.size; clear hI4 hb4))
        all_goals
          go_wp2_with fail
          go_roundw
          case rel =>
            refine ⟨i + 1, nx, acc ++ caseT key body true, seen ++ [key], by omega, by go_num, HAL2.out, HNX, ?_, HB4, hs4⟩
            have e : Lib.byteCells (acc ++ caseT key body true) = Lib.byteCells acc ++ Lib.byteCells (caseT key body true) := by simp [Lib.byteCells]
            have h := HI4.out
            show Lib.IsBuilderF _ _ _ _ _ _
            rw [e]; exact .inr h
          case measure => simp [RowKit.intOf]; omega
    · have hie : i = n := by omega
      have ht0 : t' = .nil := by
        have h1 := HT.out.1
        rw [hie, Nat.sub_self] at h1
        cases t' with
        | nil => rfl
        | node _ _ _ _ _ => obtain ⟨_, _, h, _⟩ := h1; cases h
        | case _ _ _ => obtain ⟨_, _, h, _⟩ := h1; cases h
      subst ht0
      have hac : acc = Hd ++ txt cs true := by have := HT.out.2.2.2.2.1; simpa [txt] using this
      have hfin : (⟨acc.toArray⟩ : ByteArray) ++ ⟨#[125]⟩ = ⟨(nodeT 4 0 x cs mark).toArray⟩ := by
        rw [HT0.out, ← hac, bytes_app ⟨acc.toArray⟩ [125] acc (by simp)]
      have has : (⟨acc.toArray⟩ : ByteArray).size ≤ 15750000 := by rw [sizeOf_mk]; exact hal
      have HA := Lib.hid hfin
      clear hac hfin n3
      go_wp2_with fail
      refine (Tryz.Builder_String_any_k (w.heap.size + 1) (w.heap.size + 1) acc _ HI.out (Nat.le_of_lt hsz)).mono ?_
      rintro e w1 ⟨rfl, _, hb1, _⟩
      have HB1 := Lib.hid (HB.out.trans (hb1.mono (by omega))); clear hb1
      go_wp2_with fail
      go_ret
      exact ⟨by rw [← HA.out] <;> rfl, HB1.out⟩
set_option maxHeartbeats 2000000 in
set_option maxRecDepth 100000 in
theorem node_plural1 (N : Nat) (IH : TextIH N) (d : Nat) (x : List UInt8) (b o n c : Nat) (cs : T) (mark : Bool) (w : World) (hx : x.length ≤ 2100000) (hz : sz cs ≤ N) (hc : isN.isC cs = true) (hw : wt cs ≤ 2100000) (hm : MaxAt w) (hr : Rd w cs b o n) (hf : flt cs true false 4 [] = 0) (hd1 : 1 ≤ d) (hd9 : d ≤ 9) :
    Calls Tryz.prog 33 #[.agg #[.int .i64 4, .string ⟨x.toArray⟩, .int .i64 (d : Int), .slice (some ⟨b, o, none⟩) n c], .bool mark] w fun e w' => e = .returned (.string ⟨(nodeT 4 (d : Int) x cs mark).toArray⟩) ∧ Below w.heap.size w w' := by
  have htl := txt_len cs true false 4 [] hf
  have hnl := Rd.len cs b o n hr
  have hlw := len_wt cs
  have hn2 : n ≤ 2100000 := by omega
  have hxs : (⟨x.toArray⟩ : ByteArray).size ≤ 2100000 := by rw [sizeOf_mk]; exact hx
  obtain ⟨Hd, hHd⟩ : ∃ Hd : List UInt8, Hd = [123] ++ x ++ [44, 32, 112, 108, 117, 114, 97, 108, 44] ++ ([32, 111, 102, 102, 115, 101, 116, 58] ++ Lib.decDigits d) := ⟨_, rfl⟩
  have hT : nodeT 4 (d : Int) x cs mark = Hd ++ txt cs true ++ [125] := by rw [hHd]; exact nodeT4p x cs mark d hd1
  have hHl : Hd.length ≤ 2100100 := by rw [hHd]; have : (Lib.decDigits d).length = 1 := (by rw [Lib.decDigits_one (by omega)] <;> rfl); simp; omega
  have htot : (Hd ++ txt cs true).length ≤ 15750000 := by rw [List.length_append]; omega
  obtain ⟨Hd1, hHd1⟩ : ∃ Hd1 : List UInt8, Hd1 = [123] ++ x ++ [44, 32, 112, 108, 117, 114, 97, 108, 44] := ⟨_, rfl⟩
  obtain ⟨Hd2, hHd2⟩ : ∃ Hd2 : List UInt8, Hd2 = [32, 111, 102, 102, 115, 101, 116, 58] ++ Lib.decDigits d := ⟨_, rfl⟩
  have hdl : (Lib.decDigits d).length = 1 := by rw [Lib.decDigits_one (by omega)] <;> rfl
  have hH1l : Hd1.length ≤ 2100100 := by rw [hHd1]; simp; omega
  have hH2l : Hd2.length ≤ 10 := by rw [hHd2]; simp; omega
  have hH12 : Hd = Hd1 ++ Hd2 := by rw [hHd, hHd1, hHd2]
  have hHs : (⟨#[123]⟩ : ByteArray) ++ ⟨x.toArray⟩ ++ ⟨#[44, 32, 112, 108, 117, 114, 97, 108, 44]⟩ = ⟨Hd1.toArray⟩ := by rw [hHd1]; rw [bytes_app ⟨#[123]⟩ x [123] rfl, bytes_app _ [44, 32, 112, 108, 117, 114, 97, 108, 44] ([123] ++ x) (by simp)]
  have hHs2 : (⟨#[32, 111, 102, 102, 115, 101, 116, 58]⟩ : ByteArray) ++ ⟨(Lib.decDigits d).toArray⟩ = ⟨Hd2.toArray⟩ := by rw [hHd2]; exact bytes_app ⟨#[32, 111, 102, 102, 115, 101, 116, 58]⟩ (Lib.decDigits d) [32, 111, 102, 102, 115, 101, 116, 58] rfl
  have hds : (⟨(Lib.decDigits d).toArray⟩ : ByteArray).size ≤ 10 := by rw [sizeOf_mk]; omega
  have hd0 : ¬ (d : Int) = 0 := by omega
  have o5 : ∀ w : World, (Op.stringOp .add ⟨#[32, 111, 102, 102, 115, 101, 116, 58]⟩ ⟨(Lib.decDigits d).toArray⟩).run Tryz.prog w = .ok (.string ⟨Hd2.toArray⟩) w := fun w => by rw [← hHs2]; exact run_string_add_sum _ _ _ (by have : (⟨#[32, 111, 102, 102, 115, 101, 116, 58]⟩ : ByteArray).size = 8 := rfl; omega)
  have HH12 := Lib.hid hH12
  clear hHd1 hHd2 hdl hH12 hHs2
  have hb0 := ((Below.refl w.heap.size w).alloc (Nat.le_refl _) (.cells #[.int .i64 4, .string ⟨x.toArray⟩, .int .i64 (d : Int), .slice (some ⟨b, o, none⟩) n c] 60)).alloc (by simp) (.cells #[.pointer none, .slice none 0 0] 45)
  have hI0 := Lib.IsBuilderF.of (Lib.fresh_isBuilder 45 5 (w.alloc (.cells #[.int .i64 4, .string ⟨x.toArray⟩, .int .i64 (d : Int), .slice (some ⟨b, o, none⟩) n c] 60)))
  have HT0 := Lib.hid hT; have HHs := Lib.hid hHs; have HTot := Lib.hid htot; have HB0 := Lib.hid hb0; have HI0 := Lib.hid hI0
  have HM := Lib.hid hm; have HR := Lib.hid hr; have HC := Lib.hid hc; have HZ := Lib.hid hz; have HWt := Lib.hid hw; have IH := Lib.hid IH; have HF := Lib.hid hf
  clear hT hHs htot hb0 hI0 hm hr hc hz hw hf htl hnl hlw hHd
  go_enter Tryz.func33, Tryz.ntmps33
  go_wp2_with fail
  rw [HHs.out]
  have hI1 : Lib.IsBuilderF 45 5 (w.heap.size + 1) (w.heap.size + 1) (Lib.byteCells []) ((w.alloc (.cells #[.int .i64 4, .string ⟨x.toArray⟩, .int .i64 (d : Int), .slice (some ⟨b, o, none⟩) n c] 60)).alloc (.cells #[.pointer none, .slice none 0 0] 45)) := by have h := HI0.out; simp at h; exact h
  refine (Tryz.writeString (w.heap.size + 1) (w.heap.size + 1) _ ⟨Hd1.toArray⟩ _ hI1 (by rw [Lib.byteCells_length, sizeOf_mk]; simp; omega) (by simp)).mono ?_
  rintro e w2 ⟨rfl, hI2, hb2, _⟩
  have n3 : w2.cell? ⟨w.heap.size, 3, none⟩ = some (.slice (some ⟨b, o, none⟩) n c) := by
    rw [hb2.cell (p := ⟨w.heap.size, 3, none⟩) (by simp), World.cell?_alloc_lt _ _ ⟨w.heap.size, 3, none⟩ (by simp)]; simp
  have n2 : w2.cell? ⟨w.heap.size, 2, none⟩ = some (.int .i64 (d : Int)) := by
    rw [hb2.cell (p := ⟨w.heap.size, 2, none⟩) (by simp), World.cell?_alloc_lt _ _ ⟨w.heap.size, 2, none⟩ (by simp)]; simp
  have HB2 := Lib.hid (HB0.out.trans (hb2.mono (by omega)))
  have hs2 : w.heap.size + 1 < w2.heap.size := by have := hb2.size; simp at this; omega
  have HI2 := Lib.hid hI2
  clear hb2 hI2 hI1
  go_wp2_with fail
  refine (Tryz.strconv_Itoa_small d (by omega) _).mono ?_
  rintro e w2' ⟨rfl, rfl⟩
  go_wp2_with fail
  refine (Tryz.writeString (w.heap.size + 1) (w.heap.size + 1) _ ⟨Hd2.toArray⟩ _ (show Lib.IsBuilderF 45 5 (w.heap.size + 1) (w.heap.size + 1) (Lib.byteCells Hd1) _ from .inr HI2.out) (by rw [Lib.byteCells_length, sizeOf_mk]; omega) (by omega)).mono ?_
  rintro e w3 ⟨rfl, hI3, hb3, _⟩
  have n33 : w3.cell? ⟨w.heap.size, 3, none⟩ = some (.slice (some ⟨b, o, none⟩) n c) := by
    rw [hb3.cell (p := ⟨w.heap.size, 3, none⟩) (by simp)]; exact n3
  clear n3 n2 HI2
  have n3 := n33
  have HB2 := Lib.hid (HB2.out.trans (hb3.mono (by omega)))
  have hs2 : w.heap.size + 1 < w3.heap.size := by have := hb3.size; omega
  have HI2 : Hid (Lib.BuilderAtF 45 5 (w.heap.size + 1) (w.heap.size + 1) (.pointer (some ⟨w.heap.size + 1, 0, none⟩)) (Lib.byteCells Hd) w3) := by
    have e : Lib.byteCells Hd = Lib.byteCells Hd1 ++ Lib.byteCells Hd2 := by rw [HH12.out]; simp [Lib.byteCells]
    rw [e]; exact hI3
  clear hb3 hI3 n33
  go_wp2_with fail
  go_loopw [53] (fun i wr => ∃ (i' : Nat) (t' : T) (acc : List UInt8) (seen : List (List UInt8)), i' ≤ n ∧ i = .int .i64 i' ∧ acc.length ≤ 15750000 ∧ Hid (Rd w t' b (o + i' * 2) (n - i') ∧ isN.isC t' = true ∧ sz t' ≤ sz cs ∧ wt t' ≤ wt cs ∧ acc ++ txt t' true = Hd ++ txt cs true ∧ flt t' true false 4 seen = 0) ∧ Hid (Lib.IsBuilderF 45 5 (w.heap.size + 1) (w.heap.size + 1) (Lib.byteCells acc) wr) ∧ Hid (Below w.heap.size w wr) ∧ w.heap.size + 1 < wr.heap.size) (fun i _ => n - (RowKit.intOf i).toNat)
  case atStart => exact ⟨0, cs, Hd, [], by omega, rfl, by omega, ⟨by simpa using HR.out, HC.out, Nat.le_refl _, Nat.le_refl _, rfl, HF.out⟩, by exact .inr HI2.out, HB2, hs2⟩
  case round =>
    obtain ⟨i, t', acc, seen, hin, rfl, hal, HT, HI, HB, hsz⟩ := hrel
    by_cases hlt : i < n
    · cases t' with
      | nil =>
        have h0 : n - i = 0 := HT.out.1
        omega
      | node _ _ _ _ _ => cases HT.out.2.1
      | case key body nx =>
        obtain ⟨hr1, hn1, hz1, hw1, hac, hfl⟩ := HT.out
        obtain ⟨hnb, hnnx⟩ := isC_case hn1
        obtain ⟨v, m, hm1, q0, q1, hv, hrest⟩ := hr1
        have hsv : SV w v body := hv
        have hv5 : ∃ a n' c', v = .slice a n' c' := by
          rcases hv with ⟨⟨_, h⟩, _⟩ | ⟨b', o', n', c', h, _⟩
          · exact ⟨_, _, _, h⟩
          · exact ⟨_, _, _, h⟩
        obtain ⟨a3, n3', c3', rfl⟩ := hv5
        have kc := keepCells HB.out
        have c0 := kc _ _ _ q0; have c1 := kc _ _ _ q1
        have hrest' : Rd w nx b (o + (i + 1) * 2) (n - (i + 1)) := by
          rw [show o + (i + 1) * 2 = o + i * 2 + 2 by omega, show n - (i + 1) = m by omega]; exact hrest
        have hbz : sz body ≤ N := by have := HZ.out; simp only [sz] at hz1; omega
        have hbw : wt body ≤ 2100000 := by have := HWt.out; simp only [wt] at hw1; omega
        have hkl : key.length ≤ 2100000 := by have := HWt.out; simp only [wt] at hw1; omega
        have hnz : sz nx ≤ sz cs := by simp only [sz] at hz1; omega
        have hnw : wt nx ≤ wt cs := by simp only [wt] at hw1; omega
        obtain ⟨_, _, hfb, hfx⟩ := Ms.flt_case hfl
        have hbl := txt_len body true false 0 [] hfb
        have hbl2 : (txt body true).length ≤ 12600000 := by omega
        rw [txt_case, ← List.append_assoc] at hac
        have hal2 : (acc ++ caseT key body true).length ≤ 15750000 := by
          have h1 := HTot.out
          rw [← hac, List.length_append] at h1; omega
        have hal3 : acc.length + (caseT key body true).length ≤ 15750000 := by simpa using hal2
        have hcv := fun W (hB : Below w.heap.size w W) => IH.out body (.slice a3 n3' c3') true W hbz hnb hbw (MaxAt.below HM.out rfl hB) (SV.below hsv hB) hfb
        have hks : (⟨key.toArray⟩ : ByteArray).size ≤ 2100000 := by rw [sizeOf_mk]; exact hkl
        have hbs : (⟨(txt body true).toArray⟩ : ByteArray).size ≤ 12600000 := by rw [sizeOf_mk]; omega
        have hsum : (⟨#[32]⟩ : ByteArray) ++ ⟨key.toArray⟩ ++ ⟨#[32, 123]⟩ ++ ⟨(txt body true).toArray⟩ ++ ⟨#[125]⟩ = ⟨(caseT key body true).toArray⟩ := case_sum key _
        have e32 : (⟨#[32]⟩ : ByteArray).size = 1 := rfl
        have e33 : (⟨#[32, 123]⟩ : ByteArray).size = 2 := rfl
        have e34 : (⟨#[125]⟩ : ByteArray).size = 1 := rfl
        have s1 : (⟨#[32]⟩ : ByteArray).size + (⟨key.toArray⟩ : ByteArray).size ≤ 9223372036854775807 := by omega
        have s2 : ((⟨#[32]⟩ : ByteArray) ++ ⟨key.toArray⟩).size + (⟨#[32, 123]⟩ : ByteArray).size ≤ 9223372036854775807 := by rw [ByteArray.size_append]; omega
        have s3 : ((⟨#[32]⟩ : ByteArray) ++ ⟨key.toArray⟩ ++ ⟨#[32, 123]⟩).size + (⟨(txt body true).toArray⟩ : ByteArray).size ≤ 9223372036854775807 := by rw [ByteArray.size_append, ByteArray.size_append]; omega
        have s4 : ((⟨#[32]⟩ : ByteArray) ++ ⟨key.toArray⟩ ++ ⟨#[32, 123]⟩ ++ ⟨(txt body true).toArray⟩).size + (⟨#[125]⟩ : ByteArray).size ≤ 9223372036854775807 := by rw [ByteArray.size_append, ByteArray.size_append, ByteArray.size_append]; omega
        clear e32 e33 e34
        obtain ⟨K1, hK1⟩ : ∃ K : ByteArray, (⟨#[32]⟩ : ByteArray) ++ ⟨key.toArray⟩ = K := ⟨_, rfl⟩
        have o1 : ∀ w : World, (Op.stringOp .add ⟨#[32]⟩ ⟨key.toArray⟩).run Tryz.prog w = .ok (.string K1) w := fun w => by rw [← hK1]; exact run_string_add_sum _ _ _ s1
        rw [hK1] at s2 s3 s4 hsum
        obtain ⟨K2, hK2⟩ : ∃ K : ByteArray, K1 ++ (⟨#[32, 123]⟩ : ByteArray) = K := ⟨_, rfl⟩
        have o2 : ∀ w : World, (Op.stringOp .add K1 ⟨#[32, 123]⟩).run Tryz.prog w = .ok (.string K2) w := fun w => by rw [← hK2]; exact run_string_add_sum _ _ _ s2
        rw [hK2] at s3 s4 hsum
        obtain ⟨K3, hK3⟩ : ∃ K : ByteArray, K2 ++ (⟨(txt body true).toArray⟩ : ByteArray) = K := ⟨_, rfl⟩
        have o3 : ∀ w : World, (Op.stringOp .add K2 ⟨(txt body true).toArray⟩).run Tryz.prog w = .ok (.string K3) w := fun w => by rw [← hK3]; exact run_string_add_sum _ _ _ s3
        rw [hK3] at s4 hsum
        have o4 : ∀ w : World, (Op.stringOp .add K3 ⟨#[125]⟩).run Tryz.prog w = .ok (.string ⟨(caseT key body true).toArray⟩) w := fun w => by rw [← hsum]; exact run_string_add_sum _ _ _ s4
        clear s1 s2 s3 s4 hK1 hK2 hK3
        have HCV := Lib.hid hcv
        have HNX : Hid (Rd w nx b (o + (i + 1) * 2) (n - (i + 1)) ∧ isN.isC nx = true ∧ sz nx ≤ sz cs ∧ wt nx ≤ wt cs ∧ (acc ++ caseT key body true) ++ txt nx true = Hd ++ txt cs true ∧ flt nx true false 4 (seen ++ [key]) = 0) := ⟨hrest', hnnx, hnz, hnw, hac, hfx⟩
        have HAL2 := Lib.hid hal2; have HAL3 := Lib.hid hal3
        have HB1 := Lib.hid ((HB.out.alloc HB.out.size (.cells #[.string ⟨key.toArray⟩, .slice a3 n3' c3'] 62)).trans (Below.refl w.heap.size _).drew)
        have HI1 := Lib.hid (builder_below HI.out (((Below.refl wr.heap.size wr).alloc (Nat.le_refl _) (.cells #[.string ⟨key.toArray⟩, .slice a3 n3' c3'] 62)).trans (Below.refl wr.heap.size _).drew))
        clear hcv hal2 hal3 hfx hfb hac hnz hnw hbz hbw hrest hrest' kc hsv hv q0 q1 hnnx hnb hn1 hz1 hw1 hfl hm1 hsum hbl HT n3
        go_wp2_with fail
        go_region_held3 (fun w' => w'.cell? ⟨wr.heap.size, 0, none⟩ = some (.string ⟨key.toArray⟩) ∧ w'.cell? ⟨wr.heap.size, 1, none⟩ = some (.slice a3 n3' c3')) (go_keep) (first | (go_at_call 20; refine (HCV.out _ HB1.out).mono ?_; rintro e w3 ⟨rfl, hb3⟩; have z0 : w3.cell? ⟨wr.heap.size, 0, none⟩ = some (.string ⟨key.toArray⟩) := (by rw [hb3.cell (p := ⟨wr.heap.size, 0, none⟩) (by simp)]; simp); have y0 : w3.heap[wr.heap.size]? = some (.cells #[.string ⟨key.toArray⟩, .slice a3 n3' c3'] 62) := (by rw [hb3.block wr.heap.size (by simp)]; exact heap_alloc_new wr _); have z1 : w3.cell? ⟨wr.heap.size, 1, none⟩ = some (.slice a3 n3' c3') := (by rw [hb3.cell (p := ⟨wr.heap.size, 1, none⟩) (by simp)]; simp); have hs3 : wr.heap.size + 1 ≤ w3.heap.size := (by have := hb3.size; simpa using this); have HI3 := Lib.hid (builder_below HI1.out hb3); have HB3 := Lib.hid (HB1.out.trans (hb3.mono HB1.out.size)); clear hb3) | (go_at_call 32; refine (Tryz.writeString (w.heap.size + 1) (w.heap.size + 1) _ ⟨(caseT key body true).toArray⟩ _ HI3.out (by have := HAL3.out; rw [Lib.byteCells_length, sizeOf_mk]; omega) (by omega)).mono ?_; rintro e w4 ⟨rfl, hI4, hb4, ho4⟩; have y4 := ho4 _ _ y0 (by simp; omega) (fun c fz h => by cases h); have x0 : w4.cell? ⟨wr.heap.size, 0, none⟩ = some (.string ⟨key.toArray⟩) := (by simp [World.cell?, y4]); have x1 : w4.cell? ⟨wr.heap.size, 1, none⟩ = some (.slice a3 n3' c3') := (by simp [World.cell?, y4]); have HI4 := Lib.hid hI4; have HB4 := Lib.hid (HB3.out.trans (hb4.mono (by omega))); have hs4 := Nat.lt_of_lt_of_le (show w.heap.size + 1 < w3.heap.size by omega) hb4.size; clear hI4 hb4))
        all_goals
          go_wp2_with fail
          go_roundw
          case rel =>
            refine ⟨i + 1, nx, acc ++ caseT key body true, seen ++ [key], by omega, by go_num, HAL2.out, HNX, ?_, HB4, hs4⟩
            have e : Lib.byteCells (acc ++ caseT key body true) = Lib.byteCells acc ++ Lib.byteCells (caseT key body true) := by simp [Lib.byteCells]
            have h := HI4.out
            show Lib.IsBuilderF _ _ _ _ _ _
            rw [e]; exact .inr h
          case measure => simp [RowKit.intOf]; omega
    · have hie : i = n := by omega
      have ht0 : t' = .nil := by
        have h1 := HT.out.1
        rw [hie, Nat.sub_self] at h1
        cases t' with
        | nil => rfl
        | node _ _ _ _ _ => obtain ⟨_, _, h, _⟩ := h1; cases h
        | case _ _ _ => obtain ⟨_, _, h, _⟩ := h1; cases h
      subst ht0
      have hac : acc = Hd ++ txt cs true := by have := HT.out.2.2.2.2.1; simpa [txt] using this
      have hfin : (⟨acc.toArray⟩ : ByteArray) ++ ⟨#[125]⟩ = ⟨(nodeT 4 (d : Int) x cs mark).toArray⟩ := by
        rw [HT0.out, ← hac, bytes_app ⟨acc.toArray⟩ [125] acc (by simp)]
      have has : (⟨acc.toArray⟩ : ByteArray).size ≤ 15750000 := by rw [sizeOf_mk]; exact hal
      have HA := Lib.hid hfin
      clear hac hfin n3
      go_wp2_with fail
      refine (Tryz.Builder_String_any_k (w.heap.size + 1) (w.heap.size + 1) acc _ HI.out (Nat.le_of_lt hsz)).mono ?_
      rintro e w1 ⟨rfl, _, hb1, _⟩
      have HB1 := Lib.hid (HB.out.trans (hb1.mono (by omega))); clear hb1
      go_wp2_with fail
      go_ret
      exact ⟨by rw [← HA.out] <;> rfl, HB1.out⟩
end Go.Proofs.YtnefcilopgcdpaaGreatDoor
namespace Go.Proofs.YtnefcilopgcdpaaGreatDoor
open Go.RowKit Ms

theorem cases_full {k : Int} {cs : T} {mark : Bool} (hk : k ≠ 0) (h : flt cs mark false k [] = 0) : cs ≠ .nil := by
  rintro rfl
  rw [flt_nilC hk] at h
  simp at h
theorem node_of (N : Nat) (IH : N ≠ 0 → TextIH N) : NodeIH N := by
  intro k f x v cs mark pw w hz hc hw hm hs hf
  obtain ⟨h1, h2, h3, h4⟩ := Ms.flt_node hf
  have hxl : x.length ≤ 2100000 := by simp only [wt] at hw; omega
  have hcw : wt cs ≤ 2100000 := by simp only [wt] at hw; omega
  rcases fine_kind h1 with rfl | rfl | rfl | rfl | rfl | ⟨rfl, _⟩
  · exact node_simple 1 f x v cs mark w (.inl rfl) hxl hm
  · exact node_simple 2 f x v cs mark w (.inr (.inl rfl)) hxl hm
  · exact node_simple 3 f x v cs mark w (.inr (.inr (.inl rfl))) hxl hm
  · have hf4 : flt cs true false 4 [] = 0 := by simpa using h3 rfl
    have hne := cases_full (by decide) hf4
    have hN : N ≠ 0 := by
      rintro rfl
      cases cs with
      | nil => exact hne rfl
      | node _ _ _ _ _ => simp [sz] at hz
      | case _ _ _ => simp [sz] at hz
    rcases hs with ⟨_, rfl⟩ | ⟨b, o, n, c, rfl, _, hr⟩
    · exact absurd rfl hne
    · by_cases h0 : f = 0
      · subst h0
        exact node_plural0 N (IH hN) x b o n c cs mark w hxl hz hc hcw hm hr hf4
      · obtain ⟨d, rfl⟩ : ∃ d : Nat, f = d := ⟨f.toNat, by omega⟩
        exact node_plural1 N (IH hN) d x b o n c cs mark w hxl hz hc hcw hm hr hf4 (by omega) (by omega)
  · have hf5 : flt cs mark false 5 [] = 0 := by simpa using h3 rfl
    have hne := cases_full (by decide) hf5
    have hN : N ≠ 0 := by
      rintro rfl
      cases cs with
      | nil => exact hne rfl
      | node _ _ _ _ _ => simp [sz] at hz
      | case _ _ _ => simp [sz] at hz
    rcases hs with ⟨_, rfl⟩ | ⟨b, o, n, c, rfl, _, hr⟩
    · exact absurd rfl hne
    · exact node_select N (IH hN) f x b o n c cs mark w hxl hz hc hcw hm hr hf5
  · exact node_simple 6 f x v cs mark w (.inr (.inr (.inr rfl))) hxl hm
theorem text_any : ∀ N : Nat, TextIH N
  | 0 => fun t v mark w hz hn hw hm hs hf => text_of 0 (node_of 0 (fun h => absurd rfl h)) t v mark w (by omega) hn hw hm hs hf
  | N + 1 => fun t v mark w hz hn hw hm hs hf => text_of N (node_of N (fun _ => text_any N)) t v mark w hz hn hw hm hs hf

set_option maxHeartbeats 1000000 in
set_option maxRecDepth 100000 in
/-- msg.Text -/
theorem mtext_any (t : T) (v : Value) (w : World) (hn : isN t = true) (hw : wt t ≤ 2100000) (hm : MW w) (hM : MaxAt w) (hs : SV w v t) :
    Calls Tryz.prog 10 #[v] w fun e w' => e = .returned (.tuple #[.string ⟨(if fault t = 0 then txt t false else []).toArray⟩, errVal (fault t)]) ∧ Below w.heap.size w w' := by
  have hv5 : ∃ a n' c', v = .slice a n' c' := by
    rcases hs with ⟨⟨_, h⟩, _⟩ | ⟨b', o', n', c', h, _⟩
    · exact ⟨_, _, _, h⟩
    · exact ⟨_, _, _, h⟩
  obtain ⟨a3, n3, c3', rfl⟩ := hv5
  have h1 := mcheck_any t (.slice a3 n3 c3') w hn hw hm hs
  by_cases hf : fault t = 0
  · have h2 := fun W (hB : Below w.heap.size w W) => text_any (sz t) t (.slice a3 n3 c3') false W (Nat.le_refl _) hn hw (MaxAt.below hM rfl hB) (SV.below hs hB) (fault_0 hf).1
    have H2 := Lib.hid h2
    have hv : (if fault t = 0 then txt t false else []) = txt t false := if_pos hf
    rw [hf, errVal_0] at h1
    rw [hv, hf, errVal_0]
    have H1 := Lib.hid h1
    clear h1 h2 hf hs hn hw hm hM hv
    go_enter Tryz.func10, Tryz.ntmps10
    go_wp2_with fail
    refine H1.out.mono ?_
    rintro e w2 ⟨rfl, hb⟩
    have HB := Lib.hid hb; clear hb
    go_wp2_with fail
    refine (H2.out _ HB.out).mono ?_
    rintro e w3 ⟨rfl, hb3⟩
    have HB3 := Lib.hid (HB.out.trans (hb3.mono HB.out.size)); clear hb3
    go_wp2_with fail
    go_ret2
    exact ⟨rfl, HB3.out⟩
  · have hv : (if fault t = 0 then txt t false else []) = [] := if_neg hf
    rw [errVal_no hf] at h1
    rw [hv, errVal_no hf]
    generalize fault t = q at h1
    have H1 := Lib.hid h1
    clear h1 hs hn hw hm hM hv hf
    go_enter Tryz.func10, Tryz.ntmps10
    go_wp2_with fail
    refine H1.out.mono ?_
    rintro e w2 ⟨rfl, hb⟩
    have HB := Lib.hid hb; clear hb
    go_wp2_with fail
    go_ret2
    exact ⟨rfl, HB.out⟩
end Go.Proofs.YtnefcilopgcdpaaGreatDoor
