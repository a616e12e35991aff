/-
  msg.node: the text of a node with cases.
-/
import Derived.Test.YtgkphpjnfigjiaaGreatDoorNod
import Derived.Deep.RegionHeld3
import Derived.Laws.Concat
namespace Go.Proofs.YtgkphpjnfigjiaaGreatDoor
open Go.RowKit Ms

def TextIH (N : Nat) : Prop := ∀ (t : T) (v : Value) (mark : Bool) (w : World), sz t ≤ N → isN t = true → wt t ≤ 2000000 → MaxAt w → SV w v t → flt t mark false 0 [] = 0 → Calls Tryz.prog 25 #[v, .bool mark] w (TextOut t mark w)
/-- the text of one case -/
def caseT (key : List UInt8) (body : T) (mark : Bool) : List UInt8 := [32] ++ key ++ [32, 123] ++ txt body mark ++ [125]
theorem txt_case (key : List UInt8) (body nx : T) (mark : Bool) : txt (.case key body nx) mark = caseT key body mark ++ txt nx mark := by simp [txt, caseT]
theorem case_sum (key : List UInt8) (tb : List UInt8) : (⟨#[32]⟩ : ByteArray) ++ ⟨key.toArray⟩ ++ ⟨#[32, 123]⟩ ++ ⟨tb.toArray⟩ ++ ⟨#[125]⟩ = ⟨([32] ++ key ++ [32, 123] ++ tb ++ [125]).toArray⟩ := by
  rw [bytes_app ⟨#[32]⟩ key [32] rfl, bytes_app _ [32, 123] ([32] ++ key) (by simp), bytes_app _ tb ([32] ++ key ++ [32, 123]) (by simp), bytes_app _ [125] ([32] ++ key ++ [32, 123] ++ tb) (by simp)]
theorem nodeT5 (f : Int) (x : List UInt8) (cs : T) (mark : Bool) : nodeT 5 f x cs mark = [123] ++ x ++ [44, 32, 115, 101, 108, 101, 99, 116, 44] ++ txt cs mark ++ [125] := by simp [nodeT, txt, select]
theorem sizeOf_mk (l : List UInt8) : (⟨l.toArray⟩ : ByteArray).size = l.length := by have h2 := Lib.size_eq (⟨l.toArray⟩ : ByteArray); simpa using h2

set_option maxHeartbeats 2000000 in
set_option maxRecDepth 100000 in
theorem node_select (N : Nat) (IH : TextIH N) (f : Int) (x : List UInt8) (b o n c : Nat) (cs : T) (mark : Bool) (w : World) (hx : x.length ≤ 2000000) (hz : sz cs ≤ N) (hc : isN.isC cs = true) (hw : wt cs ≤ 2000000) (hm : MaxAt w) (hr : Rd w cs b o n) (hf : flt cs mark false 5 [] = 0) :
    Calls Tryz.prog 46 #[.agg #[.int .i64 5, .string ⟨x.toArray⟩, .int .i64 f, .slice (some ⟨b, o, none⟩) n c], .bool mark] w fun e w' => e = .returned (.string ⟨(nodeT 5 f x cs mark).toArray⟩) ∧ Below w.heap.size w w' := by
  have htl := txt_len cs mark false 5 [] hf
  have hnl := Rd.len cs b o n hr
  have hlw := len_wt cs
  have hn2 : n ≤ 2000000 := by omega
  have hxs : (⟨x.toArray⟩ : ByteArray).size ≤ 2000000 := by rw [sizeOf_mk]; exact hx
  obtain ⟨Hd, hHd⟩ : ∃ Hd : List UInt8, Hd = [123] ++ x ++ [44, 32, 115, 101, 108, 101, 99, 116, 44] := ⟨_, rfl⟩
  have hT : nodeT 5 f x cs mark = Hd ++ txt cs mark ++ [125] := by rw [hHd]; exact nodeT5 f x cs mark
  have hHl : Hd.length ≤ 2000100 := by rw [hHd]; simp; omega
  have htot : (Hd ++ txt cs mark).length ≤ 15000000 := by rw [List.length_append]; omega
  have hHs : (⟨#[123]⟩ : ByteArray) ++ ⟨x.toArray⟩ ++ ⟨#[44, 32, 115, 101, 108, 101, 99, 116, 44]⟩ = ⟨Hd.toArray⟩ := by rw [hHd]; rw [bytes_app ⟨#[123]⟩ x [123] rfl, bytes_app _ [44, 32, 115, 101, 108, 101, 99, 116, 44] ([123] ++ x) (by simp)]
  have hb0 := ((Below.refl w.heap.size w).alloc (Nat.le_refl _) (.cells #[.int .i64 5, .string ⟨x.toArray⟩, .int .i64 f, .slice (some ⟨b, o, none⟩) n c] 35)).alloc (by simp) (.cells #[.pointer none, .slice none 0 0] 76)
  have hI0 := Lib.IsBuilderF.of (Lib.fresh_isBuilder 76 5 (w.alloc (.cells #[.int .i64 5, .string ⟨x.toArray⟩, .int .i64 f, .slice (some ⟨b, o, none⟩) n c] 35)))
  have HT0 := Lib.hid hT; have HHs := Lib.hid hHs; have HTot := Lib.hid htot; have HB0 := Lib.hid hb0; have HI0 := Lib.hid hI0
  have HM := Lib.hid hm; have HR := Lib.hid hr; have HC := Lib.hid hc; have HZ := Lib.hid hz; have HWt := Lib.hid hw; have IH := Lib.hid IH; have HF := Lib.hid hf
  clear hT hHs htot hb0 hI0 hm hr hc hz hw hf htl hnl hlw hHd
  go_enter Tryz.func46, Tryz.ntmps46
  go_wp2_with fail
  rw [HHs.out]
  have hI1 : Lib.IsBuilderF 76 5 (w.heap.size + 1) (w.heap.size + 1) (Lib.byteCells []) ((w.alloc (.cells #[.int .i64 5, .string ⟨x.toArray⟩, .int .i64 f, .slice (some ⟨b, o, none⟩) n c] 35)).alloc (.cells #[.pointer none, .slice none 0 0] 76)) := by have h := HI0.out; simp at h; exact h
  refine (Tryz.writeString (w.heap.size + 1) (w.heap.size + 1) _ ⟨Hd.toArray⟩ _ hI1 (by rw [Lib.byteCells_length, sizeOf_mk]; simp; omega) (by simp)).mono ?_
  rintro e w2 ⟨rfl, hI2, hb2, _⟩
  have n3 : w2.cell? ⟨w.heap.size, 3, none⟩ = some (.slice (some ⟨b, o, none⟩) n c) := by
    rw [hb2.cell (p := ⟨w.heap.size, 3, none⟩) (by simp), World.cell?_alloc_lt _ _ ⟨w.heap.size, 3, none⟩ (by simp)]; simp
  have HB2 := Lib.hid (HB0.out.trans (hb2.mono (by omega)))
  have hs2 : w.heap.size + 1 < w2.heap.size := by have := hb2.size; simp at this; omega
  have HI2 := Lib.hid hI2
  clear hb2 hI2 hI1
  go_wp2_with fail
  
  go_loopw [53] (fun i wr => ∃ (i' : Nat) (t' : T) (acc : List UInt8) (seen : List (List UInt8)), i' ≤ n ∧ i = .int .i64 i' ∧ acc.length ≤ 15000000 ∧ Hid (Rd w t' b (o + i' * 2) (n - i') ∧ isN.isC t' = true ∧ sz t' ≤ sz cs ∧ wt t' ≤ wt cs ∧ acc ++ txt t' mark = Hd ++ txt cs mark ∧ flt t' mark false 5 seen = 0) ∧ Hid (Lib.IsBuilderF 76 5 (w.heap.size + 1) (w.heap.size + 1) (Lib.byteCells acc) wr) ∧ Hid (Below w.heap.size w wr) ∧ w.heap.size + 1 < wr.heap.size) (fun i _ => n - (RowKit.intOf i).toNat)
  case atStart => exact ⟨0, cs, Hd, [], by omega, rfl, by omega, ⟨by simpa using HR.out, HC.out, Nat.le_refl _, Nat.le_refl _, rfl, HF.out⟩, by exact .inr HI2.out, HB2, hs2⟩
  case round =>
    obtain ⟨i, t', acc, seen, hin, rfl, hal, HT, HI, HB, hsz⟩ := hrel
    by_cases hlt : i < n
    · cases t' with
      | nil =>
        have h0 : n - i = 0 := HT.out.1
        omega
      | node _ _ _ _ _ => cases HT.out.2.1
      | case key body nx =>
        obtain ⟨hr1, hn1, hz1, hw1, hac, hfl⟩ := HT.out
        obtain ⟨hnb, hnnx⟩ := isC_case hn1
        obtain ⟨v, m, hm1, q0, q1, hv, hrest⟩ := hr1
        have hsv : SV w v body := hv
        have hv5 : ∃ a n' c', v = .slice a n' c' := by
          rcases hv with ⟨⟨_, h⟩, _⟩ | ⟨b', o', n', c', h, _⟩
          · exact ⟨_, _, _, h⟩
          · exact ⟨_, _, _, h⟩
        obtain ⟨a3, n3', c3', rfl⟩ := hv5
        have kc := keepCells HB.out
        have c0 := kc _ _ _ q0; have c1 := kc _ _ _ q1
        have hrest' : Rd w nx b (o + (i + 1) * 2) (n - (i + 1)) := by
          rw [show o + (i + 1) * 2 = o + i * 2 + 2 by omega, show n - (i + 1) = m by omega]; exact hrest
        have hbz : sz body ≤ N := by have := HZ.out; simp only [sz] at hz1; omega
        have hbw : wt body ≤ 2000000 := by have := HWt.out; simp only [wt] at hw1; omega
        have hkl : key.length ≤ 2000000 := by have := HWt.out; simp only [wt] at hw1; omega
        have hnz : sz nx ≤ sz cs := by simp only [sz] at hz1; omega
        have hnw : wt nx ≤ wt cs := by simp only [wt] at hw1; omega
        obtain ⟨_, _, hfb, hfx⟩ := Ms.flt_case hfl
        have hbl := txt_len body mark false 0 [] hfb
        have hbl2 : (txt body mark).length ≤ 12000000 := by omega
        rw [txt_case, ← List.append_assoc] at hac
        have hal2 : (acc ++ caseT key body mark).length ≤ 15000000 := by
          have h1 := HTot.out
          rw [← hac, List.length_append] at h1; omega
        have hal3 : acc.length + (caseT key body mark).length ≤ 15000000 := by simpa using hal2
        have hcv := fun W (hB : Below w.heap.size w W) => IH.out body (.slice a3 n3' c3') mark W hbz hnb hbw (MaxAt.below HM.out rfl hB) (SV.below hsv hB) hfb
        have hks : (⟨key.toArray⟩ : ByteArray).size ≤ 2000000 := by rw [sizeOf_mk]; exact hkl
        have hbs : (⟨(txt body mark).toArray⟩ : ByteArray).size ≤ 12000000 := by rw [sizeOf_mk]; omega
        have hsum : (⟨#[32]⟩ : ByteArray) ++ ⟨key.toArray⟩ ++ ⟨#[32, 123]⟩ ++ ⟨(txt body mark).toArray⟩ ++ ⟨#[125]⟩ = ⟨(caseT key body mark).toArray⟩ := case_sum key _
        have e32 : (⟨#[32]⟩ : ByteArray).size = 1 := rfl
        have e33 : (⟨#[32, 123]⟩ : ByteArray).size = 2 := rfl
        have e34 : (⟨#[125]⟩ : ByteArray).size = 1 := rfl
        have s1 : (⟨#[32]⟩ : ByteArray).size + (⟨key.toArray⟩ : ByteArray).size ≤ 9223372036854775807 := by omega
        have s2 : ((⟨#[32]⟩ : ByteArray) ++ ⟨key.toArray⟩).size + (⟨#[32, 123]⟩ : ByteArray).size ≤ 9223372036854775807 := by rw [ByteArray.size_append]; omega
        have s3 : ((⟨#[32]⟩ : ByteArray) ++ ⟨key.toArray⟩ ++ ⟨#[32, 123]⟩).size + (⟨(txt body mark).toArray⟩ : ByteArray).size ≤ 9223372036854775807 := by rw [ByteArray.size_append, ByteArray.size_append]; omega
        have s4 : ((⟨#[32]⟩ : ByteArray) ++ ⟨key.toArray⟩ ++ ⟨#[32, 123]⟩ ++ ⟨(txt body mark).toArray⟩).size + (⟨#[125]⟩ : ByteArray).size ≤ 9223372036854775807 := by rw [ByteArray.size_append, ByteArray.size_append, ByteArray.size_append]; omega
        clear e32 e33 e34
        obtain ⟨K1, hK1⟩ : ∃ K : ByteArray, (⟨#[32]⟩ : ByteArray) ++ ⟨key.toArray⟩ = K := ⟨_, rfl⟩
        have o1 : ∀ w : World, (Op.stringOp .add ⟨#[32]⟩ ⟨key.toArray⟩).run Tryz.prog w = .ok (.string K1) w := fun w => by rw [← hK1]; exact run_string_add_sum _ _ _ s1
        rw [hK1] at s2 s3 s4 hsum
        obtain ⟨K2, hK2⟩ : ∃ K : ByteArray, K1 ++ (⟨#[32, 123]⟩ : ByteArray) = K := ⟨_, rfl⟩
        have o2 : ∀ w : World, (Op.stringOp .add K1 ⟨#[32, 123]⟩).run Tryz.prog w = .ok (.string K2) w := fun w => by rw [← hK2]; exact run_string_add_sum _ _ _ s2
        rw [hK2] at s3 s4 hsum
        obtain ⟨K3, hK3⟩ : ∃ K : ByteArray, K2 ++ (⟨(txt body mark).toArray⟩ : ByteArray) = K := ⟨_, rfl⟩
        have o3 : ∀ w : World, (Op.stringOp .add K2 ⟨(txt body mark).toArray⟩).run Tryz.prog w = .ok (.string K3) w := fun w => by rw [← hK3]; exact run_string_add_sum _ _ _ s3
        rw [hK3] at s4 hsum
        have o4 : ∀ w : World, (Op.stringOp .add K3 ⟨#[125]⟩).run Tryz.prog w = .ok (.string ⟨(caseT key body mark).toArray⟩) w := fun w => by rw [← hsum]; exact run_string_add_sum _ _ _ s4
        clear s1 s2 s3 s4 hK1 hK2 hK3
        have HCV := Lib.hid hcv
        have HNX : Hid (Rd w nx b (o + (i + 1) * 2) (n - (i + 1)) ∧ isN.isC nx = true ∧ sz nx ≤ sz cs ∧ wt nx ≤ wt cs ∧ (acc ++ caseT key body mark) ++ txt nx mark = Hd ++ txt cs mark ∧ flt nx mark false 5 (seen ++ [key]) = 0) := ⟨hrest', hnnx, hnz, hnw, hac, hfx⟩
        have HAL2 := Lib.hid hal2; have HAL3 := Lib.hid hal3
        have HB1 := Lib.hid ((HB.out.alloc HB.out.size (.cells #[.string ⟨key.toArray⟩, .slice a3 n3' c3'] 45)).trans (Below.refl w.heap.size _).drew)
        have HI1 := Lib.hid (builder_below HI.out (((Below.refl wr.heap.size wr).alloc (Nat.le_refl _) (.cells #[.string ⟨key.toArray⟩, .slice a3 n3' c3'] 45)).trans (Below.refl wr.heap.size _).drew))
        clear hcv hal2 hal3 hfx hfb hac hnz hnw hbz hbw hrest hrest' kc hsv hv q0 q1 hnnx hnb hn1 hz1 hw1 hfl hm1 hsum hbl HT n3
        go_wp2_with fail
        go_region_held3 (fun w' => w'.cell? ⟨wr.heap.size, 0, none⟩ = some (.string ⟨key.toArray⟩) ∧ w'.cell? ⟨wr.heap.size, 1, none⟩ = some (.slice a3 n3' c3')) (go_keep) (first | (go_at_call 25; refine (HCV.out _ HB1.out).mono ?_; rintro e w3 ⟨rfl, hb3⟩; have z0 : w3.cell? ⟨wr.heap.size, 0, none⟩ = some (.string ⟨key.toArray⟩) := (by rw [hb3.cell (p := ⟨wr.heap.size, 0, none⟩) (by simp)]; simp); have y0 : w3.heap[wr.heap.size]? = some (.cells #[.string ⟨key.toArray⟩, .slice a3 n3' c3'] 45) := (by rw [hb3.block wr.heap.size (by simp)]; exact heap_alloc_new wr _); have z1 : w3.cell? ⟨wr.heap.size, 1, none⟩ = some (.slice a3 n3' c3') := (by rw [hb3.cell (p := ⟨wr.heap.size, 1, none⟩) (by simp)]; simp); have hs3 : wr.heap.size + 1 ≤ w3.heap.size := (by have := hb3.size; simpa using this); have HI3 := Lib.hid (builder_below HI1.out hb3); have HB3 := Lib.hid (HB1.out.trans (hb3.mono HB1.out.size)); clear hb3) | (go_at_call 45; refine (Tryz.writeString (w.heap.size + 1) (w.heap.size + 1) _ ⟨(caseT key body mark).toArray⟩ _ HI3.out (by have := HAL3.out; rw [Lib.byteCells_length, sizeOf_mk]; omega) (by omega)).mono ?_; rintro e w4 ⟨rfl, hI4, hb4, ho4⟩; have y4 := ho4 _ _ y0 (by simp; omega) (fun c fz h => by cases h); have x0 : w4.cell? ⟨wr.heap.size, 0, none⟩ = some (.string ⟨key.toArray⟩) := (by simp [World.cell?, y4]); have x1 : w4.cell? ⟨wr.heap.size, 1, none⟩ = some (.slice a3 n3' c3') := (by simp [World.cell?, y4]); have HI4 := Lib.hid hI4; have HB4 := Lib.hid (HB3.out.trans (hb4.mono (by omega))); have hs4 := Nat.lt_of_lt_of_le (show w.heap.size + 1 < w3.heap.size by omega) hb4.size; clear hI4 hb4))
        all_goals
          go_wp2_with fail
          go_roundw
          case rel =>
            refine ⟨i + 1, nx, acc ++ caseT key body mark, seen ++ [key], by omega, by go_num, HAL2.out, HNX, ?_, HB4, hs4⟩
            have e : Lib.byteCells (acc ++ caseT key body mark) = Lib.byteCells acc ++ Lib.byteCells (caseT key body mark) := by simp [Lib.byteCells]
            have h := HI4.out
            show Lib.IsBuilderF _ _ _ _ _ _
            rw [e]; exact .inr h
          case measure => simp [RowKit.intOf]; omega
    · have hie : i = n := by omega
      have ht0 : t' = .nil := by
        have h1 := HT.out.1
        rw [hie, Nat.sub_self] at h1
        cases t' with
        | nil => rfl
        | node _ _ _ _ _ => obtain ⟨_, _, h, _⟩ := h1; cases h
        | case _ _ _ => obtain ⟨_, _, h, _⟩ := h1; cases h
      subst ht0
      have hac : acc = Hd ++ txt cs mark := by have := HT.out.2.2.2.2.1; simpa [txt] using this
      have hfin : (⟨acc.toArray⟩ : ByteArray) ++ ⟨#[125]⟩ = ⟨(nodeT 5 f x cs mark).toArray⟩ := by
        rw [HT0.out, ← hac, bytes_app ⟨acc.toArray⟩ [125] acc (by simp)]
      have has : (⟨acc.toArray⟩ : ByteArray).size ≤ 15000000 := by rw [sizeOf_mk]; exact hal
      have HA := Lib.hid hfin
      clear hac hfin n3
      go_wp2_with fail
      refine (Tryz.Builder_String_any_k (w.heap.size + 1) (w.heap.size + 1) acc _ HI.out (Nat.le_of_lt hsz)).mono ?_
      rintro e w1 ⟨rfl, _, hb1, _⟩
      have HB1 := Lib.hid (HB.out.trans (hb1.mono (by omega))); clear hb1
      go_wp2_with fail
      go_ret
      exact ⟨by rw [← HA.out] <;> rfl, HB1.out⟩
end Go.Proofs.YtgkphpjnfigjiaaGreatDoor
