/-
  The walk of the law MsgBack: it answers true.
-/
import Derived.Test.YtgkphpjnfigjiaaGreatDoorClean
import Derived.Test.YtgkphpjnfigjiaaGreatDoorTxt
import Derived.Test.YtgkphpjnfigjiaaGreatDoorRead
namespace Go.Proofs.YtgkphpjnfigjiaaGreatDoor
open Go.RowKit Ms

theorem parse_yes {s : List UInt8} (h : parseErr s = 0) : s.length ≤ 2000 ∧ parse s = some (parseTree s) := by
  unfold parseErr at h
  split at h
  · cases h
  · rename_i hl
    split at h
    · rename_i t ht
      refine ⟨by omega, ?_⟩
      unfold parseTree; rw [if_neg hl, ht]; rfl
    · cases h
theorem parse_no {s : List UInt8} (h : parseErr s ≠ 0) : parseTree s = .nil := by
  unfold parseErr at h
  unfold parseTree
  split
  · rfl
  · rename_i hl
    rw [if_neg hl] at h
    split at h
    · exact absurd rfl h
    · rename_i ht; rw [ht]; rfl
theorem parse_txt {t : T} (hn : isN t = true) (h : fault t = 0) (hl : (txt t false).length ≤ 2000) : parseErr (txt t false) = 0 ∧ parseTree (txt t false) = clean t := by
  have hb := parse_back hn h
  unfold parseErr parseTree
  rw [if_neg (by omega), if_neg (by omega), hb]; exact ⟨rfl, rfl⟩
theorem parse_long {s : List UInt8} (hl : 2000 < s.length) : parseErr s = 4 ∧ parseTree s = .nil := by
  unfold parseErr parseTree
  rw [if_pos hl, if_pos hl]; exact ⟨rfl, rfl⟩
theorem parseErr_val (s : List UInt8) : parseErr s = 0 ∨ ∃ k, k ≠ 0 ∧ parseErr s = k := by
  by_cases h : parseErr s = 0
  · exact .inl h
  · exact .inr ⟨_, h, rfl⟩
def ParsedAs (w : World) (er : Value) (t : T) (e : Ending) (w' : World) : Prop := (∃ v, e = .returned (.tuple #[v, er]) ∧ SV w' v t) ∧ Below w.heap.size w w'
theorem parsed_as {s : List UInt8} {w : World} {er : Value} {t : T} (h : Calls Tryz.prog 9 #[.string ⟨s.toArray⟩] w (ParseOut s w)) (he : errVal (parseErr s) = er) (ht : parseTree s = t) :
    Calls Tryz.prog 9 #[.string ⟨s.toArray⟩] w (ParsedAs w er t) :=
  h.mono fun e w' ⟨⟨v, h1, h2⟩, h3⟩ => ⟨⟨v, by rw [← he]; exact h1, by rw [← ht]; exact h2.sv⟩, h3⟩
set_option maxHeartbeats 4000000 in
set_option maxRecDepth 100000 in
theorem msgBack_walk (tm : T) (v1 : Value) (s : List UInt8) (w : World) (hn : isN tm = true) (hw : wt tm ≤ 1100000) (hs : s.length ≤ 1100000) (hm : MW w) (hM : MaxAt w) (s1 : SV w v1 tm) :
    Calls Tryz.prog 3 #[v1, .string ⟨s.toArray⟩] w fun e w' => e = .returned (.bool true) ∧ Below w.heap.size w w' := by
  have h0 : 0 < w.heap.size := mw_pos hm
  have HR := Lib.hid (read_any w hm)
  have HP := Lib.hid (fun (S : List UInt8) (er : Value) (t : T) W (hB : Below w.heap.size w W) (hl : S.length ≤ 1000000000) (h1 : errVal (parseErr S) = er) (h2 : parseTree S = t) => parsed_as (parse_any S W hl (hm.below hB)) h1 h2)
  have HTx := Lib.hid (fun (T' : T) (v : Value) W (hB : Below w.heap.size w W) (h1 : isN T' = true) (h2 : wt T' ≤ 2100000) (h3 : SV W v T') => mtext_any T' v W h1 h2 (hm.below hB) (MaxAt.below hM rfl hB) h3)
  have HSm := Lib.hid (fun (t u : T) (v v' : Value) W (h1 : isN t = true) (h2 : isN u = true) (h3 : wt t ≤ 2100000) (h4 : wt u ≤ 2100000) (h5 : SV W v t) (h6 : SV W v' u) => same_of t u v v' W h1 h2 h3 h4 h5 h6)
  have HCl : Hid (∀ W, Below w.heap.size w W → Calls Tryz.prog 12 #[v1] W (CleanOut tm W)) := Lib.hid (fun W hB => clean_any (sz tm + 1) tm v1 W (Nat.lt_succ_self _) hn (by omega) (Nat.lt_of_lt_of_le h0 hB.size) (s1.below hB))
  have HS1 := Lib.hid s1; have HN := Lib.hid hn
  have hcn := (clean_isN tm).1 hn
  have hcw := clean_wt tm
  have HCN := Lib.hid hcn; have HCW := Lib.hid (show wt (clean tm) ≤ 2100000 by omega)
  have hsT : Hid (s.length ≤ 1000000000) := Lib.hid (by omega)
  have hwT : Hid (wt tm ≤ 2100000) := Lib.hid (by omega)
  have htl : fault tm = 0 → (txt tm false).length ≤ 6600000 := fun h => by have := txt_len tm false false 0 [] (fault_0 h).1; omega
  obtain ⟨a1, n1, c1, rfl⟩ := s1.form
  have hfs : fault tm ≠ 0 ∨ (fault tm = 0 ∧ (txt tm false).length ≤ 2000) ∨ (fault tm = 0 ∧ 2000 < (txt tm false).length) := by
    by_cases h : fault tm = 0
    · rcases Nat.lt_or_ge 2000 (txt tm false).length with h' | h'
      · exact .inr (.inr ⟨h, h'⟩)
      · exact .inr (.inl ⟨h, h'⟩)
    · exact .inl h
  have hps : parseErr s ≠ 0 ∨ (parseErr s = 0 ∧ (txt (parseTree s) false).length ≤ 2000) ∨ (parseErr s = 0 ∧ 2000 < (txt (parseTree s) false).length) := by
    by_cases h : parseErr s = 0
    · rcases Nat.lt_or_ge 2000 (txt (parseTree s) false).length with h' | h'
      · exact .inr (.inr ⟨h, h'⟩)
      · exact .inr (.inl ⟨h, h'⟩)
    · exact .inl h
  clear hs hm hM s1 hn hw hcn hcw h0
  rcases hps with h1 | h1 | h1
  · have ht := parse_no h1
    obtain ⟨PE, hPE⟩ : ∃ PE, PE = parseErr s := ⟨_, rfl⟩
    have HP1 := Lib.hid (fun W (hB : Below w.heap.size w W) => HP.out s (.iface 37 (.int .i64 PE)) .nil W hB hsT.out (by rw [← hPE]; exact errVal_no (by rw [hPE]; exact h1)) ht)
    clear ht hPE h1
    rcases hfs with h2 | h2 | h2
    · have HF := Lib.hid h2
      clear h2
      go_enter Tryz.func3, Tryz.ntmps3
      go_wp2_with fail
      refine HR.out.mono ?_
      rintro e w1 ⟨rfl, hb1⟩
      have HB1 := Lib.hid hb1; clear hb1
      go_wp2_with fail
      refine (HP1.out w1 HB1.out).mono ?_
      rintro e w2 ⟨⟨v2, rfl, hv2⟩, hb2⟩
      obtain ⟨a2, n2, c2, rfl⟩ := hv2.form
      have HB2 := Lib.hid (HB1.out.trans (hb2.mono HB1.out.size)); have HV2 := Lib.hid hv2
      clear hb2 hv2
      go_wp2_with fail
      have HB5 := HB2
      generalize w2 = w5 at *
      have htm := HTx.out tm _ w5 HB5.out HN.out hwT.out (HS1.out.below HB5.out)
      rw [if_neg HF.out, errVal_no HF.out] at htm
      refine htm.mono ?_
      rintro e w6 ⟨rfl, hb6⟩
      have HB6 := Lib.hid (HB5.out.trans (hb6.mono HB5.out.size)); clear hb6 htm
      go_wp2_with fail
      go_ret
      exact ⟨rfl, HB6.out⟩
    · obtain ⟨h2, hY⟩ := h2
      have HF := Lib.hid h2
      have hYl := htl h2
      have hb := parse_txt HN.out h2 hY
      have HP3 := Lib.hid (fun W (hB : Below w.heap.size w W) => HP.out (txt tm false) .nilIface (clean tm) W hB (by omega) (by rw [hb.1, errVal_0]) hb.2)
      obtain ⟨Y, hYe⟩ : ∃ Y, txt tm false = Y := ⟨_, rfl⟩
      have HY := Lib.hid hYe
      rw [hYe] at hY hYl HP3
      have sY : (⟨Y.toArray⟩ : ByteArray).size = Y.length := sizeOf_mk Y
      clear hb hYe h2 htl
      go_enter Tryz.func3, Tryz.ntmps3
      go_wp2_with fail
      refine HR.out.mono ?_
      rintro e w1 ⟨rfl, hb1⟩
      have HB1 := Lib.hid hb1; clear hb1
      go_wp2_with fail
      refine (HP1.out w1 HB1.out).mono ?_
      rintro e w2 ⟨⟨v2, rfl, hv2⟩, hb2⟩
      obtain ⟨a2, n2, c2, rfl⟩ := hv2.form
      have HB2 := Lib.hid (HB1.out.trans (hb2.mono HB1.out.size)); have HV2 := Lib.hid hv2
      clear hb2 hv2
      go_wp2_with fail
      have HB5 := HB2
      generalize w2 = w5 at *
      have htm := HTx.out tm _ w5 HB5.out HN.out hwT.out (HS1.out.below HB5.out)
      rw [HF.out, if_pos rfl, errVal_0, HY.out] at htm
      refine htm.mono ?_
      rintro e w6 ⟨rfl, hb6⟩
      have HB6 := Lib.hid (HB5.out.trans (hb6.mono HB5.out.size)); clear hb6 htm
      go_wp2_with fail
      refine (HP3.out w6 HB6.out).mono ?_
      rintro e w7 ⟨⟨v7, rfl, hv7⟩, hb7⟩
      obtain ⟨a7, n7, c7, rfl⟩ := hv7.form
      have HB7 := Lib.hid (HB6.out.trans (hb7.mono HB6.out.size)); have HV7 := Lib.hid hv7
      clear hb7 hv7
      go_wp2_with fail
      refine (HCl.out w7 HB7.out).mono ?_
      rintro e w8 ⟨⟨v8, rfl, hv8⟩, hb8⟩
      obtain ⟨a8, n8, c8, rfl⟩ := hv8.form
      have HB8 := Lib.hid (HB7.out.trans (hb8.mono HB7.out.size)); have HV8 := Lib.hid (HV7.out.below hb8); have HW8 := Lib.hid hv8.sv
      clear hb8 hv8
      go_wp2_with fail
      have hsm := HSm.out _ _ _ _ w8 HCN.out HCN.out HCW.out HCW.out HV8.out HW8.out
      rw [sameT_refl] at hsm
      refine hsm.mono ?_
      rintro e w9 ⟨rfl, hb9⟩
      have HB9 := Lib.hid (HB8.out.trans (hb9.mono HB8.out.size))
      clear hb9 hsm HW8 HV8
      go_wp2_with fail
      go_ret
      exact ⟨rfl, HB9.out⟩
    · obtain ⟨h2, hY⟩ := h2
      have HF := Lib.hid h2
      have hYl := htl h2
      have hb := parse_long hY
      have HP3 := Lib.hid (fun W (hB : Below w.heap.size w W) => HP.out (txt tm false) (.iface 37 (.int .i64 4)) .nil W hB (by omega) (by rw [hb.1, errVal_no (by decide)]) hb.2)
      obtain ⟨Y, hYe⟩ : ∃ Y, txt tm false = Y := ⟨_, rfl⟩
      have HY := Lib.hid hYe
      rw [hYe] at hY hYl HP3
      have sY : (⟨Y.toArray⟩ : ByteArray).size = Y.length := sizeOf_mk Y
      clear hb hYe h2 htl
      go_enter Tryz.func3, Tryz.ntmps3
      go_wp2_with fail
      refine HR.out.mono ?_
      rintro e w1 ⟨rfl, hb1⟩
      have HB1 := Lib.hid hb1; clear hb1
      go_wp2_with fail
      refine (HP1.out w1 HB1.out).mono ?_
      rintro e w2 ⟨⟨v2, rfl, hv2⟩, hb2⟩
      obtain ⟨a2, n2, c2, rfl⟩ := hv2.form
      have HB2 := Lib.hid (HB1.out.trans (hb2.mono HB1.out.size)); have HV2 := Lib.hid hv2
      clear hb2 hv2
      go_wp2_with fail
      have HB5 := HB2
      generalize w2 = w5 at *
      have htm := HTx.out tm _ w5 HB5.out HN.out hwT.out (HS1.out.below HB5.out)
      rw [HF.out, if_pos rfl, errVal_0, HY.out] at htm
      refine htm.mono ?_
      rintro e w6 ⟨rfl, hb6⟩
      have HB6 := Lib.hid (HB5.out.trans (hb6.mono HB5.out.size)); clear hb6 htm
      go_wp2_with fail
      refine (HP3.out w6 HB6.out).mono ?_
      rintro e w7 ⟨⟨v7, rfl, hv7⟩, hb7⟩
      obtain ⟨a7, n7, c7, rfl⟩ := hv7.form
      have HB7 := Lib.hid (HB6.out.trans (hb7.mono HB6.out.size)); have HV7 := Lib.hid hv7
      clear hb7 hv7
      go_wp2_with fail
      refine (HCl.out w7 HB7.out).mono ?_
      rintro e w8 ⟨⟨v8, rfl, hv8⟩, hb8⟩
      obtain ⟨a8, n8, c8, rfl⟩ := hv8.form
      have HB8 := Lib.hid (HB7.out.trans (hb8.mono HB7.out.size)); have HV8 := Lib.hid (HV7.out.below hb8); have HW8 := Lib.hid hv8.sv
      clear hb8 hv8
      go_wp2_with fail
      have hsm := HSm.out _ _ _ _ w8 rfl HCN.out (by decide) HCW.out HV8.out HW8.out
      generalize sameT T.nil (clean tm) = bt at hsm
      refine hsm.mono ?_
      rintro e w9 ⟨rfl, hb9⟩
      have HB9 := Lib.hid (HB8.out.trans (hb9.mono HB8.out.size))
      clear hb9 hsm HW8 HV8
      go_wp2_with fail
      go_ret
      exact ⟨rfl, HB9.out⟩
  · obtain ⟨h1, hX⟩ := h1
    have hy := parse_yes h1
    have hg := parse_good hy.2
    have HG := Lib.hid (show isN (parseTree s) = true ∧ clean (parseTree s) = parseTree s ∧ wt (parseTree s) ≤ 2100000 ∧ fault (parseTree s) = 0 from ⟨hg.1, hg.2.1, by have := hg.2.2.1; have := hy.1; omega, hg.2.2.2⟩)
    have HP1 := Lib.hid (fun W (hB : Below w.heap.size w W) => HP.out s .nilIface (parseTree s) W hB hsT.out (by rw [h1, errVal_0]) rfl)
    have hXl := txt_len (parseTree s) false false 0 [] (fault_0 HG.out.2.2.2).1
    have hXl2 : (txt (parseTree s) false).length ≤ 1000000000 := by have := HG.out.2.2.1; omega
    have hb := parse_txt HG.out.1 HG.out.2.2.2 hX
    have HP2 := Lib.hid (fun W (hB : Below w.heap.size w W) => HP.out (txt (parseTree s) false) .nilIface (parseTree s) W hB hXl2 (by rw [hb.1, errVal_0]) (by rw [hb.2, HG.out.2.1]))
    obtain ⟨X, hXe⟩ : ∃ X, txt (parseTree s) false = X := ⟨_, rfl⟩
    have HX := Lib.hid hXe
    rw [hXe] at hX HP2
    have sX : (⟨X.toArray⟩ : ByteArray).size = X.length := sizeOf_mk X
    clear hb hXl hXl2 hXe hg hy h1
    rcases hfs with h2 | h2 | h2
    · have HF := Lib.hid h2
      clear h2
      go_enter Tryz.func3, Tryz.ntmps3
      go_wp2_with fail
      refine HR.out.mono ?_
      rintro e w1 ⟨rfl, hb1⟩
      have HB1 := Lib.hid hb1; clear hb1
      go_wp2_with fail
      refine (HP1.out w1 HB1.out).mono ?_
      rintro e w2 ⟨⟨v2, rfl, hv2⟩, hb2⟩
      obtain ⟨a2, n2, c2, rfl⟩ := hv2.form
      have HB2 := Lib.hid (HB1.out.trans (hb2.mono HB1.out.size)); have HV2 := Lib.hid hv2
      clear hb2 hv2
      go_wp2_with fail
      have htx := HTx.out _ _ w2 HB2.out HG.out.1 HG.out.2.2.1 HV2.out
      rw [HG.out.2.2.2, if_pos rfl, errVal_0, HX.out] at htx
      refine htx.mono ?_
      rintro e w3 ⟨rfl, hb3⟩
      have HB3 := Lib.hid (HB2.out.trans (hb3.mono HB2.out.size)); have HV3 := Lib.hid (HV2.out.below hb3)
      clear hb3 htx
      go_wp2_with fail
      refine (HP2.out w3 HB3.out).mono ?_
      rintro e w4 ⟨⟨v4, rfl, hv4⟩, hb4⟩
      obtain ⟨a4, n4, c4, rfl⟩ := hv4.form
      have HB4 := Lib.hid (HB3.out.trans (hb4.mono HB3.out.size)); have HV4 := Lib.hid (HV3.out.below hb4); have HW4 := Lib.hid hv4
      clear hb4 hv4
      go_wp2_with fail
      have hsm := HSm.out _ _ _ _ w4 HG.out.1 HG.out.1 HG.out.2.2.1 HG.out.2.2.1 HW4.out HV4.out
      rw [sameT_refl] at hsm
      refine hsm.mono ?_
      rintro e w5 ⟨rfl, hb5⟩
      have HB5 := Lib.hid (HB4.out.trans (hb5.mono HB4.out.size))
      clear hb5 hsm HW4 HV4 HV3
      go_wp2_with fail
      have htm := HTx.out tm _ w5 HB5.out HN.out hwT.out (HS1.out.below HB5.out)
      rw [if_neg HF.out, errVal_no HF.out] at htm
      refine htm.mono ?_
      rintro e w6 ⟨rfl, hb6⟩
      have HB6 := Lib.hid (HB5.out.trans (hb6.mono HB5.out.size)); clear hb6 htm
      go_wp2_with fail
      go_ret
      exact ⟨rfl, HB6.out⟩
    · obtain ⟨h2, hY⟩ := h2
      have HF := Lib.hid h2
      have hYl := htl h2
      have hb := parse_txt HN.out h2 hY
      have HP3 := Lib.hid (fun W (hB : Below w.heap.size w W) => HP.out (txt tm false) .nilIface (clean tm) W hB (by omega) (by rw [hb.1, errVal_0]) hb.2)
      obtain ⟨Y, hYe⟩ : ∃ Y, txt tm false = Y := ⟨_, rfl⟩
      have HY := Lib.hid hYe
      rw [hYe] at hY hYl HP3
      have sY : (⟨Y.toArray⟩ : ByteArray).size = Y.length := sizeOf_mk Y
      clear hb hYe h2 htl
      go_enter Tryz.func3, Tryz.ntmps3
      go_wp2_with fail
      refine HR.out.mono ?_
      rintro e w1 ⟨rfl, hb1⟩
      have HB1 := Lib.hid hb1; clear hb1
      go_wp2_with fail
      refine (HP1.out w1 HB1.out).mono ?_
      rintro e w2 ⟨⟨v2, rfl, hv2⟩, hb2⟩
      obtain ⟨a2, n2, c2, rfl⟩ := hv2.form
      have HB2 := Lib.hid (HB1.out.trans (hb2.mono HB1.out.size)); have HV2 := Lib.hid hv2
      clear hb2 hv2
      go_wp2_with fail
      have htx := HTx.out _ _ w2 HB2.out HG.out.1 HG.out.2.2.1 HV2.out
      rw [HG.out.2.2.2, if_pos rfl, errVal_0, HX.out] at htx
      refine htx.mono ?_
      rintro e w3 ⟨rfl, hb3⟩
      have HB3 := Lib.hid (HB2.out.trans (hb3.mono HB2.out.size)); have HV3 := Lib.hid (HV2.out.below hb3)
      clear hb3 htx
      go_wp2_with fail
      refine (HP2.out w3 HB3.out).mono ?_
      rintro e w4 ⟨⟨v4, rfl, hv4⟩, hb4⟩
      obtain ⟨a4, n4, c4, rfl⟩ := hv4.form
      have HB4 := Lib.hid (HB3.out.trans (hb4.mono HB3.out.size)); have HV4 := Lib.hid (HV3.out.below hb4); have HW4 := Lib.hid hv4
      clear hb4 hv4
      go_wp2_with fail
      have hsm := HSm.out _ _ _ _ w4 HG.out.1 HG.out.1 HG.out.2.2.1 HG.out.2.2.1 HW4.out HV4.out
      rw [sameT_refl] at hsm
      refine hsm.mono ?_
      rintro e w5 ⟨rfl, hb5⟩
      have HB5 := Lib.hid (HB4.out.trans (hb5.mono HB4.out.size))
      clear hb5 hsm HW4 HV4 HV3
      go_wp2_with fail
      have htm := HTx.out tm _ w5 HB5.out HN.out hwT.out (HS1.out.below HB5.out)
      rw [HF.out, if_pos rfl, errVal_0, HY.out] at htm
      refine htm.mono ?_
      rintro e w6 ⟨rfl, hb6⟩
      have HB6 := Lib.hid (HB5.out.trans (hb6.mono HB5.out.size)); clear hb6 htm
      go_wp2_with fail
      refine (HP3.out w6 HB6.out).mono ?_
      rintro e w7 ⟨⟨v7, rfl, hv7⟩, hb7⟩
      obtain ⟨a7, n7, c7, rfl⟩ := hv7.form
      have HB7 := Lib.hid (HB6.out.trans (hb7.mono HB6.out.size)); have HV7 := Lib.hid hv7
      clear hb7 hv7
      go_wp2_with fail
      refine (HCl.out w7 HB7.out).mono ?_
      rintro e w8 ⟨⟨v8, rfl, hv8⟩, hb8⟩
      obtain ⟨a8, n8, c8, rfl⟩ := hv8.form
      have HB8 := Lib.hid (HB7.out.trans (hb8.mono HB7.out.size)); have HV8 := Lib.hid (HV7.out.below hb8); have HW8 := Lib.hid hv8.sv
      clear hb8 hv8
      go_wp2_with fail
      have hsm := HSm.out _ _ _ _ w8 HCN.out HCN.out HCW.out HCW.out HV8.out HW8.out
      rw [sameT_refl] at hsm
      refine hsm.mono ?_
      rintro e w9 ⟨rfl, hb9⟩
      have HB9 := Lib.hid (HB8.out.trans (hb9.mono HB8.out.size))
      clear hb9 hsm HW8 HV8
      go_wp2_with fail
      go_ret
      exact ⟨rfl, HB9.out⟩
    · obtain ⟨h2, hY⟩ := h2
      have HF := Lib.hid h2
      have hYl := htl h2
      have hb := parse_long hY
      have HP3 := Lib.hid (fun W (hB : Below w.heap.size w W) => HP.out (txt tm false) (.iface 37 (.int .i64 4)) .nil W hB (by omega) (by rw [hb.1, errVal_no (by decide)]) hb.2)
      obtain ⟨Y, hYe⟩ : ∃ Y, txt tm false = Y := ⟨_, rfl⟩
      have HY := Lib.hid hYe
      rw [hYe] at hY hYl HP3
      have sY : (⟨Y.toArray⟩ : ByteArray).size = Y.length := sizeOf_mk Y
      clear hb hYe h2 htl
      go_enter Tryz.func3, Tryz.ntmps3
      go_wp2_with fail
      refine HR.out.mono ?_
      rintro e w1 ⟨rfl, hb1⟩
      have HB1 := Lib.hid hb1; clear hb1
      go_wp2_with fail
      refine (HP1.out w1 HB1.out).mono ?_
      rintro e w2 ⟨⟨v2, rfl, hv2⟩, hb2⟩
      obtain ⟨a2, n2, c2, rfl⟩ := hv2.form
      have HB2 := Lib.hid (HB1.out.trans (hb2.mono HB1.out.size)); have HV2 := Lib.hid hv2
      clear hb2 hv2
      go_wp2_with fail
      have htx := HTx.out _ _ w2 HB2.out HG.out.1 HG.out.2.2.1 HV2.out
      rw [HG.out.2.2.2, if_pos rfl, errVal_0, HX.out] at htx
      refine htx.mono ?_
      rintro e w3 ⟨rfl, hb3⟩
      have HB3 := Lib.hid (HB2.out.trans (hb3.mono HB2.out.size)); have HV3 := Lib.hid (HV2.out.below hb3)
      clear hb3 htx
      go_wp2_with fail
      refine (HP2.out w3 HB3.out).mono ?_
      rintro e w4 ⟨⟨v4, rfl, hv4⟩, hb4⟩
      obtain ⟨a4, n4, c4, rfl⟩ := hv4.form
      have HB4 := Lib.hid (HB3.out.trans (hb4.mono HB3.out.size)); have HV4 := Lib.hid (HV3.out.below hb4); have HW4 := Lib.hid hv4
      clear hb4 hv4
      go_wp2_with fail
      have hsm := HSm.out _ _ _ _ w4 HG.out.1 HG.out.1 HG.out.2.2.1 HG.out.2.2.1 HW4.out HV4.out
      rw [sameT_refl] at hsm
      refine hsm.mono ?_
      rintro e w5 ⟨rfl, hb5⟩
      have HB5 := Lib.hid (HB4.out.trans (hb5.mono HB4.out.size))
      clear hb5 hsm HW4 HV4 HV3
      go_wp2_with fail
      have htm := HTx.out tm _ w5 HB5.out HN.out hwT.out (HS1.out.below HB5.out)
      rw [HF.out, if_pos rfl, errVal_0, HY.out] at htm
      refine htm.mono ?_
      rintro e w6 ⟨rfl, hb6⟩
      have HB6 := Lib.hid (HB5.out.trans (hb6.mono HB5.out.size)); clear hb6 htm
      go_wp2_with fail
      refine (HP3.out w6 HB6.out).mono ?_
      rintro e w7 ⟨⟨v7, rfl, hv7⟩, hb7⟩
      obtain ⟨a7, n7, c7, rfl⟩ := hv7.form
      have HB7 := Lib.hid (HB6.out.trans (hb7.mono HB6.out.size)); have HV7 := Lib.hid hv7
      clear hb7 hv7
      go_wp2_with fail
      refine (HCl.out w7 HB7.out).mono ?_
      rintro e w8 ⟨⟨v8, rfl, hv8⟩, hb8⟩
      obtain ⟨a8, n8, c8, rfl⟩ := hv8.form
      have HB8 := Lib.hid (HB7.out.trans (hb8.mono HB7.out.size)); have HV8 := Lib.hid (HV7.out.below hb8); have HW8 := Lib.hid hv8.sv
      clear hb8 hv8
      go_wp2_with fail
      have hsm := HSm.out _ _ _ _ w8 rfl HCN.out (by decide) HCW.out HV8.out HW8.out
      generalize sameT T.nil (clean tm) = bt at hsm
      refine hsm.mono ?_
      rintro e w9 ⟨rfl, hb9⟩
      have HB9 := Lib.hid (HB8.out.trans (hb9.mono HB8.out.size))
      clear hb9 hsm HW8 HV8
      go_wp2_with fail
      go_ret
      exact ⟨rfl, HB9.out⟩
  · obtain ⟨h1, hX⟩ := h1
    have hy := parse_yes h1
    have hg := parse_good hy.2
    have HG := Lib.hid (show isN (parseTree s) = true ∧ clean (parseTree s) = parseTree s ∧ wt (parseTree s) ≤ 2100000 ∧ fault (parseTree s) = 0 from ⟨hg.1, hg.2.1, by have := hg.2.2.1; have := hy.1; omega, hg.2.2.2⟩)
    have HP1 := Lib.hid (fun W (hB : Below w.heap.size w W) => HP.out s .nilIface (parseTree s) W hB hsT.out (by rw [h1, errVal_0]) rfl)
    have hXl := txt_len (parseTree s) false false 0 [] (fault_0 HG.out.2.2.2).1
    have hXl2 : (txt (parseTree s) false).length ≤ 1000000000 := by have := HG.out.2.2.1; omega
    have hb := parse_long hX
    have HP2 := Lib.hid (fun W (hB : Below w.heap.size w W) => HP.out (txt (parseTree s) false) (.iface 37 (.int .i64 4)) .nil W hB hXl2 (by rw [hb.1, errVal_no (by decide)]) hb.2)
    obtain ⟨X, hXe⟩ : ∃ X, txt (parseTree s) false = X := ⟨_, rfl⟩
    have HX := Lib.hid hXe
    rw [hXe] at hX HP2
    have sX : (⟨X.toArray⟩ : ByteArray).size = X.length := sizeOf_mk X
    clear hb hXl hXl2 hXe hg hy h1
    rcases hfs with h2 | h2 | h2
    · have HF := Lib.hid h2
      clear h2
      go_enter Tryz.func3, Tryz.ntmps3
      go_wp2_with fail
      refine HR.out.mono ?_
      rintro e w1 ⟨rfl, hb1⟩
      have HB1 := Lib.hid hb1; clear hb1
      go_wp2_with fail
      refine (HP1.out w1 HB1.out).mono ?_
      rintro e w2 ⟨⟨v2, rfl, hv2⟩, hb2⟩
      obtain ⟨a2, n2, c2, rfl⟩ := hv2.form
      have HB2 := Lib.hid (HB1.out.trans (hb2.mono HB1.out.size)); have HV2 := Lib.hid hv2
      clear hb2 hv2
      go_wp2_with fail
      have htx := HTx.out _ _ w2 HB2.out HG.out.1 HG.out.2.2.1 HV2.out
      rw [HG.out.2.2.2, if_pos rfl, errVal_0, HX.out] at htx
      refine htx.mono ?_
      rintro e w3 ⟨rfl, hb3⟩
      have HB3 := Lib.hid (HB2.out.trans (hb3.mono HB2.out.size)); have HV3 := Lib.hid (HV2.out.below hb3)
      clear hb3 htx
      go_wp2_with fail
      refine (HP2.out w3 HB3.out).mono ?_
      rintro e w4 ⟨⟨v4, rfl, hv4⟩, hb4⟩
      obtain ⟨a4, n4, c4, rfl⟩ := hv4.form
      have HB4 := Lib.hid (HB3.out.trans (hb4.mono HB3.out.size)); have HV4 := Lib.hid (HV3.out.below hb4); have HW4 := Lib.hid hv4
      clear hb4 hv4
      go_wp2_with fail
      have hsm := HSm.out _ _ _ _ w4 rfl HG.out.1 (by decide) HG.out.2.2.1 HW4.out HV4.out
      generalize sameT T.nil (parseTree s) = bs at hsm
      refine hsm.mono ?_
      rintro e w5 ⟨rfl, hb5⟩
      have HB5 := Lib.hid (HB4.out.trans (hb5.mono HB4.out.size))
      clear hb5 hsm HW4 HV4 HV3
      go_wp2_with fail
      have htm := HTx.out tm _ w5 HB5.out HN.out hwT.out (HS1.out.below HB5.out)
      rw [if_neg HF.out, errVal_no HF.out] at htm
      refine htm.mono ?_
      rintro e w6 ⟨rfl, hb6⟩
      have HB6 := Lib.hid (HB5.out.trans (hb6.mono HB5.out.size)); clear hb6 htm
      go_wp2_with fail
      go_ret
      exact ⟨rfl, HB6.out⟩
    · obtain ⟨h2, hY⟩ := h2
      have HF := Lib.hid h2
      have hYl := htl h2
      have hb := parse_txt HN.out h2 hY
      have HP3 := Lib.hid (fun W (hB : Below w.heap.size w W) => HP.out (txt tm false) .nilIface (clean tm) W hB (by omega) (by rw [hb.1, errVal_0]) hb.2)
      obtain ⟨Y, hYe⟩ : ∃ Y, txt tm false = Y := ⟨_, rfl⟩
      have HY := Lib.hid hYe
      rw [hYe] at hY hYl HP3
      have sY : (⟨Y.toArray⟩ : ByteArray).size = Y.length := sizeOf_mk Y
      clear hb hYe h2 htl
      go_enter Tryz.func3, Tryz.ntmps3
      go_wp2_with fail
      refine HR.out.mono ?_
      rintro e w1 ⟨rfl, hb1⟩
      have HB1 := Lib.hid hb1; clear hb1
      go_wp2_with fail
      refine (HP1.out w1 HB1.out).mono ?_
      rintro e w2 ⟨⟨v2, rfl, hv2⟩, hb2⟩
      obtain ⟨a2, n2, c2, rfl⟩ := hv2.form
      have HB2 := Lib.hid (HB1.out.trans (hb2.mono HB1.out.size)); have HV2 := Lib.hid hv2
      clear hb2 hv2
      go_wp2_with fail
      have htx := HTx.out _ _ w2 HB2.out HG.out.1 HG.out.2.2.1 HV2.out
      rw [HG.out.2.2.2, if_pos rfl, errVal_0, HX.out] at htx
      refine htx.mono ?_
      rintro e w3 ⟨rfl, hb3⟩
      have HB3 := Lib.hid (HB2.out.trans (hb3.mono HB2.out.size)); have HV3 := Lib.hid (HV2.out.below hb3)
      clear hb3 htx
      go_wp2_with fail
      refine (HP2.out w3 HB3.out).mono ?_
      rintro e w4 ⟨⟨v4, rfl, hv4⟩, hb4⟩
      obtain ⟨a4, n4, c4, rfl⟩ := hv4.form
      have HB4 := Lib.hid (HB3.out.trans (hb4.mono HB3.out.size)); have HV4 := Lib.hid (HV3.out.below hb4); have HW4 := Lib.hid hv4
      clear hb4 hv4
      go_wp2_with fail
      have hsm := HSm.out _ _ _ _ w4 rfl HG.out.1 (by decide) HG.out.2.2.1 HW4.out HV4.out
      generalize sameT T.nil (parseTree s) = bs at hsm
      refine hsm.mono ?_
      rintro e w5 ⟨rfl, hb5⟩
      have HB5 := Lib.hid (HB4.out.trans (hb5.mono HB4.out.size))
      clear hb5 hsm HW4 HV4 HV3
      go_wp2_with fail
      have htm := HTx.out tm _ w5 HB5.out HN.out hwT.out (HS1.out.below HB5.out)
      rw [HF.out, if_pos rfl, errVal_0, HY.out] at htm
      refine htm.mono ?_
      rintro e w6 ⟨rfl, hb6⟩
      have HB6 := Lib.hid (HB5.out.trans (hb6.mono HB5.out.size)); clear hb6 htm
      go_wp2_with fail
      refine (HP3.out w6 HB6.out).mono ?_
      rintro e w7 ⟨⟨v7, rfl, hv7⟩, hb7⟩
      obtain ⟨a7, n7, c7, rfl⟩ := hv7.form
      have HB7 := Lib.hid (HB6.out.trans (hb7.mono HB6.out.size)); have HV7 := Lib.hid hv7
      clear hb7 hv7
      go_wp2_with fail
      refine (HCl.out w7 HB7.out).mono ?_
      rintro e w8 ⟨⟨v8, rfl, hv8⟩, hb8⟩
      obtain ⟨a8, n8, c8, rfl⟩ := hv8.form
      have HB8 := Lib.hid (HB7.out.trans (hb8.mono HB7.out.size)); have HV8 := Lib.hid (HV7.out.below hb8); have HW8 := Lib.hid hv8.sv
      clear hb8 hv8
      go_wp2_with fail
      have hsm := HSm.out _ _ _ _ w8 HCN.out HCN.out HCW.out HCW.out HV8.out HW8.out
      rw [sameT_refl] at hsm
      refine hsm.mono ?_
      rintro e w9 ⟨rfl, hb9⟩
      have HB9 := Lib.hid (HB8.out.trans (hb9.mono HB8.out.size))
      clear hb9 hsm HW8 HV8
      go_wp2_with fail
      go_ret
      exact ⟨rfl, HB9.out⟩
    · obtain ⟨h2, hY⟩ := h2
      have HF := Lib.hid h2
      have hYl := htl h2
      have hb := parse_long hY
      have HP3 := Lib.hid (fun W (hB : Below w.heap.size w W) => HP.out (txt tm false) (.iface 37 (.int .i64 4)) .nil W hB (by omega) (by rw [hb.1, errVal_no (by decide)]) hb.2)
      obtain ⟨Y, hYe⟩ : ∃ Y, txt tm false = Y := ⟨_, rfl⟩
      have HY := Lib.hid hYe
      rw [hYe] at hY hYl HP3
      have sY : (⟨Y.toArray⟩ : ByteArray).size = Y.length := sizeOf_mk Y
      clear hb hYe h2 htl
      go_enter Tryz.func3, Tryz.ntmps3
      go_wp2_with fail
      refine HR.out.mono ?_
      rintro e w1 ⟨rfl, hb1⟩
      have HB1 := Lib.hid hb1; clear hb1
      go_wp2_with fail
      refine (HP1.out w1 HB1.out).mono ?_
      rintro e w2 ⟨⟨v2, rfl, hv2⟩, hb2⟩
      obtain ⟨a2, n2, c2, rfl⟩ := hv2.form
      have HB2 := Lib.hid (HB1.out.trans (hb2.mono HB1.out.size)); have HV2 := Lib.hid hv2
      clear hb2 hv2
      go_wp2_with fail
      have htx := HTx.out _ _ w2 HB2.out HG.out.1 HG.out.2.2.1 HV2.out
      rw [HG.out.2.2.2, if_pos rfl, errVal_0, HX.out] at htx
      refine htx.mono ?_
      rintro e w3 ⟨rfl, hb3⟩
      have HB3 := Lib.hid (HB2.out.trans (hb3.mono HB2.out.size)); have HV3 := Lib.hid (HV2.out.below hb3)
      clear hb3 htx
      go_wp2_with fail
      refine (HP2.out w3 HB3.out).mono ?_
      rintro e w4 ⟨⟨v4, rfl, hv4⟩, hb4⟩
      obtain ⟨a4, n4, c4, rfl⟩ := hv4.form
      have HB4 := Lib.hid (HB3.out.trans (hb4.mono HB3.out.size)); have HV4 := Lib.hid (HV3.out.below hb4); have HW4 := Lib.hid hv4
      clear hb4 hv4
      go_wp2_with fail
      have hsm := HSm.out _ _ _ _ w4 rfl HG.out.1 (by decide) HG.out.2.2.1 HW4.out HV4.out
      generalize sameT T.nil (parseTree s) = bs at hsm
      refine hsm.mono ?_
      rintro e w5 ⟨rfl, hb5⟩
      have HB5 := Lib.hid (HB4.out.trans (hb5.mono HB4.out.size))
      clear hb5 hsm HW4 HV4 HV3
      go_wp2_with fail
      have htm := HTx.out tm _ w5 HB5.out HN.out hwT.out (HS1.out.below HB5.out)
      rw [HF.out, if_pos rfl, errVal_0, HY.out] at htm
      refine htm.mono ?_
      rintro e w6 ⟨rfl, hb6⟩
      have HB6 := Lib.hid (HB5.out.trans (hb6.mono HB5.out.size)); clear hb6 htm
      go_wp2_with fail
      refine (HP3.out w6 HB6.out).mono ?_
      rintro e w7 ⟨⟨v7, rfl, hv7⟩, hb7⟩
      obtain ⟨a7, n7, c7, rfl⟩ := hv7.form
      have HB7 := Lib.hid (HB6.out.trans (hb7.mono HB6.out.size)); have HV7 := Lib.hid hv7
      clear hb7 hv7
      go_wp2_with fail
      refine (HCl.out w7 HB7.out).mono ?_
      rintro e w8 ⟨⟨v8, rfl, hv8⟩, hb8⟩
      obtain ⟨a8, n8, c8, rfl⟩ := hv8.form
      have HB8 := Lib.hid (HB7.out.trans (hb8.mono HB7.out.size)); have HV8 := Lib.hid (HV7.out.below hb8); have HW8 := Lib.hid hv8.sv
      clear hb8 hv8
      go_wp2_with fail
      have hsm := HSm.out _ _ _ _ w8 rfl HCN.out (by decide) HCW.out HV8.out HW8.out
      generalize sameT T.nil (clean tm) = bt at hsm
      refine hsm.mono ?_
      rintro e w9 ⟨rfl, hb9⟩
      have HB9 := Lib.hid (HB8.out.trans (hb9.mono HB8.out.size))
      clear hb9 hsm HW8 HV8
      go_wp2_with fail
      go_ret
      exact ⟨rfl, HB9.out⟩
theorem msgBack_bytes (tm : T) (v1 : Value) (s : ByteArray) (w : World) (hn : isN tm = true) (hw : wt tm ≤ 1100000) (hs : s.size ≤ 1100000) (hm : MW w) (hM : MaxAt w) (s1 : SV w v1 tm) :
    Calls Tryz.prog 3 #[v1, .string s] w fun e w' => e = .returned (.bool true) ∧ Below w.heap.size w w' := by
  have h := msgBack_walk tm v1 s.data.toList w hn hw (by rw [← Lib.size_eq]; exact hs) hm hM s1
  rw [strOf_ext] at h; exact h
end Go.Proofs.YtgkphpjnfigjiaaGreatDoor
