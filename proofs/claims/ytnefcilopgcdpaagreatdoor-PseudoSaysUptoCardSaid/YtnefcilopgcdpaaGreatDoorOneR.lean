/-
  eval.speaker.one: all kinds but Plural and Select.
-/
import Derived.Test.YtnefcilopgcdpaaGreatDoorOneD
import Derived.Deep.RegionHeld3
namespace Go.Proofs.YtnefcilopgcdpaaGreatDoor
open Go.RowKit Ms

set_option maxRecDepth 100000 in
set_option maxHeartbeats 8000000 in
theorem one_rest (z o tw fe ma : List UInt8) (al : List Ar) (mb b : Nat) (w0 : World) (N : Nat) (C : SC z o tw fe ma al mb b w0) (IH : SayIH z o tw fe ma al mb b w0 N) (k : Int) (hk4 : k ≠ 4) (hk5 : k ≠ 5) (f : Int) (x : List UInt8) (cs nx : T) (v : Value) (m : Dc) (l : List UInt8) (w : World) (hS : SW z o tw fe ma al mb b l w0 w)
    (hn : isN (.node k x f cs nx) = true) (hw : wt (.node k x f cs nx) ≤ 2100000) (hok : oks al (.node k x f cs nx)) (hs : SV w0 v cs) (hl : l.length + (1 + (if hasC k = true then cnt cs else 0)) * 3000000 ≤ 100000000000) :
    Calls Tryz.prog 30 #[.pointer (some ⟨b, 0, none⟩), .agg #[.int .i64 k, .string ⟨x.toArray⟩, .int .i64 f, v], dcV m] w fun e w' => e = .returned (errVal (oneE ⟨[z, o, tw, fe, ma], al⟩ k x f cs m).2) ∧ Spk z o tw fe ma mb b (l ++ (oneE ⟨[z, o, tw, fe, ma], al⟩ k x f cs m).1) w' ∧ FrS b w w' := by
  obtain ⟨a, n, cp, rfl⟩ := hs.form
  obtain ⟨g, hg⟩ : ∃ g, g = argOf al x := ⟨_, rfl⟩
  have hlk := look_ar al x mb
  rw [← hg] at hlk
  have hlt := hS.spk.lt
  have hmp : ∀ A B, MapIs ((w.alloc A).alloc B).drew mb (arL al) := fun A B => hS.mp.below (((Below.refl w.heap.size w).alloc (Nat.le_refl _) A).alloc (by simp) B).drew
  have hsp : ∀ A B, ((w.alloc A).alloc B).drew.cell? ⟨b, 5, none⟩ = some (.map (some mb)) := fun A B => by
    obtain ⟨p, v, _, hk, _⟩ := hS.spk
    have hb := (((Below.refl w.heap.size w).alloc (Nat.le_refl _) A).alloc (by simp) B).drew
    exact block_cell (i := 5) ((hb.block b hlt).trans hk) rfl
  have hs5 := hsp (Obj.cells #[.int .i64 k, .string ⟨x.toArray⟩, .int .i64 f, .slice a n cp] 60) (Obj.cells #[.int .i64 m.c, .int .i64 m.s] 51)
  have hbz := ((((Below.refl w.heap.size w).alloc (Nat.le_refl _) (Obj.cells #[.int .i64 k, .string ⟨x.toArray⟩, .int .i64 f, .slice a n cp] 60)).alloc (by simp) (Obj.cells #[.int .i64 m.c, .int .i64 m.s] 51)).alloc (by simp <;> omega) (Obj.cells #[.string ⟨#[]⟩, .bool false, .int .i64 0, .int .i64 0, .string ⟨#[]⟩] 53)).drew
  have hs6 := keepCells hbz _ _ _ (show w.cell? ⟨b, 5, none⟩ = some (.map (some mb)) by obtain ⟨p, v, _, hk, _⟩ := hS.spk; exact block_cell (i := 5) hk rfl)
  have hlk3 := hlk _ (hS.mp.below hbz)
  have hlk2 := hlk _ (hmp (Obj.cells #[.int .i64 k, .string ⟨x.toArray⟩, .int .i64 f, .slice a n cp] 60) (Obj.cells #[.int .i64 m.c, .int .i64 m.s] 51))
  obtain ⟨WZ, hWZ⟩ : ∃ WZ, WZ = (((w.alloc (Obj.cells #[.int .i64 k, .string ⟨x.toArray⟩, .int .i64 f, .slice a n cp] 60)).alloc (Obj.cells #[.int .i64 m.c, .int .i64 m.s] 51)).alloc (Obj.cells #[.string ⟨#[]⟩, .bool false, .int .i64 0, .int .i64 0, .string ⟨#[]⟩] 53)).drew := ⟨_, rfl⟩
  obtain ⟨kz0, kz1, kz, hBz, hzz⟩ := three_boxes w (Obj.cells #[.int .i64 k, .string ⟨x.toArray⟩, .int .i64 f, .slice a n cp] 60) (Obj.cells #[.int .i64 m.c, .int .i64 m.s] 51) (Obj.cells #[.string ⟨#[]⟩, .bool false, .int .i64 0, .int .i64 0, .string ⟨#[]⟩] 53)
  replace kz : WZ.heap[w.heap.size + 1 + 1]? = some (Obj.cells #[.string ⟨#[]⟩, .bool false, .int .i64 0, .int .i64 0, .string ⟨#[]⟩] 53) := by rw [hWZ]; exact kz
  obtain ⟨q0, q1, q2, q3, q4⟩ := three_boxes w (Obj.cells #[.int .i64 k, .string ⟨x.toArray⟩, .int .i64 f, .slice a n cp] 60) (Obj.cells #[.int .i64 m.c, .int .i64 m.s] 51) (Obj.cells #[.string ⟨g.nm.toArray⟩, .bool g.num, .int .i64 g.d.c, .int .i64 g.d.s, .string ⟨g.tx.toArray⟩] 53)
  obtain ⟨W9, hW9⟩ : ∃ W9, W9 = (((w.alloc (Obj.cells #[.int .i64 k, .string ⟨x.toArray⟩, .int .i64 f, .slice a n cp] 60)).alloc (Obj.cells #[.int .i64 m.c, .int .i64 m.s] 51)).alloc (Obj.cells #[.string ⟨g.nm.toArray⟩, .bool g.num, .int .i64 g.d.c, .int .i64 g.d.s, .string ⟨g.tx.toArray⟩] 53)).drew := ⟨_, rfl⟩
  have k0 : W9.heap[w.heap.size]? = some (Obj.cells #[.int .i64 k, .string ⟨x.toArray⟩, .int .i64 f, .slice a n cp] 60) := by rw [hW9]; exact q0
  have k1 : W9.heap[w.heap.size + 1]? = some (Obj.cells #[.int .i64 m.c, .int .i64 m.s] 51) := by rw [hW9]; exact q1
  have k2 : W9.heap[w.heap.size + 1 + 1]? = some (Obj.cells #[.string ⟨g.nm.toArray⟩, .bool g.num, .int .i64 g.d.c, .int .i64 g.d.s, .string ⟨g.tx.toArray⟩] 53) := by rw [hW9]; exact q2
  have hB9 : Below w.heap.size w W9 := by rw [hW9]; exact q3.drew
  have HW9 := Lib.hid hW9; have K0 := Lib.hid k0; have K1 := Lib.hid k1; have K2 := Lib.hid k2
  have HS9 := Lib.hid (hS.below hB9)
  have HF9 := Lib.hid (FrS.of_below hB9 (Nat.le_of_lt hlt))
  have HB9 := Lib.hid hB9
  have cz0 : WZ.cell? ⟨w.heap.size + 1 + 1, 0, none⟩ = some (.string ⟨#[]⟩) := block_cell kz rfl
  have fz0 : WZ.frozen? ⟨w.heap.size + 1 + 1, 0, none⟩ = false := by simp [World.frozen?, kz]
  have cz1 : WZ.cell? ⟨w.heap.size + 1 + 1, 1, none⟩ = some (.bool false) := block_cell kz rfl
  have fz1 : WZ.frozen? ⟨w.heap.size + 1 + 1, 1, none⟩ = false := by simp [World.frozen?, kz]
  have cz2 : WZ.cell? ⟨w.heap.size + 1 + 1, 2, none⟩ = some (.int .i64 0) := block_cell kz rfl
  have fz2 : WZ.frozen? ⟨w.heap.size + 1 + 1, 2, none⟩ = false := by simp [World.frozen?, kz]
  have cz3 : WZ.cell? ⟨w.heap.size + 1 + 1, 3, none⟩ = some (.int .i64 0) := block_cell kz rfl
  have fz3 : WZ.frozen? ⟨w.heap.size + 1 + 1, 3, none⟩ = false := by simp [World.frozen?, kz]
  have cz4 : WZ.cell? ⟨w.heap.size + 1 + 1, 4, none⟩ = some (.string ⟨#[]⟩) := block_cell kz rfl
  have fz4 : WZ.frozen? ⟨w.heap.size + 1 + 1, 4, none⟩ = false := by simp [World.frozen?, kz]
  rw [hWZ] at cz0 fz0 cz1 fz1 cz2 fz2 cz3 fz3 cz4 fz4
  clear kz hWZ kz0 kz1 hBz hzz k0 k1 k2 hB9 hW9 q0 q1 q2 q3 q4
  have HOK := Lib.hid hok; have HC := Lib.hid C; have HIH := Lib.hid IH; have HSV := Lib.hid hs; have HG := Lib.hid hg
  clear hlk hmp hsp hok C IH hs hg hS hbz
  unfold dcV arV at *
  go_enter Tryz.func30, Tryz.ntmps30
  go_upto_region 1 with fail
  go_region
  all_goals
    simp only [← HW9.out]
    clear HW9 cz0 cz1 cz2 cz3 cz4 fz0 fz1 fz2 fz3 fz4 hs5 hs6 hlk2 hlk3
    have y0 : W9.cell? ⟨w.heap.size, 0, none⟩ = some (.int .i64 k) := block_cell K0.out rfl
    have y1 : W9.cell? ⟨w.heap.size, 1, none⟩ = some (.string ⟨x.toArray⟩) := block_cell K0.out rfl
    have y2 : W9.cell? ⟨w.heap.size, 2, none⟩ = some (.int .i64 f) := block_cell K0.out rfl
    have y3 : W9.cell? ⟨w.heap.size, 3, none⟩ = some (.slice a n cp) := block_cell K0.out rfl
    have m0 : W9.cell? ⟨w.heap.size + 1, 0, none⟩ = some (.int .i64 m.c) := block_cell K1.out rfl
    have m1 : W9.cell? ⟨w.heap.size + 1, 1, none⟩ = some (.int .i64 m.s) := block_cell K1.out rfl
    have g1 : W9.cell? ⟨w.heap.size + 1 + 1, 1, none⟩ = some (.bool g.num) := block_cell K2.out rfl
    have g2 : W9.cell? ⟨w.heap.size + 1 + 1, 2, none⟩ = some (.int .i64 g.d.c) := block_cell K2.out rfl
    have g3 : W9.cell? ⟨w.heap.size + 1 + 1, 3, none⟩ = some (.int .i64 g.d.s) := block_cell K2.out rfl
    have g4 : W9.cell? ⟨w.heap.size + 1 + 1, 4, none⟩ = some (.string ⟨g.tx.toArray⟩) := block_cell K2.out rfl
    by_cases k1 : k = 1
    · subst k1
      have hxl : x.length ≤ 2100000 := by simp only [wt] at hw; omega
      have hwr := wstr_any z o tw fe ma mb b l x W9.drew (HS9.out.below (Below.refl _ _).drew).spk (by simp only [hasC] at hl; omega)
      have HWR := Lib.hid hwr
      have HFd := Lib.hid (HF9.out.trans (FrS.of_below (Below.refl W9.heap.size W9).drew (Nat.le_of_lt HS9.out.spk.lt)))
      clear HIH HSV hwr m0 m1 g1 g2 g3 g4 y2 y3 HOK hn hw hl
      go_upto_region 7 with fail
      go_region_with (go_at_call 32; refine HWR.out.mono ?_; rintro e w1 ⟨rfl, hs1, hf1⟩; have HS1 := Lib.hid hs1; have HF1 := Lib.hid (HFd.out.trans hf1); clear hs1 hf1)
      all_goals
        go_wp2_with fail
        go_ret
        exact ⟨rfl, HS1.out, HF1.out⟩
    · by_cases k6 : k = 6
      · subst k6
        have hnr := number_any z o tw fe ma mb b l m w0 W9 HS9.out.spk HC.out.gl HS9.out.bl (by have := fmtD_len m W9; simp only [hasC] at hl; omega)
        have HNR := Lib.hid hnr
        have HO := Lib.hid (show oneE ⟨[z, o, tw, fe, ma], al⟩ 6 x f cs m = fmtD m by unfold oneE; rw [if_neg (by decide), if_pos rfl])
        clear HIH HSV hnr g1 g2 g3 g4 y1 y2 y3 HOK hn hw hl k1
        unfold dcV at HNR
        generalize fmtD m = q at HNR HO
        go_wp2_with fail
        refine HNR.out.mono ?_
        rintro e w1 ⟨rfl, hs1, hf1⟩
        have HS1 := Lib.hid hs1; have HF1 := Lib.hid (HF9.out.trans hf1)
        clear hs1 hf1
        go_wp2_with fail
        go_ret
        exact ⟨by rw [HO.out]; rfl, by rw [HO.out]; exact HS1.out, HF1.out⟩
      · by_cases k3 : k = 3
        · subst k3
          have hnr := number_any z o tw fe ma mb b l g.d w0 W9 HS9.out.spk HC.out.gl HS9.out.bl (by have := fmtD_len g.d W9; simp only [hasC] at hl; omega)
          have HNR := Lib.hid hnr
          have HO := Lib.hid (show oneE ⟨[z, o, tw, fe, ma], al⟩ 3 x f cs m = fmtD g.d by rw [HG.out]; unfold oneE; rw [if_neg (by decide), if_neg (by decide), if_pos rfl])
          clear HIH HSV hnr g1 g4 y1 y2 y3 m0 m1 HOK hn hw hl k1 k6
          unfold dcV at HNR
          generalize fmtD g.d = q at HNR HO
          go_wp2_with fail
          refine HNR.out.mono ?_
          rintro e w1 ⟨rfl, hs1, hf1⟩
          have HS1 := Lib.hid hs1; have HF1 := Lib.hid (HF9.out.trans hf1)
          clear hs1 hf1
          go_wp2_with fail
          go_ret
          exact ⟨by rw [HO.out]; rfl, by rw [HO.out]; exact HS1.out, HF1.out⟩
        · have k45 : ¬ (k = 4 ∨ k = 5) := fun e => e.elim hk4 hk5
          have hok := HOK.out.1
          have hok2 : (argOf al x).num = true → decBad (argOf al x).d = false := by
            rcases hok with h | h
            · rcases h with h | h
              · exact absurd h k1
              · exact absurd h k6
            · exact h.1
          rw [← HG.out] at hok2
          have hb1 : (k == 1) = false := by rw [beq_eq_false_iff_ne]; exact k1
          have hb6 : (k == 6) = false := by rw [beq_eq_false_iff_ne]; exact k6
          have hb3 : (k == 3) = false := by rw [beq_eq_false_iff_ne]; exact k3
          have hb4 : (k == 4) = false := by rw [beq_eq_false_iff_ne]; exact fun e => k45 (.inl e)
          have hb5 : (k == 5) = false := by rw [beq_eq_false_iff_ne]; exact fun e => k45 (.inr e)
          have HO := Lib.hid (show oneE ⟨[z, o, tw, fe, ma], al⟩ k x f cs m = (showA g, 0) by rw [HG.out]; unfold oneE; rw [if_neg k1, if_neg k6, if_neg k3, if_neg (fun e => k45 (.inl e)), if_neg (fun e => k45 (.inr e))])
          have hll : l.length + 2100000 ≤ 100000000000 := by omega
          have hbl := HS9.out.spk.lt
          cases hnum : g.num with
          | true =>
            rw [hnum] at g1
            have hd := hok2 hnum
            have hdd := dec_ok hd
            have hdt : Calls Tryz.prog 45 #[.agg #[.int .i64 g.d.c, .int .i64 g.d.s]] W9 fun e w' => e = .returned (.string ⟨(textD g.d).toArray⟩) ∧ Below W9.heap.size W9 w' := by
              obtain ⟨s', hs'⟩ := Int.eq_ofNat_of_zero_le hdd.1.1
              have h1 := dtext_any g.d.c s' W9 (by omega) (by omega) (by omega) (HC.out.gl.mw.below HS9.out.bl)
              unfold dcV at h1
              rw [← hs'] at h1
              exact h1
            have htl : (textD g.d).length ≤ 100 := by
              obtain ⟨s', hs'⟩ := Int.eq_ofNat_of_zero_le hdd.1.1
              have h1 := textD_len g.d.c s' (by omega) (by omega) (by omega)
              rw [← hs'] at h1
              exact h1
            have HDT := Lib.hid hdt
            have HO2 := Lib.hid (show oneE ⟨[z, o, tw, fe, ma], al⟩ k x f cs m = (textD g.d, 0) by rw [HO.out]; unfold showA; rw [hnum]; rfl)
            generalize textD g.d = tt at htl HDT HO2
            have hls : l.length + tt.length ≤ 100000000000 := by omega
            clear hok hok2 k1 k6 k3 k45 hl hn hw HIH HSV HOK m0 m1 y1 y2 y3 hd hdd hdt hnum HO
            go_wp2_with fail
            refine HDT.out.mono ?_
            rintro e w1 ⟨rfl, hb1'⟩
            have hk2 := (hb1'.block _ (Array.getElem?_eq_some_iff.1 K2.out).1).trans K2.out
            have x4 : w1.cell? ⟨w.heap.size + 1 + 1, 4, none⟩ = some (.string ⟨g.tx.toArray⟩) := block_cell hk2 rfl
            have f4 : w1.frozen? ⟨w.heap.size + 1 + 1, 4, none⟩ = false := by simp [World.frozen?, hk2]
            have HKS := Lib.hid (Joins.block_setCell (i := 4) hk2 (.string ⟨tt.toArray⟩))
            have hsp := (HS9.out.below hb1').spk.setOther (j := 4) hk2 (by decide) (by omega) (.string ⟨tt.toArray⟩)
            have hff := (HF9.out.trans (FrS.of_below hb1' (Nat.le_of_lt hbl))).setNew (j := 4) (c := w.heap.size + 1 + 1) (by omega) (by omega) (.string ⟨tt.toArray⟩)
            have HSP := Lib.hid hsp; have HFF := Lib.hid hff
            clear hb1' hk2 hsp hff HDT K0 K1 K2 HS9 HF9 HB9 g1 g2 g3 g4
            obtain ⟨w2, hw2⟩ : ∃ w2, w2 = w1.setCell ⟨w.heap.size + 1 + 1, 4, none⟩ (.string ⟨tt.toArray⟩) := ⟨_, rfl⟩
            have HW2 := Lib.hid hw2
            rw [← hw2] at HKS HSP HFF
            clear hw2
            go_upto_region 5 with fail
            rw [← HW2.out]
            have g4 : w2.cell? ⟨w.heap.size + 1 + 1, 4, none⟩ = some (.string ⟨tt.toArray⟩) := block_cell HKS.out rfl
            have HWR := Lib.hid (wstr_any z o tw fe ma mb b l tt w2.drew (HSP.out.below (Below.refl _ _).drew) hls)
            have HFd := Lib.hid (HFF.out.trans (FrS.of_below (Below.refl w2.heap.size w2).drew (Nat.le_of_lt HSP.out.lt)))
            clear HW2 HKS x4 f4 HSP HFF
            go_region_with (go_at_call 32; refine HWR.out.mono ?_; rintro e w1 ⟨rfl, hs1, hf1⟩; have HS1 := Lib.hid hs1; have HF1 := Lib.hid (HFd.out.trans hf1); clear hs1 hf1)
            all_goals
              go_wp2_with fail
              go_ret
              exact ⟨by rw [HO2.out]; rfl, by rw [HO2.out]; exact HS1.out, HF1.out⟩
          | false =>
            rw [hnum] at g1
            have htx : g.tx.length ≤ 2100000 := by
              rw [HG.out]; unfold argOf
              split
              · next a ha => exact HC.out.txt a (List.mem_of_find?_eq_some ha)
              · simp
            have HWR := Lib.hid (wstr_any z o tw fe ma mb b l g.tx W9.drew (HS9.out.below (Below.refl _ _).drew).spk (by omega))
            have HFd := Lib.hid (HF9.out.trans (FrS.of_below (Below.refl W9.heap.size W9).drew (Nat.le_of_lt HS9.out.spk.lt)))
            have HO2 := Lib.hid (show oneE ⟨[z, o, tw, fe, ma], al⟩ k x f cs m = (g.tx, 0) by rw [HO.out]; unfold showA; rw [hnum]; rfl)
            clear hok hok2 k1 k6 k3 k45 hl hn hw HIH HSV HOK m0 m1 y1 y2 y3 HO hnum htx
            go_upto_region 5 with fail
            go_region_with (go_at_call 32; refine HWR.out.mono ?_; rintro e w1 ⟨rfl, hs1, hf1⟩; have HS1 := Lib.hid hs1; have HF1 := Lib.hid (HFd.out.trans hf1); clear hs1 hf1)
            all_goals
              go_wp2_with fail
              go_ret
              exact ⟨by rw [HO2.out]; rfl, by rw [HO2.out]; exact HS1.out, HF1.out⟩
end Go.Proofs.YtnefcilopgcdpaaGreatDoor
