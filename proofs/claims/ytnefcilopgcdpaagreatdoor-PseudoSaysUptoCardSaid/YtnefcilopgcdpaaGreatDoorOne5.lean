/-
  eval.speaker.one: a Select.
-/
import Derived.Test.YtnefcilopgcdpaaGreatDoorOneD
import Derived.Deep.RegionHeld3
namespace Go.Proofs.YtnefcilopgcdpaaGreatDoor
open Go.RowKit Ms

set_option maxRecDepth 100000 in
set_option maxHeartbeats 8000000 in
theorem one_select (z o tw fe ma : List UInt8) (al : List Ar) (mb b : Nat) (w0 : World) (N : Nat) (C : SC z o tw fe ma al mb b w0) (IH : SayIH z o tw fe ma al mb b w0 N) (f : Int) (x : List UInt8) (cs nx : T) (v : Value) (m : Dc) (l : List UInt8) (w : World) (hS : SW z o tw fe ma al mb b l w0 w)
    (hz : sz cs ≤ N) (hn : isN (.node 5 x f cs nx) = true) (hw : wt (.node 5 x f cs nx) ≤ 2100000) (hok : oks al (.node 5 x f cs nx)) (hs : SV w0 v cs) (hl : l.length + (1 + (if hasC 5 = true then cnt cs else 0)) * 3000000 ≤ 100000000000) :
    Calls Tryz.prog 30 #[.pointer (some ⟨b, 0, none⟩), .agg #[.int .i64 5, .string ⟨x.toArray⟩, .int .i64 f, v], dcV m] w fun e w' => e = .returned (errVal (oneE ⟨[z, o, tw, fe, ma], al⟩ 5 x f cs m).2) ∧ Spk z o tw fe ma mb b (l ++ (oneE ⟨[z, o, tw, fe, ma], al⟩ 5 x f cs m).1) w' ∧ FrS b w w' := by
  obtain ⟨a, n, cp, rfl⟩ := hs.form
  obtain ⟨g, hg⟩ : ∃ g, g = argOf al x := ⟨_, rfl⟩
  have hlk := look_ar al x mb
  rw [← hg] at hlk
  have hlt := hS.spk.lt
  have hmp : ∀ A B, MapIs ((w.alloc A).alloc B).drew mb (arL al) := fun A B => hS.mp.below (((Below.refl w.heap.size w).alloc (Nat.le_refl _) A).alloc (by simp) B).drew
  have hsp : ∀ A B, ((w.alloc A).alloc B).drew.cell? ⟨b, 5, none⟩ = some (.map (some mb)) := fun A B => by
    obtain ⟨p, v, _, hk, _⟩ := hS.spk
    have hb := (((Below.refl w.heap.size w).alloc (Nat.le_refl _) A).alloc (by simp) B).drew
    exact block_cell (i := 5) ((hb.block b hlt).trans hk) rfl
  have hs5 := hsp (Obj.cells #[.int .i64 5, .string ⟨x.toArray⟩, .int .i64 f, .slice a n cp] 60) (Obj.cells #[.int .i64 m.c, .int .i64 m.s] 51)
  have hbz := ((((Below.refl w.heap.size w).alloc (Nat.le_refl _) (Obj.cells #[.int .i64 5, .string ⟨x.toArray⟩, .int .i64 f, .slice a n cp] 60)).alloc (by simp) (Obj.cells #[.int .i64 m.c, .int .i64 m.s] 51)).alloc (by simp <;> omega) (Obj.cells #[.string ⟨#[]⟩, .bool false, .int .i64 0, .int .i64 0, .string ⟨#[]⟩] 53)).drew
  have hs6 := keepCells hbz _ _ _ (show w.cell? ⟨b, 5, none⟩ = some (.map (some mb)) by obtain ⟨p, v, _, hk, _⟩ := hS.spk; exact block_cell (i := 5) hk rfl)
  have hlk3 := hlk _ (hS.mp.below hbz)
  have hlk2 := hlk _ (hmp (Obj.cells #[.int .i64 5, .string ⟨x.toArray⟩, .int .i64 f, .slice a n cp] 60) (Obj.cells #[.int .i64 m.c, .int .i64 m.s] 51))
  obtain ⟨WZ, hWZ⟩ : ∃ WZ, WZ = (((w.alloc (Obj.cells #[.int .i64 5, .string ⟨x.toArray⟩, .int .i64 f, .slice a n cp] 60)).alloc (Obj.cells #[.int .i64 m.c, .int .i64 m.s] 51)).alloc (Obj.cells #[.string ⟨#[]⟩, .bool false, .int .i64 0, .int .i64 0, .string ⟨#[]⟩] 53)).drew := ⟨_, rfl⟩
  obtain ⟨kz0, kz1, kz, hBz, hzz⟩ := three_boxes w (Obj.cells #[.int .i64 5, .string ⟨x.toArray⟩, .int .i64 f, .slice a n cp] 60) (Obj.cells #[.int .i64 m.c, .int .i64 m.s] 51) (Obj.cells #[.string ⟨#[]⟩, .bool false, .int .i64 0, .int .i64 0, .string ⟨#[]⟩] 53)
  replace kz : WZ.heap[w.heap.size + 1 + 1]? = some (Obj.cells #[.string ⟨#[]⟩, .bool false, .int .i64 0, .int .i64 0, .string ⟨#[]⟩] 53) := by rw [hWZ]; exact kz
  obtain ⟨q0, q1, q2, q3, q4⟩ := three_boxes w (Obj.cells #[.int .i64 5, .string ⟨x.toArray⟩, .int .i64 f, .slice a n cp] 60) (Obj.cells #[.int .i64 m.c, .int .i64 m.s] 51) (Obj.cells #[.string ⟨g.nm.toArray⟩, .bool g.num, .int .i64 g.d.c, .int .i64 g.d.s, .string ⟨g.tx.toArray⟩] 53)
  obtain ⟨W9, hW9⟩ : ∃ W9, W9 = (((w.alloc (Obj.cells #[.int .i64 5, .string ⟨x.toArray⟩, .int .i64 f, .slice a n cp] 60)).alloc (Obj.cells #[.int .i64 m.c, .int .i64 m.s] 51)).alloc (Obj.cells #[.string ⟨g.nm.toArray⟩, .bool g.num, .int .i64 g.d.c, .int .i64 g.d.s, .string ⟨g.tx.toArray⟩] 53)).drew := ⟨_, rfl⟩
  have k0 : W9.heap[w.heap.size]? = some (Obj.cells #[.int .i64 5, .string ⟨x.toArray⟩, .int .i64 f, .slice a n cp] 60) := by rw [hW9]; exact q0
  have k1 : W9.heap[w.heap.size + 1]? = some (Obj.cells #[.int .i64 m.c, .int .i64 m.s] 51) := by rw [hW9]; exact q1
  have k2 : W9.heap[w.heap.size + 1 + 1]? = some (Obj.cells #[.string ⟨g.nm.toArray⟩, .bool g.num, .int .i64 g.d.c, .int .i64 g.d.s, .string ⟨g.tx.toArray⟩] 53) := by rw [hW9]; exact q2
  have hB9 : Below w.heap.size w W9 := by rw [hW9]; exact q3.drew
  have HW9 := Lib.hid hW9; have K0 := Lib.hid k0; have K1 := Lib.hid k1; have K2 := Lib.hid k2
  have HS9 := Lib.hid (hS.below hB9)
  have HF9 := Lib.hid (FrS.of_below hB9 (Nat.le_of_lt hlt))
  have HB9 := Lib.hid hB9
  have cz0 : WZ.cell? ⟨w.heap.size + 1 + 1, 0, none⟩ = some (.string ⟨#[]⟩) := block_cell kz rfl
  have fz0 : WZ.frozen? ⟨w.heap.size + 1 + 1, 0, none⟩ = false := by simp [World.frozen?, kz]
  have cz1 : WZ.cell? ⟨w.heap.size + 1 + 1, 1, none⟩ = some (.bool false) := block_cell kz rfl
  have fz1 : WZ.frozen? ⟨w.heap.size + 1 + 1, 1, none⟩ = false := by simp [World.frozen?, kz]
  have cz2 : WZ.cell? ⟨w.heap.size + 1 + 1, 2, none⟩ = some (.int .i64 0) := block_cell kz rfl
  have fz2 : WZ.frozen? ⟨w.heap.size + 1 + 1, 2, none⟩ = false := by simp [World.frozen?, kz]
  have cz3 : WZ.cell? ⟨w.heap.size + 1 + 1, 3, none⟩ = some (.int .i64 0) := block_cell kz rfl
  have fz3 : WZ.frozen? ⟨w.heap.size + 1 + 1, 3, none⟩ = false := by simp [World.frozen?, kz]
  have cz4 : WZ.cell? ⟨w.heap.size + 1 + 1, 4, none⟩ = some (.string ⟨#[]⟩) := block_cell kz rfl
  have fz4 : WZ.frozen? ⟨w.heap.size + 1 + 1, 4, none⟩ = false := by simp [World.frozen?, kz]
  rw [hWZ] at cz0 fz0 cz1 fz1 cz2 fz2 cz3 fz3 cz4 fz4
  clear kz hWZ kz0 kz1 hBz hzz k0 k1 k2 hB9 hW9 q0 q1 q2 q3 q4
  have HOK := Lib.hid hok; have HC := Lib.hid C; have HIH := Lib.hid IH; have HSV := Lib.hid hs; have HG := Lib.hid hg
  clear hlk hmp hsp hok C IH hs hg hS hbz
  unfold dcV arV at *
  go_enter Tryz.func30, Tryz.ntmps30
  go_upto_region 1 with fail
  go_region
  all_goals
    simp only [← HW9.out]
    clear HW9 cz0 cz1 cz2 cz3 cz4 fz0 fz1 fz2 fz3 fz4 hs5 hs6 hlk2 hlk3
    have y0 : W9.cell? ⟨w.heap.size, 0, none⟩ = some (.int .i64 5) := block_cell K0.out rfl
    have y1 : W9.cell? ⟨w.heap.size, 1, none⟩ = some (.string ⟨x.toArray⟩) := block_cell K0.out rfl
    have y2 : W9.cell? ⟨w.heap.size, 2, none⟩ = some (.int .i64 f) := block_cell K0.out rfl
    have y3 : W9.cell? ⟨w.heap.size, 3, none⟩ = some (.slice a n cp) := block_cell K0.out rfl
    have m0 : W9.cell? ⟨w.heap.size + 1, 0, none⟩ = some (.int .i64 m.c) := block_cell K1.out rfl
    have m1 : W9.cell? ⟨w.heap.size + 1, 1, none⟩ = some (.int .i64 m.s) := block_cell K1.out rfl
    have g1 : W9.cell? ⟨w.heap.size + 1 + 1, 1, none⟩ = some (.bool g.num) := block_cell K2.out rfl
    have g2 : W9.cell? ⟨w.heap.size + 1 + 1, 2, none⟩ = some (.int .i64 g.d.c) := block_cell K2.out rfl
    have g3 : W9.cell? ⟨w.heap.size + 1 + 1, 3, none⟩ = some (.int .i64 g.d.s) := block_cell K2.out rfl
    have g4 : W9.cell? ⟨w.heap.size + 1 + 1, 4, none⟩ = some (.string ⟨g.tx.toArray⟩) := block_cell K2.out rfl
    have hhc : hasC 5 = true := rfl
    obtain ⟨hnil, hokc⟩ := HOK.out.2.2.1 hhc
    have hcs := (isN_node hn).1
    obtain ⟨a', n', c', he, hnl, hfr⟩ := casesFrom_start HSV.out
    simp only [Value.slice.injEq] at he
    obtain ⟨rfl, rfl, rfl⟩ := he
    have hn0 : 0 < n := by
      rw [hnl]
      cases cs with
      | nil => exact absurd rfl hnil
      | node _ _ _ _ _ => simp [isN.isC] at hcs
      | case _ _ _ => simp [len]
    have hwc : wt cs ≤ 2100000 := by simp only [wt] at hw; omega
    have hcl : len cs ≤ 2100000 := Nat.le_trans (len_wt cs) hwc
    have hkl := keysT_len cs hcs
    rw [if_pos hhc] at hl
    have hbl := HS9.out.spk.lt
    obtain ⟨I, hI⟩ : ∃ I, I = choGo g.tx (keysT cs) 0 0 := ⟨_, rfl⟩
    have hIn : I < n := by
      have := cho_lt g.tx (keysT cs) 0 0 (by omega)
      omega
    obtain ⟨bb, oo, vb, body, rfl, p1, hsb, hzb, hnb, hwb, hob, hcb, hspk⟩ := nth_from al ⟨[z, o, tw, fe, ma], al⟩ m cs 0 I hfr hcs hokc (by omega) (by omega)
    obtain ⟨va, vn, vc, rfl⟩ := hsb.form
    rw [Nat.zero_add] at p1
    have HO := Lib.hid (show oneE ⟨[z, o, tw, fe, ma], al⟩ 5 x f cs m = spk ⟨[z, o, tw, fe, ma], al⟩ body 0 m by rw [← hspk, hI, HG.out]; rfl)
    have HSd := Lib.hid (HS9.out.below (Below.refl W9.heap.size W9).drew)
    have HFd := Lib.hid (HF9.out.trans (FrS.of_below (Below.refl W9.heap.size W9).drew (Nat.le_of_lt hbl)))
    have HCH := Lib.hid (choice_any 5 f x g.tx cs (.slice (some ⟨bb, oo, none⟩) n cp) w0 W9.drew HSV.out hcs hcl HSd.out.bl)
    rw [← hI] at HCH
    have hl5 : l.length + cnt body * 3000000 ≤ 100000000000 := Nat.le_trans (Nat.add_le_add_left (Nat.mul_le_mul_right _ (by omega)) _) hl
    have HSAY := Lib.hid (fun W (h : SW z o tw fe ma al mb b l w0 W) => HIH.out body (.slice va vn vc) W l m (by omega) hnb (by omega) hob hsb h hl5)
    have p1' : W9.cell? ⟨bb, oo + I * 2 + 1, none⟩ = some (.slice va vn vc) := keepCells HS9.out.bl _ _ _ p1
    have hbbl : bb < b := by have h1 := cellLt p1; have h2 := HC.out.h1; have h3 := HC.out.h2; omega
    have hI0 : (0 : Int) ≤ (I : Int) := Int.natCast_nonneg _
    have hI1 : (I : Int) < (n : Int) := by omega
    generalize spk ⟨[z, o, tw, fe, ma], al⟩ body 0 m = q at HSAY HO
    unfold dcV at HSAY
    have HKS := Lib.hid (show ∀ X, Below W9.heap.size W9 X → (X.cell? ⟨w.heap.size, 0, none⟩ = some (.int .i64 5) ∧ X.cell? ⟨w.heap.size, 1, none⟩ = some (.string ⟨x.toArray⟩) ∧ X.cell? ⟨w.heap.size, 2, none⟩ = some (.int .i64 f) ∧ X.cell? ⟨w.heap.size, 3, none⟩ = some (.slice (some ⟨bb, oo, none⟩) n cp) ∧ X.cell? ⟨w.heap.size + 1, 0, none⟩ = some (.int .i64 m.c) ∧ X.cell? ⟨w.heap.size + 1, 1, none⟩ = some (.int .i64 m.s) ∧ X.cell? ⟨w.heap.size + 1 + 1, 4, none⟩ = some (.string ⟨g.tx.toArray⟩) ∧ X.cell? ⟨bb, oo + I * 2 + 1, none⟩ = some (.slice va vn vc)) from fun X h => have K := keepCells h; ⟨K _ _ _ y0, K _ _ _ y1, K _ _ _ y2, K _ _ _ y3, K _ _ _ m0, K _ _ _ m1, K _ _ _ g4, K _ _ _ p1'⟩)
    have HKF := Lib.hid (show ∀ X Y, Below W9.heap.size W9 X → FrS b X Y → (Y.cell? ⟨w.heap.size, 0, none⟩ = some (.int .i64 5) ∧ Y.cell? ⟨w.heap.size, 1, none⟩ = some (.string ⟨x.toArray⟩) ∧ Y.cell? ⟨w.heap.size, 2, none⟩ = some (.int .i64 f) ∧ Y.cell? ⟨w.heap.size, 3, none⟩ = some (.slice (some ⟨bb, oo, none⟩) n cp) ∧ Y.cell? ⟨w.heap.size + 1, 0, none⟩ = some (.int .i64 m.c) ∧ Y.cell? ⟨w.heap.size + 1, 1, none⟩ = some (.int .i64 m.s) ∧ Y.cell? ⟨w.heap.size + 1 + 1, 4, none⟩ = some (.string ⟨g.tx.toArray⟩) ∧ Y.cell? ⟨bb, oo + I * 2 + 1, none⟩ = some (.slice va vn vc)) from fun X Y h hf => by
      have e0 := hf.tf _ _ _ _ ((h.block _ (Array.getElem?_eq_some_iff.1 K0.out).1).trans K0.out) (by decide) (by omega)
      have e1 := hf.tf _ _ _ _ ((h.block _ (Array.getElem?_eq_some_iff.1 K1.out).1).trans K1.out) (by decide) (by omega)
      have e2 := hf.tf _ _ _ _ ((h.block _ (Array.getElem?_eq_some_iff.1 K2.out).1).trans K2.out) (by decide) (by omega)
      refine ⟨block_cell e0 rfl, block_cell e0 rfl, block_cell e0 rfl, block_cell e0 rfl, block_cell e1 rfl, block_cell e1 rfl, block_cell e2 rfl, ?_⟩
      rw [hf.below.cell (p := ⟨bb, _, none⟩) hbbl]
      exact keepCells h _ _ _ p1')
    clear HIH HSV HOK hnil hokc hcs hnl hfr hwc hcl hkl hI p1 hsb hzb hnb hwb hob hcb hspk hz hn hw hl hl5 g1 g2 g3 hhc hn0
    go_upto_region 18 with fail
    go_region_held3 (fun w' => w'.cell? ⟨w.heap.size, 0, none⟩ = some (.int .i64 5) ∧ w'.cell? ⟨w.heap.size, 1, none⟩ = some (.string ⟨x.toArray⟩) ∧ w'.cell? ⟨w.heap.size, 2, none⟩ = some (.int .i64 f) ∧ w'.cell? ⟨w.heap.size, 3, none⟩ = some (.slice (some ⟨bb, oo, none⟩) n cp) ∧ w'.cell? ⟨w.heap.size + 1, 0, none⟩ = some (.int .i64 m.c) ∧ w'.cell? ⟨w.heap.size + 1, 1, none⟩ = some (.int .i64 m.s) ∧ w'.cell? ⟨w.heap.size + 1 + 1, 4, none⟩ = some (.string ⟨g.tx.toArray⟩) ∧ w'.cell? ⟨bb, oo + I * 2 + 1, none⟩ = some (.slice va vn vc)) (first | exact HKS.out _ (Below.refl W9.heap.size W9).drew | exact HKS.out _ hWq | exact HKF.out _ _ hWq hf1) (first | (go_at_call 44; refine HCH.out.mono ?_; rintro e wq ⟨rfl, hbq⟩; have hWq : Below W9.heap.size W9 wq := (Below.refl W9.heap.size W9).drew.trans hbq; have HSq := Lib.hid (HSd.out.below hbq); have HFq := Lib.hid (HFd.out.trans (FrS.of_below hbq (Nat.le_of_lt HSd.out.spk.lt))); clear hbq) | (go_at_call 16; refine (HSAY.out _ HSq.out).mono ?_; rintro e w1 ⟨rfl, hs1, hf1⟩; have HS1 := Lib.hid hs1; have HF1 := Lib.hid (HFq.out.trans hf1)))
    all_goals
      go_wp2_with fail
      go_ret
      exact ⟨by rw [HO.out]; rfl, by rw [HO.out]; exact HS1.out, HF1.out⟩
end Go.Proofs.YtnefcilopgcdpaaGreatDoor
