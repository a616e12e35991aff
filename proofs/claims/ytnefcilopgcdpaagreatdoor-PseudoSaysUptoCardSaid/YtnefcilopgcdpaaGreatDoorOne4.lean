/-
  eval.speaker.one: a Plural.
-/
import Derived.Test.YtnefcilopgcdpaaGreatDoorOneD
import Derived.Deep.RegionHeld3
namespace Go.Proofs.YtnefcilopgcdpaaGreatDoor
open Go.RowKit Ms

set_option maxRecDepth 100000 in
set_option maxHeartbeats 8000000 in
theorem one_plural (z o tw fe ma : List UInt8) (al : List Ar) (mb b : Nat) (w0 : World) (N : Nat) (C : SC z o tw fe ma al mb b w0) (IH : SayIH z o tw fe ma al mb b w0 N) (f : Int) (x : List UInt8) (cs nx : T) (v : Value) (m : Dc) (l : List UInt8) (w : World) (hS : SW z o tw fe ma al mb b l w0 w)
    (hz : sz cs ≤ N) (hn : isN (.node 4 x f cs nx) = true) (hw : wt (.node 4 x f cs nx) ≤ 2100000) (hok : oks al (.node 4 x f cs nx)) (hs : SV w0 v cs) (hl : l.length + (1 + (if hasC 4 = true then cnt cs else 0)) * 3000000 ≤ 100000000000) :
    Calls Tryz.prog 30 #[.pointer (some ⟨b, 0, none⟩), .agg #[.int .i64 4, .string ⟨x.toArray⟩, .int .i64 f, v], dcV m] w fun e w' => e = .returned (errVal (oneE ⟨[z, o, tw, fe, ma], al⟩ 4 x f cs m).2) ∧ Spk z o tw fe ma mb b (l ++ (oneE ⟨[z, o, tw, fe, ma], al⟩ 4 x f cs m).1) w' ∧ FrS b w w' := by
  obtain ⟨a, n, cp, rfl⟩ := hs.form
  obtain ⟨g, hg⟩ : ∃ g, g = argOf al x := ⟨_, rfl⟩
  have hlk := look_ar al x mb
  rw [← hg] at hlk
  have hlt := hS.spk.lt
  have hmp : ∀ A B, MapIs ((w.alloc A).alloc B).drew mb (arL al) := fun A B => hS.mp.below (((Below.refl w.heap.size w).alloc (Nat.le_refl _) A).alloc (by simp) B).drew
  have hsp : ∀ A B, ((w.alloc A).alloc B).drew.cell? ⟨b, 5, none⟩ = some (.map (some mb)) := fun A B => by
    obtain ⟨p, v, _, hk, _⟩ := hS.spk
    have hb := (((Below.refl w.heap.size w).alloc (Nat.le_refl _) A).alloc (by simp) B).drew
    exact block_cell (i := 5) ((hb.block b hlt).trans hk) rfl
  have hs5 := hsp (Obj.cells #[.int .i64 4, .string ⟨x.toArray⟩, .int .i64 f, .slice a n cp] 60) (Obj.cells #[.int .i64 m.c, .int .i64 m.s] 51)
  have hbz := ((((Below.refl w.heap.size w).alloc (Nat.le_refl _) (Obj.cells #[.int .i64 4, .string ⟨x.toArray⟩, .int .i64 f, .slice a n cp] 60)).alloc (by simp) (Obj.cells #[.int .i64 m.c, .int .i64 m.s] 51)).alloc (by simp <;> omega) (Obj.cells #[.string ⟨#[]⟩, .bool false, .int .i64 0, .int .i64 0, .string ⟨#[]⟩] 53)).drew
  have hs6 := keepCells hbz _ _ _ (show w.cell? ⟨b, 5, none⟩ = some (.map (some mb)) by obtain ⟨p, v, _, hk, _⟩ := hS.spk; exact block_cell (i := 5) hk rfl)
  have hlk3 := hlk _ (hS.mp.below hbz)
  have hlk2 := hlk _ (hmp (Obj.cells #[.int .i64 4, .string ⟨x.toArray⟩, .int .i64 f, .slice a n cp] 60) (Obj.cells #[.int .i64 m.c, .int .i64 m.s] 51))
  obtain ⟨WZ, hWZ⟩ : ∃ WZ, WZ = (((w.alloc (Obj.cells #[.int .i64 4, .string ⟨x.toArray⟩, .int .i64 f, .slice a n cp] 60)).alloc (Obj.cells #[.int .i64 m.c, .int .i64 m.s] 51)).alloc (Obj.cells #[.string ⟨#[]⟩, .bool false, .int .i64 0, .int .i64 0, .string ⟨#[]⟩] 53)).drew := ⟨_, rfl⟩
  obtain ⟨kz0, kz1, kz, hBz, hzz⟩ := three_boxes w (Obj.cells #[.int .i64 4, .string ⟨x.toArray⟩, .int .i64 f, .slice a n cp] 60) (Obj.cells #[.int .i64 m.c, .int .i64 m.s] 51) (Obj.cells #[.string ⟨#[]⟩, .bool false, .int .i64 0, .int .i64 0, .string ⟨#[]⟩] 53)
  replace kz : WZ.heap[w.heap.size + 1 + 1]? = some (Obj.cells #[.string ⟨#[]⟩, .bool false, .int .i64 0, .int .i64 0, .string ⟨#[]⟩] 53) := by rw [hWZ]; exact kz
  obtain ⟨q0, q1, q2, q3, q4⟩ := three_boxes w (Obj.cells #[.int .i64 4, .string ⟨x.toArray⟩, .int .i64 f, .slice a n cp] 60) (Obj.cells #[.int .i64 m.c, .int .i64 m.s] 51) (Obj.cells #[.string ⟨g.nm.toArray⟩, .bool g.num, .int .i64 g.d.c, .int .i64 g.d.s, .string ⟨g.tx.toArray⟩] 53)
  obtain ⟨W9, hW9⟩ : ∃ W9, W9 = (((w.alloc (Obj.cells #[.int .i64 4, .string ⟨x.toArray⟩, .int .i64 f, .slice a n cp] 60)).alloc (Obj.cells #[.int .i64 m.c, .int .i64 m.s] 51)).alloc (Obj.cells #[.string ⟨g.nm.toArray⟩, .bool g.num, .int .i64 g.d.c, .int .i64 g.d.s, .string ⟨g.tx.toArray⟩] 53)).drew := ⟨_, rfl⟩
  have k0 : W9.heap[w.heap.size]? = some (Obj.cells #[.int .i64 4, .string ⟨x.toArray⟩, .int .i64 f, .slice a n cp] 60) := by rw [hW9]; exact q0
  have k1 : W9.heap[w.heap.size + 1]? = some (Obj.cells #[.int .i64 m.c, .int .i64 m.s] 51) := by rw [hW9]; exact q1
  have k2 : W9.heap[w.heap.size + 1 + 1]? = some (Obj.cells #[.string ⟨g.nm.toArray⟩, .bool g.num, .int .i64 g.d.c, .int .i64 g.d.s, .string ⟨g.tx.toArray⟩] 53) := by rw [hW9]; exact q2
  have hB9 : Below w.heap.size w W9 := by rw [hW9]; exact q3.drew
  have HW9 := Lib.hid hW9; have K0 := Lib.hid k0; have K1 := Lib.hid k1; have K2 := Lib.hid k2
  have HS9 := Lib.hid (hS.below hB9)
  have HF9 := Lib.hid (FrS.of_below hB9 (Nat.le_of_lt hlt))
  have HB9 := Lib.hid hB9
  have cz0 : WZ.cell? ⟨w.heap.size + 1 + 1, 0, none⟩ = some (.string ⟨#[]⟩) := block_cell kz rfl
  have fz0 : WZ.frozen? ⟨w.heap.size + 1 + 1, 0, none⟩ = false := by simp [World.frozen?, kz]
  have cz1 : WZ.cell? ⟨w.heap.size + 1 + 1, 1, none⟩ = some (.bool false) := block_cell kz rfl
  have fz1 : WZ.frozen? ⟨w.heap.size + 1 + 1, 1, none⟩ = false := by simp [World.frozen?, kz]
  have cz2 : WZ.cell? ⟨w.heap.size + 1 + 1, 2, none⟩ = some (.int .i64 0) := block_cell kz rfl
  have fz2 : WZ.frozen? ⟨w.heap.size + 1 + 1, 2, none⟩ = false := by simp [World.frozen?, kz]
  have cz3 : WZ.cell? ⟨w.heap.size + 1 + 1, 3, none⟩ = some (.int .i64 0) := block_cell kz rfl
  have fz3 : WZ.frozen? ⟨w.heap.size + 1 + 1, 3, none⟩ = false := by simp [World.frozen?, kz]
  have cz4 : WZ.cell? ⟨w.heap.size + 1 + 1, 4, none⟩ = some (.string ⟨#[]⟩) := block_cell kz rfl
  have fz4 : WZ.frozen? ⟨w.heap.size + 1 + 1, 4, none⟩ = false := by simp [World.frozen?, kz]
  rw [hWZ] at cz0 fz0 cz1 fz1 cz2 fz2 cz3 fz3 cz4 fz4
  clear kz hWZ kz0 kz1 hBz hzz k0 k1 k2 hB9 hW9 q0 q1 q2 q3 q4
  have HOK := Lib.hid hok; have HC := Lib.hid C; have HIH := Lib.hid IH; have HSV := Lib.hid hs; have HG := Lib.hid hg
  clear hlk hmp hsp hok C IH hs hg hS hbz
  unfold dcV arV at *
  go_enter Tryz.func30, Tryz.ntmps30
  go_upto_region 1 with fail
  go_region
  all_goals
    simp only [← HW9.out]
    clear HW9 cz0 cz1 cz2 cz3 cz4 fz0 fz1 fz2 fz3 fz4 hs5 hs6 hlk2 hlk3
    have y0 : W9.cell? ⟨w.heap.size, 0, none⟩ = some (.int .i64 4) := block_cell K0.out rfl
    have y1 : W9.cell? ⟨w.heap.size, 1, none⟩ = some (.string ⟨x.toArray⟩) := block_cell K0.out rfl
    have y2 : W9.cell? ⟨w.heap.size, 2, none⟩ = some (.int .i64 f) := block_cell K0.out rfl
    have y3 : W9.cell? ⟨w.heap.size, 3, none⟩ = some (.slice a n cp) := block_cell K0.out rfl
    have m0 : W9.cell? ⟨w.heap.size + 1, 0, none⟩ = some (.int .i64 m.c) := block_cell K1.out rfl
    have m1 : W9.cell? ⟨w.heap.size + 1, 1, none⟩ = some (.int .i64 m.s) := block_cell K1.out rfl
    have g1 : W9.cell? ⟨w.heap.size + 1 + 1, 1, none⟩ = some (.bool g.num) := block_cell K2.out rfl
    have g2 : W9.cell? ⟨w.heap.size + 1 + 1, 2, none⟩ = some (.int .i64 g.d.c) := block_cell K2.out rfl
    have g3 : W9.cell? ⟨w.heap.size + 1 + 1, 3, none⟩ = some (.int .i64 g.d.s) := block_cell K2.out rfl
    have g4 : W9.cell? ⟨w.heap.size + 1 + 1, 4, none⟩ = some (.string ⟨g.tx.toArray⟩) := block_cell K2.out rfl
    have hhc : hasC 4 = true := rfl
    obtain ⟨hnil, hokc⟩ := HOK.out.2.2.1 hhc
    have hcs := (isN_node hn).1
    obtain ⟨a', n', c', he, hnl, hfr⟩ := casesFrom_start HSV.out
    simp only [Value.slice.injEq] at he
    obtain ⟨rfl, rfl, rfl⟩ := he
    have hn0 : 0 < n := by
      rw [hnl]
      cases cs with
      | nil => exact absurd rfl hnil
      | node _ _ _ _ _ => simp [isN.isC] at hcs
      | case _ _ _ => simp [len]
    have hwc : wt cs ≤ 2100000 := by simp only [wt] at hw; omega
    have hcl : len cs ≤ 2100000 := Nat.le_trans (len_wt cs) hwc
    have hkl := keysT_len cs hcs
    rw [if_pos hhc] at hl
    have hbl := HS9.out.spk.lt
    have h1ok := HOK.out.1.resolve_left (by omega)
    have hd : decBad g.d = false := by rw [HG.out]; exact h1ok.1 (h1ok.2 (.inr rfl))
    have hff := HOK.out.2.1 rfl
    obtain ⟨s', hs'⟩ := Int.eq_ofNat_of_zero_le (dec_ok hd).1.1
    have hgd : g.d = ⟨g.d.c, (s' : Int)⟩ := by rw [← hs']
    have HSd := Lib.hid (HS9.out.below (Below.refl W9.heap.size W9).drew)
    have HFd := Lib.hid (HF9.out.trans (FrS.of_below (Below.refl W9.heap.size W9).drew (Nat.le_of_lt hbl)))
    obtain ⟨sp, sv, _, hk9, _⟩ := HS9.out.spk
    have s0 : W9.cell? ⟨b, 0, none⟩ = some (.string ⟨z.toArray⟩) := block_cell hk9 rfl
    have s1 : W9.cell? ⟨b, 1, none⟩ = some (.string ⟨o.toArray⟩) := block_cell hk9 rfl
    have s2 : W9.cell? ⟨b, 2, none⟩ = some (.string ⟨tw.toArray⟩) := block_cell hk9 rfl
    have s3 : W9.cell? ⟨b, 3, none⟩ = some (.string ⟨fe.toArray⟩) := block_cell hk9 rfl
    have s4 : W9.cell? ⟨b, 4, none⟩ = some (.string ⟨ma.toArray⟩) := block_cell hk9 rfl
    have hx9 := K0.out; have hx92 := K2.out
    have hlt0 : w.heap.size < W9.heap.size := (Array.getElem?_eq_some_iff.1 hx9).1
    have hone4 : oneE ⟨[z, o, tw, fe, ma], al⟩ 4 x f cs m = if (lessD g.d f).2 ≠ 0 then ([], (lessD g.d f).2) else spk ⟨[z, o, tw, fe, ma], al⟩ cs (caseGo (kindOf [z, o, tw, fe, ma] (lessD g.d f).1) g.d (keysT cs) 0 0 0) (lessD g.d f).1 := by
      rw [HG.out]; unfold oneE; rw [if_neg (by decide), if_neg (by decide), if_neg (by decide), if_pos rfl]
    have HSET := Lib.hid HC.out.set
    have HKS := Lib.hid (show ∀ X, Below W9.heap.size W9 X → (X.cell? ⟨w.heap.size, 0, none⟩ = some (.int .i64 4) ∧ X.cell? ⟨w.heap.size, 1, none⟩ = some (.string ⟨x.toArray⟩) ∧ X.cell? ⟨w.heap.size, 2, none⟩ = some (.int .i64 f) ∧ X.cell? ⟨w.heap.size, 3, none⟩ = some (.slice a n cp) ∧ X.cell? ⟨w.heap.size + 1 + 1, 2, none⟩ = some (.int .i64 g.d.c) ∧ X.cell? ⟨w.heap.size + 1 + 1, 3, none⟩ = some (.int .i64 g.d.s) ∧ X.cell? ⟨b, 0, none⟩ = some (.string ⟨z.toArray⟩) ∧ X.cell? ⟨b, 1, none⟩ = some (.string ⟨o.toArray⟩) ∧ X.cell? ⟨b, 2, none⟩ = some (.string ⟨tw.toArray⟩) ∧ X.cell? ⟨b, 3, none⟩ = some (.string ⟨fe.toArray⟩) ∧ X.cell? ⟨b, 4, none⟩ = some (.string ⟨ma.toArray⟩)) from fun X h => have K := keepCells h; ⟨K _ _ _ y0, K _ _ _ y1, K _ _ _ y2, K _ _ _ y3, K _ _ _ g2, K _ _ _ g3, K _ _ _ s0, K _ _ _ s1, K _ _ _ s2, K _ _ _ s3, K _ _ _ s4⟩)
    by_cases hL : (lessD g.d f).2 = 0
    · rw [if_neg (by simp [hL])] at hone4
      have hca := fun W (hW : Below W9.heap.size W9 W) => (case_any 4 f x cs (.slice a n cp) z o tw fe ma g.d.c s' w0 W HSV.out hcs hwc HC.out.set (by rw [← hgd]; exact hd) hff (by rw [← hgd]; exact hL) (HC.out.gl.below (HS9.out.bl.trans (hW.mono HS9.out.bl.size))).mw (HC.out.gl.below (HS9.out.bl.trans (hW.mono HS9.out.bl.size))).mx (HC.out.gl.below (HS9.out.bl.trans (hW.mono HS9.out.bl.size))).pl (HS9.out.bl.trans (hW.mono HS9.out.bl.size))).mono (fun e w' h => (⟨h.1, h.2, hW.trans (h.2.mono hW.size)⟩ : _ ∧ _ ∧ Below W9.heap.size W9 w'))
      rw [← hgd] at hca
      obtain ⟨D, hD⟩ : ∃ D, D = (lessD g.d f).1 := ⟨_, rfl⟩
      obtain ⟨I, hI⟩ : ∃ I, I = caseGo (kindOf [z, o, tw, fe, ma] D) g.d (keysT cs) 0 0 0 := ⟨_, rfl⟩
      rw [← hD] at hca hone4
      rw [← hI] at hca hone4
      have hIn : I < n := by
        have := case_lt (kindOf [z, o, tw, fe, ma] D) g.d (keysT cs) 0 0 0 (by omega)
        omega
      obtain ⟨bb, oo, vb, body, rfl, p1, hsb, hzb, hnb, hwb, hob, hcb, hspk⟩ := nth_from al ⟨[z, o, tw, fe, ma], al⟩ D cs 0 I hfr hcs hokc (by omega) (by omega)
      obtain ⟨va, vn, vc, rfl⟩ := hsb.form
      rw [Nat.zero_add] at p1
      rw [hspk] at hone4
      have HO := Lib.hid hone4
      have HCA := Lib.hid hca
      have hl5 : l.length + cnt body * 3000000 ≤ 100000000000 := Nat.le_trans (Nat.add_le_add_left (Nat.mul_le_mul_right _ (by omega)) _) hl
      have HSAY := Lib.hid (fun W (h : SW z o tw fe ma al mb b l w0 W) => HIH.out body (.slice va vn vc) W l D (by omega) hnb (by omega) hob hsb h hl5)
      have p1' : W9.cell? ⟨bb, oo + I * 2 + 1, none⟩ = some (.slice va vn vc) := keepCells HS9.out.bl _ _ _ p1
      have hbbl : bb < b := by have h1 := cellLt p1; have h2 := HC.out.h1; have h3 := HC.out.h2; omega
      have hI0 : (0 : Int) ≤ (I : Int) := Int.natCast_nonneg _
      have hI1 : (I : Int) < (n : Int) := by omega
      generalize spk ⟨[z, o, tw, fe, ma], al⟩ body 0 D = q at HSAY HO
      unfold dcV at HSAY HCA
      unfold setV at HCA
      clear HIH HSV HOK hnil hokc hcs hnl hfr hwc hcl hkl hI p1 hsb hzb hnb hwb hob hcb hspk hz hn hw hl hl5 g1 g4 hhc hn0 m0 m1 hd h1ok hff hs' hgd hca hone4 hL hD hk9 hx9 hx92 HSET
      go_upto_region 13 with fail
      go_region_held3 (fun w' => w'.cell? ⟨w.heap.size, 0, none⟩ = some (.int .i64 4) ∧ w'.cell? ⟨w.heap.size, 1, none⟩ = some (.string ⟨x.toArray⟩) ∧ w'.cell? ⟨w.heap.size, 2, none⟩ = some (.int .i64 f) ∧ w'.cell? ⟨w.heap.size, 3, none⟩ = some (.slice (some ⟨bb, oo, none⟩) n cp) ∧ w'.cell? ⟨w.heap.size + 1 + 1, 2, none⟩ = some (.int .i64 g.d.c) ∧ w'.cell? ⟨w.heap.size + 1 + 1, 3, none⟩ = some (.int .i64 g.d.s) ∧ w'.cell? ⟨b, 0, none⟩ = some (.string ⟨z.toArray⟩) ∧ w'.cell? ⟨b, 1, none⟩ = some (.string ⟨o.toArray⟩) ∧ w'.cell? ⟨b, 2, none⟩ = some (.string ⟨tw.toArray⟩) ∧ w'.cell? ⟨b, 3, none⟩ = some (.string ⟨fe.toArray⟩) ∧ w'.cell? ⟨b, 4, none⟩ = some (.string ⟨ma.toArray⟩)) (first | exact HKS.out _ (Below.refl W9.heap.size W9).drew | exact HKS.out _ hWq | exact HKS.out _ ((Below.refl W9.heap.size W9).alloc (Nat.le_refl _) _).drew | exact HKS.out _ ((Below.refl W9.heap.size W9).drew.alloc (Nat.le_refl _) _) | exact HKS.out _ (hWq.alloc hWq.size _) | exact HKS.out _ ((hWq.setCell (p := ⟨_, 0, none⟩) (Nat.le_refl _) _).setCell (p := ⟨_, 1, none⟩) (Nat.le_refl _) _) | exact HKS.out _ (((hWq.alloc hWq.size _).setCell (p := ⟨_, 0, none⟩) hWq.size _).setCell (p := ⟨_, 1, none⟩) hWq.size _)) (first | (go_at_call 43; refine (HCA.out _ (Below.refl W9.heap.size W9).drew).mono ?_; rintro e wq ⟨rfl, hbq, hWq⟩) | (go_at_call 43; refine (HCA.out _ ((Below.refl W9.heap.size W9).alloc (Nat.le_refl _) (Obj.cells #[.int .i64 0, .int .i64 0] 51)).drew).mono ?_; rintro e wq ⟨rfl, hbq, hWq⟩; have kbx := (hbq.block W9.heap.size (show W9.heap.size < (W9.alloc (Obj.cells #[.int .i64 0, .int .i64 0] 51)).heap.size by simp)).trans (Go.heap_alloc_new W9 (Obj.cells #[.int .i64 0, .int .i64 0] 51)); have KBX := Lib.hid kbx; have bx0 := block_cell (i := 0) kbx rfl; have bx1 := block_cell (i := 1) kbx rfl; have fbx0 : wq.frozen? ⟨W9.heap.size, 0, none⟩ = false := (by simp [World.frozen?, kbx]); have fbx1 : wq.frozen? ⟨W9.heap.size, 1, none⟩ = false := (by simp [World.frozen?, kbx])))
      all_goals
        first
        | (obtain ⟨Wz, hWz⟩ : ∃ Wz, Wz = wq.alloc (Obj.cells #[.int .i64 D.c, .int .i64 D.s] 51) := ⟨_, rfl⟩
           obtain ⟨bx, hbx⟩ : ∃ bx, bx = wq.heap.size := ⟨_, rfl⟩
           simp only [← hWz]
           simp only [← hbx]
           have hbW : Below W9.heap.size W9 Wz := by rw [hWz]; exact hWq.alloc hWq.size _
           have hdx : Wz.heap[bx]? = some (Obj.cells #[.int .i64 D.c, .int .i64 D.s] 51) := by rw [hWz, hbx]; exact Go.heap_alloc_new wq (Obj.cells #[.int .i64 D.c, .int .i64 D.s] 51)
           have hbxl : W9.heap.size ≤ bx := by rw [hbx]; exact hWq.size
           clear hWz hbx)
        | (obtain ⟨Wz, hWz⟩ : ∃ Wz, Wz = (wq.setCell ⟨W9.heap.size, 0, none⟩ (.int .i64 D.c)).setCell ⟨W9.heap.size, 1, none⟩ (.int .i64 D.s) := ⟨_, rfl⟩
           obtain ⟨bx, hbx⟩ : ∃ bx, bx = W9.heap.size := ⟨_, rfl⟩
           simp only [← hWz]
           have hbW : Below W9.heap.size W9 Wz := by rw [hWz]; exact (hWq.setCell (p := ⟨_, 0, none⟩) (Nat.le_refl _) _).setCell (p := ⟨_, 1, none⟩) (Nat.le_refl _) _
           have hdx : Wz.heap[bx]? = some (Obj.cells #[.int .i64 D.c, .int .i64 D.s] 51) := by rw [hWz, hbx]; exact Joins.block_setCell (i := 1) (Joins.block_setCell (i := 0) KBX.out (.int .i64 D.c)) (.int .i64 D.s)
           have hbxl : W9.heap.size ≤ bx := Nat.le_of_eq hbx.symm
           simp only [← hbx]
           clear hWz hbx bx0 bx1 fbx0 fbx1)
      all_goals
        have HBW := Lib.hid hbW; have HDX := Lib.hid hdx
        have HSz := Lib.hid (HS9.out.below (hbW.trans ((Below.refl Wz.heap.size Wz).drew.mono hbW.size)))
        have HFz := Lib.hid (HF9.out.trans (FrS.of_below (hbW.trans ((Below.refl Wz.heap.size Wz).drew.mono hbW.size)) (Nat.le_of_lt hbl)))
        have hkx := (hbW.block _ hlt0).trans K0.out
        have z3 : Wz.cell? ⟨w.heap.size, 3, none⟩ = some (.slice (some ⟨bb, oo, none⟩) n cp) := block_cell hkx rfl
        have d0 : Wz.cell? ⟨bx, 0, none⟩ = some (.int .i64 D.c) := block_cell hdx rfl
        have d1 : Wz.cell? ⟨bx, 1, none⟩ = some (.int .i64 D.s) := block_cell hdx rfl
        have pz := keepCells hbW _ _ _ p1'
        have HKX := Lib.hid hkx; have PZ := Lib.hid pz
        have HKZ := Lib.hid (show Wz.drew.cell? ⟨w.heap.size, 3, none⟩ = some (.slice (some ⟨bb, oo, none⟩) n cp) ∧ Wz.drew.cell? ⟨bx, 0, none⟩ = some (.int .i64 D.c) ∧ Wz.drew.cell? ⟨bx, 1, none⟩ = some (.int .i64 D.s) ∧ Wz.drew.cell? ⟨bb, oo + I * 2 + 1, none⟩ = some (.slice va vn vc) from ⟨block_cell (w := Wz.drew) hkx rfl, block_cell (w := Wz.drew) hdx rfl, block_cell (w := Wz.drew) hdx rfl, pz⟩)
        have HKZF := Lib.hid (show ∀ Y, FrS b Wz.drew Y → (Y.cell? ⟨w.heap.size, 3, none⟩ = some (.slice (some ⟨bb, oo, none⟩) n cp) ∧ Y.cell? ⟨bx, 0, none⟩ = some (.int .i64 D.c) ∧ Y.cell? ⟨bx, 1, none⟩ = some (.int .i64 D.s) ∧ Y.cell? ⟨bb, oo + I * 2 + 1, none⟩ = some (.slice va vn vc)) from fun Y hf => by
          have e0 := hf.tf _ _ _ _ HKX.out (by decide) (by omega)
          have e1 := hf.tf _ _ _ _ HDX.out (by decide) (by omega)
          refine ⟨block_cell e0 rfl, block_cell e1 rfl, block_cell e1 rfl, ?_⟩
          rw [hf.below.cell (p := ⟨bb, _, none⟩) hbbl]
          exact PZ.out)
        clear y0 y1 y2 y3 g2 g3 s0 s1 s2 s3 s4 p1' hdx hkx pz hbW HS9 HF9 HKS HCA hWq hbq
        go_upto_region 16 with fail
        go_region_held3 (fun w' => w'.cell? ⟨w.heap.size, 3, none⟩ = some (.slice (some ⟨bb, oo, none⟩) n cp) ∧ w'.cell? ⟨bx, 0, none⟩ = some (.int .i64 D.c) ∧ w'.cell? ⟨bx, 1, none⟩ = some (.int .i64 D.s) ∧ w'.cell? ⟨bb, oo + I * 2 + 1, none⟩ = some (.slice va vn vc)) (first | exact HKZ.out | exact HKZF.out _ hf1) (first | (go_at_call 16; refine (HSAY.out _ HSz.out).mono ?_; rintro e w1 ⟨rfl, hs1, hf1⟩; have HS1 := Lib.hid hs1; have HF1 := Lib.hid (HFz.out.trans hf1)))
        all_goals
          go_wp2_with fail
          go_ret
          exact ⟨by rw [HO.out]; rfl, by rw [HO.out]; exact HS1.out, HF1.out⟩
    · rw [if_pos hL] at hone4
      have HO := Lib.hid hone4
      have hce := fun W (hW : Below W9.heap.size W9 W) => (case_err 4 f x a n cp z o tw fe ma g.d.c s' W (by rw [← hgd]; exact hd) hff (by rw [← hgd]; exact hL)).mono (fun e w' h => (⟨h.1, h.2, hW.trans (h.2.mono hW.size)⟩ : _ ∧ _ ∧ Below W9.heap.size W9 w'))
      rw [← hgd, errVal_no hL] at hce
      have HFIN := Lib.hid (show ∀ X, Below W9.heap.size W9 X → Spk z o tw fe ma mb b (l ++ []) X ∧ FrS b w X from fun X h => ⟨by rw [List.append_nil]; exact (HS9.out.below h).spk, HF9.out.trans (FrS.of_below h (Nat.le_of_lt hbl))⟩)
      have HQ := Lib.hid (errVal_no hL)
      generalize (lessD g.d f).2 = q at *
      have HCA := Lib.hid hce
      unfold dcV at HCA
      unfold setV at HCA
      clear HIH HSV HOK hnil hokc hcs hnl hfr hwc hcl hkl hz hn hw hl g1 g4 hhc hn0 m0 m1 hd h1ok hff hs' hgd hce hone4 hL hk9 hx9 hx92 HSET HS9 HF9
      go_upto_region 13 with fail
      go_region_held3 (fun w' => w'.cell? ⟨w.heap.size, 0, none⟩ = some (.int .i64 4) ∧ w'.cell? ⟨w.heap.size, 1, none⟩ = some (.string ⟨x.toArray⟩) ∧ w'.cell? ⟨w.heap.size, 2, none⟩ = some (.int .i64 f) ∧ w'.cell? ⟨w.heap.size, 3, none⟩ = some (.slice a n cp) ∧ w'.cell? ⟨w.heap.size + 1 + 1, 2, none⟩ = some (.int .i64 g.d.c) ∧ w'.cell? ⟨w.heap.size + 1 + 1, 3, none⟩ = some (.int .i64 g.d.s) ∧ w'.cell? ⟨b, 0, none⟩ = some (.string ⟨z.toArray⟩) ∧ w'.cell? ⟨b, 1, none⟩ = some (.string ⟨o.toArray⟩) ∧ w'.cell? ⟨b, 2, none⟩ = some (.string ⟨tw.toArray⟩) ∧ w'.cell? ⟨b, 3, none⟩ = some (.string ⟨fe.toArray⟩) ∧ w'.cell? ⟨b, 4, none⟩ = some (.string ⟨ma.toArray⟩)) (first | exact HKS.out _ (Below.refl W9.heap.size W9).drew | exact HKS.out _ hWq | exact HKS.out _ ((Below.refl W9.heap.size W9).alloc (Nat.le_refl _) _).drew | exact HKS.out _ ((Below.refl W9.heap.size W9).drew.alloc (Nat.le_refl _) _) | exact HKS.out _ (hWq.alloc hWq.size _) | exact HKS.out _ ((hWq.setCell (p := ⟨_, 0, none⟩) (Nat.le_refl _) _).setCell (p := ⟨_, 1, none⟩) (Nat.le_refl _) _) | exact HKS.out _ (((hWq.alloc hWq.size _).setCell (p := ⟨_, 0, none⟩) hWq.size _).setCell (p := ⟨_, 1, none⟩) hWq.size _)) (first | (go_at_call 43; refine (HCA.out _ (Below.refl W9.heap.size W9).drew).mono ?_; rintro e wq ⟨rfl, hbq, hWq⟩) | (go_at_call 43; refine (HCA.out _ ((Below.refl W9.heap.size W9).alloc (Nat.le_refl _) (Obj.cells #[.int .i64 0, .int .i64 0] 51)).drew).mono ?_; rintro e wq ⟨rfl, hbq, hWq⟩; have kbx := (hbq.block W9.heap.size (show W9.heap.size < (W9.alloc (Obj.cells #[.int .i64 0, .int .i64 0] 51)).heap.size by simp)).trans (Go.heap_alloc_new W9 (Obj.cells #[.int .i64 0, .int .i64 0] 51)); have KBX := Lib.hid kbx; have bx0 := block_cell (i := 0) kbx rfl; have bx1 := block_cell (i := 1) kbx rfl; have fbx0 : wq.frozen? ⟨W9.heap.size, 0, none⟩ = false := (by simp [World.frozen?, kbx]); have fbx1 : wq.frozen? ⟨W9.heap.size, 1, none⟩ = false := (by simp [World.frozen?, kbx])))
      all_goals
        go_wp2_with fail
        go_ret
        refine ⟨by rw [HO.out, HQ.out]; rfl, ?_⟩
        rw [HO.out]
        first
        | exact HFIN.out _ (hWq.alloc hWq.size _)
        | exact HFIN.out _ ((hWq.setCell (p := ⟨_, 0, none⟩) (Nat.le_refl _) _).setCell (p := ⟨_, 1, none⟩) (Nat.le_refl _) _)
end Go.Proofs.YtnefcilopgcdpaaGreatDoor
