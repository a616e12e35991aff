/-
  nout.Format at messages' own pattern and signs.
  nout.Format at messages' own pattern and signs; eval.Numeral.
-/
import Derived.Test.YtnefcilopgcdpaaGreatDoorPut
import Derived.Test.YtnefcilopgcdpaaGreatDoorDtx
import Derived.Test.YtnefcilopgcdpaaGreatDoorParsA
namespace Go.Proofs.YtnefcilopgcdpaaGreatDoor
open Go.RowKit Ms

def patV : Value := .agg #[.string ⟨#[]⟩, .string ⟨#[]⟩, .int .i64 1, .int .i64 0, .int .i64 3, .int .i64 3, .int .i64 0]
def symV : Value := .agg #[.int .u8 46, .int .u8 44]
def patO : Obj := .cells #[.string ⟨#[]⟩, .string ⟨#[]⟩, .int .i64 1, .int .i64 0, .int .i64 3, .int .i64 3, .int .i64 0] 163
def symO : Obj := .cells #[.int .u8 46, .int .u8 44] 165
def letterSet : List UInt8 := [97, 98, 99, 100, 101, 102, 103, 104, 105, 106, 107, 108, 109, 110, 111, 112, 113, 114, 115, 116, 117, 118, 119, 120, 121, 122, 65, 66, 67, 68, 69, 70, 71, 72, 73, 74, 75, 76, 77, 78, 79, 80, 81, 82, 83, 84, 85, 86, 87, 88, 89, 90, 32, 36, 37]
theorem affix_any (w : World) : Calls Tryz.prog 175 #[.string ⟨#[]⟩] w fun e w' => e = .returned (.bool true) ∧ Below w.heap.size w w' := by
  go_enter Tryz.func175, Tryz.ntmps175
  go_wp2_with fail
  refine (Tryz.trim ⟨#[]⟩ ⟨letterSet.toArray⟩ _ (by decide) (by decide) (ascii_of_all (by decide))).mono ?_
  rintro e w1 ⟨rfl, hb⟩
  have HB := Lib.hid hb; clear hb
  go_wp2_with fail
  go_ret
  exact ⟨rfl, HB.out⟩
set_option maxRecDepth 100000 in
set_option maxHeartbeats 2000000 in
theorem npat_any (w : World) : Calls Tryz.prog 142 #[patV] w fun e w' => e = .returned .nilIface ∧ Below w.heap.size w w' := by
  have h0 := Go.heap_alloc_new w patO
  have hB := (Below.refl w.heap.size w).alloc (Nat.le_refl _) patO
  have hz : (w.alloc patO).heap.size = w.heap.size + 1 := by simp
  unfold patV
  go_enter Tryz.func142, Tryz.ntmps142
  have K0 := Lib.hid h0; have KB := Lib.hid hB; have HZ := Lib.hid hz
  clear h0 hB hz
  go_wp2_with fail
  refine (affix_any _).mono ?_
  rintro e w1 ⟨rfl, hb⟩
  have k1 := (hb.block w.heap.size (by have := HZ.out; simp)).trans K0.out
  have y1 : w1.cell? ⟨w.heap.size, 1, none⟩ = some (.string ⟨#[]⟩) := block_cell k1 rfl
  have K1 := Lib.hid k1
  have hs1 : w.heap.size + 1 ≤ w1.heap.size := by have := hb.size; simpa using this
  have KB1 := Lib.hid (KB.out.trans (hb.mono (by simp)))
  clear hb k1
  go_wp2_with fail
  refine (affix_any _).mono ?_
  rintro e w2 ⟨rfl, hb⟩
  have k1 := (hb.block w.heap.size (by omega)).trans K1.out
  have KB2 := Lib.hid (KB1.out.trans (hb.mono (by omega)))
  clear hb K1 KB1 y1
  have y2 : w2.cell? ⟨w.heap.size, 2, none⟩ = some (.int .i64 1) := block_cell k1 rfl
  have y3 : w2.cell? ⟨w.heap.size, 3, none⟩ = some (.int .i64 0) := block_cell k1 rfl
  have y4 : w2.cell? ⟨w.heap.size, 4, none⟩ = some (.int .i64 3) := block_cell k1 rfl
  have y5 : w2.cell? ⟨w.heap.size, 5, none⟩ = some (.int .i64 3) := block_cell k1 rfl
  have y6 : w2.cell? ⟨w.heap.size, 6, none⟩ = some (.int .i64 0) := block_cell k1 rfl
  clear k1
  go_wp2_with fail
  go_ret
  exact ⟨rfl, KB2.out⟩
theorem ncheck_any (w : World) : Calls Tryz.prog 143 #[symV] w fun e w' => e = .returned .nilIface ∧ Below w.heap.size w w' := by
  have HB := Lib.hid ((Below.refl w.heap.size w).alloc (Nat.le_refl _) symO)
  have h1 : Lib.indexByte (⟨#[46, 44, 39, 95]⟩ : ByteArray).data.toList ((46 : Int).toNat.toUInt8) = 0 := by decide
  have h2 : Lib.indexByte (⟨#[46, 44, 39, 95]⟩ : ByteArray).data.toList ((44 : Int).toNat.toUInt8) = 1 := by decide
  have H1 := Lib.hid (fun w => Tryz.strings_IndexByte ⟨#[46, 44, 39, 95]⟩ 46 w)
  have H2 := Lib.hid (fun w => Tryz.strings_IndexByte ⟨#[46, 44, 39, 95]⟩ 44 w)
  rw [h1] at H1
  rw [h2] at H2
  clear h1 h2
  unfold symV
  go_enter Tryz.func143, Tryz.ntmps143
  go_wp2_with fail
  refine (H1.out _).mono ?_
  rintro e w1 ⟨rfl, rfl⟩
  go_wp2_with fail
  refine (H2.out _).mono ?_
  rintro e w1 ⟨rfl, rfl⟩
  go_wp2_with fail
  go_ret
  exact ⟨rfl, HB.out⟩
theorem nocheck_any (w : World) : Calls Tryz.prog 111 #[patV, symV] w fun e w' => e = .returned .nilIface ∧ Below w.heap.size w w' := by
  obtain ⟨h1, h2, h3, h4⟩ := two_boxes w patO symO
  have H2 := Lib.hid h2; have H3 := Lib.hid h3; have H4 := Lib.hid h4
  clear h1 h2 h3 h4
  unfold patV symV
  go_enter Tryz.func111, Tryz.ntmps111
  go_wp2_with fail
  refine (npat_any _).mono ?_
  rintro e w1 ⟨rfl, hb⟩
  have k1 := (hb.block (w.heap.size + 1) (by simp)).trans H2.out
  have y0 : w1.cell? ⟨w.heap.size + 1, 0, none⟩ = some (.int .u8 46) := block_cell k1 rfl
  have y1 : w1.cell? ⟨w.heap.size + 1, 1, none⟩ = some (.int .u8 44) := block_cell k1 rfl
  have KB := Lib.hid (H3.out.trans (hb.mono (by simp; omega)))
  clear hb k1
  go_wp2_with fail
  refine (ncheck_any _).mono ?_
  rintro e w2 ⟨rfl, hb⟩
  have KB2 := Lib.hid (KB.out.trans (hb.mono KB.out.size))
  clear hb
  go_wp2_with fail
  go_ret
  exact ⟨rfl, KB2.out⟩
end Go.Proofs.YtnefcilopgcdpaaGreatDoor
namespace Go.Proofs.YtnefcilopgcdpaaGreatDoor
open Go.RowKit Ms

theorem trimD_form : ∀ (s : Nat) (c : Int), ∃ (c1 : Int) (s1 : Nat), trimD s c = ⟨c1, s1⟩ ∧ s1 ≤ s ∧ c1.natAbs ≤ c.natAbs
  | 0, c => ⟨c, 0, rfl, Nat.le_refl _, Nat.le_refl _⟩
  | s + 1, c => by
    by_cases h : c.tmod 10 = 0
    · obtain ⟨c1, s1, h1, h2, h3⟩ := trimD_form s (c.tdiv 10)
      refine ⟨c1, s1, by rw [trim_step s c h, h1], by omega, ?_⟩
      have := tdiv_bd c c.natAbs (by omega) (by omega) (by omega)
      omega
    · exact ⟨c, s + 1, by rw [trim_stop s c h], Nat.le_refl _, Nat.le_refl _⟩
theorem trimmed_of (c : Int) (s : Nat) (w : World) (hs : s ≤ 9) (hc : c.natAbs ≤ 9000000000000000) :
    ∃ (c1 : Int) (s1 : Nat), trimD s c = ⟨c1, s1⟩ ∧ s1 ≤ s ∧ c1.natAbs ≤ c.natAbs ∧
    Calls Tryz.prog 112 #[.agg #[.int .i64 c, .int .i64 s], .int .i64 0] w fun e w' => e = .returned (.agg #[.int .i64 c1, .int .i64 s1]) ∧ Below w.heap.size w w' := by
  obtain ⟨c1, s1, h1, h2, h3⟩ := trimD_form s c
  refine ⟨c1, s1, h1, h2, h3, (trimmed_any c s w hs (by omega) (by omega)).mono ?_⟩
  rintro e w' ⟨rfl, hb⟩
  exact ⟨by rw [h1]; rfl, hb⟩
theorem nearN_le (n k : Nat) : nearN n k ≤ n + 1 := by
  unfold nearN
  have := Nat.div_le_self n (10 ^ k)
  split <;> omega
theorem round_of (c : Int) (s : Nat) (w : World) (h : decBad ⟨c, s⟩ = false) (h3 : 3 < s) : ∃ c1 : Int, roundD ⟨c, s⟩ = ⟨c1, 3⟩ ∧ c1.natAbs ≤ c.natAbs + 1 ∧
    Calls Tryz.prog 113 #[.agg #[.int .i64 c, .int .i64 s], .int .i64 3, .int .i64 5] w fun e w' => e = .returned (.tuple #[.agg #[.int .i64 c1, .int .i64 3], .nilIface]) ∧ Below w.heap.size w w' := by
  have hle := nearN_le c.natAbs (s - 3)
  by_cases hc : c < 0
  · obtain ⟨n, rfl⟩ : ∃ n : Nat, c = -(n : Int) := ⟨c.natAbs, by omega⟩
    have hn : (-(n : Int)).natAbs = n := by omega
    rw [hn] at hle ⊢
    refine ⟨-(nearN n (s - 3) : Int), ?_, by omega, round_neg n s w h h3 (by omega)⟩
    unfold roundD
    simp only [Int.toNat_natCast, if_pos hc, hn]
  · obtain ⟨n, rfl⟩ : ∃ n : Nat, c = (n : Int) := ⟨c.natAbs, by omega⟩
    have hn : (n : Int).natAbs = n := by omega
    rw [hn] at hle ⊢
    refine ⟨(nearN n (s - 3) : Int), ?_, by omega, round_pos n s w h h3⟩
    unfold roundD
    simp only [Int.toNat_natCast, if_neg hc, hn]
theorem decBad_of {c c1 : Int} {s s1 : Nat} (h : decBad ⟨c, s⟩ = false) (hs : s1 ≤ s) (hc : c1.natAbs ≤ c.natAbs) : decBad ⟨c1, s1⟩ = false := by
  have := dec_ok h
  simp only at this
  unfold decBad
  simp only [Bool.or_eq_false_iff, decide_eq_false_iff_not]
  omega

theorem textD_len (c : Int) (s : Nat) (hs : s ≤ 9) (h0 : -9223372036854775808 ≤ c) (h1 : c ≤ 9223372036854775807) : (textD ⟨c, s⟩).length ≤ 100 := by
  have ha := absT_len c h0 h1
  have hp := padT_len c s
  have hg : (signT c).length ≤ 1 := by unfold signT; split <;> simp
  unfold textD
  split
  · simp only [List.length_append]; omega
  · simp only [List.length_append, List.length_take, List.length_drop, List.length_cons, List.length_nil]; omega
/-- Format's own blocks: the pattern, the signs, the number -/
structure FW (w0 W : World) (c s : Int) : Prop where
  k0 : W.heap[w0.heap.size]? = some patO
  k1 : W.heap[w0.heap.size + 1]? = some symO
  k2 : W.heap[w0.heap.size + 2]? = some (.cells #[.int .i64 c, .int .i64 s] 51)
  kb : Below w0.heap.size w0 W
  sz : w0.heap.size + 3 ≤ W.heap.size
theorem FW.below {w0 W W' : World} {c s : Int} (h : FW w0 W c s) (hb : Below W.heap.size W W') : FW w0 W' c s := by
  have hs := h.sz
  exact ⟨(hb.block _ (by omega)).trans h.k0, (hb.block _ (by omega)).trans h.k1, (hb.block _ (by omega)).trans h.k2, h.kb.trans (hb.mono (by omega)), by have := hb.size; omega⟩
theorem FW.put {w0 W : World} {c s c' s' : Int} (h : FW w0 W c s) : FW w0 ((W.setCell ⟨w0.heap.size + 1 + 1, 0, none⟩ (.int .i64 c')).setCell ⟨w0.heap.size + 1 + 1, 1, none⟩ (.int .i64 s')) c' s' := by
  have ho : ∀ k, k ≠ w0.heap.size + 1 + 1 → ((W.setCell ⟨w0.heap.size + 1 + 1, 0, none⟩ (.int .i64 c')).setCell ⟨w0.heap.size + 1 + 1, 1, none⟩ (.int .i64 s')).heap[k]? = W.heap[k]? := fun k hk =>
    (heap_setCell_other _ ⟨w0.heap.size + 1 + 1, 1, none⟩ k _ hk).trans (heap_setCell_other _ ⟨w0.heap.size + 1 + 1, 0, none⟩ k _ hk)
  refine ⟨(ho _ (by omega)).trans h.k0, (ho _ (by omega)).trans h.k1, Joins.block_setCell (i := 1) (Joins.block_setCell (i := 0) h.k2 _) _, ?_, ?_⟩
  · exact (h.kb.setCell (by show w0.heap.size ≤ w0.heap.size + 1 + 1; omega) _).setCell (by show w0.heap.size ≤ w0.heap.size + 1 + 1; omega) _
  · rw [size_setCell, size_setCell]; exact h.sz
theorem FW.c0 {w0 W : World} {c s : Int} (h : FW w0 W c s) : W.cell? ⟨w0.heap.size + 2, 0, none⟩ = some (.int .i64 c) := block_cell h.k2 rfl
theorem FW.c1 {w0 W : World} {c s : Int} (h : FW w0 W c s) : W.cell? ⟨w0.heap.size + 2, 1, none⟩ = some (.int .i64 s) := block_cell h.k2 rfl
theorem FW.p4 {w0 W : World} {c s : Int} (h : FW w0 W c s) : W.cell? ⟨w0.heap.size, 4, none⟩ = some (.int .i64 3) := block_cell h.k0 rfl
theorem FW.f0 {w0 W : World} {c s : Int} (h : FW w0 W c s) : W.frozen? ⟨w0.heap.size + 2, 0, none⟩ = false := by simp [World.frozen?, h.k2]
theorem FW.f1 {w0 W : World} {c s : Int} (h : FW w0 W c s) : W.frozen? ⟨w0.heap.size + 2, 1, none⟩ = false := by simp [World.frozen?, h.k2]

set_option maxRecDepth 100000 in
set_option maxHeartbeats 1000000 in
theorem format_bad (d : Dc) (w : World) (h : decBad d = true) :
    Calls Tryz.prog 88 #[patV, symV, dcV d] w fun e w' => e = .returned (.tuple #[.string ⟨#[]⟩, .iface 56 (.int .i64 1)]) ∧ Below w.heap.size w w' := by
  obtain ⟨h1, h2, h3, h4, h5⟩ := three_boxes w patO symO (.cells #[.int .i64 d.c, .int .i64 d.s] 51)
  have HH := Lib.hid h; have K2 := Lib.hid h3; have KB := Lib.hid h4; have HZ := Lib.hid h5
  clear h h1 h2 h3 h4 h5
  unfold patV symV dcV
  go_enter Tryz.func88, Tryz.ntmps88
  go_wp2_with fail
  refine (nocheck_any _).mono ?_
  rintro e w1 ⟨rfl, hb⟩
  have k1 := (hb.block (w.heap.size + 2) (by simp)).trans K2.out
  have y0 : w1.cell? ⟨w.heap.size + 2, 0, none⟩ = some (.int .i64 d.c) := block_cell k1 rfl
  have y1 : w1.cell? ⟨w.heap.size + 2, 1, none⟩ = some (.int .i64 d.s) := block_cell k1 rfl
  have KB1 := Lib.hid (KB.out.trans (hb.mono (by simp; omega)))
  clear hb k1
  go_wp2_with fail
  refine (dcheck_bad d _ HH.out).mono ?_
  rintro e w2 ⟨rfl, hb⟩
  have KB2 := Lib.hid (KB1.out.trans (hb.mono KB1.out.size))
  clear hb
  go_wp2_with fail
  go_ret2
  exact ⟨rfl, KB2.out⟩

set_option maxRecDepth 100000 in
set_option maxHeartbeats 8000000 in
theorem format_ok (c : Int) (s : Nat) (w : World) (h : decBad ⟨c, s⟩ = false) (hm : MW w) (hx : MaxAt w) :
    Calls Tryz.prog 88 #[patV, symV, dcV ⟨c, s⟩] w fun e w' => e = .returned (.tuple #[.string ⟨(fmtB (textD (threeD ⟨c, s⟩))).1.toArray⟩, errVal (fmtB (textD (threeD ⟨c, s⟩))).2]) ∧ Below w.heap.size w w' := by
  obtain ⟨h1, h2, h3, h4, h5⟩ := three_boxes w patO symO (.cells #[.int .i64 c, .int .i64 s] 51)
  obtain ⟨R, hR⟩ : ∃ R, R = fmtB (textD (threeD ⟨c, s⟩)) := ⟨_, rfl⟩
  rw [← hR]
  have hd := dec_ok h
  simp only at hd
  obtain ⟨c1, s1, t1, t2, t3⟩ := trimD_form s c
  have hT1 : ∀ w, Calls Tryz.prog 112 #[.agg #[.int .i64 c, .int .i64 s], .int .i64 0] w fun e w' => e = .returned (.agg #[.int .i64 c1, .int .i64 s1]) ∧ Below w.heap.size w w' := fun w => by
    obtain ⟨c1', s1', q1, _, _, q4⟩ := trimmed_of c s w (by omega) (by omega)
    rw [t1] at q1
    simp only [Dc.mk.injEq, Int.natCast_inj] at q1
    obtain ⟨rfl, rfl⟩ := q1
    exact q4
  have hb1 := decBad_of h t2 t3
  have HT1 := Lib.hid hT1
  obtain ⟨c2, s2, hth, hs2, hc2⟩ : ∃ (c2 : Int) (s2 : Nat), threeD ⟨c, s⟩ = ⟨c2, s2⟩ ∧ s2 ≤ 9 ∧ c2.natAbs ≤ 1000000000000001 := by
    unfold threeD
    simp only [Int.toNat_natCast, t1]
    by_cases h3 : (3 : Int) < (s1 : Int)
    · rw [if_pos h3]
      obtain ⟨cr, r1, r2, _⟩ := round_of c1 s1 w hb1 (by omega)
      rw [r1]
      obtain ⟨c2, s2, q1, q2, q3⟩ := trimD_form 3 cr
      exact ⟨c2, s2, q1, by omega, by omega⟩
    · rw [if_neg h3]
      exact ⟨c1, s1, rfl, by omega, by omega⟩
  have HTH := Lib.hid hth
  rw [hth] at hR
  have HR := Lib.hid hR
  have HH := Lib.hid h; have HB1 := Lib.hid hb1; have HT := Lib.hid t1
  have K0 := Lib.hid h1; have K1 := Lib.hid h2; have K2 := Lib.hid h3; have KB := Lib.hid h4; have HZ := Lib.hid h5
  have HM := Lib.hid hm; have HX := Lib.hid hx
  have hs1 : s1 ≤ 9 := by omega
  have hc1 : c1.natAbs ≤ 1000000000000000 := by omega
  clear h hR h1 h2 h3 h4 h5 hm hx hT1 hb1 t1 hth t2 t3
  unfold patV symV dcV
  go_enter Tryz.func88, Tryz.ntmps88
  go_wp2_with fail
  refine (nocheck_any _).mono ?_
  rintro e w1 ⟨rfl, hb⟩
  have F1 : Hid (FW w w1 c s) := Lib.hid (FW.below ⟨K0.out, K1.out, K2.out, KB.out, by rw [← HZ.out]; exact Nat.le_refl _⟩ hb)
  clear hb K0 K1 K2 KB HZ
  have y0 := F1.out.c0
  have y1 := F1.out.c1
  go_wp2_with fail
  refine (dcheck_ok ⟨c, s⟩ _ HH.out).mono ?_
  rintro e w2 ⟨rfl, hb⟩
  have F2 : Hid (FW w w2 c s) := Lib.hid (F1.out.below hb)
  clear hb F1 y0 y1
  have y0 := F2.out.c0
  have y1 := F2.out.c1
  go_wp2_with fail
  refine (HT1.out _).mono ?_
  rintro e w3 ⟨rfl, hb⟩
  have F3 : Hid (FW w w3 c s) := Lib.hid (F2.out.below hb)
  clear hb F2 y0 y1
  have y0 := F3.out.c0
  have y1 := F3.out.c1
  have p4 := F3.out.p4
  have f0 := F3.out.f0
  have f1 := F3.out.f1
  go_upto_if 35 with fail
  have F4 : Hid (FW w ((w3.setCell ⟨w.heap.size + 1 + 1, 0, none⟩ (.int .i64 c1)).setCell ⟨w.heap.size + 1 + 1, 1, none⟩ (.int .i64 s1)) c1 s1) := Lib.hid F3.out.put
  generalize ((w3.setCell ⟨w.heap.size + 1 + 1, 0, none⟩ (.int .i64 c1)).setCell ⟨w.heap.size + 1 + 1, 1, none⟩ (.int .i64 s1)) = w4 at *
  clear F3 y0 y1 p4 f0 f1 HT1
  obtain ⟨bb, hbb⟩ : ∃ bb, bb = decide (3 < s1) := ⟨_, rfl⟩
  have hbi : decide ((3 : Int) < (s1 : Int)) = bb := by rw [hbb]; exact decide_eq_decide.2 (by omega)
  rw [hbi]
  have HBB := Lib.hid hbb; clear hbb hbi
  go_cut [] from 10 (fun wx => Hid (FW w wx c2 s2))
  case first =>
    cases bb with
    | false =>
      have h3 : ¬ 3 < s1 := by simpa using HBB.out.symm
      have he : (⟨c1, (s1 : Int)⟩ : Dc) = ⟨c2, s2⟩ := by
        rw [← HTH.out]; unfold threeD; simp only [Int.toNat_natCast, HT.out]; rw [if_neg (by omega)]
      simp only [Dc.mk.injEq, Int.natCast_inj] at he
      obtain ⟨rfl, rfl⟩ := he
      go_wp2_with fail
      go_meet
      case rel => exact F4
    | true =>
      have h3 : 3 < s1 := by simpa using HBB.out.symm
      obtain ⟨cr, r1, r2, r3⟩ := round_of c1 s1 w4 HB1.out h3
      have he : trimD 3 cr = ⟨c2, (s2 : Int)⟩ := by
        rw [← HTH.out]; unfold threeD; simp only [Int.toNat_natCast, HT.out]; rw [if_pos (by omega), r1]
      have HRn := Lib.hid r3
      have HTr := Lib.hid (fun w => trimmed_any cr 3 w (by omega) (by omega) (by omega))
      rw [he] at HTr
      clear r1 r3 he
      have y0 := F4.out.c0
      have y1 := F4.out.c1
      have p4 := F4.out.p4
      go_wp2_with fail
      refine HRn.out.mono ?_
      rintro e w5 ⟨rfl, hb⟩
      have F5 : Hid (FW w w5 c1 s1) := Lib.hid (F4.out.below hb)
      clear hb F4 y0 y1 p4
      have z0 := F5.out.sz
      go_wp2_with fail
      refine (HTr.out _).mono ?_
      rintro e w6 ⟨rfl, hb⟩
      have F6 : Hid (FW w w6 c1 s1) := Lib.hid ((F5.out.below ((Below.refl _ w5).alloc (Nat.le_refl _) (Obj.cells #[Value.int IntKind.i64 cr, Value.int IntKind.i64 3] 51))).below hb)
      clear hb F5 HTr
      have y0 := F6.out.c0
      have y1 := F6.out.c1
      have f0 := F6.out.f0
      have f1 := F6.out.f1
      unfold dcV
      go_wp2_with fail
      go_meet
      case rel => exact Lib.hid F6.out.put
  case rest =>
    have F := hcut
    clear HH HB1 HT HTH F4 HBB hs1 hc1 hd
    have y0 := F.out.c0
    have y1 := F.out.c1
    obtain ⟨x, hxe⟩ : ∃ x, x = textD ⟨c2, (s2 : Int)⟩ := ⟨_, rfl⟩
    have hxl : x.length ≤ 100 := by rw [hxe]; exact textD_len c2 s2 (by omega) (by omega) (by omega)
    have HTx := Lib.hid (fun w hm => dtext_any c2 s2 w hs2 (by omega) (by omega) hm)
    rw [← hxe] at HR HTx
    clear hxe
    obtain ⟨a, b, f, hab⟩ : ∃ a b f, Lib.cut x [46] = (a, b, f) := ⟨_, _, _, rfl⟩
    have hal := cut_len x [46]
    have HC := Lib.hid (fun w hm => cut_any x [46] w (by omega) hm)
    rw [hab] at hal HC
    have hal1 : a.length ≤ 100 := Nat.le_trans hal.1 hxl
    have hbl1 : b.length ≤ 100 := Nat.le_trans hal.2 hxl
    have hR2 := HR.out
    unfold fmtB at hR2
    rw [hab] at hR2
    try simp only at hR2
    have HCP := Lib.hid (fun w => Tryz.strings_CutPrefix ⟨a.toArray⟩ ⟨#[45]⟩ w)
    rw [show (⟨a.toArray⟩ : ByteArray).data.toList = a from rfl, show (⟨#[45]⟩ : ByteArray).data.toList = [45] from rfl] at HCP
    obtain ⟨u, hu⟩ : ∃ u, u = Lib.trimPrefix a [45] := ⟨_, rfl⟩
    have hul : u.length ≤ 100 := by
      rw [hu]; unfold Lib.trimPrefix; split
      · rw [List.length_drop]; omega
      · exact hal1
    obtain ⟨m, hm⟩ : ∃ m, m = Lib.hasPrefix a [45] := ⟨_, rfl⟩
    rw [← hu, ← hm] at hR2 HCP
    have HR2 := Lib.hid hR2
    clear hab hal hR2 hu hm HR
    go_wp2_with fail
    refine (HTx.out _ (HM.out.below F.out.kb)).mono ?_
    rintro e w5 ⟨rfl, hb⟩
    have F5 : Hid (FW w w5 c2 s2) := Lib.hid (F.out.below hb)
    clear hb F HTx y0 y1
    go_wp2_with fail
    refine (HC.out _ (HX.out.below rfl F5.out.kb)).mono ?_
    rintro e w6 ⟨rfl, hb⟩
    have F6 : Hid (FW w w6 c2 s2) := Lib.hid (F5.out.below hb)
    clear hb F5 HC
    go_wp2_with fail
    refine (HCP.out _).mono ?_
    rintro e w7 ⟨rfl, rfl⟩
    have p2 : w7.cell? ⟨w.heap.size, 2, none⟩ = some (.int .i64 1) := block_cell F6.out.k0 rfl
    have p3 : w7.cell? ⟨w.heap.size, 3, none⟩ = some (.int .i64 0) := block_cell F6.out.k0 rfl
    have hmx : max (0 : Int) (0 - b.length) = 0 := by omega
    have hmx2 : max (0 : Int) (-(b.length : Int)) = 0 := by omega
    go_wp2_with fail
    refine (Tryz.strings_Repeat_zero _ _).mono ?_
    rintro e w8 ⟨rfl, rfl⟩
    clear hmx hmx2
    have hbe : (⟨b.toArray⟩ : ByteArray) ++ ⟨#[]⟩ = ⟨b.toArray⟩ := by apply ByteArray.ext; simp
    obtain ⟨q, hq⟩ : ∃ q, q = wholeT u := ⟨_, rfl⟩
    have hql : q.length ≤ 100 := by
      rw [hq]; unfold wholeT; split
      · simp
      · exact hul
    obtain ⟨n, hn⟩ : ∃ n, n = if u.isEmpty = true then 1 else 0 := ⟨_, rfl⟩
    have hn1 : max (0 : Int) (1 - u.length) = (n : Nat) := by
      rw [hn]
      cases u with
      | nil => rfl
      | cons d l => simp only [List.isEmpty_cons, Bool.false_eq_true, if_false, List.length_cons]; omega
    have hqe : Lib.repeatL [48] n ++ u = q := by
      rw [hq, hn]; unfold wholeT
      cases u with
      | nil => rfl
      | cons d l => rfl
    have hn2 : n ≤ 1 := by rw [hn]; split <;> omega
    have HRp := Lib.hid (fun w => Tryz.strings_Repeat ⟨#[48]⟩ n w (by omega) (by show 1 * n ≤ _; omega))
    rw [← hq] at HR2
    obtain ⟨Z, hZ⟩ : ∃ Z, Z = Lib.repeatL [48] n := ⟨_, rfl⟩
    rw [show (⟨#[48]⟩ : ByteArray).data.toList = [48] from rfl, ← hZ] at HRp
    rw [← hZ] at hqe
    have hZl : Z.length ≤ 100 := by have := congrArg List.length hqe; rw [List.length_append] at this; omega
    have HN1 := Lib.hid hn1
    have hcat : (⟨Z.toArray⟩ : ByteArray) ++ ⟨u.toArray⟩ = ⟨q.toArray⟩ := by rw [← hqe]; apply ByteArray.ext; simp
    clear hq hn hn1 hqe hZ
    go_wp2_with fail
    rw [HN1.out]
    refine (HRp.out _).mono ?_
    rintro e w9 ⟨rfl, hb⟩
    have F9 : Hid (FW w w9 c2 s2) := Lib.hid (F6.out.below hb)
    clear hb F6 HRp p2 p3
    have p5 : w9.cell? ⟨w.heap.size, 5, none⟩ = some (.int .i64 3) := block_cell F9.out.k0 rfl
    have p6 : w9.cell? ⟨w.heap.size, 6, none⟩ = some (.int .i64 0) := block_cell F9.out.k0 rfl
    have r1 : w9.cell? ⟨w.heap.size + 1, 1, none⟩ = some (.int .u8 44) := block_cell F9.out.k1 rfl
    cases hdg : digits q with
    | false =>
      have hRR : R = ([], 3) := by rw [HR2.out, hdg]; rfl
      have HPt := Lib.hid (fun w => put_bad q w (by omega) hdg)
      clear HR2 hdg
      subst hRR
      go_wp2_with fail
      refine (HPt.out _).mono ?_
      rintro e w10 ⟨rfl, hb⟩
      have HBx := Lib.hid (F9.out.kb.trans (hb.mono (by have := F9.out.sz; omega)))
      clear hb
      go_wp2_with fail
      go_ret2
      exact ⟨rfl, HBx.out⟩
    | true =>
      have hpl := putD_len q
      obtain ⟨g, hg⟩ : ∃ g, g = putD q := ⟨_, rfl⟩
      have hRR : R = ((if m = true then [45] else []) ++ (g ++ (if b.isEmpty = true then [] else [46] ++ b)), 0) := by rw [HR2.out, hdg, hg]; rfl
      have HPt := Lib.hid (fun w => put_any q w (by omega) hdg)
      rw [← hg] at HPt hpl
      clear HR2 hdg hg
      subst hRR
      have hgl : g.length ≤ 1000 := by omega
      clear hpl
      go_wp2_with fail
      refine (HPt.out _).mono ?_
      rintro e w10 ⟨rfl, hb⟩
      have F10 : Hid (FW w w10 c2 s2) := Lib.hid (F9.out.below hb)
      clear hb HPt F9 p5 p6 r1
      have r0 : w10.cell? ⟨w.heap.size + 1, 0, none⟩ = some (.int .u8 46) := block_cell F10.out.k1 rfl
      have q0 : w10.cell? ⟨w.heap.size, 0, none⟩ = some (.string ⟨#[]⟩) := block_cell F10.out.k0 rfl
      have q1 : w10.cell? ⟨w.heap.size, 1, none⟩ = some (.string ⟨#[]⟩) := block_cell F10.out.k0 rfl
      have hgl2 : w.heap.size < w10.heap.size := by have := F10.out.sz; omega
      cases b with
      | nil =>
        cases m with
        | true =>
          go_wp2_with fail
          go_ret2
          refine ⟨?_, F10.out.kb⟩
          exact congrArg (fun b => Ending.returned (.tuple #[.string b, .nilIface])) (by apply ByteArray.ext; simp)
        | false =>
          go_wp2_with fail
          go_ret2
          refine ⟨?_, F10.out.kb⟩
          exact congrArg (fun b => Ending.returned (.tuple #[.string b, .nilIface])) (by apply ByteArray.ext; simp)
      | cons d l =>
        have hcv := run_convert_bytes_arg (P := Tryz.prog) (w10.alloc (Obj.cells #[Value.int IntKind.u8 46] 5)) 43 5 Tryz.underlying43 Tryz.underlying5 w10.heap.size 0 1 1 [46] rfl (by
          intro i hi
          obtain rfl : i = 0 := by omega
          exact block_cell (Go.heap_alloc_new w10 _) rfl) 9 Tryz.underlying9
        rw [show strOfNums [46] = ⟨#[46]⟩ from rfl] at hcv
        have hBl := Lib.hid (F10.out.kb.alloc F10.out.kb.size (Obj.cells #[Value.int IntKind.u8 46] 5))
        obtain ⟨bl, hbl⟩ : ∃ bl, bl = d :: l := ⟨_, rfl⟩
        have hbn : bl.isEmpty = false := by rw [hbl]; rfl
        have hbl2 : bl.length ≤ 100 := by rw [hbl]; exact hbl1
        have hbn2 : (!bl.isEmpty) = true := by rw [hbn]; rfl
        rw [← hbl] at hbe ⊢
        have HBL := Lib.hid hbl
        clear hbl hbl1
        cases m with
        | true =>
          go_wp2_with fail
          go_ret2
          refine ⟨?_, hBl.out⟩
          exact congrArg (fun b => Ending.returned (.tuple #[.string b, .nilIface])) (by rw [HBL.out]; apply ByteArray.ext; simp)
        | false =>
          go_wp2_with fail
          go_ret2
          refine ⟨?_, hBl.out⟩
          exact congrArg (fun b => Ending.returned (.tuple #[.string b, .nilIface])) (by rw [HBL.out]; apply ByteArray.ext; simp)
theorem format_any (d : Dc) (w : World) (hm : MW w) (hx : MaxAt w) :
    Calls Tryz.prog 88 #[patV, symV, dcV d] w fun e w' => e = .returned (.tuple #[.string ⟨(fmtD d).1.toArray⟩, errVal (fmtD d).2]) ∧ Below w.heap.size w w' := by
  unfold fmtD
  cases h : decBad d with
  | true => exact format_bad d w h
  | false =>
    obtain ⟨c, s⟩ := d
    have hd := dec_ok h
    simp only at hd
    obtain ⟨t, rfl⟩ : ∃ t : Nat, s = t := ⟨s.toNat, by omega⟩
    exact format_ok c t w h hm hx
/-- eval's own variables -/
structure EvAt (w : World) : Prop where
  p0 : w.cell? ⟨3, 0, none⟩ = some (.string ⟨#[]⟩)
  p1 : w.cell? ⟨3, 1, none⟩ = some (.string ⟨#[]⟩)
  p2 : w.cell? ⟨3, 2, none⟩ = some (.int .i64 1)
  p3 : w.cell? ⟨3, 3, none⟩ = some (.int .i64 0)
  p4 : w.cell? ⟨3, 4, none⟩ = some (.int .i64 3)
  p5 : w.cell? ⟨3, 5, none⟩ = some (.int .i64 3)
  p6 : w.cell? ⟨3, 6, none⟩ = some (.int .i64 0)
  s0 : w.cell? ⟨4, 0, none⟩ = some (.int .u8 46)
  s1 : w.cell? ⟨4, 1, none⟩ = some (.int .u8 44)
theorem EvAt.below {w w' : World} (h : EvAt w) (hb : Below w.heap.size w w') : EvAt w' :=
  have kc := keepCells hb
  ⟨kc _ _ _ h.p0, kc _ _ _ h.p1, kc _ _ _ h.p2, kc _ _ _ h.p3, kc _ _ _ h.p4, kc _ _ _ h.p5, kc _ _ _ h.p6, kc _ _ _ h.s0, kc _ _ _ h.s1⟩
theorem numeral_any (d : Dc) (w : World) (hm : MW w) (hx : MaxAt w) (he : EvAt w) :
    Calls Tryz.prog 65 #[dcV d] w fun e w' => e = .returned (.tuple #[.string ⟨(fmtD d).1.toArray⟩, errVal (fmtD d).2]) ∧ Below w.heap.size w w' := by
  have HF := Lib.hid (fun w hm hx => format_any d w hm hx)
  have HM := Lib.hid hm; have HX := Lib.hid hx; have HE := Lib.hid he
  clear hm hx he
  unfold dcV patV symV at HF
  unfold dcV
  go_enter Tryz.func65, Tryz.ntmps65
  have q0 := HE.out.p0
  have q1 := HE.out.p1
  have q2 := HE.out.p2
  have q3 := HE.out.p3
  have q4 := HE.out.p4
  have q5 := HE.out.p5
  have q6 := HE.out.p6
  have r0 := HE.out.s0
  have r1 := HE.out.s1
  have g3 : 3 < w.heap.size := cellLt HE.out.p0
  have g4 : 4 < w.heap.size := cellLt HE.out.s0
  have hB := (Below.refl w.heap.size w).alloc (Nat.le_refl _) (Obj.cells #[Value.int IntKind.i64 d.c, Value.int IntKind.i64 d.s] 51)
  have HB := Lib.hid hB; clear hB
  go_wp2_with fail
  refine (HF.out _ (HM.out.below HB.out) (HX.out.below rfl HB.out)).mono ?_
  rintro e w1 ⟨rfl, hb⟩
  have HB1 := Lib.hid (HB.out.trans (hb.mono HB.out.size))
  clear hb
  go_wp2_with fail
  go_ret2
  exact ⟨rfl, HB1.out⟩
end Go.Proofs.YtnefcilopgcdpaaGreatDoor
