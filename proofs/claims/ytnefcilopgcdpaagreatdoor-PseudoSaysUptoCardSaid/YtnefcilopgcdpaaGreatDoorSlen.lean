/-
  The speaker: a strings.Builder within a struct: copyCheck, WriteString, String at its offset.
  eval.speaker.number.
  How long what is said of a number is.
-/
import Derived.Test.YtnefcilopgcdpaaGreatDoorNadd
import Derived.Lib.AppendStr
import Derived.Lib.UnsafeStr
import Derived.Test.YtnefcilopgcdpaaGreatDoorFormt
import Derived.Test.YtnefcilopgcdpaaGreatDoorKind
namespace Go.Proofs.YtnefcilopgcdpaaGreatDoor
open Go.RowKit Ms

/-- what the calls of a speaker leave as it was: all below its block, and each later block that holds no bytes -/
def TS (b : Nat) (W W' : World) : Prop := ∀ (k : Nat) (cs : Array Value) (t : TypeId) (f : Nat × Nat), W.heap[k]? = some (.cells cs t f) → t ≠ 5 → k ≠ b → W'.heap[k]? = some (.cells cs t f)
structure FrS (b : Nat) (W W' : World) : Prop where
  below : Below b W W'
  tf : TS b W W'
theorem FrS.refl (b : Nat) (W : World) : FrS b W W := ⟨Below.refl _ _, fun _ _ _ _ h _ _ => h⟩
theorem FrS.trans {b : Nat} {A B C : World} (h : FrS b A B) (g : FrS b B C) : FrS b A C := ⟨h.below.trans g.below, fun k cs t f hk ht hl => g.tf k cs t f (h.tf k cs t f hk ht hl) ht hl⟩
theorem FrS.of_below {b : Nat} {A B : World} (h : Below A.heap.size A B) (hl : b ≤ A.heap.size) : FrS b A B := ⟨h.mono hl, fun k _ _ _ hk _ _ => (h.block k (Array.getElem?_eq_some_iff.1 hk).1).trans hk⟩
theorem FrS.set {b j : Nat} {A B : World} (h : FrS b A B) (u : Value) : FrS b A (B.setCell ⟨b, j, none⟩ u) := ⟨h.below.setCell (Nat.le_refl _) _, fun k cs t f hk ht hl => (heap_setCell_other B ⟨b, j, none⟩ k u hl).trans (h.tf k cs t f hk ht hl)⟩
theorem FrS.row {b n : Nat} {A B C : World} {v : Value} {xs : List Value} (h : FrS b A B) (hr : B.ownsRow b 5 1 v n xs) (hB : b ≤ B.heap.size) (hg : B.grownBy C v.ownBlock) : FrS b A C := by
  refine ⟨below_grown h.below hg (fun k e => (hr.lt k e).1) hB, fun k cs t f hk ht hl => ?_⟩
  have hk2 := h.tf k cs t f hk ht hl
  exact (hg.block k (Array.getElem?_eq_some_iff.1 hk2).1 (fun e => own_ne hr hk2 ht e.symm)).trans hk2
/-- the speaker at block b: it has written l -/
def Spk (z o t f m : List UInt8) (mb b : Nat) (l : List UInt8) (W : World) : Prop :=
  ∃ p v, (p = .pointer none ∨ p = .pointer (some ⟨b, 6, none⟩)) ∧ W.heap[b]? = some (.cells #[.string ⟨z.toArray⟩, .string ⟨o.toArray⟩, .string ⟨t.toArray⟩, .string ⟨f.toArray⟩, .string ⟨m.toArray⟩, .map (some mb), p, v] 47) ∧ W.ownsRow b 5 1 v l.length (Lib.byteCells l) ∧ (l = [] → v = .slice none 0 0)
theorem Spk.lt {z o t f m : List UInt8} {mb b : Nat} {l : List UInt8} {W : World} (h : Spk z o t f m mb b l W) : b < W.heap.size := by
  obtain ⟨p, v, _, h, _⟩ := h
  exact (Array.getElem?_eq_some_iff.1 h).1
theorem Spk.below {z o t f m : List UInt8} {mb b : Nat} {l : List UInt8} {W W' : World} (h : Spk z o t f m mb b l W) (hb : Below W.heap.size W W') : Spk z o t f m mb b l W' := by
  obtain ⟨p, v, hp, hk, hr, hn⟩ := h
  exact ⟨p, v, hp, (hb.block b (Array.getElem?_eq_some_iff.1 hk).1).trans hk, owns_below hr hb, hn⟩
theorem ptrBld : Tryz.prog.underlying 42 = some (.pointer 45) := by kernel_rfl
theorem unsBld : Tryz.prog.underlying 100 = some .unsafePointer := by kernel_rfl
theorem infoBld : (Tryz.prog.info? 45).map (·.size) = some 2 := by kernel_rfl
theorem liesSpk : liesAt Tryz.prog Tryz.prog.depth 47 (8 / Tryz.prog.cellsOf 47) 6 45 1 = true := by kernel_rfl
set_option maxRecDepth 100000 in
set_option maxHeartbeats 2000000 in
theorem ccheck_any (z o t f m : List UInt8) (mb b : Nat) (l : List UInt8) (w : World) (h : Spk z o t f m mb b l w) :
    Calls Tryz.prog 34 #[.pointer (some ⟨b, 6, none⟩)] w fun e w' => e = .returned (.tuple #[]) ∧ Spk z o t f m mb b l w' ∧ FrS b w w' := by
  obtain ⟨p, v, hp, hk, hr, hn⟩ := h
  have HN := Lib.hid hn
  clear hn
  have c6 : w.cell? ⟨b, 6, none⟩ = some p := block_cell hk rfl
  have fz6 : w.frozen? ⟨b, 6, none⟩ = false := by simp [World.frozen?, hk]
  have hb8 := Lib.hid (Joins.block_setCell (i := 6) hk (.pointer (some ⟨b, 6, none⟩)))
  have HR := Lib.hid hr; have HK := Lib.hid hk
  have hne := Lib.hid (own_ne hr hk (by decide))
  have hsh : w.shape? b = some (47, 8) := by simp [World.shape?, hk]
  obtain ⟨j, hj, hjs⟩ := Option.map_eq_some_iff.1 infoBld
  rcases hp with rfl | rfl
  · clear hk hr
    go_enter Tryz.func34, Tryz.ntmps34
    go_wp2
    rw [Lib.run_to_unsafe w ⟨b, 6, none⟩ ptrBld unsBld hj (by rw [hjs]; decide) hsh (show (6 : Nat) < 8 by omega)]
    simp only [Result.andThen]
    rw [Oper.upon_value]
    go_wp2
    rw [run_callFunc_extern Tryz.func52 (by kernel_rfl) (by kernel_rfl) (by kernel_rfl) (e := Extern.AbiNoEscape.same) (by kernel_rfl)]
    rw [Lib.run_noEscape]
    simp only [Result.andThen]
    rw [Oper.upon_value]
    go_wp2
    rw [Lib.run_from_unsafe w ⟨b, 6, none⟩ unsBld ptrBld hj hsh liesSpk]
    simp only [Result.andThen]
    rw [Oper.upon_value]
    go_wp2
    go_end0
    exact ⟨rfl, ⟨_, v, .inr rfl, hb8.out, row_set HR.out hne.out, HN.out⟩, (FrS.refl b w).set _⟩
  · clear hk hr
    go_enter Tryz.func34, Tryz.ntmps34
    go_wp2
    rw [Lib.run_neq_ptr_same w _ ptrBld hj]
    go_wp2
    go_end0
    exact ⟨rfl, ⟨_, v, .inr rfl, HK.out, HR.out, HN.out⟩, FrS.refl b w⟩
theorem infoByt : (Tryz.prog.info? 5).map (fun i => (i.zero, i.size, i.bytes)) = some (some (.int .u8 0), 1, 1) := by kernel_rfl
theorem strCells_eq (l : List UInt8) : Lib.strCells ⟨l.toArray⟩ = Lib.byteCells l := rfl
set_option maxRecDepth 100000 in
set_option maxHeartbeats 2000000 in
theorem wstr_any (z o t f m : List UInt8) (mb b : Nat) (l s : List UInt8) (w : World) (h : Spk z o t f m mb b l w) (hl : l.length + s.length ≤ 100000000000) :
    Calls Tryz.prog 32 #[.pointer (some ⟨b, 6, none⟩), .string ⟨s.toArray⟩] w fun e w' => e = .returned (.tuple #[.int .i64 s.length, .nilIface]) ∧ Spk z o t f m mb b (l ++ s) w' ∧ FrS b w w' := by
  obtain ⟨i0, hi, hz0, hz1, hz2⟩ := info_parts infoByt
  have HC := Lib.hid (ccheck_any z o t f m mb b l w h)
  have hsz : (⟨s.toArray⟩ : ByteArray).size = s.length := by simp [ByteArray.size]
  clear h
  go_enter Tryz.func32, Tryz.ntmps32
  go_wp2_with fail
  refine HC.out.mono ?_
  rintro e w1 ⟨rfl, ⟨p, v, hp, hk, hr, hn⟩, hF⟩
  have hlt : b < w1.heap.size := (Array.getElem?_eq_some_iff.1 hk).1
  have c7 : w1.cell? ⟨b, 7, none⟩ = some v := block_cell hk rfl
  have HF := Lib.hid hF; have HK := Lib.hid hk; have HR := Lib.hid hr; have HP := Lib.hid hp
  have hne := Lib.hid (own_ne hr hk (by decide))
  clear HC hF hk hr hp
  go_wp2_with (at_builtin; go_loud (refine Lib.wpList_append_own_string _ rfl _ _ _ _ rfl b 5 i0 (by kernel_rfl) (by kernel_rfl) hi hz0 hz1 hz2 _ _ _ rfl HR.out ⟨s.toArray⟩ rfl ?c3 ?c4 ?c5 ?_))
  case c3 => rw [hsz]; unfold maxLen; omega
  case c4 => rw [hsz]; omega
  case c5 => omega
  intro v' w2 hown' hgrow hnil
  have HNL := Lib.hid (show l ++ s = [] → v' = .slice none 0 0 from fun e => hnil.2 ⟨hn (List.append_eq_nil_iff.1 e).1, by first | exact (List.append_eq_nil_iff.1 e).2 | (rw [hsz, (List.append_eq_nil_iff.1 e).2]; rfl)⟩)
  clear hnil hn
  have hk2 := (hgrow.block b hlt (fun e => hne.out e.symm)).trans HK.out
  have d7 : w2.cell? ⟨b, 7, none⟩ = some v := block_cell hk2 rfl
  have f7 : w2.frozen? ⟨b, 7, none⟩ = false := by simp [World.frozen?, hk2]
  have HF2 := Lib.hid (HF.out.row HR.out (by omega) hgrow)
  have HR2 := Lib.hid hown'
  have HB2 := Lib.hid (Joins.block_setCell (i := 7) hk2 v')
  have hne2 := Lib.hid (own_ne hown' hk2 (by decide))
  obtain ⟨ao, n', cap, rfl⟩ : ∃ ao n' cap, v' = .slice ao n' cap := by
    obtain ⟨a, c, h, _⟩ := row_form hown'
    exact ⟨_, _, _, h⟩
  clear hown' hgrow hk2
  go_wp2
  go_ret2
  refine ⟨rfl, ⟨p, _, HP.out, HB2.out, ?_, HNL.out⟩, HF2.out.set _⟩
  have := row_set (k := b) (i := 7) (u := .slice ao n' cap) HR2.out hne2.out
  have e : l.length + (⟨s.toArray⟩ : ByteArray).size = (l ++ s).length := by rw [hsz, List.length_append]
  rw [Lib.byteCells_append, ← e]
  exact this
theorem ptrByt : Tryz.prog.underlying 84 = some (.pointer 5) := by kernel_rfl
theorem cellsByt : Tryz.prog.cellsOf 5 = 1 := by kernel_rfl
set_option maxRecDepth 100000 in
set_option maxHeartbeats 2000000 in
theorem bstr_some (z o t f m : List UInt8) (mb b : Nat) (l : List UInt8) (w : World) (h : Spk z o t f m mb b l w) (h0 : l ≠ []) :
    Calls Tryz.prog 17 #[.pointer (some ⟨b, 6, none⟩)] w fun e w' => e = .returned (.string ⟨l.toArray⟩) ∧ Below b w w' := by
  obtain ⟨p, v, hp, hbk, hown, _⟩ := h
  have hl0 : l.length ≠ 0 := by simpa using h0
  obtain ⟨g, cap, cur, rfl, hbg, hg, hnc, hcm, hcs, htake⟩ : ∃ g cap cur, v = .slice (some ⟨g, 0, none⟩) l.length cap ∧ b ≤ g ∧ w.heap[g]? = some (.cells cur 5) ∧ l.length ≤ cap ∧ cap ≤ maxLen ∧ cur.size = cap * 1 ∧ cur.toList.take (l.length * 1) = Lib.byteCells l := by
    rcases hown.2 with ⟨_, hz⟩ | ⟨g, cap, cur, hv, r⟩
    · exact absurd hz hl0
    · exact ⟨g, cap, cur, hv, r⟩
  have c7 : w.drew.cell? ⟨b, 7, none⟩ = some (.slice (some ⟨g, 0, none⟩) l.length cap) := block_cell (w := w.drew) (i := 7) hbk rfl
  have hSD : (Builtin.unsafeSliceData_ #[43] 84 #[.slice (some ⟨g, 0, none⟩) l.length cap]).run Tryz.prog w.drew = .ok (.pointer (some ⟨g, 0, none⟩)) w.drew :=
    Lib.run_unsafeSliceData_row _ _ _ _ _ _ (by omega)
  have hUS : (Builtin.unsafeString_ #[84, 3] 9 #[.pointer (some ⟨g, 0, none⟩), .int .i64 l.length]).run Tryz.prog w.drew = .ok (.string ⟨l.toArray⟩) (w.drew.freeze ⟨g, 0, none⟩ l.length) := by
    refine Lib.run_unsafeString_row w.drew _ _ _ 5 ptrByt cellsByt g cur.size (by have hg' : w.drew.heap[g]? = some (.cells cur 5) := hg; simp [World.shape?, hg']) l h0 (by omega) (by unfold maxLen at hcm; omega) ?_
    intro j x hx
    have := hown.cells (g := g) rfl j (.int .u8 x.toNat) (by simp [Lib.byteCells, hx])
    exact this
  have HB := Lib.hid (Lib.below_freeze (Below.drew (Below.refl b w)) (p := ⟨g, 0, none⟩) hbg l.length)
  clear hown hg hp hbk
  go_enter Tryz.func17, Tryz.ntmps17
  go_wp2
  go_region
  all_goals (go_wp2; go_ret; exact ⟨rfl, HB.out⟩)
set_option maxRecDepth 100000 in
set_option maxHeartbeats 2000000 in
theorem bstr_any (z o t f m : List UInt8) (mb b : Nat) (l : List UInt8) (w : World) (h : Spk z o t f m mb b l w) :
    Calls Tryz.prog 17 #[.pointer (some ⟨b, 6, none⟩)] w fun e w' => e = .returned (.string ⟨l.toArray⟩) ∧ Below b w w' := by
  by_cases h0 : l = []
  · subst h0
    obtain ⟨p, v, hp, hbk, _, hn⟩ := h
    obtain rfl := hn rfl
    have hUS := fun (W : World) (q : Option Addr) => Lib.run_unsafeString_none (P := Tryz.prog) W 84 3 9 q
    have c7 : w.drew.cell? ⟨b, 7, none⟩ = some (.slice none 0 0) := block_cell (w := w.drew) (i := 7) hbk rfl
    have hSD : (Builtin.unsafeSliceData_ #[43] 84 #[.slice none 0 0]).run Tryz.prog w.drew = .ok (.pointer none) w.drew := rfl
    clear hp hbk hn
    go_enter Tryz.func17, Tryz.ntmps17
    go_wp2
    go_region
    all_goals (go_wp2; go_ret; exact ⟨rfl, Below.drew (Below.refl b w)⟩)
  · exact bstr_some z o t f m mb b l w h h0
end Go.Proofs.YtnefcilopgcdpaaGreatDoor
namespace Go.Proofs.YtnefcilopgcdpaaGreatDoor
open Go.RowKit Ms

/-- the package variables that saying reads -/
structure Gl (w : World) : Prop where
  mw : MW w
  mx : MaxAt w
  ev : EvAt w
  pl : PlAt w
theorem Gl.below {w w' : World} (h : Gl w) (hb : RowKit.Below w.heap.size w w') : Gl w' := ⟨h.mw.below hb, h.mx.keep h.mx.lt hb, h.ev.below hb, h.pl.below hb⟩
set_option maxRecDepth 100000 in
set_option maxHeartbeats 1000000 in
theorem number_any (z o t f m : List UInt8) (mb b : Nat) (l : List UInt8) (d : Dc) (w0 w : World) (h : Spk z o t f m mb b l w) (hg : Gl w0) (hb0 : RowKit.Below w0.heap.size w0 w) (hl : l.length + (fmtD d).1.length ≤ 100000000000) :
    Calls Tryz.prog 42 #[.pointer (some ⟨b, 0, none⟩), dcV d] w fun e w' => e = .returned (errVal (fmtD d).2) ∧ Spk z o t f m mb b (l ++ (fmtD d).1) w' ∧ FrS b w w' := by
  have hlt := h.lt
  have hba := (RowKit.Below.refl w.heap.size w).alloc (Nat.le_refl _) (Obj.cells #[.int .i64 d.c, .int .i64 d.s] 51)
  have HGW := Lib.hid ((hg.below hb0).below hba)
  have HN := Lib.hid (fun W (g : Gl W) => numeral_any d W g.mw g.mx g.ev)
  have HW := Lib.hid (fun W s h hl => wstr_any z o t f m mb b l s W h hl)
  have HS := Lib.hid (h.below hba)
  have HF := Lib.hid (FrS.of_below hba (Nat.le_of_lt hlt))
  clear h hg hb0 hba
  generalize fmtD d = q at *
  obtain ⟨q1, q2⟩ := q
  dsimp only at hl HN ⊢
  have HL := Lib.hid hl
  clear hl
  unfold dcV at *
  go_enter Tryz.func42, Tryz.ntmps42
  go_wp2_with fail
  refine (HN.out _ HGW.out).mono ?_
  rintro e w1 ⟨rfl, hb⟩
  have HS1 := Lib.hid (HS.out.below hb)
  have HF1 := Lib.hid (HF.out.trans (FrS.of_below hb (Nat.le_of_lt HS.out.lt)))
  clear hb HS HF
  go_wp2_with fail
  refine (HW.out _ _ HS1.out HL.out).mono ?_
  rintro e w2 ⟨rfl, hs2, hf2⟩
  have HS2 := Lib.hid hs2; have HF2 := Lib.hid (HF1.out.trans hf2)
  clear hs2 hf2
  go_wp2_with fail
  go_ret
  exact ⟨rfl, HS2.out, HF2.out⟩
end Go.Proofs.YtnefcilopgcdpaaGreatDoor
namespace Go.Proofs.YtnefcilopgcdpaaGreatDoor
open Go.RowKit Ms

theorem three_form (c : Int) (s : Nat) (w : World) (h : decBad ⟨c, s⟩ = false) : ∃ (c2 : Int) (s2 : Nat), threeD ⟨c, s⟩ = ⟨c2, s2⟩ ∧ s2 ≤ 9 ∧ c2.natAbs ≤ 1000000000000001 := by
  have hd := dec_ok h
  simp only at hd
  obtain ⟨c1, s1, t1, t2, t3⟩ := trimD_form s c
  have hb1 := decBad_of h t2 t3
  unfold threeD
  simp only [Int.toNat_natCast, t1]
  by_cases h3 : (3 : Int) < (s1 : Int)
  · rw [if_pos h3]
    obtain ⟨cr, r1, r2, _⟩ := round_of c1 s1 w hb1 (by omega)
    rw [r1]
    obtain ⟨c2, s2, q1, q2, q3⟩ := trimD_form 3 cr
    exact ⟨c2, s2, q1, by omega, by omega⟩
  · rw [if_neg h3]
    exact ⟨c1, s1, rfl, by omega, by omega⟩
theorem fmtB_len (x : List UInt8) (h : x.length ≤ 100) : (fmtB x).1.length ≤ 1000 := by
  have hal := cut_len x [46]
  unfold fmtB
  simp only
  split
  · have h1 := putD_len (wholeT (Lib.trimPrefix (Lib.cut x [46]).1 [45]))
    have h2 := Lib.trimPrefix_le (Lib.cut x [46]).1 [45]
    have h3 : (wholeT (Lib.trimPrefix (Lib.cut x [46]).1 [45])).length ≤ 101 := by
      unfold wholeT
      split
      · simp
      · omega
    have h4 : (if Lib.hasPrefix (Lib.cut x [46]).1 [45] = true then [45] else ([] : List UInt8)).length ≤ 1 := by split <;> simp
    have h5 : (if (Lib.cut x [46]).2.1.isEmpty = true then ([] : List UInt8) else [46] ++ (Lib.cut x [46]).2.1).length ≤ 101 := by
      split
      · simp
      · simp only [List.length_append, List.length_singleton]; omega
    simp only [List.length_append]
    omega
  · simp
theorem fmtD_len (d : Dc) (w : World) : (fmtD d).1.length ≤ 1000 := by
  unfold fmtD
  by_cases h : decBad d = true
  · rw [if_pos h]; simp
  · rw [if_neg h]
    have h' : decBad d = false := by simpa using h
    obtain ⟨c, s⟩ := d
    have hd := dec_ok h'
    simp only at hd
    obtain ⟨s', rfl⟩ := Int.eq_ofNat_of_zero_le hd.1.1
    obtain ⟨c2, s2, q1, q2, q3⟩ := three_form c s' w h'
    rw [show threeD ⟨c, (s' : Int)⟩ = ⟨c2, s2⟩ from q1]
    exact fmtB_len _ (textD_len c2 s2 q2 (by omega) (by omega))
end Go.Proofs.YtnefcilopgcdpaaGreatDoor
