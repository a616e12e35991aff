/-
  The reader of messages, behind a pointer: cut, need, word.
-/
import Derived.Test.YtgkphpjnfigjiaaGreatDoorPparse
import Derived.Test.YtgkphpjnfigjiaaGreatDoorKey
import Derived.Test.YtgkphpjnfigjiaaGreatDoorIdx
import Derived.Lib.BufferOwn
import Derived.Lib.SmallJoins
namespace Go.Proofs.YtgkphpjnfigjiaaGreatDoor
open Go.RowKit Ms

/-- a reader in a world: the text that is left, how deep it is -/
def At (w : World) (rb : Nat) (s : List UInt8) (d : Int) : Prop := w.heap[rb]? = some (.cells #[.string ⟨s.toArray⟩, .int .i64 d] 56)
theorem At.c0 {w : World} {rb : Nat} {s : List UInt8} {d : Int} (h : At w rb s d) : w.cell? ⟨rb, 0, none⟩ = some (.string ⟨s.toArray⟩) := by
  unfold At at h; simp [World.cell?, h]
theorem At.c1 {w : World} {rb : Nat} {s : List UInt8} {d : Int} (h : At w rb s d) : w.cell? ⟨rb, 1, none⟩ = some (.int .i64 d) := by
  unfold At at h; simp [World.cell?, h]
theorem At.fz {w : World} {rb : Nat} {s : List UInt8} {d : Int} (h : At w rb s d) (i : Nat) : w.frozen? ⟨rb, i, none⟩ = false := by
  unfold At at h; simp [World.frozen?, h]
theorem At.lt {w : World} {rb : Nat} {s : List UInt8} {d : Int} (h : At w rb s d) : rb < w.heap.size := cellLt h.c0
theorem At.set0 {w : World} {rb : Nat} {s s' : List UInt8} {d : Int} (h : At w rb s d) : At (w.setCell ⟨rb, 0, none⟩ (.string ⟨s'.toArray⟩)) rb s' d := by
  have := Joins.block_setCell (i := 0) h (.string ⟨s'.toArray⟩)
  unfold At; rw [this]; rfl
theorem At.set1 {w : World} {rb : Nat} {s : List UInt8} {d d' : Int} (h : At w rb s d) : At (w.setCell ⟨rb, 1, none⟩ (.int .i64 d')) rb s d' := by
  have := Joins.block_setCell (i := 1) h (.int .i64 d')
  unfold At; rw [this]; rfl
theorem At.below {w w' : World} {rb : Nat} {s : List UInt8} {d : Int} (h : At w rb s d) (hb : Below w.heap.size w w') : At w' rb s d := by
  unfold At; rw [hb.block rb h.lt]; exact h
/-- all but the reader (and one more) stays, what is new is new -/
theorem keeps_refl (w : World) (row : Option Nat) : w.grownBy w row := ⟨rfl, rfl, rfl, Nat.le_refl _, fun _ _ _ => rfl⟩
theorem keeps_set (w : World) (b i : Nat) (v : Value) : w.grownBy (w.setCell ⟨b, i, none⟩ v) (some b) := Lib.grownBy_setCell w b i v
theorem keeps_below {w w' w'' : World} {row : Option Nat} (h : w.grownBy w' row) (hb : Below w'.heap.size w' w'') : w.grownBy w'' row := Lib.grownBy_trans h (grown_of_below hb row)

theorem pre_some {h s r : List UInt8} (e : pre h s = some r) : Lib.hasPrefix s h = true ∧ Lib.trimPrefix s h = r := by
  unfold pre at e
  split at e
  · rename_i hp
    cases e
    exact ⟨hp, by unfold Lib.trimPrefix; rw [if_pos (show Lib.hasPrefix s h = true from hp)]⟩
  · cases e
theorem pre_none {h s : List UInt8} (e : pre h s = none) : Lib.hasPrefix s h = false ∧ Lib.trimPrefix s h = s := by
  unfold pre at e
  split at e
  · cases e
  · rename_i hp
    have hf : Lib.hasPrefix s h = false := by unfold Lib.hasPrefix; exact Bool.eq_false_iff.2 hp
    exact ⟨hf, by unfold Lib.trimPrefix; rw [hf]; rfl⟩
theorem Tryz.cutPrefix (s h : List UInt8) (w : World) :
    Calls Tryz.prog 70 #[.string ⟨s.toArray⟩, .string ⟨h.toArray⟩] w fun e w' => e = .returned (.tuple #[.string ⟨(Lib.trimPrefix s h).toArray⟩, .bool (Lib.hasPrefix s h)]) ∧ w' = w := Tryz.strings_CutPrefix ⟨s.toArray⟩ ⟨h.toArray⟩ w

set_option maxRecDepth 100000 in
/-- cut, where the head is there -/
theorem cut_yes (rb : Nat) (s h r : List UInt8) (d : Int) (w : World) (hp : pre h s = some r) (hA : At w rb s d) :
    Calls Tryz.prog 43 #[.pointer (some ⟨rb, 0, none⟩), .string ⟨h.toArray⟩] w fun e w' => e = .returned (.bool true) ∧ w.grownBy w' (some rb) ∧ At w' rb r d := by
  obtain ⟨h1, h2⟩ := pre_some hp
  have hc := Tryz.cutPrefix s h w
  rw [h1, h2] at hc
  have HC := Lib.hid hc; have HA := Lib.hid hA
  have c0 := hA.c0; have fz := hA.fz 0
  clear hc hp h1 h2 hA
  go_enter Tryz.func43, Tryz.ntmps43
  go_wp2_with fail
  refine HC.out.mono ?_
  rintro e w1 ⟨rfl, rfl⟩
  go_wp2_with fail
  go_ret
  exact ⟨rfl, keeps_set _ _ _ _, HA.out.set0⟩
set_option maxRecDepth 100000 in
theorem cut_no (rb : Nat) (s h : List UInt8) (d : Int) (w : World) (hp : pre h s = none) (hA : At w rb s d) :
    Calls Tryz.prog 43 #[.pointer (some ⟨rb, 0, none⟩), .string ⟨h.toArray⟩] w fun e w' => e = .returned (.bool false) ∧ w' = w := by
  obtain ⟨h1, h2⟩ := pre_none hp
  have hc := Tryz.cutPrefix s h w
  rw [h1, h2] at hc
  have HC := Lib.hid hc
  have c0 := hA.c0; have fz := hA.fz 0
  clear hc hp h1 h2 hA
  go_enter Tryz.func43, Tryz.ntmps43
  go_wp2_with fail
  refine HC.out.mono ?_
  rintro e w1 ⟨rfl, rfl⟩
  go_wp2_with fail
  go_ret
  exact ⟨rfl, rfl⟩

/-- the panic of what is no message -/
def formP : Ending := .panicked [{ v := .iface 37 (.int .i64 3), recovered := false }]
set_option maxRecDepth 100000 in
theorem need_yes (rb : Nat) (s h r : List UInt8) (d : Int) (w : World) (hp : pre h s = some r) (hA : At w rb s d) :
    Calls Tryz.prog 73 #[.pointer (some ⟨rb, 0, none⟩), .string ⟨h.toArray⟩] w fun e w' => e = .returned (.tuple #[]) ∧ w.grownBy w' (some rb) ∧ At w' rb r d := by
  have HC := Lib.hid (cut_yes rb s h r d w hp hA)
  clear hp hA
  go_enter Tryz.func73, Tryz.ntmps73
  go_wp2_with fail
  refine HC.out.mono ?_
  rintro e w1 ⟨rfl, hg, hA⟩
  go_wp2_with fail
  go_end0
  exact ⟨rfl, hg, hA⟩
set_option maxRecDepth 100000 in
theorem need_no (rb : Nat) (s h : List UInt8) (d : Int) (w : World) (hp : pre h s = none) (hA : At w rb s d) :
    Calls Tryz.prog 73 #[.pointer (some ⟨rb, 0, none⟩), .string ⟨h.toArray⟩] w fun e w' => e = formP ∧ w' = w := by
  have HC := Lib.hid (cut_no rb s h d w hp hA)
  clear hp hA
  go_enter Tryz.func73, Tryz.ntmps73
  go_wp2_with fail
  refine HC.out.mono ?_
  rintro e w1 ⟨rfl, rfl⟩
  go_wp2_with fail
  exact ⟨rfl, rfl, rfl⟩

theorem upto_index (cs : List UInt8) : ∀ (s : List UInt8), (upto (fun c => cs.contains c) s = none → Lib.indexAny s cs = -1) ∧ (∀ x r, upto (fun c => cs.contains c) s = some (x, r) → Lib.indexAny s cs = x.length ∧ s = x ++ r) := by
  intro s
  induction s with
  | nil => exact ⟨fun _ => rfl, fun x r h => by simp [upto] at h⟩
  | cons a l ih =>
    by_cases ha : cs.contains a = true
    · have e : upto (fun c => cs.contains c) (a :: l) = some ([], a :: l) := by
        unfold upto
        rw [List.dropWhile_cons_of_neg (by simp; simpa using ha), List.takeWhile_cons_of_neg (by simp; simpa using ha)]
      refine ⟨(fun h => by rw [e] at h; cases h), fun x r h => ?_⟩
      rw [e] at h; cases h
      exact ⟨by rw [Lib.indexAny, if_pos ha]; rfl, rfl⟩
    · have hd : (a :: l).dropWhile (fun c => !cs.contains c) = l.dropWhile (fun c => !cs.contains c) := List.dropWhile_cons_of_pos (by simpa using ha)
      have ht : (a :: l).takeWhile (fun c => !cs.contains c) = a :: l.takeWhile (fun c => !cs.contains c) := List.takeWhile_cons_of_pos (by simpa using ha)
      have e : upto (fun c => cs.contains c) (a :: l) = (upto (fun c => cs.contains c) l).map fun p => (a :: p.1, p.2) := by
        unfold upto
        rw [hd, ht]
        cases l.dropWhile (fun c => !cs.contains c) <;> rfl
      refine ⟨fun h => ?_, fun x r h => ?_⟩
      · rw [e] at h
        have h0 : upto (fun c => cs.contains c) l = none := by simpa using h
        rw [Lib.indexAny, if_neg ha, ih.1 h0]; rfl
      · rw [e] at h
        cases h0 : upto (fun c => cs.contains c) l with
        | none => rw [h0] at h; cases h
        | some p =>
          rw [h0] at h
          cases h
          obtain ⟨i1, i2⟩ := ih.2 p.1 p.2 (by rw [h0])
          refine ⟨?_, by rw [List.cons_append, ← i2]⟩
          rw [Lib.indexAny, if_neg ha, i1, if_neg (by simp)]
          rfl

/-- word: up to one of some signs -/
def IdxSays (cs : List UInt8) : Prop := ∀ (s : ByteArray) (w : World), s.size ≤ 2000000 → Calls Tryz.prog 97 #[.string s, .string ⟨cs.toArray⟩] w fun e w' => e = .returned (.int .i64 (Lib.indexAny s.data.toList cs)) ∧ Below w.heap.size w w'
theorem idx_two (a b : UInt8) (ha : a.toNat < 128) (hb : b.toNat < 128) : IdxSays [a, b] := fun s w hs =>
  Tryz.indexAny s ⟨#[a, b]⟩ w (by show 2 ≤ 2; decide) (by show 2 < 4294967281; decide) (by omega) (fun j c hc => by
    have hm : c ∈ [a, b] := List.mem_of_getElem? hc
    simp at hm; rcases hm with rfl | rfl <;> assumption)
theorem idx_one (a : UInt8) (ha : a.toNat < 128) : IdxSays [a] := fun s w _ =>
  (Tryz.strings_IndexAny_one s ⟨#[a]⟩ w rfl (fun j c hc => by
    have hm : c ∈ [a] := List.mem_of_getElem? hc
    simp at hm; subst hm; exact ha)).mono fun _ _ h => ⟨h.1, h.2 ▸ Below.refl _ _⟩
set_option maxRecDepth 100000 in
theorem word_yes (rb : Nat) (s cs x r : List UInt8) (d : Int) (w : World) (hi : IdxSays cs) (hl : s.length ≤ 2000000) (hp : upto (fun c => cs.contains c) s = some (x, r)) (hA : At w rb s d) :
    Calls Tryz.prog 71 #[.pointer (some ⟨rb, 0, none⟩), .string ⟨cs.toArray⟩] w fun e w' => e = .returned (.string ⟨x.toArray⟩) ∧ w.grownBy w' (some rb) ∧ At w' rb r d := by
  obtain ⟨h1, h2⟩ := (upto_index cs s).2 x r hp
  have hsz : (⟨s.toArray⟩ : ByteArray).size = s.length := by have h2 := Lib.size_eq (⟨s.toArray⟩ : ByteArray); simpa using h2
  have hc := hi ⟨s.toArray⟩ w (by omega)
  have e1 : Lib.indexAny (⟨s.toArray⟩ : ByteArray).data.toList cs = (x.length : Int) := h1
  rw [e1] at hc
  have hxl : x.length ≤ s.length := by rw [h2]; simp
  have hx : ¬ (x.length : Int) < 0 := by omega
  have t1 : (⟨s.toArray⟩ : ByteArray).extract 0 x.length = ⟨x.toArray⟩ := by
    apply ByteArray.ext
    rw [ByteArray.data_extract]
    simp [h2]
  have t2 : (⟨s.toArray⟩ : ByteArray).extract x.length s.length = ⟨r.toArray⟩ := by
    apply ByteArray.ext
    rw [ByteArray.data_extract]
    simp [h2]
  have HC := Lib.hid hc; have HA := Lib.hid hA
  have HT1 := Lib.hid t1; have HT2 := Lib.hid t2
  have c0 := hA.c0; have fz := hA.fz 0
  clear hc hp h1 h2 hA e1 t1 t2
  go_enter Tryz.func71, Tryz.ntmps71
  go_wp2_with fail
  refine HC.out.mono ?_
  rintro e w1 ⟨rfl, hb⟩
  have HA1 := Lib.hid (HA.out.below hb)
  have c1 := HA1.out.c0; have fz1 := HA1.out.fz 0
  have HB := Lib.hid hb
  clear hb c0 fz
  go_wp2_with fail
  go_ret
  refine ⟨?_, Lib.grownBy_trans (grown_of_below HB.out _) (keeps_set _ _ _ _), ?_⟩
  · show Ending.returned (.string ((⟨s.toArray⟩ : ByteArray).extract 0 x.length)) = _
    rw [HT1.out]
  · rw [HT2.out]; exact HA1.out.set0
set_option maxRecDepth 100000 in
theorem word_no (rb : Nat) (s cs : List UInt8) (d : Int) (w : World) (hi : IdxSays cs) (hl : s.length ≤ 2000000) (hp : upto (fun c => cs.contains c) s = none) (hA : At w rb s d) :
    Calls Tryz.prog 71 #[.pointer (some ⟨rb, 0, none⟩), .string ⟨cs.toArray⟩] w fun e w' => e = formP ∧ w.grownBy w' (some rb) ∧ At w' rb s d := by
  have h1 := (upto_index cs s).1 hp
  have hsz : (⟨s.toArray⟩ : ByteArray).size = s.length := by have h2 := Lib.size_eq (⟨s.toArray⟩ : ByteArray); simpa using h2
  have hc := hi ⟨s.toArray⟩ w (by omega)
  have e1 : Lib.indexAny (⟨s.toArray⟩ : ByteArray).data.toList cs = -1 := h1
  rw [e1] at hc
  have HC := Lib.hid hc; have HA := Lib.hid hA
  have c0 := hA.c0; have fz := hA.fz 0
  clear hc hp h1 hA e1
  go_enter Tryz.func71, Tryz.ntmps71
  go_wp2_with fail
  refine HC.out.mono ?_
  rintro e w1 ⟨rfl, hb⟩
  have HA1 := Lib.hid (HA.out.below hb)
  have HB := Lib.hid hb
  clear hb c0 fz
  go_wp2_with fail
  exact ⟨rfl, rfl, keeps_below (keeps_refl _ _) HB.out, HA1.out⟩
end Go.Proofs.YtgkphpjnfigjiaaGreatDoor
