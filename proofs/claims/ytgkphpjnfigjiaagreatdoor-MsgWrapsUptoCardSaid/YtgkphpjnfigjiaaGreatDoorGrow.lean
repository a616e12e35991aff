/-
  The reader of messages, behind a pointer: cut, need, word.
  Messages that a call builds: trees all of whose blocks fulfil a condition; what was appended so far.
  The reader of messages: cases, by what a message of a shorter text is.
-/
import Derived.Test.YtgkphpjnfigjiaaGreatDoorBase
import Derived.Test.YtgkphpjnfigjiaaGreatDoorKey
import Derived.Test.YtgkphpjnfigjiaaGreatDoorLex
import Derived.Lib.BufferOwn
import Derived.Lib.SmallJoins
import Derived.Deep.AppendLies
namespace Go.Proofs.YtgkphpjnfigjiaaGreatDoor
open Go.RowKit Ms

/-- a reader in a world: the text that is left, how deep it is -/
def At (w : World) (rb : Nat) (s : List UInt8) (d : Int) : Prop := w.heap[rb]? = some (.cells #[.string ⟨s.toArray⟩, .int .i64 d] 56)
theorem At.c0 {w : World} {rb : Nat} {s : List UInt8} {d : Int} (h : At w rb s d) : w.cell? ⟨rb, 0, none⟩ = some (.string ⟨s.toArray⟩) := by
  unfold At at h; simp [World.cell?, h]
theorem At.c1 {w : World} {rb : Nat} {s : List UInt8} {d : Int} (h : At w rb s d) : w.cell? ⟨rb, 1, none⟩ = some (.int .i64 d) := by
  unfold At at h; simp [World.cell?, h]
theorem At.fz {w : World} {rb : Nat} {s : List UInt8} {d : Int} (h : At w rb s d) (i : Nat) : w.frozen? ⟨rb, i, none⟩ = false := by
  unfold At at h; simp [World.frozen?, h]
theorem At.lt {w : World} {rb : Nat} {s : List UInt8} {d : Int} (h : At w rb s d) : rb < w.heap.size := cellLt h.c0
theorem At.set0 {w : World} {rb : Nat} {s s' : List UInt8} {d : Int} (h : At w rb s d) : At (w.setCell ⟨rb, 0, none⟩ (.string ⟨s'.toArray⟩)) rb s' d := by
  have := Joins.block_setCell (i := 0) h (.string ⟨s'.toArray⟩)
  unfold At; rw [this]; rfl
theorem At.set1 {w : World} {rb : Nat} {s : List UInt8} {d d' : Int} (h : At w rb s d) : At (w.setCell ⟨rb, 1, none⟩ (.int .i64 d')) rb s d' := by
  have := Joins.block_setCell (i := 1) h (.int .i64 d')
  unfold At; rw [this]; rfl
theorem At.below {w w' : World} {rb : Nat} {s : List UInt8} {d : Int} (h : At w rb s d) (hb : Below w.heap.size w w') : At w' rb s d := by
  unfold At; rw [hb.block rb h.lt]; exact h
/-- all but the reader (and one more) stays, what is new is new -/
theorem keeps_refl (w : World) (row : Option Nat) : w.grownBy w row := ⟨rfl, rfl, rfl, Nat.le_refl _, fun _ _ _ => rfl⟩
theorem keeps_set (w : World) (b i : Nat) (v : Value) : w.grownBy (w.setCell ⟨b, i, none⟩ v) (some b) := Lib.grownBy_setCell w b i v
theorem keeps_below {w w' w'' : World} {row : Option Nat} (h : w.grownBy w' row) (hb : Below w'.heap.size w' w'') : w.grownBy w'' row := Lib.grownBy_trans h (grown_of_below hb row)

theorem pre_some {h s r : List UInt8} (e : pre h s = some r) : Lib.hasPrefix s h = true ∧ Lib.trimPrefix s h = r := by
  unfold pre at e
  split at e
  · rename_i hp
    cases e
    exact ⟨hp, by unfold Lib.trimPrefix; rw [if_pos (show Lib.hasPrefix s h = true from hp)]⟩
  · cases e
theorem pre_none {h s : List UInt8} (e : pre h s = none) : Lib.hasPrefix s h = false ∧ Lib.trimPrefix s h = s := by
  unfold pre at e
  split at e
  · cases e
  · rename_i hp
    have hf : Lib.hasPrefix s h = false := by unfold Lib.hasPrefix; exact Bool.eq_false_iff.2 hp
    exact ⟨hf, by unfold Lib.trimPrefix; rw [hf]; rfl⟩
theorem Tryz.cutPrefix (s h : List UInt8) (w : World) :
    Calls Tryz.prog 70 #[.string ⟨s.toArray⟩, .string ⟨h.toArray⟩] w fun e w' => e = .returned (.tuple #[.string ⟨(Lib.trimPrefix s h).toArray⟩, .bool (Lib.hasPrefix s h)]) ∧ w' = w := Tryz.strings_CutPrefix ⟨s.toArray⟩ ⟨h.toArray⟩ w

set_option maxRecDepth 100000 in
/-- cut, where the head is there -/
theorem cut_yes (rb : Nat) (s h r : List UInt8) (d : Int) (w : World) (hp : pre h s = some r) (hA : At w rb s d) :
    Calls Tryz.prog 43 #[.pointer (some ⟨rb, 0, none⟩), .string ⟨h.toArray⟩] w fun e w' => e = .returned (.bool true) ∧ w.grownBy w' (some rb) ∧ At w' rb r d := by
  obtain ⟨h1, h2⟩ := pre_some hp
  have hc := Tryz.cutPrefix s h w
  rw [h1, h2] at hc
  have HC := Lib.hid hc; have HA := Lib.hid hA
  have c0 := hA.c0; have fz := hA.fz 0
  clear hc hp h1 h2 hA
  go_enter Tryz.func43, Tryz.ntmps43
  go_wp2_with fail
  refine HC.out.mono ?_
  rintro e w1 ⟨rfl, rfl⟩
  go_wp2_with fail
  go_ret
  exact ⟨rfl, keeps_set _ _ _ _, HA.out.set0⟩
set_option maxRecDepth 100000 in
theorem cut_no (rb : Nat) (s h : List UInt8) (d : Int) (w : World) (hp : pre h s = none) (hA : At w rb s d) :
    Calls Tryz.prog 43 #[.pointer (some ⟨rb, 0, none⟩), .string ⟨h.toArray⟩] w fun e w' => e = .returned (.bool false) ∧ w' = w := by
  obtain ⟨h1, h2⟩ := pre_none hp
  have hc := Tryz.cutPrefix s h w
  rw [h1, h2] at hc
  have HC := Lib.hid hc
  have c0 := hA.c0; have fz := hA.fz 0
  clear hc hp h1 h2 hA
  go_enter Tryz.func43, Tryz.ntmps43
  go_wp2_with fail
  refine HC.out.mono ?_
  rintro e w1 ⟨rfl, rfl⟩
  go_wp2_with fail
  go_ret
  exact ⟨rfl, rfl⟩

/-- the panic of what is no message -/
def formP : Ending := .panicked [{ v := .iface 37 (.int .i64 3), recovered := false }]
set_option maxRecDepth 100000 in
theorem need_yes (rb : Nat) (s h r : List UInt8) (d : Int) (w : World) (hp : pre h s = some r) (hA : At w rb s d) :
    Calls Tryz.prog 73 #[.pointer (some ⟨rb, 0, none⟩), .string ⟨h.toArray⟩] w fun e w' => e = .returned (.tuple #[]) ∧ w.grownBy w' (some rb) ∧ At w' rb r d := by
  have HC := Lib.hid (cut_yes rb s h r d w hp hA)
  clear hp hA
  go_enter Tryz.func73, Tryz.ntmps73
  go_wp2_with fail
  refine HC.out.mono ?_
  rintro e w1 ⟨rfl, hg, hA⟩
  go_wp2_with fail
  go_end0
  exact ⟨rfl, hg, hA⟩
set_option maxRecDepth 100000 in
theorem need_no (rb : Nat) (s h : List UInt8) (d : Int) (w : World) (hp : pre h s = none) (hA : At w rb s d) :
    Calls Tryz.prog 73 #[.pointer (some ⟨rb, 0, none⟩), .string ⟨h.toArray⟩] w fun e w' => e = formP ∧ w' = w := by
  have HC := Lib.hid (cut_no rb s h d w hp hA)
  clear hp hA
  go_enter Tryz.func73, Tryz.ntmps73
  go_wp2_with fail
  refine HC.out.mono ?_
  rintro e w1 ⟨rfl, rfl⟩
  go_wp2_with fail
  exact ⟨rfl, rfl, rfl⟩

theorem upto_index (cs : List UInt8) : ∀ (s : List UInt8), (upto (fun c => cs.contains c) s = none → Lib.indexAny s cs = -1) ∧ (∀ x r, upto (fun c => cs.contains c) s = some (x, r) → Lib.indexAny s cs = x.length ∧ s = x ++ r) := by
  intro s
  induction s with
  | nil => exact ⟨fun _ => rfl, fun x r h => by simp [upto] at h⟩
  | cons a l ih =>
    by_cases ha : cs.contains a = true
    · have e : upto (fun c => cs.contains c) (a :: l) = some ([], a :: l) := by
        unfold upto
        rw [List.dropWhile_cons_of_neg (by simp; simpa using ha), List.takeWhile_cons_of_neg (by simp; simpa using ha)]
      refine ⟨(fun h => by rw [e] at h; cases h), fun x r h => ?_⟩
      rw [e] at h; cases h
      exact ⟨by rw [Lib.indexAny, if_pos ha]; rfl, rfl⟩
    · have hd : (a :: l).dropWhile (fun c => !cs.contains c) = l.dropWhile (fun c => !cs.contains c) := List.dropWhile_cons_of_pos (by simpa using ha)
      have ht : (a :: l).takeWhile (fun c => !cs.contains c) = a :: l.takeWhile (fun c => !cs.contains c) := List.takeWhile_cons_of_pos (by simpa using ha)
      have e : upto (fun c => cs.contains c) (a :: l) = (upto (fun c => cs.contains c) l).map fun p => (a :: p.1, p.2) := by
        unfold upto
        rw [hd, ht]
        cases l.dropWhile (fun c => !cs.contains c) <;> rfl
      refine ⟨fun h => ?_, fun x r h => ?_⟩
      · rw [e] at h
        have h0 : upto (fun c => cs.contains c) l = none := by simpa using h
        rw [Lib.indexAny, if_neg ha, ih.1 h0]; rfl
      · rw [e] at h
        cases h0 : upto (fun c => cs.contains c) l with
        | none => rw [h0] at h; cases h
        | some p =>
          rw [h0] at h
          cases h
          obtain ⟨i1, i2⟩ := ih.2 p.1 p.2 (by rw [h0])
          refine ⟨?_, by rw [List.cons_append, ← i2]⟩
          rw [Lib.indexAny, if_neg ha, i1, if_neg (by simp)]
          rfl

/-- word: up to one of some signs -/
def IdxSays (cs : List UInt8) : Prop := ∀ (s : ByteArray) (w : World), s.size ≤ 2100000 → Calls Tryz.prog 97 #[.string s, .string ⟨cs.toArray⟩] w fun e w' => e = .returned (.int .i64 (Lib.indexAny s.data.toList cs)) ∧ Below w.heap.size w w'
theorem idx_two (a b : UInt8) (ha : a.toNat < 128) (hb : b.toNat < 128) : IdxSays [a, b] := fun s w hs =>
  Tryz.indexAny s ⟨#[a, b]⟩ w (by show 2 ≤ 2; decide) (by show 2 < 4294967281; decide) (by omega) (fun j c hc => by
    have hm : c ∈ [a, b] := List.mem_of_getElem? hc
    simp at hm; rcases hm with rfl | rfl <;> assumption)
theorem idx_one (a : UInt8) (ha : a.toNat < 128) : IdxSays [a] := fun s w _ =>
  (Tryz.strings_IndexAny_one s ⟨#[a]⟩ w rfl (fun j c hc => by
    have hm : c ∈ [a] := List.mem_of_getElem? hc
    simp at hm; subst hm; exact ha)).mono fun _ _ h => ⟨h.1, h.2 ▸ Below.refl _ _⟩
set_option maxRecDepth 100000 in
theorem word_yes (rb : Nat) (s cs x r : List UInt8) (d : Int) (w : World) (hi : IdxSays cs) (hl : s.length ≤ 2100000) (hp : upto (fun c => cs.contains c) s = some (x, r)) (hA : At w rb s d) :
    Calls Tryz.prog 71 #[.pointer (some ⟨rb, 0, none⟩), .string ⟨cs.toArray⟩] w fun e w' => e = .returned (.string ⟨x.toArray⟩) ∧ w.grownBy w' (some rb) ∧ At w' rb r d := by
  obtain ⟨h1, h2⟩ := (upto_index cs s).2 x r hp
  have hsz : (⟨s.toArray⟩ : ByteArray).size = s.length := by have h2 := Lib.size_eq (⟨s.toArray⟩ : ByteArray); simpa using h2
  have hc := hi ⟨s.toArray⟩ w (by omega)
  have e1 : Lib.indexAny (⟨s.toArray⟩ : ByteArray).data.toList cs = (x.length : Int) := h1
  rw [e1] at hc
  have hxl : x.length ≤ s.length := by rw [h2]; simp
  have hx : ¬ (x.length : Int) < 0 := by omega
  have t1 : (⟨s.toArray⟩ : ByteArray).extract 0 x.length = ⟨x.toArray⟩ := by
    apply ByteArray.ext
    rw [ByteArray.data_extract]
    simp [h2]
  have t2 : (⟨s.toArray⟩ : ByteArray).extract x.length s.length = ⟨r.toArray⟩ := by
    apply ByteArray.ext
    rw [ByteArray.data_extract]
    simp [h2]
  have HC := Lib.hid hc; have HA := Lib.hid hA
  have HT1 := Lib.hid t1; have HT2 := Lib.hid t2
  have c0 := hA.c0; have fz := hA.fz 0
  clear hc hp h1 h2 hA e1 t1 t2
  go_enter Tryz.func71, Tryz.ntmps71
  go_wp2_with fail
  refine HC.out.mono ?_
  rintro e w1 ⟨rfl, hb⟩
  have HA1 := Lib.hid (HA.out.below hb)
  have c1 := HA1.out.c0; have fz1 := HA1.out.fz 0
  have HB := Lib.hid hb
  clear hb c0 fz
  go_wp2_with fail
  go_ret
  refine ⟨?_, Lib.grownBy_trans (grown_of_below HB.out _) (keeps_set _ _ _ _), ?_⟩
  · show Ending.returned (.string ((⟨s.toArray⟩ : ByteArray).extract 0 x.length)) = _
    rw [HT1.out]
  · rw [HT2.out]; exact HA1.out.set0
set_option maxRecDepth 100000 in
theorem word_no (rb : Nat) (s cs : List UInt8) (d : Int) (w : World) (hi : IdxSays cs) (hl : s.length ≤ 2100000) (hp : upto (fun c => cs.contains c) s = none) (hA : At w rb s d) :
    Calls Tryz.prog 71 #[.pointer (some ⟨rb, 0, none⟩), .string ⟨cs.toArray⟩] w fun e w' => e = formP ∧ w.grownBy w' (some rb) ∧ At w' rb s d := by
  have h1 := (upto_index cs s).1 hp
  have hsz : (⟨s.toArray⟩ : ByteArray).size = s.length := by have h2 := Lib.size_eq (⟨s.toArray⟩ : ByteArray); simpa using h2
  have hc := hi ⟨s.toArray⟩ w (by omega)
  have e1 : Lib.indexAny (⟨s.toArray⟩ : ByteArray).data.toList cs = -1 := h1
  rw [e1] at hc
  have HC := Lib.hid hc; have HA := Lib.hid hA
  have c0 := hA.c0; have fz := hA.fz 0
  clear hc hp h1 hA e1
  go_enter Tryz.func71, Tryz.ntmps71
  go_wp2_with fail
  refine HC.out.mono ?_
  rintro e w1 ⟨rfl, hb⟩
  have HA1 := Lib.hid (HA.out.below hb)
  have HB := Lib.hid hb
  clear hb c0 fz
  go_wp2_with fail
  exact ⟨rfl, rfl, keeps_below (keeps_refl _ _) HB.out, HA1.out⟩
end Go.Proofs.YtgkphpjnfigjiaaGreatDoor
namespace Go.Proofs.YtgkphpjnfigjiaaGreatDoor
open Go.RowKit Ms

/-- a chain that reads, the blocks beneath it fulfil P -/
def RdP (P : Nat → Prop) (W : World) : T → Nat → Nat → Nat → Prop
  | .nil, _, _, n => n = 0
  | .node k x f cs nx, b, o, n => ∃ v m, n = m + 1 ∧ W.cell? ⟨b, o, none⟩ = some (.int .i64 k) ∧ W.cell? ⟨b, o + 1, none⟩ = some (.string ⟨x.toArray⟩) ∧ W.cell? ⟨b, o + 2, none⟩ = some (.int .i64 f) ∧ W.cell? ⟨b, o + 3, none⟩ = some v ∧
      (((∃ a, v = .slice a 0 0) ∧ cs = .nil) ∨ ∃ b' o' n' c', v = .slice (some ⟨b', o', none⟩) n' c' ∧ n' ≤ c' ∧ (cs = .nil ∨ P b') ∧ RdP P W cs b' o' n') ∧ RdP P W nx b (o + 4) m
  | .case key body nx, b, o, n => ∃ v m, n = m + 1 ∧ W.cell? ⟨b, o, none⟩ = some (.string ⟨key.toArray⟩) ∧ W.cell? ⟨b, o + 1, none⟩ = some v ∧
      (((∃ a, v = .slice a 0 0) ∧ body = .nil) ∨ ∃ b' o' n' c', v = .slice (some ⟨b', o', none⟩) n' c' ∧ n' ≤ c' ∧ (body = .nil ∨ P b') ∧ RdP P W body b' o' n') ∧ RdP P W nx b (o + 2) m
def SVP (P : Nat → Prop) (W : World) (v : Value) (t : T) : Prop := ((∃ a, v = .slice a 0 0) ∧ t = .nil) ∨ ∃ b o n c, v = .slice (some ⟨b, o, none⟩) n c ∧ n ≤ c ∧ (t = .nil ∨ P b) ∧ RdP P W t b o n
theorem SVP.nil (P : Nat → Prop) (W : World) : SVP P W (.slice none 0 0) .nil := .inl ⟨⟨_, rfl⟩, rfl⟩
theorem SVP.form {P : Nat → Prop} {W : World} {v : Value} {t : T} (h : SVP P W v t) : ∃ a n c, v = .slice a n c := by
  rcases h with ⟨⟨_, h⟩, _⟩ | ⟨b, o, n, c, h, _⟩
  · exact ⟨_, _, _, h⟩
  · exact ⟨_, _, _, h⟩
theorem RdP.rd {P : Nat → Prop} {W : World} : ∀ (t : T) (b o n : Nat), RdP P W t b o n → Rd W t b o n
  | .nil, _, _, _, h => h
  | .node k x f cs nx, b, o, n, h => by
    obtain ⟨v, m, h1, h2, h3, h4, h5, h6, h7⟩ := h
    refine ⟨v, m, h1, h2, h3, h4, h5, ?_, RdP.rd nx _ _ _ h7⟩
    rcases h6 with h6 | ⟨b', o', n', c', e1, e2, _, e3⟩
    · exact .inl h6
    · exact .inr ⟨b', o', n', c', e1, e2, RdP.rd cs _ _ _ e3⟩
  | .case key body nx, b, o, n, h => by
    obtain ⟨v, m, h1, h2, h3, h6, h7⟩ := h
    refine ⟨v, m, h1, h2, h3, ?_, RdP.rd nx _ _ _ h7⟩
    rcases h6 with h6 | ⟨b', o', n', c', e1, e2, _, e3⟩
    · exact .inl h6
    · exact .inr ⟨b', o', n', c', e1, e2, RdP.rd body _ _ _ e3⟩
theorem SVP.sv {P : Nat → Prop} {W : World} {v : Value} {t : T} (h : SVP P W v t) : SV W v t := by
  rcases h with h | ⟨b, o, n, c, e1, e2, _, e3⟩
  · exact .inl h
  · exact .inr ⟨b, o, n, c, e1, e2, RdP.rd t _ _ _ e3⟩
theorem RdP.lt {P : Nat → Prop} {W : World} {t : T} {b o n : Nat} (h : RdP P W t b o n) : t = .nil ∨ b < W.heap.size := by
  cases t with
  | nil => exact .inl rfl
  | node k x f cs nx => obtain ⟨v, m, h1, h2, _⟩ := h; exact .inr (cellLt h2)
  | case key body nx => obtain ⟨v, m, h1, h2, _⟩ := h; exact .inr (cellLt h2)
theorem RdP.mono {P Q : Nat → Prop} {W : World} (hq : ∀ b, b < W.heap.size → P b → Q b) : ∀ (t : T) (b o n : Nat), RdP P W t b o n → RdP Q W t b o n
  | .nil, _, _, _, h => h
  | .node k x f cs nx, b, o, n, h => by
    obtain ⟨v, m, h1, h2, h3, h4, h5, h6, h7⟩ := h
    refine ⟨v, m, h1, h2, h3, h4, h5, ?_, RdP.mono hq nx _ _ _ h7⟩
    rcases h6 with h6 | ⟨b', o', n', c', e1, e2, e4, e3⟩
    · exact .inl h6
    · exact .inr ⟨b', o', n', c', e1, e2, e4.elim .inl (fun hp => e3.lt.elim .inl (fun hl => .inr (hq _ hl hp))), RdP.mono hq cs _ _ _ e3⟩
  | .case key body nx, b, o, n, h => by
    obtain ⟨v, m, h1, h2, h3, h6, h7⟩ := h
    refine ⟨v, m, h1, h2, h3, ?_, RdP.mono hq nx _ _ _ h7⟩
    rcases h6 with h6 | ⟨b', o', n', c', e1, e2, e4, e3⟩
    · exact .inl h6
    · exact .inr ⟨b', o', n', c', e1, e2, e4.elim .inl (fun hp => e3.lt.elim .inl (fun hl => .inr (hq _ hl hp))), RdP.mono hq body _ _ _ e3⟩
theorem SVP.mono {P Q : Nat → Prop} {W : World} (hq : ∀ b, b < W.heap.size → P b → Q b) {v : Value} {t : T} (h : SVP P W v t) : SVP Q W v t := by
  rcases h with h | ⟨b, o, n, c, e1, e2, e4, e3⟩
  · exact .inl h
  · exact .inr ⟨b, o, n, c, e1, e2, e4.elim .inl (fun hp => e3.lt.elim .inl (fun hl => .inr (hq _ hl hp))), RdP.mono hq t _ _ _ e3⟩
theorem RdP.keep {P : Nat → Prop} {W W' : World} (hk : ∀ b, b < W.heap.size → P b → W'.heap[b]? = W.heap[b]?) : ∀ (t : T) (b o n : Nat), (t = .nil ∨ W'.heap[b]? = W.heap[b]?) → RdP P W t b o n → RdP P W' t b o n
  | .nil, _, _, _, _, h => h
  | .node k x f cs nx, b, o, n, hb, h => by
    have hb : W'.heap[b]? = W.heap[b]? := hb.elim (fun h => by cases h) id
    have hc : ∀ o, W'.cell? ⟨b, o, none⟩ = W.cell? ⟨b, o, none⟩ := fun o => World.cell?_of_block hb
    obtain ⟨v, m, h1, h2, h3, h4, h5, h6, h7⟩ := h
    refine ⟨v, m, h1, by rw [hc]; exact h2, by rw [hc]; exact h3, by rw [hc]; exact h4, by rw [hc]; exact h5, ?_, RdP.keep hk nx _ _ _ (.inr hb) h7⟩
    rcases h6 with h6 | ⟨b', o', n', c', e1, e2, e4, e3⟩
    · exact .inl h6
    · exact .inr ⟨b', o', n', c', e1, e2, e4, RdP.keep hk cs _ _ _ (e4.elim .inl (fun hp => e3.lt.elim .inl (fun hl => .inr (hk _ hl hp)))) e3⟩
  | .case key body nx, b, o, n, hb, h => by
    have hb : W'.heap[b]? = W.heap[b]? := hb.elim (fun h => by cases h) id
    have hc : ∀ o, W'.cell? ⟨b, o, none⟩ = W.cell? ⟨b, o, none⟩ := fun o => World.cell?_of_block hb
    obtain ⟨v, m, h1, h2, h3, h6, h7⟩ := h
    refine ⟨v, m, h1, by rw [hc]; exact h2, by rw [hc]; exact h3, ?_, RdP.keep hk nx _ _ _ (.inr hb) h7⟩
    rcases h6 with h6 | ⟨b', o', n', c', e1, e2, e4, e3⟩
    · exact .inl h6
    · exact .inr ⟨b', o', n', c', e1, e2, e4, RdP.keep hk body _ _ _ (e4.elim .inl (fun hp => e3.lt.elim .inl (fun hl => .inr (hk _ hl hp)))) e3⟩
theorem SVP.keep {P : Nat → Prop} {W W' : World} (hk : ∀ b, b < W.heap.size → P b → W'.heap[b]? = W.heap[b]?) {v : Value} {t : T} (h : SVP P W v t) : SVP P W' v t := by
  rcases h with h | ⟨b, o, n, c, e1, e2, e4, e3⟩
  · exact .inl h
  · exact .inr ⟨b, o, n, c, e1, e2, e4, RdP.keep hk t _ _ _ (e4.elim .inl (fun hp => e3.lt.elim .inl (fun hl => .inr (hk _ hl hp)))) e3⟩

/-- cells that read as a chain -/
def RdX (P : Nat → Prop) (W : World) : T → List Value → Prop
  | .nil, xs => xs = []
  | .node k x f cs nx, xs => ∃ v r, xs = .int .i64 k :: .string ⟨x.toArray⟩ :: .int .i64 f :: v :: r ∧ SVP P W v cs ∧ RdX P W nx r
  | .case key body nx, xs => ∃ v r, xs = .string ⟨key.toArray⟩ :: v :: r ∧ SVP P W v body ∧ RdX P W nx r
theorem RdX.mono {P Q : Nat → Prop} {W : World} (hq : ∀ b, b < W.heap.size → P b → Q b) : ∀ (t : T) (xs : List Value), RdX P W t xs → RdX Q W t xs
  | .nil, _, h => h
  | .node _ _ _ _ nx, _, ⟨v, r, h1, h2, h3⟩ => ⟨v, r, h1, h2.mono hq, RdX.mono hq nx r h3⟩
  | .case _ _ nx, _, ⟨v, r, h1, h2, h3⟩ => ⟨v, r, h1, h2.mono hq, RdX.mono hq nx r h3⟩
theorem RdX.keep {P : Nat → Prop} {W W' : World} (hk : ∀ b, b < W.heap.size → P b → W'.heap[b]? = W.heap[b]?) : ∀ (t : T) (xs : List Value), RdX P W t xs → RdX P W' t xs
  | .nil, _, h => h
  | .node _ _ _ _ nx, _, ⟨v, r, h1, h2, h3⟩ => ⟨v, r, h1, h2.keep hk, RdX.keep hk nx r h3⟩
  | .case _ _ nx, _, ⟨v, r, h1, h2, h3⟩ => ⟨v, r, h1, h2.keep hk, RdX.keep hk nx r h3⟩
theorem RdX.node {P : Nat → Prop} {W : World} {k f : Int} {x : List UInt8} {cs : T} {v : Value} (hv : SVP P W v cs) : ∀ (t : T) (xs : List Value), RdX P W t xs → RdX P W (app t (.node k x f cs .nil)) (xs ++ [.int .i64 k, .string ⟨x.toArray⟩, .int .i64 f, v])
  | .nil, xs, h => by
    have h0 : xs = [] := h
    subst h0; exact ⟨v, [], rfl, hv, rfl⟩
  | .node k' x' f' cs' nx, xs, ⟨v', r, h1, h2, h3⟩ => ⟨v', r ++ _, by rw [h1]; rfl, h2, RdX.node hv nx r h3⟩
  | .case key body nx, xs, ⟨v', r, h1, h2, h3⟩ => ⟨v', r ++ _, by rw [h1]; rfl, h2, RdX.node hv nx r h3⟩
theorem RdX.case {P : Nat → Prop} {W : World} {key : List UInt8} {body : T} {v : Value} (hv : SVP P W v body) : ∀ (t : T) (xs : List Value), RdX P W t xs → RdX P W (app t (.case key body .nil)) (xs ++ [.string ⟨key.toArray⟩, v])
  | .nil, xs, h => by
    have h0 : xs = [] := h
    subst h0; exact ⟨v, [], rfl, hv, rfl⟩
  | .node k' x' f' cs' nx, xs, ⟨v', r, h1, h2, h3⟩ => ⟨v', r ++ _, by rw [h1]; rfl, h2, RdX.case hv nx r h3⟩
  | .case key body nx, xs, ⟨v', r, h1, h2, h3⟩ => ⟨v', r ++ _, by rw [h1]; rfl, h2, RdX.case hv nx r h3⟩
theorem RdX.rd {P : Nat → Prop} {W : World} {b : Nat} : ∀ (t : T) (xs : List Value) (o : Nat), RdX P W t xs → (∀ j v, xs[j]? = some v → W.cell? ⟨b, o + j, none⟩ = some v) → RdP P W t b o (len t)
  | .nil, _, _, _, _ => rfl
  | .node k x f cs nx, xs, o, ⟨v, r, h1, h2, h3⟩, hj => by
    subst h1
    exact ⟨v, len nx, rfl, hj 0 _ rfl, hj 1 _ rfl, hj 2 _ rfl, hj 3 _ rfl, h2, RdX.rd nx r (o + 4) h3 (fun j u hu => by
      rw [show o + 4 + j = o + (4 + j) by omega]
      exact hj (4 + j) u (by rw [show 4 + j = j + 1 + 1 + 1 + 1 by omega]; simpa using hu))⟩
  | .case key body nx, xs, o, ⟨v, r, h1, h2, h3⟩, hj => by
    subst h1
    exact ⟨v, len nx, rfl, hj 0 _ rfl, hj 1 _ rfl, h2, RdX.rd nx r (o + 2) h3 (fun j u hu => by
      rw [show o + 2 + j = o + (2 + j) by omega]
      exact hj (2 + j) u (by rw [show 2 + j = j + 1 + 1 by omega]; simpa using hu))⟩
theorem own_cells {w : World} {base size g n cap : Nat} {e : TypeId} {xs : List Value} (h : w.ownsRow base e size (.slice (some ⟨g, 0, none⟩) n cap) n xs) : n ≤ cap ∧ base ≤ g ∧ ∀ j v, xs[j]? = some v → w.cell? ⟨g, 0 + j, none⟩ = some v := by
  obtain ⟨_, h | ⟨g', cap', cur, hv, hb, hg, hn, _, _, ht⟩⟩ := h
  · exact absurd h.1 (by intro h; cases h)
  · cases hv
    refine ⟨hn, hb, fun j v hj => ?_⟩
    subst ht
    rw [Nat.zero_add]
    have h1 : cur.toList[j]? = some v := by
      rw [List.getElem?_take] at hj
      split at hj
      · exact hj
      · cases hj
    simp only [World.cell?, hg]
    simpa using h1
/-- what a call appended to a row of its own is a slice that reads -/
theorem svp_own {P : Nat → Prop} {w : World} {base size : Nat} {e : TypeId} {v : Value} {t : T} {xs : List Value} (h : w.ownsRow base e size v (len t) xs) (hx : RdX P w t xs) (hP : ∀ b, base ≤ b → P b) : SVP P w v t := by
  have h' := h
  obtain ⟨_, h0 | ⟨g, cap, cur, hv, hb, _⟩⟩ := h
  · refine .inl ⟨⟨_, h0.1⟩, ?_⟩
    cases t with
    | nil => rfl
    | node _ _ _ _ _ => have := h0.2; simp [len] at this
    | case _ _ _ => have := h0.2; simp [len] at this
  · subst hv
    obtain ⟨h1, h2, h3⟩ := own_cells h'
    exact .inr ⟨g, 0, len t, cap, rfl, h1, .inr (hP g h2), RdX.rd t xs 0 hx h3⟩
end Go.Proofs.YtgkphpjnfigjiaaGreatDoor
namespace Go.Proofs.YtgkphpjnfigjiaaGreatDoor
open Go.RowKit Ms

/-- what was appended so far, beside a reader at the block rb; all of it lies in new blocks below L -/
def Acc (w : World) (rb : Nat) (e : TypeId) (size : Nat) (out : Value) (acc : T) (xs : List Value) (L : Nat) (wr : World) : Prop :=
  rb < w.heap.size ∧ w.heap.size ≤ L ∧ L ≤ wr.heap.size ∧ w.grownBy wr (some rb) ∧ wr.ownsRow w.heap.size e size out (len acc) xs ∧ (∀ k, out.ownBlock = some k → k < L) ∧
    RdX (fun b => w.heap.size ≤ b ∧ out.ownBlock ≠ some b ∧ b < L) wr acc xs
theorem keeps_more {w a b : World} {rb : Nat} {row : Option Nat} (h : w.grownBy a (some rb)) (h2 : a.grownBy b row) (hr : ∀ k, row = some k → k = rb ∨ w.heap.size ≤ k) : w.grownBy b (some rb) :=
  ⟨h2.os.trans h.os, h2.tape.trans h.tape, h2.output.trans h.output, Nat.le_trans h.size h2.size, fun k hk hne => by
    rw [h2.block k (Nat.lt_of_lt_of_le hk h.size) (fun e => by
      rcases hr k e.symm with h1 | h1
      · exact hne (by rw [h1])
      · omega)]
    exact h.block k hk hne⟩
theorem Acc.start {w : World} {rb : Nat} (e : TypeId) (size : Nat) (h : rb < w.heap.size) : Acc w rb e size (.slice none 0 0) .nil [] w.heap.size w :=
  ⟨h, Nat.le_refl _, Nat.le_refl _, keeps_refl _ _, World.ownsRow_nil _ _ _ _, (fun _ h => by cases h), rfl⟩
theorem Acc.step {w wr wr' : World} {rb L q size : Nat} {e : TypeId} {out : Value} {acc : T} {xs : List Value} (h : Acc w rb e size out acc xs L wr) (hg : wr.grownBy wr' (some q)) (hq : q = rb ∨ L ≤ q) : Acc w rb e size out acc xs L wr' := by
  obtain ⟨h1, h2, h3, h4, h5, h6, h7⟩ := h
  refine ⟨h1, h2, Nat.le_trans h3 hg.size, keeps_more h4 hg (fun k hk => by cases hk; omega), h5.kept hg ?_, h6, RdX.keep (fun b hb hp => hg.block b hb (fun e => by cases e; have := hp.1; have := hp.2.2; omega)) acc xs h7⟩
  cases ho : out.ownBlock with
  | none => exact .inl rfl
  | some k =>
    right
    intro e
    have := h6 k ho
    have := (h5.lt k ho).1
    have e' : k = q := Option.some.inj e
    omega
theorem Acc.below {w wr wr' : World} {rb L size : Nat} {e : TypeId} {out : Value} {acc : T} {xs : List Value} (h : Acc w rb e size out acc xs L wr) (hb : Below wr.heap.size wr wr') : Acc w rb e size out acc xs L wr' :=
  h.step (grown_of_below hb (some rb)) (.inl rfl)
theorem Acc.set {w wr : World} {rb L q i size : Nat} {e : TypeId} {out : Value} {acc : T} {xs : List Value} (h : Acc w rb e size out acc xs L wr) (v : Value) (hq : q = rb ∨ L ≤ q) : Acc w rb e size out acc xs L (wr.setCell ⟨q, i, none⟩ v) :=
  h.step (keeps_set wr q i v) hq
theorem At.other {w : World} {rb q i : Nat} {s : List UInt8} {d : Int} {v : Value} (h : At w rb s d) (hne : q ≠ rb) : At (w.setCell ⟨q, i, none⟩ v) rb s d := by
  unfold At; rw [heap_setCell_other w ⟨q, i, none⟩ rb v (fun e => hne e.symm)]; exact h
theorem At.grown {w w' : World} {rb : Nat} {s : List UInt8} {d : Int} {o : Obj} {row : Option Nat} (h : At w rb s d) (hg : (w.alloc o).grownBy w' row) (hne : row ≠ some rb) : At w' rb s d := by
  unfold At
  rw [hg.block rb (by have := h.lt; simp; omega) (fun e => hne e.symm), Go.heap_alloc_old w o h.lt]; exact h
theorem Acc.raise {w wr : World} {rb L size : Nat} {e : TypeId} {out : Value} {acc : T} {xs : List Value} (h : Acc w rb e size out acc xs L wr) : Acc w rb e size out acc xs wr.heap.size wr := by
  obtain ⟨h1, h2, h3, h4, h5, h6, h7⟩ := h
  exact ⟨h1, by omega, Nat.le_refl _, h4, h5, fun k hk => by have := h6 k hk; omega, RdX.mono (fun b hb hp => ⟨hp.1, hp.2.1, hb⟩) acc xs h7⟩
/-- one more is appended -/
theorem Acc.more {w wa w' : World} {rb L M g cap size : Nat} {e : TypeId} {out : Value} {acc el body : T} {xs news : List Value} {v : Value} {o : Obj} (h : Acc w rb e size out acc xs L wa) (hM : L ≤ M)
    (hv : SVP (fun b => M ≤ b) wa v body) (hlen : len (app acc el) = len acc + 1) (hel : ∀ (Q : Nat → Prop) (W : World), SVP Q W v body → RdX Q W acc xs → RdX Q W (app acc el) (xs ++ news))
    (hown : w'.ownsRow w.heap.size e size (.slice (some ⟨g, 0, none⟩) (len acc + 1) cap) (len acc + 1) (xs ++ news)) (hg : (wa.alloc o).grownBy w' out.ownBlock) (hgw : out.ownBlock = some g ∨ g = (wa.alloc o).heap.size) :
    Acc w rb e size (.slice (some ⟨g, 0, none⟩) (len acc + 1) cap) (app acc el) (xs ++ news) w'.heap.size w' := by
  obtain ⟨h1, h2, h3, h4, h5, h6, h7⟩ := h
  have hsz : (wa.alloc o).heap.size = wa.heap.size + 1 := by simp
  rw [hsz] at hgw
  have hs' : wa.heap.size + 1 ≤ w'.heap.size := by have := hg.size; rw [hsz] at this; exact this
  have hblk : ∀ b, b < wa.heap.size → out.ownBlock ≠ some b → w'.heap[b]? = wa.heap[b]? := fun b hb hne => by
    rw [hg.block b (by rw [hsz]; omega) (fun e => hne e.symm)]
    exact (Go.heap_alloc_old wa o hb)
  have hgn : ∀ b, b < wa.heap.size → out.ownBlock ≠ some b → (Value.slice (some ⟨g, 0, none⟩) (len acc + 1) cap).ownBlock ≠ some b := fun b hb hne e => by
    have e' : some g = some b := e
    cases e'
    rcases hgw with hgw | hgw
    · exact hne hgw
    · omega
  refine ⟨h1, by omega, Nat.le_refl _, ?_, by rw [hlen]; exact hown, fun k hk => (hown.lt k hk).2, ?_⟩
  · refine keeps_more (keeps_more h4 (grown_of_below ((Below.refl _ _).alloc (Nat.le_refl _) o) none) (fun k hk => by cases hk)) hg (fun k hk => .inr (h5.lt k hk).1)
  · have k7 : RdX (fun b => w.heap.size ≤ b ∧ out.ownBlock ≠ some b ∧ b < L) w' acc xs := RdX.keep (fun b hb hp => hblk b hb hp.2.1) acc xs h7
    have k8 := RdX.mono (Q := fun b => w.heap.size ≤ b ∧ (Value.slice (some ⟨g, 0, none⟩) (len acc + 1) cap).ownBlock ≠ some b ∧ b < w'.heap.size) (fun b hb hp => ⟨hp.1, hgn b (by have := hp.2.2; omega) hp.2.1, hb⟩) acc xs k7
    have hne : ∀ b, M ≤ b → out.ownBlock ≠ some b := fun b hb e => by have := h6 b e; omega
    have v1 := SVP.mono (Q := fun b => M ≤ b ∧ b < wa.heap.size) (fun b hb hp => ⟨hp, hb⟩) hv
    have v2 : SVP (fun b => M ≤ b ∧ b < wa.heap.size) w' v body := SVP.keep (fun b hb hp => hblk b hb (hne b hp.1)) v1
    have v3 := SVP.mono (Q := fun b => w.heap.size ≤ b ∧ (Value.slice (some ⟨g, 0, none⟩) (len acc + 1) cap).ownBlock ≠ some b ∧ b < w'.heap.size) (fun b hb hp => ⟨by have := hp.1; omega, hgn b hp.2 (hne b hp.1), hb⟩) v2
    exact hel _ _ v3 k8
/-- the result, when the rounds have ended -/
theorem Acc.done {w wr : World} {rb L size : Nat} {e : TypeId} {out : Value} {acc : T} {xs : List Value} (h : Acc w rb e size out acc xs L wr) : SVP (fun b => w.heap.size ≤ b) wr out acc := by
  obtain ⟨_, _, _, _, h5, _, h7⟩ := h
  exact svp_own h5 (RdX.mono (fun b _ hp => hp.1) acc xs h7) (fun b hb => hb)

def MsgOut (deep : Nat) (mark : Bool) (s : List UInt8) (rb : Nat) (w : World) (e : Ending) (w' : World) : Prop :=
  w.grownBy w' (some rb) ∧ match (if deep ≤ 6 then NN deep mark s else none) with
  | some (t, r) => ∃ v, e = .returned v ∧ SVP (fun b => w.heap.size ≤ b) w' v t ∧ At w' rb r deep
  | none => e = formP ∧ ∃ s' d', At w' rb s' d'
def CasesOut (deep : Nat) (mark : Bool) (s : List UInt8) (rb : Nat) (w : World) (e : Ending) (w' : World) : Prop :=
  w.grownBy w' (some rb) ∧ match CC deep mark s with
  | some (t, r) => ∃ v, e = .returned v ∧ SVP (fun b => w.heap.size ≤ b) w' v t ∧ At w' rb r (deep + 1)
  | none => e = formP ∧ ∃ s' d', At w' rb s' d'
def MsgIH (n : Nat) : Prop := ∀ (s : List UInt8) (deep : Nat) (mark : Bool) (rb : Nat) (w : World), s.length < n → deep ≤ 7 → At w rb s deep →
  Calls Tryz.prog 24 #[.pointer (some ⟨rb, 0, none⟩), .bool mark] w (MsgOut deep mark s rb w)
theorem infoNode : (Tryz.prog.info? 35).map (fun i => (i.zero, i.size, i.bytes)) = some (some (.agg #[.int .i64 0, .string ⟨#[]⟩, .int .i64 0, .slice none 0 0]), 4, 56) := by kernel_rfl
theorem infoCase : (Tryz.prog.info? 45).map (fun i => (i.zero, i.size, i.bytes)) = some (some (.agg #[.string ⟨#[]⟩, .slice none 0 0]), 2, 40) := by kernel_rfl
theorem upto_32 (s : List UInt8) : upto (fun c => c == 32) s = upto (fun c => [32].contains c) s := by
  congr 1; funext c; simp [Bool.beq_eq_decide_eq]
def left (rb : Nat) (w : World) : Nat := match w.cell? ⟨rb, 0, none⟩ with
  | some (.string s) => s.size
  | _ => 0
theorem left_at {rb : Nat} {w : World} {s : List UInt8} {d : Int} (h : At w rb s d) : left rb w = s.length := by
  unfold left; rw [h.c0]
  have h2 := Lib.size_eq (⟨s.toArray⟩ : ByteArray); simpa using h2

set_option maxHeartbeats 2000000 in
set_option maxRecDepth 100000 in
theorem rcases_any (n : Nat) (IH : MsgIH n) (hn : n ≤ 100000) (s : List UInt8) (deep : Nat) (mark : Bool) (rb : Nat) (w : World) (hs : s.length ≤ n) (hd : deep ≤ 6) (hA : At w rb s (deep + 1)) :
    Calls Tryz.prog 72 #[.pointer (some ⟨rb, 0, none⟩), .bool mark] w (CasesOut deep mark s rb w) := by
  obtain ⟨i0, hi, hz0, hz1, hz2⟩ := info_parts infoCase
  have IH := Lib.hid IH
  have HA := Lib.hid hA
  clear hA
  go_enter Tryz.func72, Tryz.ntmps72
  go_wp2_with fail
  go_loopw [5] (fun out wr => ∃ (s' : List UInt8) (acc : T) (xs : List Value), Hid (At wr rb s' (deep + 1)) ∧ Hid (Acc w rb 45 2 out acc xs wr.heap.size wr) ∧ Hid (CC deep mark s = mapA acc (CC deep mark s')) ∧ len acc + s'.length ≤ s.length) (fun _ wr => left rb wr)
  case atStart => exact ⟨s, .nil, [], HA, Acc.start _ _ HA.out.lt, (mapA_nil _).symm, by simp [len]⟩
  case round =>
    obtain ⟨s', acc, xs, HR, HAc, HE, hl⟩ := hrel
    have hlr := left_at HR.out
    cases h1 : pre [125] s' with
    | some r =>
      have HCC := Lib.hid (show CC deep mark s = some (acc, r) by rw [HE.out, CC_end h1, mapA_end])
      have HC1 := Lib.hid (cut_yes rb s' [125] r _ wr h1 HR.out)
      clear h1 hlr
      go_wp2_with fail
      refine HC1.out.mono ?_
      rintro e w1 ⟨rfl, hg1, hA1⟩
      have HAc1 := Lib.hid (HAc.out.step hg1 (.inl rfl)); have HA1 := Lib.hid hA1
      clear hg1 hA1
      go_wp2_with fail
      go_ret
      refine ⟨HAc1.out.2.2.2.1, ?_⟩
      rw [HCC.out]
      exact ⟨_, rfl, HAc1.out.done, HA1.out⟩
    | none =>
      have HC1 := Lib.hid (cut_no rb s' [125] _ wr h1 HR.out)
      cases h2 : pre [32] s' with
      | none =>
        have HCC := Lib.hid (show CC deep mark s = none by rw [HE.out, CC_none h1 h2, mapA_none])
        have HC2 := Lib.hid (need_no rb s' [32] _ wr h2 HR.out)
        clear h1 h2 hlr
        go_wp2_with fail
        refine HC1.out.mono ?_
        rintro e w1 ⟨rfl, rfl⟩
        go_wp2_with fail
        refine HC2.out.mono ?_
        rintro e w1 ⟨rfl, rfl⟩
        unfold formP
        go_wp2_with fail
        refine ⟨rfl, HAc.out.2.2.2.1, ?_⟩
        rw [HCC.out]
        exact ⟨rfl, _, _, HR.out⟩
      | some r1 =>
        have HCC := Lib.hid (show CC deep mark s = mapA acc (caseC deep mark r1) by rw [HE.out, CC_case h1 h2])
        have HC2 := Lib.hid (need_yes rb s' [32] r1 _ wr h2 HR.out)
        have l1 := pre_len h2
        simp only [List.length_cons, List.length_nil] at l1
        clear h1 h2
        go_wp2_with fail
        refine HC1.out.mono ?_
        rintro e w1 ⟨rfl, rfl⟩
        go_wp2_with fail
        refine HC2.out.mono ?_
        rintro e w1 ⟨rfl, hg1, hA1⟩
        have HAc1 := Lib.hid (HAc.out.step hg1 (.inl rfl)); have HA1 := Lib.hid hA1
        clear hg1 hA1 HC1 HC2
        cases h3 : upto (fun c => c == 32) r1 with
        | none =>
          have HCC2 := Lib.hid (show CC deep mark s = none by rw [HCC.out]; unfold caseC; rw [h3]; rfl)
          have HC3 := Lib.hid (word_no rb r1 [32] _ w1 (idx_one 32 (by decide)) (by omega) (by rw [← upto_32]; exact h3) HA1.out)
          clear h3
          go_wp2_with fail
          refine HC3.out.mono ?_
          rintro e w2 ⟨rfl, hg2, hA2⟩
          have HAc2 := Lib.hid (HAc1.out.step hg2 (.inl rfl)); have HA2 := Lib.hid hA2
          clear hg2 hA2
          unfold formP
          go_wp2_with fail
          refine ⟨rfl, HAc2.out.2.2.2.1, ?_⟩
          rw [HCC2.out]
          exact ⟨rfl, _, _, HA2.out⟩
        | some p3 =>
          obtain ⟨key, r2⟩ := p3
          have HC3 := Lib.hid (word_yes rb r1 [32] key r2 _ w1 (idx_one 32 (by decide)) (by omega) (by rw [← upto_32]; exact h3) HA1.out)
          have l2 := (upto_len h3).1
          have HCC2 := Lib.hid (show caseC deep mark r1 = (match pre [32, 123] r2 with
            | none => none
            | some r3 => if 6 ≤ deep then none else match NN (deep + 1) mark r3 with
              | none => none
              | some (b, r4) => match pre [125] r4 with
                | none => none
                | some r5 => mapA (.case key b .nil) (CC deep mark r5)) by unfold caseC; rw [h3]; simp only [caseO_mapA]; rfl)
          clear h3
          go_wp2_with fail
          refine HC3.out.mono ?_
          rintro e w2 ⟨rfl, hg2, hA2⟩
          have HAc2 := Lib.hid (HAc1.out.step hg2 (.inl rfl)); have HA2 := Lib.hid hA2
          clear hg2 hA2 HC3 HAc1 HA1
          go_wp2_with fail
          obtain ⟨cb, hcb⟩ : ∃ cb, cb = w2.heap.size := ⟨_, rfl⟩
          have HAc3 := Lib.hid (HAc2.out.below ((Below.refl w2.heap.size w2).alloc (Nat.le_refl _) (.cells #[.string ⟨key.toArray⟩, .slice none 0 0] 45)))
          have HA3 := Lib.hid (HA2.out.below ((Below.refl w2.heap.size w2).alloc (Nat.le_refl _) (.cells #[.string ⟨key.toArray⟩, .slice none 0 0] 45)))
          have hbk := Go.heap_alloc_new w2 (.cells #[.string ⟨key.toArray⟩, .slice none 0 0] 45)
          have hsz3 : (w2.alloc (.cells #[.string ⟨key.toArray⟩, .slice none 0 0] 45)).heap.size = cb + 1 := by rw [hcb]; simp
          have hLc := HAc2.out.2.2.1
          have hrw := HA2.out.lt
          rw [← hcb] at hbk hLc hrw ⊢
          clear hcb HAc2 HA2
          generalize w2.alloc (.cells #[.string ⟨key.toArray⟩, .slice none 0 0] 45) = w3 at *
          have hne : cb ≠ rb := by omega
          cases h4 : pre [32, 123] r2 with
          | none =>
            have HCC3 := Lib.hid (show CC deep mark s = none by rw [HCC.out, HCC2.out, h4]; rfl)
            have HC4 := Lib.hid (need_no rb r2 [32, 123] _ w3 h4 HA3.out)
            clear h4
            refine HC4.out.mono ?_
            rintro e w4 ⟨rfl, rfl⟩
            unfold formP
            go_wp2_with fail
            refine ⟨rfl, HAc3.out.2.2.2.1, ?_⟩
            rw [HCC3.out]
            exact ⟨rfl, _, _, HA3.out⟩
          | some r3 =>
            have HC4 := Lib.hid (need_yes rb r2 [32, 123] r3 _ w3 h4 HA3.out)
            have l3 := pre_len h4
            simp only [List.length_cons, List.length_nil] at l3
            rw [h4] at HCC2
            clear h4
            refine HC4.out.mono ?_
            rintro e w4 ⟨rfl, hg4, hA4⟩
            have hb4 : w4.heap[cb]? = _ := (hg4.block cb (by omega) (fun e => hne (Option.some.inj e))).trans hbk
            have hs4 : cb + 1 ≤ w4.heap.size := by have := hg4.size; omega
            have HAc4 := Lib.hid (HAc3.out.step hg4 (.inl rfl)); have HA4 := Lib.hid hA4
            clear hg4 hA4 HC4 HAc3 HA3 hbk hsz3
            have hA4' : At w4 rb r3 ((deep + 1 : Nat) : Int) := by have := HA4.out; push_cast; exact this
            have HM := Lib.hid (IH.out r3 (deep + 1) mark rb w4 (by omega) (by omega) hA4')
            clear hA4'
            go_wp2_with fail
            refine HM.out.mono ?_
            rintro e w5 ⟨hg5, hm⟩
            have hb5 : w5.heap[cb]? = _ := (hg5.block cb (by omega) (fun e => hne (Option.some.inj e))).trans hb4
            have hs5 : cb + 1 ≤ w5.heap.size := by have := hg5.size; omega
            have HAc5 := Lib.hid (HAc4.out.step hg5 (.inl rfl))
            clear hg5 HM HAc4 HA4 hb4
            cases hN : (if deep + 1 ≤ 6 then NN (deep + 1) mark r3 else none) with
            | none =>
              rw [hN] at hm
              obtain ⟨rfl, s'', d'', hA5⟩ := hm
              have HCC3 := Lib.hid (show CC deep mark s = none by
                rw [HCC.out, HCC2.out]
                show mapA acc (if 6 ≤ deep then none else _) = _
                by_cases hd6 : 6 ≤ deep
                · rw [if_pos hd6]; rfl
                · rw [if_neg hd6]
                  rw [if_pos (by omega)] at hN
                  rw [hN]; rfl)
              have HA5 := Lib.hid hA5
              clear hN hA5
              unfold formP
              go_wp2_with fail
              refine ⟨rfl, HAc5.out.2.2.2.1, ?_⟩
              rw [HCC3.out]
              exact ⟨rfl, _, _, HA5.out⟩
            | some p5 =>
              obtain ⟨bd, r4⟩ := p5
              rw [hN] at hm
              obtain ⟨v, rfl, hv, hA5⟩ := hm
              obtain ⟨va, vn, vc, rfl⟩ := hv.form
              have hd6 : ¬ 6 ≤ deep := fun h => by rw [if_neg (by omega)] at hN; cases hN
              rw [if_pos (by omega)] at hN
              have hlen4 := (rest_len _).1 _ _ _ _ _ hN
              have HCC3 := Lib.hid (show CC deep mark s = mapA acc (match pre [125] r4 with
                | none => none
                | some r5 => mapA (.case key bd .nil) (CC deep mark r5)) by
                rw [HCC.out, HCC2.out]
                show mapA acc (if 6 ≤ deep then none else _) = _
                rw [if_neg hd6, hN])
              have z0 : w5.cell? ⟨cb, 0, none⟩ = some (.string ⟨key.toArray⟩) := by simp [World.cell?, hb5]
              have z1 : w5.cell? ⟨cb, 1, none⟩ = some (.slice none 0 0) := by simp [World.cell?, hb5]
              have fz : w5.frozen? ⟨cb, 1, none⟩ = false := by simp [World.frozen?, hb5]
              have HV := Lib.hid hv
              have HA5 := Lib.hid hA5
              clear hN hA5 hv HCC HCC2 hd6
              have hVA : Hid (At (w5.setCell ⟨cb, 1, none⟩ (.slice va vn vc)) rb r4 (deep + 1)) := by
                have h := HA5.out.other (i := 1) (v := .slice va vn vc) hne
                push_cast at h; exact h
              have hb6 := Joins.block_setCell (i := 1) hb5 (.slice va vn vc)
              have HAc6 := Lib.hid (HAc5.out.set (i := 1) (.slice va vn vc) (.inr hLc))
              have HV6 := Lib.hid (SVP.keep (W' := w5.setCell ⟨cb, 1, none⟩ (.slice va vn vc)) (fun b _ hp => heap_setCell_other w5 ⟨cb, 1, none⟩ b _ (by show b ≠ cb; omega)) HV.out)
              have hs6 : cb + 1 ≤ (w5.setCell ⟨cb, 1, none⟩ (.slice va vn vc)).heap.size := by simpa using hs5
              go_wp2_with fail
              clear HA5 HAc5 HV hb5 hs5 z0 z1 fz
              generalize w5.setCell ⟨cb, 1, none⟩ (.slice va vn vc) = w6 at *
              have hb6 : w6.heap[cb]? = some (.cells #[.string ⟨key.toArray⟩, .slice va vn vc] 45) := hb6
              cases h6 : pre [125] r4 with
              | none =>
                have HCC4 := Lib.hid (show CC deep mark s = none by rw [HCC3.out, h6]; rfl)
                have HC6 := Lib.hid (need_no rb r4 [125] _ w6 h6 hVA.out)
                clear h6
                refine HC6.out.mono ?_
                rintro e w7 ⟨rfl, rfl⟩
                unfold formP
                go_wp2_with fail
                refine ⟨rfl, HAc6.out.2.2.2.1, ?_⟩
                rw [HCC4.out]
                exact ⟨rfl, _, _, hVA.out⟩
              | some r5 =>
                have HCC4 := Lib.hid (show CC deep mark s = mapA (app acc (.case key bd .nil)) (CC deep mark r5) by rw [HCC3.out, h6, ← mapA_mapA])
                have HC6 := Lib.hid (need_yes rb r4 [125] r5 _ w6 h6 hVA.out)
                have l6 := pre_len h6
                simp only [List.length_cons, List.length_nil] at l6
                clear h6
                refine HC6.out.mono ?_
                rintro e w7 ⟨rfl, hg7, hA7⟩
                have hb7 : w7.heap[cb]? = _ := (hg7.block cb (by omega) (fun e => hne (Option.some.inj e))).trans hb6
                have hs7 : cb + 1 ≤ w7.heap.size := by have := hg7.size; omega
                have HAc7 := Lib.hid (HAc6.out.step hg7 (.inl rfl)); have HA7 := Lib.hid hA7
                have HV7 := Lib.hid (SVP.keep (W' := w7) (fun b hb hp => hg7.block b hb (fun e => by have := Option.some.inj e; omega)) HV6.out)
                have z0 : w7.cell? ⟨cb, 0, none⟩ = some (.string ⟨key.toArray⟩) := by simp [World.cell?, hb7]
                have z1 : w7.cell? ⟨cb, 1, none⟩ = some (.slice va vn vc) := by simp [World.cell?, hb7]
                have hlen : len acc ≤ 100001 := by omega
                have HO7 := Lib.hid HAc7.out.2.2.2.2.1
                have hsw : w.heap.size ≤ w7.heap.size := by have h1 := HAc7.out.2.1; have h2 := HAc7.out.2.2.1; omega
                clear hg7 hA7 HC6 HAc6 HV6 hVA hb6 HCC3
                go_wp2_with (at_builtin; refine wpList_append_lies _ rfl _ _ 33 rfl w.heap.size 45 i0 (.agg #[.string ⟨#[]⟩, .slice none 0 0]) 2 40 Tryz.underlying33 hi hz0 hz1 hz2 rfl (by decide) _ (len acc) xs rfl (HO7.out.alloc _) ⟨w7.heap.size, 0, none⟩ 1 1 [.string ⟨key.toArray⟩, .slice va vn vc] rfl rfl (World.news_of_block (Go.heap_alloc_new _ _)) (fun x hx => by simp at hx; rcases hx with rfl | rfl <;> rfl) (by decide) (by unfold maxLen; omega) (by omega) (by simp; omega) _ rfl ?_; intro g cap w8 hown8 hgrow8 hat8 _)
                all_goals
                  have hownr : u5.ownBlock ≠ some rb := fun e => by have h1 := (HO7.out.lt rb e).1; have h2 := HAc7.out.1; omega
                  have HA8 := HA7.out.grown hgrow8 hownr
                  have HAc8 := HAc7.out.more (el := .case key bd .nil) (M := w4.heap.size) (by omega) HV7.out (by rw [app_len]; rfl) (fun _ _ h1 h2 => RdX.case h1 acc xs h2) hown8 hgrow8 hat8
                  go_roundw
                  case rel =>
                    refine ⟨r5, _, _, HA8, HAc8, HCC4, ?_⟩
                    rw [app_len]
                    simp only [len]; omega
                  case measure =>
                    rw [left_at HA8, hlr]; omega
end Go.Proofs.YtgkphpjnfigjiaaGreatDoor
