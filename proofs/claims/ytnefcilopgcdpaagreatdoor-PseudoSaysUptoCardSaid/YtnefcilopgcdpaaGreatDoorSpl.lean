/-
  strings.SplitSeq: the iterator hands over the pieces.
-/
import Derived.Test.YtnefcilopgcdpaaGreatDoorSeqs
import Derived.Test.YtnefcilopgcdpaaGreatDoorLex
import Derived.Lib.IndexMore
namespace Go.Proofs.YtnefcilopgcdpaaGreatDoor
open Go.RowKit Go.Shelf
attribute [local go_sem] Oper.semAt_some

/-- the pieces of s between the seps (n: no less than s's length) -/
def pieces (sep : List UInt8) : Nat → List UInt8 → List (List UInt8)
  | 0, s => [s]
  | n + 1, s => if 0 ≤ Lib.index s sep then s.take (Lib.index s sep).toNat :: pieces sep n (s.drop ((Lib.index s sep).toNat + sep.length)) else [s]
theorem index_nil {sep : List UInt8} (h : sep ≠ []) : Lib.index [] sep = -1 := by
  cases sep with
  | nil => exact absurd rfl h
  | cons a l => rfl
theorem pieces_more {sep : List UInt8} (h : sep ≠ []) : ∀ (n m : Nat) (s : List UInt8), s.length ≤ n → s.length ≤ m → pieces sep n s = pieces sep m s
  | 0, 0, _, _, _ => rfl
  | 0, m + 1, s, h0, _ => by
    cases s with
    | nil => unfold pieces; rw [index_nil h]; rfl
    | cons a l => simp at h0
  | n + 1, 0, s, _, h0 => by
    cases s with
    | nil => unfold pieces; rw [index_nil h]; rfl
    | cons a l => simp at h0
  | n + 1, m + 1, s, h1, h2 => by
    unfold pieces
    split
    · next hi =>
      have hr := Lib.index_room s sep hi
      have hl : 0 < sep.length := List.length_pos_iff.2 h
      rw [pieces_more h n m _ (by rw [List.length_drop]; omega) (by rw [List.length_drop]; omega)]
    · rfl
/-- all pieces -/
def split (sep s : List UInt8) : List (List UInt8) := pieces sep s.length s
theorem split_no {sep s : List UInt8} (hi : ¬ 0 ≤ Lib.index s sep) : split sep s = [s] := by
  unfold split
  cases s with
  | nil => rfl
  | cons a l => simp only [List.length_cons]; unfold pieces; rw [if_neg hi]
theorem split_at {sep s : List UInt8} (h : sep ≠ []) (hi : 0 ≤ Lib.index s sep) : split sep s = s.take (Lib.index s sep).toNat :: split sep (s.drop ((Lib.index s sep).toNat + sep.length)) := by
  unfold split
  have hr := Lib.index_room s sep hi
  have hl : 0 < sep.length := List.length_pos_iff.2 h
  obtain ⟨k, hk⟩ : ∃ k, s.length = k + 1 := ⟨s.length - 1, by omega⟩
  rw [hk]
  rw [show pieces sep (k + 1) s = if 0 ≤ Lib.index s sep then s.take (Lib.index s sep).toNat :: pieces sep k (s.drop ((Lib.index s sep).toNat + sep.length)) else [s] from rfl, if_pos hi]
  rw [pieces_more h k _ _ (by rw [List.length_drop]; omega) (Nat.le_refl _)]
theorem split_len {sep s x : List UInt8} (h : sep ≠ []) : x ∈ split sep s → x.length ≤ s.length := by
  suffices H : ∀ (n : Nat) (s : List UInt8), s.length ≤ n → x ∈ split sep s → x.length ≤ s.length from H s.length s (Nat.le_refl _)
  intro n
  induction n with
  | zero =>
    intro s hs hx
    rw [split_no (by cases s with
      | nil => rw [index_nil h]; decide
      | cons a l => simp at hs)] at hx
    simp at hx; subst hx; exact Nat.le_refl _
  | succ n ih =>
    intro s hs hx
    by_cases hi : 0 ≤ Lib.index s sep
    · rw [split_at h hi] at hx
      have hr := Lib.index_room s sep hi
      have hl : 0 < sep.length := List.length_pos_iff.2 h
      rcases List.mem_cons.1 hx with rfl | hx
      · rw [List.length_take]; omega
      · have := ih _ (by rw [List.length_drop]; omega) hx
        rw [List.length_drop] at this; omega
    · rw [split_no hi] at hx
      simp at hx; subst hx; exact Nat.le_refl _

theorem extract_take (t : ByteArray) (i : Nat) : t.extract 0 i = ⟨(t.data.toList.take i).toArray⟩ := by
  obtain ⟨⟨l⟩⟩ := t
  apply ByteArray.ext
  rw [ByteArray.data_extract, List.extract_toArray]
  rfl
theorem extract_drop (t : ByteArray) (i : Nat) : t.extract i t.size = ⟨(t.data.toList.drop i).toArray⟩ := by
  obtain ⟨⟨l⟩⟩ := t
  apply ByteArray.ext
  rw [ByteArray.data_extract, List.extract_toArray]
  show (List.take (l.length - i) (List.drop i l)).toArray = (List.drop i l).toArray
  rw [List.take_of_length_le (by rw [List.length_drop]; exact Nat.le_refl _)]
theorem kept_cell {W W' : World} {b o : Nat} {v : Value} (h : W'.heap[b]? = W.heap[b]?) (hc : W.cell? ⟨b, o, none⟩ = some v) : W'.cell? ⟨b, o, none⟩ = some v := by
  unfold World.cell? at hc ⊢
  rw [h]; exact hc
/-- the text in the iterator's own cell, for the loop's measure -/
def restLen (sb : Nat) (W : World) : Nat := match W.cell? ⟨sb, 0, none⟩ with
  | some (.string t) => t.size
  | _ => 0
theorem restLen_eq {sb : Nat} {W : World} {t : ByteArray} (h : W.cell? ⟨sb, 0, none⟩ = some (.string t)) : restLen sb W = t.size := by unfold restLen; rw [h]

set_option maxRecDepth 100000 in
set_option maxHeartbeats 4000000 in
theorem splitSeq_run (F : Fence) (hfn : ∀ f, F.fn f) (hro : F.round = none) (hC : ∀ (m f : Nat) (args : Array Value) (w : World) (R : Ending → World → Prop), Calls Tryz.prog f args w R → CallsIn F m Tryz.prog f args w R) (sep : ByteArray) (hsep : sep.data.toList ≠ []) (hss : sep.size ≤ 100) (xs : List (List UInt8)) (pb sb vb n₀ : Nat) (S : Nat → Prop) (h1 : S pb) (h2 : S sb) (h3 : S vb) (hp : pb ≠ sb) (hv : vb ≠ sb) (n l : Nat) (hn : 1 ≤ n) (J : List (List UInt8) → World → Prop)
    (W : World) (hB : n₀ ≤ W.heap.size) (s : ByteArray) (hs : s.size ≤ 100000) (hxs : xs = split sep.data.toList s.data.toList) (c1 : W.cell? ⟨pb, 0, none⟩ = some (.string sep)) (c2 : W.cell? ⟨sb, 0, none⟩ = some (.string s)) (c3 : W.cell? ⟨vb, 0, none⟩ = some (.int .i64 0)) (hf : W.frozen? ⟨sb, 0, none⟩ = false) (hm : MaxAt W)
    (hmn : S 1) (hmb : 1 ≠ sb)
    (hJ : Stores sb J)
    (hY : ∀ pre x rest W1, xs = pre ++ x :: rest → J pre W1 → YieldAt F (n - 1) Tryz.prog l #[.string ⟨x.toArray⟩] W1 fun e W' => e = .returned (.bool true) ∧ J (pre ++ [x]) W' ∧ Kept S W1 W')
    (h0 : J [] W) :
    CallsIn F n Tryz.prog 176 #[.func (.yield l) #[] #[], .pointer (some ⟨pb, 0, none⟩), .pointer (some ⟨sb, 0, none⟩), .pointer (some ⟨vb, 0, none⟩)] W fun e W' => (∃ v, e = .returned v) ∧ J xs W' := by
  refine callsIn_of_wp Tryz.func176 rfl (hfn _) ?_ hro
  simp only [Tryz.ntmps176, List.size_toArray, List.length_cons, List.length_nil, Nat.reduceAdd, Nat.reduceSub, Array.replicate_succ, Array.replicate_zero, List.push_toArray, List.append_toArray, List.nil_append, List.cons_append]
  have hz : ((sep.size : Int) == 0) = false := by
    rw [beq_eq_false_iff_ne]
    have := Lib.size_eq sep
    have := List.length_pos_iff.2 hsep
    omega
  obtain ⟨m, hmx⟩ := hm
  have HZ := Lib.hid hY; have HX := Lib.hid hxs; have HJ := Lib.hid hJ
  clear hY hxs hJ
  gi_wp2
  gi_loopw [7, 8] (fun _ _ wr => ∃ (pre : List (List UInt8)) (t : ByteArray), t.size ≤ 100000 ∧ Hid (xs = pre ++ split sep.data.toList t.data.toList) ∧ Hid (J pre wr) ∧ wr.cell? ⟨pb, 0, none⟩ = some (.string sep) ∧ wr.cell? ⟨sb, 0, none⟩ = some (.string t) ∧ wr.cell? ⟨vb, 0, none⟩ = some (.int .i64 0) ∧ wr.frozen? ⟨sb, 0, none⟩ = false ∧ wr.cell? ⟨1, 0, none⟩ = some (.int .i64 m) ∧ n₀ ≤ wr.heap.size)
    (fun _ _ wr => restLen sb wr)
  case atStart => exact ⟨[], s, hs, HX.out, h0, c1, c2, c3, hf, hmx, hB⟩
  case round =>
    obtain ⟨pre, t, ht, hx, hj, d1, d2, d3, df, dm, dB⟩ := hrel
    clear c1 c2 c3 hf hmx hB h0
    by_cases hi : 0 ≤ Lib.index t.data.toList sep.data.toList
    · have hr := Lib.index_room _ _ hi
      rw [split_at hsep hi] at hx
      obtain ⟨i, hI⟩ : ∃ i : Nat, Lib.index t.data.toList sep.data.toList = i := ⟨(Lib.index t.data.toList sep.data.toList).toNat, by omega⟩
      rw [hI] at hx hr
      have e1 := Lib.size_eq sep
      have e2 := Lib.size_eq t
      have e3 := List.length_pos_iff.2 hsep
      obtain ⟨fn, tmps, assign, body, hyy, hR⟩ := HZ.out pre _ _ wr hx.out hj.out
      have HR := Lib.hid hR
      clear hR
      have hi1 : i ≤ t.size := by omega
      have hi2 : i + sep.size ≤ t.size := by omega
      have hs1 : ∀ wx, (Instr.slice 9 (.string t) none (some (.int .i64 (i : Int))) none).run Tryz.prog wx = .ok (.string ⟨(t.data.toList.take i).toArray⟩) wx := fun wx => by
        rw [run_slice_string_h wx 9 t rfl .i64 i (by omega) (by omega)]
        rw [show (i : Int).toNat = i from rfl, extract_take]
      have hs2 : ∀ wx, (Instr.slice 9 (.string t) (some (.int .i64 ((i : Int) + (sep.size : Int)))) none none).run Tryz.prog wx = .ok (.string ⟨(t.data.toList.drop (i + sep.data.toList.length)).toArray⟩) wx := fun wx => by
        rw [run_slice_string_l wx 9 t rfl .i64 _ (by omega) (by omega)]
        rw [show ((i : Int) + (sep.size : Int)).toNat = i + sep.data.toList.length by omega, extract_drop]
      have HIx := Lib.hid (show Calls Tryz.prog 134 #[.string t, .string sep] wr (fun e w' => e = .returned (.int .i64 i) ∧ w' = wr) from (Tryz.strings_Index t sep m _ (by omega) dm).mono (by rintro e w' ⟨rfl, rfl⟩; exact ⟨by rw [hI], rfl⟩))
      rw [show ((i : Nat) : Int).toNat = i from rfl] at hx hyy HR
      gi_wp2_with (gi_at_call 134; refine (hC _ _ _ _ _ HIx.out).mono ?_; rintro e w1 ⟨rfl, rfl⟩; dsimp only)
      refine HR.out.mono ?_
      rintro e W3 ⟨rfl, hJ3, hk3⟩
      have f1 := kept_cell (hk3.2 pb h1) d1
      have f2 := kept_cell (hk3.2 sb h2) d2
      have f3 := kept_cell (hk3.2 vb h3) d3
      have fm := kept_cell (hk3.2 _ hmn) dm
      have ff := (World.frozen?_of_block (a := ⟨sb, 0, none⟩) (hk3.2 sb h2)).trans df
      have fB := Nat.le_trans dB hk3.1
      have HT := Lib.hid (show (⟨(t.data.toList.drop (i + sep.data.toList.length)).toArray⟩ : ByteArray).size < t.size by
        have := Lib.size_eq (⟨(t.data.toList.drop (i + sep.data.toList.length)).toArray⟩ : ByteArray)
        simp only [List.length_drop] at this
        omega)
      clear d1 d3 df dm dB hyy HIx hs1 HR hI hr hi e1 e2 e3 hi1 hsep hz
      dsimp only
      gi_wp2
      go_roundw
      case rel =>
        refine ⟨pre ++ [t.data.toList.take i], ⟨(t.data.toList.drop (i + sep.data.toList.length)).toArray⟩, ?_, ?_, HJ.out _ _ _ hJ3, ?_, ?_, ?_, ?_, ?_, ?_⟩
        · have := HT.out; omega
        · exact Lib.hid (by rw [hx.out, List.append_assoc]; rfl)
        · exact far_cell (fun e => hp e) _ _ f1
        · exact World.cell?_setCell_same' _ _ _ (by rw [f2]; rfl)
        · exact far_cell (fun e => hv e) _ _ f3
        · rw [World.frozen?_setCell]; exact ff
        · exact far_cell (fun e => hmb e) _ _ fm
        · rw [size_setCell]; exact fB
      case measure =>
        rw [restLen_eq (World.cell?_setCell_same' _ _ _ (by rw [f2]; rfl)), restLen_eq d2]; exact HT.out
    · rw [split_no hi] at hx
      obtain ⟨fn, tmps, assign, body, hyy, hR⟩ := HZ.out pre _ _ wr hx.out hj.out
      have HR := Lib.hid hR
      clear hR
      gi_wp2_with (gi_at_call 134; refine (hC _ _ _ _ _ (Tryz.strings_Index t sep m _ (by omega) dm)).mono ?_; rintro e w' ⟨rfl, rfl⟩)
      refine HR.out.mono ?_
      rintro e W3 ⟨rfl, hJ3, hk3⟩
      gi_wp2
      go_end0
      exact ⟨⟨_, rfl⟩, by rw [hx.out]; exact hJ3⟩
/-- the world behind SplitSeq: the text, the separator, nought -/
def seqW (w : World) (s sep : ByteArray) : World := ((w.alloc (.cells #[.string s] 9)).alloc (.cells #[.string sep] 9)).alloc (.cells #[.int .i64 0] 3)
def seqL (w : World) : Array Value := #[.pointer (some ⟨w.heap.size + 1, 0, none⟩), .pointer (some ⟨w.heap.size, 0, none⟩), .pointer (some ⟨w.heap.size + 2, 0, none⟩)]
theorem seqW_size (w : World) (s sep : ByteArray) : (seqW w s sep).heap.size = w.heap.size + 3 := by simp [seqW]
theorem seqW_below (w : World) (s sep : ByteArray) : Below w.heap.size w (seqW w s sep) :=
  (((Below.refl w.heap.size w).alloc (Nat.le_refl _) _).alloc (by simp) _).alloc (by simp; omega) _
set_option maxHeartbeats 1000000 in
theorem split1_any (s sep : ByteArray) (w : World) :
    Calls Tryz.prog 150 #[.string s, .string sep, .int .i64 0] w fun e w' => e = .returned (.func (.func 176) #[] (seqL w)) ∧ w' = seqW w s sep := by
  go_enter Tryz.func150, Tryz.ntmps150
  go_wp2_with fail
  go_ret
  exact ⟨rfl, rfl⟩
set_option maxHeartbeats 1000000 in
theorem split_any (s sep : ByteArray) (w : World) :
    Calls Tryz.prog 116 #[.string s, .string sep] w fun e w' => e = .returned (.func (.func 176) #[] (seqL w)) ∧ w' = seqW w s sep := by
  have H := split1_any s sep w
  go_enter Tryz.func116, Tryz.ntmps116
  go_wp2_with fail
  refine H.mono ?_
  rintro e w1 ⟨rfl, rfl⟩
  go_wp2_with fail
  go_ret
  exact ⟨rfl, rfl⟩
/-- the iterator's own blocks, and the one that it reads -/
def seqS (w : World) (k : Nat) : Prop := k = 1 ∨ (w.heap.size ≤ k ∧ k < w.heap.size + 3)
theorem split_seq (F : Fence) (hF : Wide Tryz.prog F) (hro : F.round = none) (n : Nat) (hn : 1 ≤ n)
    (s sep : ByteArray) (w : World) (hsep : sep.data.toList ≠ []) (hss : sep.size ≤ 100) (hs : s.size ≤ 100000) (hm : MaxAt w) :
    SeqC F n Tryz.prog 176 (seqL w) (fun x : List UInt8 => #[.string ⟨x.toArray⟩]) (split sep.data.toList s.data.toList) w.heap.size (seqS w) (seqW w s sep) := by
  intro l J W hW _ hS hY h0
  have hsz := seqW_size w s sep
  have hml := hm.lt
  have b1 : (seqW w s sep).heap[w.heap.size]? = some (.cells #[.string s] 9) :=
    (Go.heap_alloc_old _ _ (by simp; omega)).trans ((Go.heap_alloc_old _ _ (by simp)).trans (Go.heap_alloc_new w _))
  have b2 : (seqW w s sep).heap[w.heap.size + 1]? = some (.cells #[.string sep] 9) := by
    refine (Go.heap_alloc_old _ _ (by simp)).trans ?_
    have := Go.heap_alloc_new (w.alloc (.cells #[.string s] 9)) (.cells #[.string sep] 9)
    rwa [show (w.alloc (.cells #[.string s] 9)).heap.size = w.heap.size + 1 by simp] at this
  have b3 : (seqW w s sep).heap[w.heap.size + 2]? = some (.cells #[.int .i64 0] 3) := by
    have := Go.heap_alloc_new ((w.alloc (.cells #[.string s] 9)).alloc (.cells #[.string sep] 9)) (.cells #[.int .i64 0] 3)
    rwa [show ((w.alloc (.cells #[.string s] 9)).alloc (.cells #[.string sep] 9)).heap.size = w.heap.size + 2 by simp] at this
  have hh : ∀ k, k < w.heap.size + 3 → W.heap[k]? = (seqW w s sep).heap[k]? := fun k hk => hW.block k (by omega)
  exact splitSeq_run F hF.fn hro hF.calls sep hsep hss _ (w.heap.size + 1) w.heap.size (w.heap.size + 2) (w.heap.size + 3) (seqS w) (.inr (by omega)) (.inr (by omega)) (.inr (by omega)) (by omega) (by omega) n l hn J W (by rw [← hsz]; exact hW.size) s hs rfl
    (block_cell ((hh _ (by omega)).trans b2) rfl) (block_cell ((hh _ (by omega)).trans b1) rfl) (block_cell ((hh _ (by omega)).trans b3) rfl) (by simp [World.frozen?, (hh _ (by omega)).trans b1])
    ((hm.below rfl (seqW_below w s sep)).below rfl hW) (.inl rfl) (by omega) hS hY h0
end Go.Proofs.YtnefcilopgcdpaaGreatDoor
