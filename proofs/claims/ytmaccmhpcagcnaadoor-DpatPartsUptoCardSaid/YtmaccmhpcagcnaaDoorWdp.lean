/-
  The walk of the law DpatParts: it answers true.
-/
import Derived.Test.YtmaccmhpcagcnaaDoorWiso
namespace Go.Proofs.YtmaccmhpcagcnaaDoor
open Go.Shelf Go.RowKit Go.Lib

def errV (k : Int) : Value := .iface 45 (.int .i64 k)
/-- Format at what is no day: an error -/
theorem format_bad (s : ByteArray) (y m d : Int) (hs : s.size ≤ 100000000) (hd : ¬ Dt.ok y m d) : ∃ k : Int, ∀ W, MaxAt W → AheadAt W →
    Calls Tryd.prog 10 #[.string s, .agg #[.int .i64 y, .int .i64 m, .int .i64 d]] W fun e w' => e = .returned (.tuple #[.string ⟨#[]⟩, .iface 45 (.int .i64 k)]) ∧ Below W.heap.size W w' := by
  cases hp : (Dp.pp s.data.toList).2 with
  | true => exact ⟨1, fun W hM hA => format_range s y m d W hs hM hA hp hd⟩
  | false => exact ⟨3, fun W hM _ => format_form s y m d W hs hM hp⟩
/-- Format at a day: a text or an error -/
theorem format_day (s : ByteArray) (y m d : Int) (hs : s.size ≤ 100000000) (hd : Dt.ok y m d) : ∃ (A : ByteArray) (v : Value), A.size ≤ 10000000000 ∧ ((v = .nilIface ∧ (Dp.pp s.data.toList).2 = true ∧ A.data.toList = Dp.out (ftext y m d) (Dp.pp s.data.toList).1) ∨ (v = .iface 45 (.int .i64 3) ∧ (Dp.pp s.data.toList).2 = false)) ∧
    ∀ W, MaxAt W → AheadAt W → Pow10At W → Calls Tryd.prog 10 #[.string s, .agg #[.int .i64 y, .int .i64 m, .int .i64 d]] W fun e w' => e = .returned (.tuple #[.string A, v]) ∧ Below W.heap.size W w' := by
  cases hp : (Dp.pp s.data.toList).2 with
  | true =>
    refine ⟨⟨(Dp.out (ftext y m d) (Dp.pp s.data.toList).1).toArray⟩, .nilIface, ?_, .inl ⟨rfl, rfl, by simp⟩, fun W hM hA hP => format_ok s y m d W hs hM hA hP hp hd⟩
    rw [sz_mk]
    have h1 := Dp.out_len (ftext y m d) (ftext_len y m d hd) (Dp.pp s.data.toList).1
    have h2 := Dp.pp_weight _ s.data.toList (Nat.le_refl _)
    rw [← Lib.size_eq] at h2
    omega
  | false => exact ⟨⟨#[]⟩, _, by simp [ByteArray.size], .inr ⟨rfl, rfl⟩, fun W hM _ _ => format_form s y m d W hs hM hp⟩

theorem bytes_ext {a b : ByteArray} (h : a.data.toList = b.data.toList) : a = b := by
  rw [← strOf_ext a, ← strOf_ext b, h]
theorem cat_data (a b : ByteArray) : (a ++ b).data.toList = a.data.toList ++ b.data.toList := by
  simp [ByteArray.data_append]

/-- what the walk needs of Format -/
structure PartFacts (w : World) (s t : ByteArray) (y m d : Int) (a b c : ByteArray) (v1 v2 v3 : Value) : Prop where
  f0 : ∀ W, Below w.heap.size w W → Calls Tryd.prog 10 #[.string ⟨#[121, 121, 121, 121, 45, 77, 77, 45, 100, 100]⟩, .agg #[.int .i64 33, .int .i64 4, .int .i64 5]] W fun e w' => e = .returned (.tuple #[.string ⟨#[48, 48, 51, 51, 45, 48, 52, 45, 48, 53]⟩, .nilIface]) ∧ Below W.heap.size W w'
  f1 : ∀ W, Below w.heap.size w W → Calls Tryd.prog 10 #[.string (s ++ ⟨#[32]⟩), .agg #[.int .i64 y, .int .i64 m, .int .i64 d]] W fun e w' => e = .returned (.tuple #[.string a, v1]) ∧ Below W.heap.size W w'
  f2 : ∀ W, Below w.heap.size w W → Calls Tryd.prog 10 #[.string t, .agg #[.int .i64 y, .int .i64 m, .int .i64 d]] W fun e w' => e = .returned (.tuple #[.string b, v2]) ∧ Below W.heap.size W w'
  f3 : ∀ W, Below w.heap.size w W → Calls Tryd.prog 10 #[.string (s ++ ⟨#[32]⟩ ++ t), .agg #[.int .i64 y, .int .i64 m, .int .i64 d]] W fun e w' => e = .returned (.tuple #[.string c, v3]) ∧ Below W.heap.size W w'

set_option maxHeartbeats 2000000 in
set_option maxRecDepth 100000 in
theorem dpatParts_bad (s t x : ByteArray) (y m d : Int) (a b c : ByteArray) (v1 v2 v3 : Value) (w : World) (hF : PartFacts w s t y m d a b c v1 v2 v3) (hs : s.size ≤ 10000000) (ht : t.size ≤ 10000000) (ha : a.size ≤ 10000000000) (hb : b.size ≤ 10000000000)
    (hE : (∃ k, v1 = .iface 45 (.int .i64 k)) ∨ (v1 = .nilIface ∧ ∃ k, v2 = .iface 45 (.int .i64 k)) ∨ (v1 = .nilIface ∧ v2 = .nilIface ∧ v3 = .nilIface ∧ c = a ++ b)) (hd : ¬ Dt.ok y m d) (hA : AheadAt w) :
    Calls Tryd.prog 4 #[.string s, .string t, .string x, .agg #[.int .i64 y, .int .i64 m, .int .i64 d]] w fun e w' => e = .returned (.bool true) ∧ Below w.heap.size w w' := by
  obtain ⟨w0, hw0⟩ : ∃ w0, w0 = w.alloc (.cells #[.int .i64 y, .int .i64 m, .int .i64 d] 23) := ⟨_, rfl⟩
  have B0 : Below w.heap.size w w0 := by rw [hw0]; exact (Below.refl _ _).alloc (Nat.le_refl _) _
  have A0 : Tre w0 w.heap.size y m d := by rw [hw0]; exact Tre.made _ _ _ _ _
  have HB0 := Lib.hid B0; have HA0 := Lib.hid A0; have Hw0 := Lib.hid hw0
  have HF := Lib.hid hF; have HAh := Lib.hid hA; have Hd := Lib.hid hd
  clear hF hw0 B0 A0 hA hd
  rcases hE with ⟨k, rfl⟩ | ⟨rfl, k, rfl⟩ | ⟨rfl, rfl, rfl, rfl⟩
  all_goals
    go_enter Tryd.func4, Tryd.ntmps4
    go_wp2_with fail
    refine (HF.out.f0 _ (by rw [← Hw0.out]; exact HB0.out)).mono ?_
    rintro e w1 ⟨rfl, hb⟩
    rw [← Hw0.out] at hb
    have HB1 := Lib.hid (below_step HB0.out hb); have A1 := HA0.out.keep hb
    have HA1 := Lib.hid A1; obtain ⟨a10, a11, a12⟩ := A1
    clear hb
    go_wp2_with fail
    refine (HF.out.f1 _ HB1.out).mono ?_
    rintro e w2 ⟨rfl, hb⟩
    have HB2 := Lib.hid (below_step HB1.out hb); have A2 := HA1.out.keep hb
    have HA2 := Lib.hid A2; obtain ⟨a20, a21, a22⟩ := A2
    clear hb a10 a11 a12
    go_wp2_with fail
    refine (HF.out.f2 _ HB2.out).mono ?_
    rintro e w3 ⟨rfl, hb⟩
    have HB3 := Lib.hid (below_step HB2.out hb); have A3 := HA2.out.keep hb
    have HA3 := Lib.hid A3; obtain ⟨a30, a31, a32⟩ := A3
    clear hb a20 a21 a22
    go_wp2_with fail
    refine (HF.out.f3 _ HB3.out).mono ?_
    rintro e w4 ⟨rfl, hb⟩
    have HB4 := Lib.hid (below_step HB3.out hb); have A4 := HA3.out.keep hb
    have HA4 := Lib.hid A4; obtain ⟨a40, a41, a42⟩ := A4
    clear hb a30 a31 a32
    go_wp2_with fail
    refine (check_bad y m d _ Hd.out (HAh.out.below HB4.out)).mono ?_
    rintro e w5 ⟨rfl, hb⟩
    have HB5 := Lib.hid (below_step HB4.out hb)
    clear hb
    go_wp2_with fail
    go_ret
    exact ⟨rfl, HB5.out⟩

set_option maxHeartbeats 2000000 in
set_option maxRecDepth 100000 in
theorem dpatParts_empty (s t x : ByteArray) (y m d : Int) (a b c : ByteArray) (v1 v2 v3 : Value) (w : World) (hF : PartFacts w s t y m d a b c v1 v2 v3) (hs : s.size ≤ 10000000) (ht : t.size ≤ 10000000) (ha : a.size ≤ 10000000000) (hb : b.size ≤ 10000000000)
    (hE : (∃ k, v1 = .iface 45 (.int .i64 k)) ∨ (v1 = .nilIface ∧ ∃ k, v2 = .iface 45 (.int .i64 k)) ∨ (v1 = .nilIface ∧ v2 = .nilIface ∧ v3 = .nilIface ∧ c = a ++ b)) (hd : Dt.ok y m d) (hA : AheadAt w) (hx : x.size = 0) :
    Calls Tryd.prog 4 #[.string s, .string t, .string x, .agg #[.int .i64 y, .int .i64 m, .int .i64 d]] w fun e w' => e = .returned (.bool true) ∧ Below w.heap.size w w' := by
  obtain ⟨w0, hw0⟩ : ∃ w0, w0 = w.alloc (.cells #[.int .i64 y, .int .i64 m, .int .i64 d] 23) := ⟨_, rfl⟩
  have B0 : Below w.heap.size w w0 := by rw [hw0]; exact (Below.refl _ _).alloc (Nat.le_refl _) _
  have A0 : Tre w0 w.heap.size y m d := by rw [hw0]; exact Tre.made _ _ _ _ _
  have HB0 := Lib.hid B0; have HA0 := Lib.hid A0; have Hw0 := Lib.hid hw0
  have HF := Lib.hid hF; have HAh := Lib.hid hA; have Hd := Lib.hid hd
  have hem := emp_true hx
  have hem2 : x.toList.isEmpty = true := by simpa using hem
  clear hF hw0 B0 A0 hA hd hx
  rcases hE with ⟨k, rfl⟩ | ⟨rfl, k, rfl⟩ | ⟨rfl, rfl, rfl, rfl⟩
  all_goals
    go_enter Tryd.func4, Tryd.ntmps4
    go_wp2_with fail
    refine (HF.out.f0 _ (by rw [← Hw0.out]; exact HB0.out)).mono ?_
    rintro e w1 ⟨rfl, hb⟩
    rw [← Hw0.out] at hb
    have HB1 := Lib.hid (below_step HB0.out hb); have A1 := HA0.out.keep hb
    have HA1 := Lib.hid A1; obtain ⟨a10, a11, a12⟩ := A1
    clear hb
    go_wp2_with fail
    refine (HF.out.f1 _ HB1.out).mono ?_
    rintro e w2 ⟨rfl, hb⟩
    have HB2 := Lib.hid (below_step HB1.out hb); have A2 := HA1.out.keep hb
    have HA2 := Lib.hid A2; obtain ⟨a20, a21, a22⟩ := A2
    clear hb a10 a11 a12
    go_wp2_with fail
    refine (HF.out.f2 _ HB2.out).mono ?_
    rintro e w3 ⟨rfl, hb⟩
    have HB3 := Lib.hid (below_step HB2.out hb); have A3 := HA2.out.keep hb
    have HA3 := Lib.hid A3; obtain ⟨a30, a31, a32⟩ := A3
    clear hb a20 a21 a22
    go_wp2_with fail
    refine (HF.out.f3 _ HB3.out).mono ?_
    rintro e w4 ⟨rfl, hb⟩
    have HB4 := Lib.hid (below_step HB3.out hb); have A4 := HA3.out.keep hb
    have HA4 := Lib.hid A4; obtain ⟨a40, a41, a42⟩ := A4
    clear hb a30 a31 a32
    go_wp2_with fail
    refine (check_ok y m d _ Hd.out (HAh.out.below HB4.out)).mono ?_
    rintro e w5 ⟨rfl, hb⟩
    have HB5 := Lib.hid (below_step HB4.out hb); have A5 := HA4.out.keep hb
    have HA5 := Lib.hid A5; obtain ⟨a50, a51, a52⟩ := A5
    clear hb a40 a41 a42
    go_wp2_with fail
    go_ret
    exact ⟨rfl, HB5.out⟩

set_option maxHeartbeats 2000000 in
set_option maxRecDepth 100000 in
theorem dpatParts_quote (s t x : ByteArray) (y m d : Int) (a b c : ByteArray) (v1 v2 v3 : Value) (w : World) (hF : PartFacts w s t y m d a b c v1 v2 v3) (hs : s.size ≤ 10000000) (ht : t.size ≤ 10000000) (ha : a.size ≤ 10000000000) (hb : b.size ≤ 10000000000)
    (hE : (∃ k, v1 = .iface 45 (.int .i64 k)) ∨ (v1 = .nilIface ∧ ∃ k, v2 = .iface 45 (.int .i64 k)) ∨ (v1 = .nilIface ∧ v2 = .nilIface ∧ v3 = .nilIface ∧ c = a ++ b)) (hd : Dt.ok y m d) (hA : AheadAt w) (hx : 0 < x.size) (hq : x[0] = 39) :
    Calls Tryd.prog 4 #[.string s, .string t, .string x, .agg #[.int .i64 y, .int .i64 m, .int .i64 d]] w fun e w' => e = .returned (.bool true) ∧ Below w.heap.size w w' := by
  obtain ⟨w0, hw0⟩ : ∃ w0, w0 = w.alloc (.cells #[.int .i64 y, .int .i64 m, .int .i64 d] 23) := ⟨_, rfl⟩
  have B0 : Below w.heap.size w w0 := by rw [hw0]; exact (Below.refl _ _).alloc (Nat.le_refl _) _
  have A0 : Tre w0 w.heap.size y m d := by rw [hw0]; exact Tre.made _ _ _ _ _
  have HB0 := Lib.hid B0; have HA0 := Lib.hid A0; have Hw0 := Lib.hid hw0
  have HF := Lib.hid hF; have HAh := Lib.hid hA; have Hd := Lib.hid hd
  have hem := emp_false (show ¬ x.size = 0 by omega)
  have hem2 : x.toList.isEmpty = false := by simpa using hem
  have hq1 : ((x[0].toNat : Int) == 39) = true := by rw [hq]; rfl
  clear hF hw0 B0 A0 hA hd hq
  rcases hE with ⟨k, rfl⟩ | ⟨rfl, k, rfl⟩ | ⟨rfl, rfl, rfl, rfl⟩
  all_goals
    go_enter Tryd.func4, Tryd.ntmps4
    go_wp2_with fail
    refine (HF.out.f0 _ (by rw [← Hw0.out]; exact HB0.out)).mono ?_
    rintro e w1 ⟨rfl, hb⟩
    rw [← Hw0.out] at hb
    have HB1 := Lib.hid (below_step HB0.out hb); have A1 := HA0.out.keep hb
    have HA1 := Lib.hid A1; obtain ⟨a10, a11, a12⟩ := A1
    clear hb
    go_wp2_with fail
    refine (HF.out.f1 _ HB1.out).mono ?_
    rintro e w2 ⟨rfl, hb⟩
    have HB2 := Lib.hid (below_step HB1.out hb); have A2 := HA1.out.keep hb
    have HA2 := Lib.hid A2; obtain ⟨a20, a21, a22⟩ := A2
    clear hb a10 a11 a12
    go_wp2_with fail
    refine (HF.out.f2 _ HB2.out).mono ?_
    rintro e w3 ⟨rfl, hb⟩
    have HB3 := Lib.hid (below_step HB2.out hb); have A3 := HA2.out.keep hb
    have HA3 := Lib.hid A3; obtain ⟨a30, a31, a32⟩ := A3
    clear hb a20 a21 a22
    go_wp2_with fail
    refine (HF.out.f3 _ HB3.out).mono ?_
    rintro e w4 ⟨rfl, hb⟩
    have HB4 := Lib.hid (below_step HB3.out hb); have A4 := HA3.out.keep hb
    have HA4 := Lib.hid A4; obtain ⟨a40, a41, a42⟩ := A4
    clear hb a30 a31 a32
    go_wp2_with fail
    refine (check_ok y m d _ Hd.out (HAh.out.below HB4.out)).mono ?_
    rintro e w5 ⟨rfl, hb⟩
    have HB5 := Lib.hid (below_step HB4.out hb); have A5 := HA4.out.keep hb
    have HA5 := Lib.hid A5; obtain ⟨a50, a51, a52⟩ := A5
    clear hb a40 a41 a42
    go_wp2_with fail
    go_ret
    exact ⟨rfl, HB5.out⟩

theorem byte_at (x : ByteArray) (k : Nat) (h : k < x.size) : (x.extract k (k + 1)).data.toList = [x[k]] := by
  have h1 := Lib.data_getElem? x k h
  rw [Lib.extract_data]
  have e : k + 1 - k = 1 := by omega
  rw [e]
  cases hl : x.data.toList.drop k with
  | nil =>
    have := congrArg List.length hl
    rw [List.length_drop, ← Lib.size_eq] at this
    simp at this; omega
  | cons c r =>
    have h2 : (x.data.toList.drop k)[0]? = some x[k] := by rw [List.getElem?_drop]; simpa using h1
    rw [hl] at h2
    simp at h2
    rw [h2]; rfl
theorem twice_step (x : ByteArray) (k : Nat) (h : k < x.size) : Dp.twice (x.data.toList.take (k + 1)) = Dp.twice (x.data.toList.take k) ++ (if x[k] = 39 then [39, 39] else [x[k]]) := by
  have h1 := Lib.data_getElem? x k h
  have e : x.data.toList.take (k + 1) = x.data.toList.take k ++ [x[k]] := by
    have hl : k < x.data.toList.length := by rw [← Lib.size_eq]; exact h
    rw [List.take_succ_eq_append_getElem hl]
    rw [List.getElem?_eq_getElem hl] at h1
    rw [Option.some.inj h1]
  rw [e, Dp.twice_append]
  congr 1
  show (if x[k] = 39 then x[k] :: 39 :: Dp.twice [] else x[k] :: Dp.twice []) = _
  split
  · rename_i hx; rw [hx]; rfl
  · rfl

set_option maxHeartbeats 2000000 in
set_option maxRecDepth 100000 in
theorem dpatParts_loop (s t x : ByteArray) (y m d : Int) (a b c : ByteArray) (v1 v2 v3 : Value) (w : World) (hF : PartFacts w s t y m d a b c v1 v2 v3) (hs : s.size ≤ 10000000) (ht : t.size ≤ 10000000) (ha : a.size ≤ 10000000000) (hb : b.size ≤ 10000000000)
    (hE : (∃ k, v1 = .iface 45 (.int .i64 k)) ∨ (v1 = .nilIface ∧ ∃ k, v2 = .iface 45 (.int .i64 k)) ∨ (v1 = .nilIface ∧ v2 = .nilIface ∧ v3 = .nilIface ∧ c = a ++ b)) (hd : Dt.ok y m d) (hA : AheadAt w) (hx : 0 < x.size) (hxs : x.size ≤ 10000000) (hq : x[0] ≠ 39)
    (hU : ∀ W, Below w.heap.size w W → Calls Tryd.prog 10 #[.string (⟨#[39]⟩ ++ ⟨(Dp.twice x.data.toList).toArray⟩ ++ ⟨#[39]⟩), .agg #[.int .i64 y, .int .i64 m, .int .i64 d]] W fun e w' => e = .returned (.tuple #[.string x, .nilIface]) ∧ Below W.heap.size W w') :
    Calls Tryd.prog 4 #[.string s, .string t, .string x, .agg #[.int .i64 y, .int .i64 m, .int .i64 d]] w fun e w' => e = .returned (.bool true) ∧ Below w.heap.size w w' := by
  obtain ⟨w0, hw0⟩ : ∃ w0, w0 = w.alloc (.cells #[.int .i64 y, .int .i64 m, .int .i64 d] 23) := ⟨_, rfl⟩
  have B0 : Below w.heap.size w w0 := by rw [hw0]; exact (Below.refl _ _).alloc (Nat.le_refl _) _
  have A0 : Tre w0 w.heap.size y m d := by rw [hw0]; exact Tre.made _ _ _ _ _
  have HB0 := Lib.hid B0; have HA0 := Lib.hid A0; have Hw0 := Lib.hid hw0
  have HF := Lib.hid hF; have HAh := Lib.hid hA; have Hd := Lib.hid hd; have HU := Lib.hid hU
  have hem := emp_false (show ¬ x.size = 0 by omega)
  have hem2 : x.toList.isEmpty = false := by simpa using hem
  have hq1 : ((x[0].toNat : Int) == 39) = false := by
    rw [beq_eq_false_iff_ne]
    intro e
    exact hq (UInt8.toNat_inj.1 (by simpa using (Int.ofNat.inj e)))
  clear hF hw0 B0 A0 hA hd hq hU
  rcases hE with ⟨k, rfl⟩ | ⟨rfl, k, rfl⟩ | ⟨rfl, rfl, rfl, rfl⟩
  all_goals
    go_enter Tryd.func4, Tryd.ntmps4
    go_wp2_with fail
    refine (HF.out.f0 _ (by rw [← Hw0.out]; exact HB0.out)).mono ?_
    rintro e w1 ⟨rfl, hb⟩
    rw [← Hw0.out] at hb
    have HB1 := Lib.hid (below_step HB0.out hb); have A1 := HA0.out.keep hb
    have HA1 := Lib.hid A1; obtain ⟨a10, a11, a12⟩ := A1
    clear hb
    go_wp2_with fail
    refine (HF.out.f1 _ HB1.out).mono ?_
    rintro e w2 ⟨rfl, hb⟩
    have HB2 := Lib.hid (below_step HB1.out hb); have A2 := HA1.out.keep hb
    have HA2 := Lib.hid A2; obtain ⟨a20, a21, a22⟩ := A2
    clear hb a10 a11 a12
    go_wp2_with fail
    refine (HF.out.f2 _ HB2.out).mono ?_
    rintro e w3 ⟨rfl, hb⟩
    have HB3 := Lib.hid (below_step HB2.out hb); have A3 := HA2.out.keep hb
    have HA3 := Lib.hid A3; obtain ⟨a30, a31, a32⟩ := A3
    clear hb a20 a21 a22
    go_wp2_with fail
    refine (HF.out.f3 _ HB3.out).mono ?_
    rintro e w4 ⟨rfl, hb⟩
    have HB4 := Lib.hid (below_step HB3.out hb); have A4 := HA3.out.keep hb
    have HA4 := Lib.hid A4; obtain ⟨a40, a41, a42⟩ := A4
    clear hb a30 a31 a32
    go_wp2_with fail
    refine (check_ok y m d _ Hd.out (HAh.out.below HB4.out)).mono ?_
    rintro e w5 ⟨rfl, hb⟩
    have HB5 := Lib.hid (below_step HB4.out hb); have A5 := HA4.out.keep hb
    have HA5 := Lib.hid A5; obtain ⟨a50, a51, a52⟩ := A5
    clear hb a40 a41 a42
    go_wp2_with fail
    go_loop [17, 18] (fun v i => ∃ j : Nat, j ≤ x.size ∧ i = .int .i64 j ∧ v = .string ⟨(Dp.twice (x.data.toList.take j)).toArray⟩) (fun _ i => x.size - (RowKit.intOf i).toNat)
    case atStart => exact ⟨0, by omega, rfl, rfl⟩
    case round =>
      obtain ⟨j, hj, rfl, rfl⟩ := hrel
      have htl : (Dp.twice (x.data.toList.take j)).length ≤ 20000000 := by
        have h1 := (Dp.twice_len (x.data.toList.take j)).2
        have h2 := List.length_take_le j x.data.toList
        omega
      have hts : (⟨(Dp.twice (x.data.toList.take j)).toArray⟩ : ByteArray).size ≤ 20000000 := by rw [sz_mk]; exact htl
      by_cases hlt : j < x.size
      · have hst := twice_step x j hlt
        have hby := byte_at x j hlt
        have hsz : (x.extract j (j + 1)).size = 1 := by rw [Lib.size_eq, hby]; rfl
        by_cases h39 : x[j] = 39
        · have h1 : ((x[j].toNat : Int) == 39) = true := by rw [h39]; rfl
          have hE : (⟨(Dp.twice (x.data.toList.take j)).toArray⟩ : ByteArray) ++ x.extract j (j + 1) ++ ⟨#[39]⟩ = ⟨(Dp.twice (x.data.toList.take (j + 1))).toArray⟩ := by
            apply bytes_ext
            rw [cat_data, cat_data, hby, hst, if_pos h39, h39]
            simp
          have HE := Lib.hid hE
          clear hst hby h39 hE
          go_wp2_with fail
          go_round
          case rel => exact ⟨j + 1, by omega, by go_num, by rw [← HE.out]⟩
          case measure => simp [RowKit.intOf]; omega
        · have h1 : ((x[j].toNat : Int) == 39) = false := by
            rw [beq_eq_false_iff_ne]
            intro e
            exact h39 (UInt8.toNat_inj.1 (by simpa using (Int.ofNat.inj e)))
          have hE : (⟨(Dp.twice (x.data.toList.take j)).toArray⟩ : ByteArray) ++ x.extract j (j + 1) = ⟨(Dp.twice (x.data.toList.take (j + 1))).toArray⟩ := by
            apply bytes_ext
            rw [cat_data, hby, hst, if_neg h39]
          have HE := Lib.hid hE
          clear hst hby h39 hE
          go_wp2_with fail
          go_round
          case rel => exact ⟨j + 1, by omega, by go_num, by rw [← HE.out]⟩
          case measure => simp [RowKit.intOf]; omega
      · have hje : j = x.size := by omega
        subst hje
        have hfull : x.data.toList.take x.size = x.data.toList := List.take_of_length_le (by rw [← Lib.size_eq]; exact Nat.le_refl _)
        rw [hfull] at hts htl ⊢
        clear hfull
        go_wp2_with fail
        refine (HU.out _ HB5.out).mono ?_
        rintro e w6 ⟨rfl, hb⟩
        have HB6 := Lib.hid (below_step HB5.out hb)
        clear hb
        go_wp2_with fail
        go_ret
        exact ⟨rfl, HB6.out⟩

theorem dpatParts_walk (s t x : ByteArray) (y m d : Int) (w : World) (hs : s.size ≤ 2000000) (ht : t.size ≤ 2000000) (hx : x.size ≤ 2000000) (hA : AheadAt w) (hP : Pow10At w) (hM : MaxAt w) :
    Calls Tryd.prog 4 #[.string s, .string t, .string x, .agg #[.int .i64 y, .int .i64 m, .int .i64 d]] w fun e w' => e = .returned (.bool true) ∧ Below w.heap.size w w' := by
  have s1 : (s ++ (⟨#[32]⟩ : ByteArray)).size = s.size + 1 := ByteArray.size_append
  have s2 : (s ++ (⟨#[32]⟩ : ByteArray) ++ t).size = s.size + 1 + t.size := by rw [ByteArray.size_append, s1]
  have f0 := fun W (hW : Below w.heap.size w W) => fact_33 W (hA.below hW) (hP.below hW) (hM.below hW)
  by_cases hd : Dt.ok y m d
  · obtain ⟨a, v1, ha, h1, c1⟩ := format_day (s ++ ⟨#[32]⟩) y m d (by omega) hd
    obtain ⟨b, v2, hb, h2, c2⟩ := format_day t y m d (by omega) hd
    obtain ⟨c, v3, hc, h3, c3⟩ := format_day (s ++ ⟨#[32]⟩ ++ t) y m d (by omega) hd
    have hF : PartFacts w s t y m d a b c v1 v2 v3 := ⟨f0, fun W hW => c1 W (hM.below hW) (hA.below hW) (hP.below hW), fun W hW => c2 W (hM.below hW) (hA.below hW) (hP.below hW), fun W hW => c3 W (hM.below hW) (hA.below hW) (hP.below hW)⟩
    have hE : (∃ k, v1 = .iface 45 (.int .i64 k)) ∨ (v1 = .nilIface ∧ ∃ k, v2 = .iface 45 (.int .i64 k)) ∨ (v1 = .nilIface ∧ v2 = .nilIface ∧ v3 = .nilIface ∧ c = a ++ b) := by
      rcases h1 with ⟨e1, p1, q1⟩ | ⟨e1, p1⟩
      · rcases h2 with ⟨e2, p2, q2⟩ | ⟨e2, p2⟩
        · have l1 : (s ++ (⟨#[32]⟩ : ByteArray)).data.toList = s.data.toList ++ [32] := cat_data _ _
          have l3 : (s ++ (⟨#[32]⟩ : ByteArray) ++ t).data.toList = s.data.toList ++ 32 :: t.data.toList := by rw [cat_data, l1]; simp
          rw [l1] at p1 q1
          rw [l3] at h3
          have hpp := Dp.pp_app t.data.toList _ s.data.toList (Nat.le_refl _) p1
          rw [hpp] at h3
          rcases h3 with ⟨e3, p3, q3⟩ | ⟨e3, p3⟩
          · refine .inr (.inr ⟨e1, e2, e3, bytes_ext ?_⟩)
            rw [q3, cat_data, q1, q2]
            show Dp.out _ (_ ++ _) = _
            rw [Dp.out_append]
          · have : (Dp.pp t.data.toList).2 = false := p3
            rw [p2] at this; cases this
        · exact .inr (.inl ⟨e1, _, e2⟩)
      · exact .inl ⟨_, e1⟩
    by_cases h0 : x.size = 0
    · exact dpatParts_empty s t x y m d a b c v1 v2 v3 w hF (by omega) (by omega) ha hb hE hd hA h0
    · have hpos : 0 < x.size := Nat.pos_of_ne_zero h0
      by_cases hq : x[0] = 39
      · exact dpatParts_quote s t x y m d a b c v1 v2 v3 w hF (by omega) (by omega) ha hb hE hd hA hpos hq
      · refine dpatParts_loop s t x y m d a b c v1 v2 v3 w hF (by omega) (by omega) ha hb hE hd hA hpos (by omega) hq fun W hW => ?_
        have hcons := cons_of x hpos
        have hl : ((⟨#[39]⟩ : ByteArray) ++ ⟨(Dp.twice x.data.toList).toArray⟩ ++ ⟨#[39]⟩).data.toList = 39 :: (Dp.twice x.data.toList ++ [39]) := by
          rw [cat_data, cat_data]; simp
        have hpp : Dp.pp ((⟨#[39]⟩ : ByteArray) ++ ⟨(Dp.twice x.data.toList).toArray⟩ ++ ⟨#[39]⟩).data.toList = ([.txt x.data.toList], true) := by
          rw [hl, hcons]; exact Dp.pp_quoted _ hq
        have hsz : ((⟨#[39]⟩ : ByteArray) ++ ⟨(Dp.twice x.data.toList).toArray⟩ ++ ⟨#[39]⟩).size ≤ 100000000 := by
          rw [Lib.size_eq, hl]
          have := (Dp.twice_len x.data.toList).2
          rw [← Lib.size_eq] at this
          simp only [List.length_cons, List.length_append, List.length_nil]; omega
        have := format_ok _ y m d W hsz (hM.below hW) (hA.below hW) (hP.below hW) (by rw [hpp]) hd
        rw [hpp] at this
        have e : Dp.out (ftext y m d) [.txt x.data.toList] = x.data.toList := by simp [Dp.out, Dp.showP]
        rw [e, strOf_ext] at this
        exact this
  · obtain ⟨k1, c1⟩ := format_bad (s ++ ⟨#[32]⟩) y m d (by omega) hd
    obtain ⟨k2, c2⟩ := format_bad t y m d (by omega) hd
    obtain ⟨k3, c3⟩ := format_bad (s ++ ⟨#[32]⟩ ++ t) y m d (by omega) hd
    exact dpatParts_bad s t x y m d ⟨#[]⟩ ⟨#[]⟩ ⟨#[]⟩ _ _ _ w ⟨f0, fun W hW => c1 W (hM.below hW) (hA.below hW), fun W hW => c2 W (hM.below hW) (hA.below hW), fun W hW => c3 W (hM.below hW) (hA.below hW)⟩ (by omega) (by omega) (by simp [ByteArray.size]) (by simp [ByteArray.size]) (.inl ⟨k1, rfl⟩) hd hA
end Go.Proofs.YtmaccmhpcagcnaaDoor
