/-
  The walk of the law DpatTells: it answers true.
-/
import Derived.Test.YtmaccmhpcagcnaaGreatDoorDrawn
import Derived.Test.YtmaccmhpcagcnaaGreatDoorErr
namespace Go.Proofs.YtmaccmhpcagcnaaGreatDoor
open Go.RowKit Go.Lib

theorem error_nilB (e : Int) (w : World) :
    Calls Tryz.prog 6 #[.nilIface, .int .i64 e] w fun r w' => r = .returned (.bool (0 == e)) ∧ Below w.heap.size w w' :=
  (error_nil e w).mono fun _ _ h => ⟨h.1, below_of_eq h.2⟩

def patT : List UInt8 := [121, 121, 121, 121, 45, 77, 77, 45, 100, 100]
theorem patT_pp : Dp.pp patT = ([.fld 1, .txt [45], .fld 3, .txt [45], .fld 5], true) := by rfl
theorem ok_33t : Dt.ok 33 4 5 := by decide
theorem out_33 : Dp.out (ftext 33 4 5) (Dp.pp patT).1 = [48, 48, 51, 51, 45, 48, 52, 45, 48, 53] := by
  have h1 : Lib.itoa 33 = [51, 51] := by rw [show (33 : Int) = ((33 : Nat) : Int) from rfl, Lib.itoa_nonneg, Lib.decDigits_two (by omega) (by omega)]; rfl
  have h2 : Lib.itoa 4 = [52] := by rw [show (4 : Int) = ((4 : Nat) : Int) from rfl, Lib.itoa_nonneg, Lib.decDigits_one (by omega)]; rfl
  have h3 : Lib.itoa 5 = [53] := by rw [show (5 : Int) = ((5 : Nat) : Int) from rfl, Lib.itoa_nonneg, Lib.decDigits_one (by omega)]; rfl
  have f1 : ftext 33 4 5 1 = [48, 48, 51, 51] := by unfold ftext padTo; show List.replicate (4 - (Lib.itoa 33).length) 48 ++ Lib.itoa 33 = _; rw [h1]; rfl
  have f3 : ftext 33 4 5 3 = [48, 52] := by unfold ftext padTo; show List.replicate (2 - (Lib.itoa 4).length) 48 ++ Lib.itoa 4 = _; rw [h2]; rfl
  have f5 : ftext 33 4 5 5 = [48, 53] := by unfold ftext padTo; show List.replicate (2 - (Lib.itoa 5).length) 48 ++ Lib.itoa 5 = _; rw [h3]; rfl
  rw [patT_pp]
  show ftext 33 4 5 1 ++ ([45] ++ (ftext 33 4 5 3 ++ ([45] ++ (ftext 33 4 5 5 ++ [])))) = _
  rw [f1, f3, f5]; rfl
theorem fact_33t (W : World) (hA : AheadAt W) (hP : Pow10At W) (hM : MaxAt W) :
    Calls Tryz.prog 4 #[.string ⟨#[121, 121, 121, 121, 45, 77, 77, 45, 100, 100]⟩, .agg #[.int .i64 33, .int .i64 4, .int .i64 5]] W fun e w' => e = .returned (.tuple #[.string ⟨#[48, 48, 51, 51, 45, 48, 52, 45, 48, 53]⟩, .nilIface]) ∧ Below W.heap.size W w' := by
  have := format_ok ⟨patT.toArray⟩ 33 4 5 W (by rw [sz_mk]; decide) hM hA hP (by show (Dp.pp patT).2 = true; rw [patT_pp]) ok_33t
  have e : Dp.out (ftext 33 4 5) (Dp.pp (⟨patT.toArray⟩ : ByteArray).data.toList).1 = [48, 48, 51, 51, 45, 48, 52, 45, 48, 53] := out_33
  rw [e] at this
  exact this

set_option maxHeartbeats 2000000 in
set_option maxRecDepth 100000 in
theorem dpatTells_form (s : ByteArray) (y m d : Int) (w : World) (hs : s.size ≤ 10000000) (hy : y ≤ 9223372036854775807) (hm : m ≤ 9223372036854775807) (hdd : d ≤ 9223372036854775807) (hA : AheadAt w) (hP : Pow10At w) (hM : MaxAt w) (hE : ErrTypeAt w) (hp : (Dp.pp s.data.toList).2 = false) :
    Calls Tryz.prog 3 #[.string s, .agg #[.int .i64 y, .int .i64 m, .int .i64 d]] w fun e w' => e = .returned (.bool true) ∧ Below w.heap.size w w' := by
  have h0 := fun W (hW : Below w.heap.size w W) => fact_33t W (hA.below hW) (hP.below hW) (hM.below hW)
  have h1 := fun W => drawn_any s y m d W hs hy hm hdd
  have h2 := fun W (hW : Below w.heap.size w W) => dcheck_any s W (by omega) (hM.below hW)
  have h4 := fun W (hW : Below w.heap.size w W) => format_form s y m d W (by omega) (hM.below hW) hp
  have e1 : drawnOut y m d (Dp.pp s.data.toList) = .tuple #[.string ⟨#[]⟩, .bool false] := by unfold drawnOut; rw [hp]; rfl
  have e2 : pcsOut (Dp.pp s.data.toList).2 = .iface 28 (.int .i64 3) := by rw [hp]; rfl
  rw [e1] at h1
  rw [e2] at h2
  clear e1 e2 hp
  obtain ⟨w0, hw0⟩ : ∃ w0, w0 = w.alloc (.cells #[.int .i64 y, .int .i64 m, .int .i64 d] 23) := ⟨_, rfl⟩
  have B0 : Below w.heap.size w w0 := by rw [hw0]; exact (Below.refl _ _).alloc (Nat.le_refl _) _
  have A0 : Tre w0 w.heap.size y m d := by rw [hw0]; exact Tre.made _ _ _ _ _
  have HB0 := Lib.hid B0; have HA0 := Lib.hid A0; have Hw0 := Lib.hid hw0
  have H0 := Lib.hid h0; have H1 := Lib.hid h1; have H2 := Lib.hid h2; have H4 := Lib.hid h4; have HE := Lib.hid hE
  clear h0 h1 h2 h4 hE hA hP hM hw0 B0 A0 hy hm hdd
  go_enter Tryz.func3, Tryz.ntmps3
  go_wp2_with fail
  refine (H0.out _ (by rw [← Hw0.out]; exact HB0.out)).mono ?_
  rintro e w1 ⟨rfl, hb⟩
  rw [← Hw0.out] at hb
  have HB1 := Lib.hid (below_step HB0.out hb); have A1 := HA0.out.keep hb
  have HA1 := Lib.hid A1; obtain ⟨a10, a11, a12⟩ := A1
  clear hb
  go_wp2_with fail
  refine (H1.out _).mono ?_
  rintro e w2 ⟨rfl, hb⟩
  have HB2 := Lib.hid (below_step HB1.out hb); have A2 := HA1.out.keep hb
  have HA2 := Lib.hid A2; obtain ⟨a20, a21, a22⟩ := A2
  clear hb a10 a11 a12
  go_wp2_with fail
  refine (H2.out _ HB2.out).mono ?_
  rintro e w3 ⟨rfl, hb⟩
  have HB3 := Lib.hid (below_step HB2.out hb); have A3 := HA2.out.keep hb
  have HA3 := Lib.hid A3; obtain ⟨a30, a31, a32⟩ := A3
  clear hb a20 a21 a22
  go_wp2_with fail
  refine (error_no 3 3 _ (HE.out.below HB3.out)).mono ?_
  rintro e w4 ⟨rfl, hb⟩
  have HB4 := Lib.hid (below_step HB3.out hb); have A4 := HA3.out.keep hb
  have HA4 := Lib.hid A4; obtain ⟨a40, a41, a42⟩ := A4
  clear hb a30 a31 a32
  go_wp2_with fail
  refine (H4.out _ HB4.out).mono ?_
  rintro e w5 ⟨rfl, hb⟩
  have HB5 := Lib.hid (below_step HB4.out hb); have A5 := HA4.out.keep hb
  have HA5 := Lib.hid A5; obtain ⟨a50, a51, a52⟩ := A5
  clear hb a40 a41 a42
  go_wp2_with fail
  refine (error_no 3 3 _ (HE.out.below HB5.out)).mono ?_
  rintro e w6 ⟨rfl, hb⟩
  have HB6 := Lib.hid (below_step HB5.out hb); clear hb
  go_wp2_with fail
  go_ret
  exact ⟨rfl, HB6.out⟩

set_option maxHeartbeats 2000000 in
set_option maxRecDepth 100000 in
theorem dpatTells_range (s : ByteArray) (y m d : Int) (w : World) (hs : s.size ≤ 10000000) (hy : y ≤ 9223372036854775807) (hm : m ≤ 9223372036854775807) (hdd : d ≤ 9223372036854775807) (hA : AheadAt w) (hP : Pow10At w) (hM : MaxAt w) (hE : ErrTypeAt w) (hp : (Dp.pp s.data.toList).2 = true) (hd : ¬ Dt.ok y m d) :
    Calls Tryz.prog 3 #[.string s, .agg #[.int .i64 y, .int .i64 m, .int .i64 d]] w fun e w' => e = .returned (.bool true) ∧ Below w.heap.size w w' := by
  have h0 := fun W (hW : Below w.heap.size w W) => fact_33t W (hA.below hW) (hP.below hW) (hM.below hW)
  have h1 := fun W => drawn_any s y m d W hs hy hm hdd
  have h2 := fun W (hW : Below w.heap.size w W) => dcheck_any s W (by omega) (hM.below hW)
  have h4 := fun W (hW : Below w.heap.size w W) => format_range s y m d W (by omega) (hM.below hW) (hA.below hW) hp hd
  have HF := Lib.hid (fun W => rfault_bad y m d W hd)
  have e1 : drawnOut y m d (Dp.pp s.data.toList) = .tuple #[.string ⟨(Dp.out (rtext y m d) (Dp.pp s.data.toList).1).toArray⟩, .bool true] := by unfold drawnOut; rw [hp]; rfl
  have e2 : pcsOut (Dp.pp s.data.toList).2 = .nilIface := by rw [hp]; rfl
  rw [e1] at h1
  rw [e2] at h2
  generalize Dp.out (rtext y m d) (Dp.pp s.data.toList).1 = X at h1
  clear e1 e2 hp hd
  obtain ⟨w0, hw0⟩ : ∃ w0, w0 = w.alloc (.cells #[.int .i64 y, .int .i64 m, .int .i64 d] 23) := ⟨_, rfl⟩
  have B0 : Below w.heap.size w w0 := by rw [hw0]; exact (Below.refl _ _).alloc (Nat.le_refl _) _
  have A0 : Tre w0 w.heap.size y m d := by rw [hw0]; exact Tre.made _ _ _ _ _
  have HB0 := Lib.hid B0; have HA0 := Lib.hid A0; have Hw0 := Lib.hid hw0
  have H0 := Lib.hid h0; have H1 := Lib.hid h1; have H2 := Lib.hid h2; have H4 := Lib.hid h4; have HE := Lib.hid hE
  clear h0 h1 h2 h4 hE hA hP hM hw0 B0 A0 hy hm hdd
  go_enter Tryz.func3, Tryz.ntmps3
  go_wp2_with fail
  refine (H0.out _ (by rw [← Hw0.out]; exact HB0.out)).mono ?_
  rintro e w1 ⟨rfl, hb⟩
  rw [← Hw0.out] at hb
  have HB1 := Lib.hid (below_step HB0.out hb); have A1 := HA0.out.keep hb
  have HA1 := Lib.hid A1; obtain ⟨a10, a11, a12⟩ := A1
  clear hb
  go_wp2_with fail
  refine (H1.out _).mono ?_
  rintro e w2 ⟨rfl, hb⟩
  have HB2 := Lib.hid (below_step HB1.out hb); have A2 := HA1.out.keep hb
  have HA2 := Lib.hid A2; obtain ⟨a20, a21, a22⟩ := A2
  clear hb a10 a11 a12
  go_wp2_with fail
  refine (H2.out _ HB2.out).mono ?_
  rintro e w3 ⟨rfl, hb⟩
  have HB3 := Lib.hid (below_step HB2.out hb); have A3 := HA2.out.keep hb
  have HA3 := Lib.hid A3; obtain ⟨a30, a31, a32⟩ := A3
  clear hb a20 a21 a22
  go_wp2_with fail
  refine (error_nilB 0 _).mono ?_
  rintro e w4 ⟨rfl, hb⟩
  have HB4 := Lib.hid (below_step HB3.out hb); have A4 := HA3.out.keep hb
  have HA4 := Lib.hid A4; obtain ⟨a40, a41, a42⟩ := A4
  clear hb a30 a31 a32
  go_wp2_with fail
  refine (HF.out _).mono ?_
  rintro e w5 ⟨rfl, hb⟩
  have HB5 := Lib.hid (below_step HB4.out hb); have A5 := HA4.out.keep hb
  have HA5 := Lib.hid A5; obtain ⟨a50, a51, a52⟩ := A5
  clear hb a40 a41 a42
  go_wp2_with fail
  refine (H4.out _ HB5.out).mono ?_
  rintro e w6 ⟨rfl, hb⟩
  have HB6 := Lib.hid (below_step HB5.out hb); have A6 := HA5.out.keep hb
  have HA6 := Lib.hid A6; obtain ⟨a60, a61, a62⟩ := A6
  clear hb a50 a51 a52
  go_wp2_with fail
  refine (error_no 1 1 _ (HE.out.below HB6.out)).mono ?_
  rintro e w7 ⟨rfl, hb⟩
  have HB7 := Lib.hid (below_step HB6.out hb); clear hb
  go_wp2_with fail
  go_ret
  exact ⟨rfl, HB7.out⟩

set_option maxHeartbeats 2000000 in
set_option maxRecDepth 100000 in
theorem dpatTells_day (s : ByteArray) (y m d : Int) (w : World) (hs : s.size ≤ 10000000) (hy : y ≤ 9223372036854775807) (hm : m ≤ 9223372036854775807) (hdd : d ≤ 9223372036854775807) (hA : AheadAt w) (hP : Pow10At w) (hM : MaxAt w) (hE : ErrTypeAt w) (hp : (Dp.pp s.data.toList).2 = true) (hd : Dt.ok y m d) :
    Calls Tryz.prog 3 #[.string s, .agg #[.int .i64 y, .int .i64 m, .int .i64 d]] w fun e w' => e = .returned (.bool true) ∧ Below w.heap.size w w' := by
  have h0 := fun W (hW : Below w.heap.size w W) => fact_33t W (hA.below hW) (hP.below hW) (hM.below hW)
  have h1 := fun W => drawn_any s y m d W hs hy hm hdd
  have h2 := fun W (hW : Below w.heap.size w W) => dcheck_any s W (by omega) (hM.below hW)
  have h4 := fun W (hW : Below w.heap.size w W) => format_ok s y m d W (by omega) (hM.below hW) (hA.below hW) (hP.below hW) hp hd
  have HF := Lib.hid (fun W => rfault_ok y m d W hd)
  have e1 : drawnOut y m d (Dp.pp s.data.toList) = .tuple #[.string ⟨(Dp.out (ftext y m d) (Dp.pp s.data.toList).1).toArray⟩, .bool true] := by unfold drawnOut; rw [hp, rtext_ok hd]; rfl
  have e2 : pcsOut (Dp.pp s.data.toList).2 = .nilIface := by rw [hp]; rfl
  rw [e1] at h1
  rw [e2] at h2
  generalize Dp.out (ftext y m d) (Dp.pp s.data.toList).1 = X at h1 h4
  clear e1 e2 hp hd
  obtain ⟨w0, hw0⟩ : ∃ w0, w0 = w.alloc (.cells #[.int .i64 y, .int .i64 m, .int .i64 d] 23) := ⟨_, rfl⟩
  have B0 : Below w.heap.size w w0 := by rw [hw0]; exact (Below.refl _ _).alloc (Nat.le_refl _) _
  have A0 : Tre w0 w.heap.size y m d := by rw [hw0]; exact Tre.made _ _ _ _ _
  have HB0 := Lib.hid B0; have HA0 := Lib.hid A0; have Hw0 := Lib.hid hw0
  have H0 := Lib.hid h0; have H1 := Lib.hid h1; have H2 := Lib.hid h2; have H4 := Lib.hid h4; have HE := Lib.hid hE
  clear h0 h1 h2 h4 hE hA hP hM hw0 B0 A0 hy hm hdd
  go_enter Tryz.func3, Tryz.ntmps3
  go_wp2_with fail
  refine (H0.out _ (by rw [← Hw0.out]; exact HB0.out)).mono ?_
  rintro e w1 ⟨rfl, hb⟩
  rw [← Hw0.out] at hb
  have HB1 := Lib.hid (below_step HB0.out hb); have A1 := HA0.out.keep hb
  have HA1 := Lib.hid A1; obtain ⟨a10, a11, a12⟩ := A1
  clear hb
  go_wp2_with fail
  refine (H1.out _).mono ?_
  rintro e w2 ⟨rfl, hb⟩
  have HB2 := Lib.hid (below_step HB1.out hb); have A2 := HA1.out.keep hb
  have HA2 := Lib.hid A2; obtain ⟨a20, a21, a22⟩ := A2
  clear hb a10 a11 a12
  go_wp2_with fail
  refine (H2.out _ HB2.out).mono ?_
  rintro e w3 ⟨rfl, hb⟩
  have HB3 := Lib.hid (below_step HB2.out hb); have A3 := HA2.out.keep hb
  have HA3 := Lib.hid A3; obtain ⟨a30, a31, a32⟩ := A3
  clear hb a20 a21 a22
  go_wp2_with fail
  refine (error_nilB 0 _).mono ?_
  rintro e w4 ⟨rfl, hb⟩
  have HB4 := Lib.hid (below_step HB3.out hb); have A4 := HA3.out.keep hb
  have HA4 := Lib.hid A4; obtain ⟨a40, a41, a42⟩ := A4
  clear hb a30 a31 a32
  go_wp2_with fail
  refine (HF.out _).mono ?_
  rintro e w5 ⟨rfl, hb⟩
  have HB5 := Lib.hid (below_step HB4.out hb); have A5 := HA4.out.keep hb
  have HA5 := Lib.hid A5; obtain ⟨a50, a51, a52⟩ := A5
  clear hb a40 a41 a42
  go_wp2_with fail
  refine (H4.out _ HB5.out).mono ?_
  rintro e w6 ⟨rfl, hb⟩
  have HB6 := Lib.hid (below_step HB5.out hb); have A6 := HA5.out.keep hb
  have HA6 := Lib.hid A6; obtain ⟨a60, a61, a62⟩ := A6
  clear hb a50 a51 a52
  go_wp2_with fail
  refine (error_nilB 0 _).mono ?_
  rintro e w7 ⟨rfl, hb⟩
  have HB7 := Lib.hid (below_step HB6.out hb); clear hb
  go_wp2_with fail
  go_ret
  exact ⟨rfl, HB7.out⟩

theorem dpatTells_walk (s : ByteArray) (y m d : Int) (w : World) (hs : s.size ≤ 10000000) (hy : y ≤ 9223372036854775807) (hm : m ≤ 9223372036854775807) (hdd : d ≤ 9223372036854775807) (hA : AheadAt w) (hP : Pow10At w) (hM : MaxAt w) (hE : ErrTypeAt w) :
    Calls Tryz.prog 3 #[.string s, .agg #[.int .i64 y, .int .i64 m, .int .i64 d]] w fun e w' => e = .returned (.bool true) ∧ Below w.heap.size w w' := by
  cases hp : (Dp.pp s.data.toList).2 with
  | false => exact dpatTells_form s y m d w hs hy hm hdd hA hP hM hE hp
  | true =>
    by_cases hd : Dt.ok y m d
    · exact dpatTells_day s y m d w hs hy hm hdd hA hP hM hE hp hd
    · exact dpatTells_range s y m d w hs hy hm hdd hA hP hM hE hp hd
end Go.Proofs.YtmaccmhpcagcnaaGreatDoor
