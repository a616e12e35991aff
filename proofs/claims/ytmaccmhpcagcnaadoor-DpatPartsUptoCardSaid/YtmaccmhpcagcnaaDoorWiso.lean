/-
  The walk of the law DpatIso: it answers true.
-/
import Derived.Test.YtmaccmhpcagcnaaDoorRdig
import Derived.Test.YtmaccmhpcagcnaaDoorWtop
namespace Go.Proofs.YtmaccmhpcagcnaaDoor
open Go.Shelf Go.RowKit Go.Lib

set_option maxHeartbeats 1000000 in
set_option maxRecDepth 100000 in
theorem week_bad (y m d : Int) (w : World) (h : ¬ Dt.ok y m d) (hA : AheadAt w) :
    Calls Tryd.prog 9 #[.agg #[.int .i64 y, .int .i64 m, .int .i64 d]] w fun e w' => e = .returned (.tuple #[.agg #[.int .i64 0, .int .i64 0, .int .i64 0], .iface 45 (.int .i64 1)]) ∧ Below w.heap.size w w' := by
  have hN := number_bad y m d ((w.alloc (.cells #[.int .i64 y, .int .i64 m, .int .i64 d] 23)).alloc (.cells #[.int .i64 0, .int .i64 0, .int .i64 0] 32)) h ((hA.alloc _).alloc _)
  have HN := Lib.hid hN
  clear hN hA h
  go_enter Tryd.func9, Tryd.ntmps9
  go_wp2_with fail
  refine HN.out.mono ?_
  rintro e w1 ⟨rfl, hb⟩
  have hb' : Below (w.heap.size + 1 + 1) ((w.alloc (.cells #[.int .i64 y, .int .i64 m, .int .i64 d] 23)).alloc (.cells #[.int .i64 0, .int .i64 0, .int .i64 0] 32)) w1 := by simpa using hb
  have hr : ∀ o, o < 3 → w1.cell? ⟨w.heap.size + 1, o, none⟩ = some (.int .i64 0) := by
    intro o ho
    rw [hb'.cell (p := ⟨_, _, none⟩) (by simp)]
    match o, ho with
    | 0, _ => simp
    | 1, _ => simp
    | 2, _ => simp
  have r0 := hr 0 (by omega); have r1 := hr 1 (by omega); have r2 := hr 2 (by omega)
  have hf : ∀ o, w1.frozen? ⟨w.heap.size + 1, o, none⟩ = false := by
    intro o
    rw [hb'.frozen (p := ⟨_, _, none⟩) (by simp)]; simp
  have f0 := hf 0; have f1 := hf 1; have f2 := hf 2
  have Hb := Lib.hid hb'; clear hb hb' hr hf
  go_wp2_with fail
  refine bodyPost_ret (v := .tuple #[.agg #[.int .i64 0, .int .i64 0, .int .i64 0], .iface 45 (.int .i64 1)]) (by simp [results, Tryd.results9, go_sem, r0, r1, r2]) rfl ⟨rfl, ?_⟩
  have hb0 : Below w.heap.size w w1 := (((Below.refl _ _).alloc (by simp) _).alloc (by simp) _).trans (Hb.out.mono (by omega))
  exact ((hb0.setCell (p := ⟨w.heap.size + 1, 0, none⟩) (by simp) _).setCell (p := ⟨w.heap.size + 1, 1, none⟩) (by simp) _).setCell (p := ⟨w.heap.size + 1, 2, none⟩) (by simp) _

def patD : List UInt8 := [121, 121, 121, 121, 45, 77, 77, 45, 100, 100]
def patW : List UInt8 := [89, 89, 89, 89, 39, 45, 87, 39, 119, 119, 45, 101]
def patY : List UInt8 := [68, 68, 68]
theorem patD_pp : Dp.pp patD = ([.fld 1, .txt [45], .fld 3, .txt [45], .fld 5], true) := by rfl
theorem patW_pp : Dp.pp patW = ([.fld 7, .txt [45, 87], .fld 8, .txt [45], .fld 9], true) := by rfl
theorem patY_pp : Dp.pp patY = ([.fld 6], true) := by rfl
theorem patD_out (y m d : Int) : Dp.out (ftext y m d) (Dp.pp patD).1 = dText y m d := by
  rw [patD_pp]; simp [Dp.out, Dp.showP, dText, ftext, fleast, fval]
theorem patW_out (y m d : Int) : Dp.out (ftext y m d) (Dp.pp patW).1 = wText (Dt.wy y (Dt.num y m d)) (Dt.num y m d) := by
  rw [patW_pp]; simp [Dp.out, Dp.showP, wText, ftext, fleast, fval]
theorem patY_out (y m d : Int) : Dp.out (ftext y m d) (Dp.pp patY).1 = padTo 3 (Dt.num y m d - Dt.num y 1 1 + 1) := by
  rw [patY_pp]; simp [Dp.out, Dp.showP, ftext, fleast, fval]
theorem ok_33 : Dt.ok 33 4 5 := by decide
theorem dText_33 : dText 33 4 5 = [48, 48, 51, 51, 45, 48, 52, 45, 48, 53] := by
  have h1 : Lib.itoa 33 = [51, 51] := by rw [show (33 : Int) = ((33 : Nat) : Int) from rfl, Lib.itoa_nonneg, Lib.decDigits_two (by omega) (by omega)]; rfl
  have h2 : Lib.itoa 4 = [52] := by rw [show (4 : Int) = ((4 : Nat) : Int) from rfl, Lib.itoa_nonneg, Lib.decDigits_one (by omega)]; rfl
  have h3 : Lib.itoa 5 = [53] := by rw [show (5 : Int) = ((5 : Nat) : Int) from rfl, Lib.itoa_nonneg, Lib.decDigits_one (by omega)]; rfl
  unfold dText padTo; rw [h1, h2, h3]; rfl
/-- the fact at the head of the laws of patterns -/
theorem fact_33 (W : World) (hA : AheadAt W) (hP : Pow10At W) (hM : MaxAt W) :
    Calls Tryd.prog 10 #[.string ⟨#[121, 121, 121, 121, 45, 77, 77, 45, 100, 100]⟩, .agg #[.int .i64 33, .int .i64 4, .int .i64 5]] W fun e w' => e = .returned (.tuple #[.string ⟨#[48, 48, 51, 51, 45, 48, 52, 45, 48, 53]⟩, .nilIface]) ∧ Below W.heap.size W w' := by
  have := format_ok ⟨patD.toArray⟩ 33 4 5 W (by rw [sz_mk]; decide) hM hA hP (by show (Dp.pp patD).2 = true; rw [patD_pp]) ok_33
  have e : Dp.out (ftext 33 4 5) (Dp.pp (⟨patD.toArray⟩ : ByteArray).data.toList).1 = [48, 48, 51, 51, 45, 48, 52, 45, 48, 53] := (patD_out 33 4 5).trans dText_33
  rw [e] at this
  exact this

/-- what the walk at a day needs of the callees -/
structure IsoFacts (w : World) (y m d n f k v A : Int) (T R K : ByteArray) : Prop where
  f0 : ∀ W, Below w.heap.size w W → Calls Tryd.prog 10 #[.string ⟨#[121, 121, 121, 121, 45, 77, 77, 45, 100, 100]⟩, .agg #[.int .i64 33, .int .i64 4, .int .i64 5]] W fun e w' => e = .returned (.tuple #[.string ⟨#[48, 48, 51, 51, 45, 48, 52, 45, 48, 53]⟩, .nilIface]) ∧ Below W.heap.size W w'
  fd : ∀ W, Below w.heap.size w W → Calls Tryd.prog 10 #[.string ⟨#[121, 121, 121, 121, 45, 77, 77, 45, 100, 100]⟩, .agg #[.int .i64 y, .int .i64 m, .int .i64 d]] W fun e w' => e = .returned (.tuple #[.string T, .nilIface]) ∧ Below W.heap.size W w'
  dt : ∀ W, Below w.heap.size w W → Calls Tryd.prog 11 #[.agg #[.int .i64 y, .int .i64 m, .int .i64 d]] W fun e w' => e = .returned (.tuple #[.string T, .nilIface]) ∧ Below W.heap.size W w'
  fw : ∀ W, Below w.heap.size w W → Calls Tryd.prog 10 #[.string ⟨#[89, 89, 89, 89, 39, 45, 87, 39, 119, 119, 45, 101]⟩, .agg #[.int .i64 y, .int .i64 m, .int .i64 d]] W fun e w' => e = .returned (.tuple #[.string R, .nilIface]) ∧ Below W.heap.size W w'
  wo : ∀ W, Below w.heap.size w W → Calls Tryd.prog 9 #[.agg #[.int .i64 y, .int .i64 m, .int .i64 d]] W fun e w' => e = .returned (.tuple #[.agg #[.int .i64 k, .int .i64 v, .int .i64 A], .nilIface]) ∧ Below W.heap.size W w'
  wt : ∀ W, Below w.heap.size w W → Calls Tryd.prog 12 #[.agg #[.int .i64 k, .int .i64 v, .int .i64 A]] W fun e w' => e = .returned (.tuple #[.string R, .nilIface]) ∧ Below W.heap.size W w'
  na : ∀ W, Below w.heap.size w W → Calls Tryd.prog 6 #[.agg #[.int .i64 y, .int .i64 m, .int .i64 d]] W fun e w' => e = .returned (.tuple #[.int .i64 n, .nilIface]) ∧ Below W.heap.size W w'
  nf : ∀ W, Below w.heap.size w W → Calls Tryd.prog 6 #[.agg #[.int .i64 y, .int .i64 1, .int .i64 1]] W fun e w' => e = .returned (.tuple #[.int .i64 f, .nilIface]) ∧ Below W.heap.size W w'
  fy : ∀ W, Below w.heap.size w W → Calls Tryd.prog 10 #[.string ⟨#[68, 68, 68]⟩, .agg #[.int .i64 y, .int .i64 m, .int .i64 d]] W fun e w' => e = .returned (.tuple #[.string K, .nilIface]) ∧ Below W.heap.size W w'
  dg : ∀ W, Below w.heap.size w W → Calls Tryd.prog 13 #[.int .i64 (n - f + 1), .int .i64 3] W fun e w' => e = .returned (.string K) ∧ Below W.heap.size W w'

set_option maxHeartbeats 2000000 in
set_option maxRecDepth 100000 in
theorem dpatIso_bad (y m d : Int) (w : World) (hd : ¬ Dt.ok y m d) (hA : AheadAt w) (hP : Pow10At w) (hM : MaxAt w) :
    Calls Tryd.prog 5 #[.agg #[.int .i64 y, .int .i64 m, .int .i64 d]] w fun e w' => e = .returned (.bool true) ∧ Below w.heap.size w w' := by
  have h0 := fun W (hW : Below w.heap.size w W) => fact_33 W (hA.below hW) (hP.below hW) (hM.below hW)
  have h1 := fun W (hW : Below w.heap.size w W) => format_range ⟨patD.toArray⟩ y m d W (by rw [sz_mk]; decide) (hM.below hW) (hA.below hW) (by show (Dp.pp patD).2 = true; rw [patD_pp]) hd
  have h2 := fun W (hW : Below w.heap.size w W) => text_bad y m d W hd (hA.below hW)
  have h3 := fun W (hW : Below w.heap.size w W) => format_range ⟨patW.toArray⟩ y m d W (by rw [sz_mk]; decide) (hM.below hW) (hA.below hW) (by show (Dp.pp patW).2 = true; rw [patW_pp]) hd
  have h4 := fun W (hW : Below w.heap.size w W) => week_bad y m d W hd (hA.below hW)
  have H0 := Lib.hid h0; have H1 := Lib.hid h1; have H2 := Lib.hid h2; have H3 := Lib.hid h3; have H4 := Lib.hid h4
  obtain ⟨w0, hw0⟩ : ∃ w0, w0 = w.alloc (.cells #[.int .i64 y, .int .i64 m, .int .i64 d] 23) := ⟨_, rfl⟩
  have B0 : Below w.heap.size w w0 := by rw [hw0]; exact (Below.refl _ _).alloc (Nat.le_refl _) _
  have A0 : Tre w0 w.heap.size y m d := by rw [hw0]; exact Tre.made _ _ _ _ _
  have HB0 := Lib.hid B0; have HA0 := Lib.hid A0; have Hw0 := Lib.hid hw0
  clear h0 h1 h2 h3 h4 hA hP hM hd hw0 B0 A0
  go_enter Tryd.func5, Tryd.ntmps5
  go_wp2_with fail
  refine (H0.out _ (by rw [← Hw0.out]; exact HB0.out)).mono ?_
  rintro e w1 ⟨rfl, hb⟩
  rw [← Hw0.out] at hb
  have HB1 := Lib.hid (below_step HB0.out hb); have A1 := HA0.out.keep hb
  have HA1 := Lib.hid A1; obtain ⟨a10, a11, a12⟩ := A1
  clear hb
  go_wp2_with fail
  refine (H1.out _ HB1.out).mono ?_
  rintro e w2 ⟨rfl, hb⟩
  have HB2 := Lib.hid (below_step HB1.out hb); have A2 := HA1.out.keep hb
  have HA2 := Lib.hid A2; obtain ⟨a20, a21, a22⟩ := A2
  clear hb a10 a11 a12
  go_wp2_with fail
  refine (H2.out _ HB2.out).mono ?_
  rintro e w3 ⟨rfl, hb⟩
  have HB3 := Lib.hid (below_step HB2.out hb); have A3 := HA2.out.keep hb
  have HA3 := Lib.hid A3; obtain ⟨a30, a31, a32⟩ := A3
  clear hb a20 a21 a22
  go_wp2_with fail
  refine (H3.out _ HB3.out).mono ?_
  rintro e w4 ⟨rfl, hb⟩
  have HB4 := Lib.hid (below_step HB3.out hb); have A4 := HA3.out.keep hb
  have HA4 := Lib.hid A4; obtain ⟨a40, a41, a42⟩ := A4
  clear hb a30 a31 a32
  go_wp2_with fail
  refine (H4.out _ HB4.out).mono ?_
  rintro e w5 ⟨rfl, hb⟩
  have HB5 := Lib.hid (below_step HB4.out hb)
  clear hb a40 a41 a42
  go_wp2_with fail
  go_ret
  exact ⟨rfl, HB5.out.alloc HB5.out.size _⟩

set_option maxHeartbeats 2000000 in
set_option maxRecDepth 100000 in
theorem dpatIso_good (y m d n f k v A : Int) (T R K : ByteArray) (w : World) (hF : IsoFacts w y m d n f k v A T R K) (hn : 0 ≤ n ∧ n ≤ 4000000) (hf : 0 ≤ f ∧ f ≤ 4000000) :
    Calls Tryd.prog 5 #[.agg #[.int .i64 y, .int .i64 m, .int .i64 d]] w fun e w' => e = .returned (.bool true) ∧ Below w.heap.size w w' := by
  obtain ⟨w0, hw0⟩ : ∃ w0, w0 = w.alloc (.cells #[.int .i64 y, .int .i64 m, .int .i64 d] 23) := ⟨_, rfl⟩
  have B0 : Below w.heap.size w w0 := by rw [hw0]; exact (Below.refl _ _).alloc (Nat.le_refl _) _
  have A0 : Tre w0 w.heap.size y m d := by rw [hw0]; exact Tre.made _ _ _ _ _
  have HB0 := Lib.hid B0; have HA0 := Lib.hid A0; have Hw0 := Lib.hid hw0
  have HF := Lib.hid hF
  obtain ⟨hn0, hn1⟩ := hn
  obtain ⟨hf0, hf1⟩ := hf
  clear hF hw0 B0 A0
  go_enter Tryd.func5, Tryd.ntmps5
  go_wp2_with fail
  refine (HF.out.f0 _ (by rw [← Hw0.out]; exact HB0.out)).mono ?_
  rintro e w1 ⟨rfl, hb⟩
  rw [← Hw0.out] at hb
  have HB1 := Lib.hid (below_step HB0.out hb); have A1 := HA0.out.keep hb
  have HA1 := Lib.hid A1; obtain ⟨a10, a11, a12⟩ := A1
  clear hb
  go_wp2_with fail
  refine (HF.out.fd _ HB1.out).mono ?_
  rintro e w2 ⟨rfl, hb⟩
  have HB2 := Lib.hid (below_step HB1.out hb); have A2 := HA1.out.keep hb
  have HA2 := Lib.hid A2; obtain ⟨a20, a21, a22⟩ := A2
  clear hb a10 a11 a12
  go_wp2_with fail
  refine (HF.out.dt _ HB2.out).mono ?_
  rintro e w3 ⟨rfl, hb⟩
  have HB3 := Lib.hid (below_step HB2.out hb); have A3 := HA2.out.keep hb
  have HA3 := Lib.hid A3; obtain ⟨a30, a31, a32⟩ := A3
  clear hb a20 a21 a22
  go_wp2_with fail
  refine (HF.out.fw _ HB3.out).mono ?_
  rintro e w4 ⟨rfl, hb⟩
  have HB4 := Lib.hid (below_step HB3.out hb); have A4 := HA3.out.keep hb
  have HA4 := Lib.hid A4; obtain ⟨a40, a41, a42⟩ := A4
  clear hb a30 a31 a32
  go_wp2_with fail
  refine (HF.out.wo _ HB4.out).mono ?_
  rintro e w5 ⟨rfl, hb⟩
  have B5 : Below w.heap.size w w5 := below_step HB4.out hb
  have A5 := HA4.out.keep hb
  have HC5 := Lib.hid (B5.alloc B5.size (.cells #[.int .i64 k, .int .i64 v, .int .i64 A] 32))
  have HA5 := Lib.hid (A5.alloc (.cells #[.int .i64 k, .int .i64 v, .int .i64 A] 32))
  clear hb a40 a41 a42 A5 B5
  go_wp2_with fail
  refine (HF.out.wt _ HC5.out).mono ?_
  rintro e w6 ⟨rfl, hb⟩
  have HB6 := Lib.hid (below_step HC5.out hb); have A6 := HA5.out.keep hb
  have HA6 := Lib.hid A6; obtain ⟨a60, a61, a62⟩ := A6
  clear hb
  go_wp2_with fail
  refine (HF.out.na _ HB6.out).mono ?_
  rintro e w7 ⟨rfl, hb⟩
  have HB7 := Lib.hid (below_step HB6.out hb); have A7 := HA6.out.keep hb
  have HA7 := Lib.hid A7; obtain ⟨a70, a71, a72⟩ := A7
  clear hb a60 a61 a62
  go_wp2_with fail
  refine (HF.out.nf _ HB7.out).mono ?_
  rintro e w8 ⟨rfl, hb⟩
  have HB8 := Lib.hid (below_step HB7.out hb); have A8 := HA7.out.keep hb
  have HA8 := Lib.hid A8; obtain ⟨a80, a81, a82⟩ := A8
  clear hb a70 a71 a72
  go_wp2_with fail
  refine (HF.out.fy _ HB8.out).mono ?_
  rintro e w9 ⟨rfl, hb⟩
  have HB9 := Lib.hid (below_step HB8.out hb); have A9 := HA8.out.keep hb
  have HA9 := Lib.hid A9; obtain ⟨a90, a91, a92⟩ := A9
  clear hb a80 a81 a82
  go_wp2_with fail
  refine (HF.out.dg _ HB9.out).mono ?_
  rintro e w10 ⟨rfl, hb⟩
  have HB10 := Lib.hid (below_step HB9.out hb)
  clear hb a90 a91 a92
  go_wp2_with fail
  go_ret
  exact ⟨rfl, HB10.out⟩

theorem dpatIso_walk (y m d : Int) (w : World) (hA : AheadAt w) (hP : Pow10At w) (hM : MaxAt w) :
    Calls Tryd.prog 5 #[.agg #[.int .i64 y, .int .i64 m, .int .i64 d]] w fun e w' => e = .returned (.bool true) ∧ Below w.heap.size w w' := by
  by_cases hd : Dt.ok y m d
  · have na := Dt.num_bd y m d hd
    have nf := Dt.num_bd y 1 1 (ok_first hd)
    have ka := Dt.wy_bd y _ hd.1 hd.2.1 na.1 na.2.1 na.2.2.1 na.2.2.2
    have wa := Dt.wy_is y _ na.1 na.2.1
    have yd := yearday_bd hd
    refine dpatIso_good y m d (Dt.num y m d) (Dt.num y 1 1) (Dt.wy y (Dt.num y m d)) ((Dt.num y m d - Dt.first (Dt.wy y (Dt.num y m d))) / 7 + 1) (Dt.num y m d % 7 + 1) ⟨(dText y m d).toArray⟩ ⟨(wText (Dt.wy y (Dt.num y m d)) (Dt.num y m d)).toArray⟩ ⟨(padTo 3 (Dt.num y m d - Dt.num y 1 1 + 1)).toArray⟩ w
      ⟨fun W hW => fact_33 W (hA.below hW) (hP.below hW) (hM.below hW), fun W hW => ?_, fun W hW => text_ok y m d W hd (hA.below hW) (hP.below hW), fun W hW => ?_, fun W hW => week_ok y m d W hd (hA.below hW),
        fun W hW => wtext_ok (Dt.wy y (Dt.num y m d)) (Dt.num y m d) W ka.1 ka.2.2.1 na.2.2.1 na.2.2.2 wa (hA.below hW) (hP.below hW), fun W hW => number_ok y m d W hd (hA.below hW), fun W hW => number_ok y 1 1 W (ok_first hd) (hA.below hW), fun W hW => ?_, fun W hW => ?_⟩
      ⟨na.2.2.1, by omega⟩ ⟨nf.2.2.1, by omega⟩
    · have := format_ok ⟨patD.toArray⟩ y m d W (by rw [sz_mk]; decide) (hM.below hW) (hA.below hW) (hP.below hW) (by show (Dp.pp patD).2 = true; rw [patD_pp]) hd
      have e : Dp.out (ftext y m d) (Dp.pp (⟨patD.toArray⟩ : ByteArray).data.toList).1 = dText y m d := patD_out y m d
      rw [e] at this; exact this
    · have := format_ok ⟨patW.toArray⟩ y m d W (by rw [sz_mk]; decide) (hM.below hW) (hA.below hW) (hP.below hW) (by show (Dp.pp patW).2 = true; rw [patW_pp]) hd
      have e : Dp.out (ftext y m d) (Dp.pp (⟨patW.toArray⟩ : ByteArray).data.toList).1 = wText (Dt.wy y (Dt.num y m d)) (Dt.num y m d) := patW_out y m d
      rw [e] at this; exact this
    · have := format_ok ⟨patY.toArray⟩ y m d W (by rw [sz_mk]; decide) (hM.below hW) (hA.below hW) (hP.below hW) (by show (Dp.pp patY).2 = true; rw [patY_pp]) hd
      have e : Dp.out (ftext y m d) (Dp.pp (⟨patY.toArray⟩ : ByteArray).data.toList).1 = padTo 3 (Dt.num y m d - Dt.num y 1 1 + 1) := patY_out y m d
      rw [e] at this; exact this
    · have e : Dt.num y m d - Dt.num y 1 1 + 1 = (((Dt.num y m d - Dt.num y 1 1 + 1).toNat : Nat) : Int) := by omega
      have := rdigits_any 3 (Dt.num y m d - Dt.num y 1 1 + 1).toNat 3 W (by omega) (by omega) (by omega)
      rw [← e] at this; exact this
  · exact dpatIso_bad y m d w hd hA hP hM
end Go.Proofs.YtmaccmhpcagcnaaDoor
