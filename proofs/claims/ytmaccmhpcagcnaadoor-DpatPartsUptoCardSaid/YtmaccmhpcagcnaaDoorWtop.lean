/-
  The walk of the law TopDays: it answers true.
-/
import Derived.Test.YtmaccmhpcagcnaaDoorRel
import Derived.Test.YtmaccmhpcagcnaaDoorFormat
namespace Go.Proofs.YtmaccmhpcagcnaaDoor
open Go.Shelf Go.RowKit Go.Lib

/-- three cells of a block -/
structure Tre (W : World) (b : Nat) (x y z : Int) : Prop where
  c0 : W.cell? ⟨b, 0, none⟩ = some (.int .i64 x)
  c1 : W.cell? ⟨b, 1, none⟩ = some (.int .i64 y)
  c2 : W.cell? ⟨b, 2, none⟩ = some (.int .i64 z)
theorem Tre.keep {W W' : World} {b : Nat} {x y z : Int} (h : Tre W b x y z) (hb : Below W.heap.size W W') : Tre W' b x y z :=
  ⟨by rw [hb.cell (p := ⟨_, _, none⟩) (cell_lt h.c0)]; exact h.c0, by rw [hb.cell (p := ⟨_, _, none⟩) (cell_lt h.c0)]; exact h.c1, by rw [hb.cell (p := ⟨_, _, none⟩) (cell_lt h.c0)]; exact h.c2⟩
theorem Tre.made (W : World) (x y z : Int) (T : TypeId) : Tre (W.alloc (.cells #[.int .i64 x, .int .i64 y, .int .i64 z] T)) W.heap.size x y z :=
  ⟨by simp, by simp, by simp⟩
theorem Tre.alloc {W : World} {b : Nat} {x y z : Int} (h : Tre W b x y z) (o : Obj) : Tre (W.alloc o) b x y z := h.keep ((Below.refl _ _).alloc (Nat.le_refl _) _)
theorem below_step {w W W' : World} (h : Below w.heap.size w W) (hb : Below W.heap.size W W') : Below w.heap.size w W' := h.trans (hb.mono h.size)

def topPat : List UInt8 := [121, 121, 121, 121, 45, 77, 77, 45, 100, 100, 32, 89, 89, 89, 89, 39, 45, 87, 39, 119, 119, 45, 101]
theorem topPat_pp : Dp.pp topPat = ([.fld 1, .txt [45], .fld 3, .txt [45], .fld 5, .txt [32], .fld 7, .txt [45, 87], .fld 8, .txt [45], .fld 9], true) := by rfl
theorem topPat_out (y m d : Int) : Dp.out (ftext y m d) (Dp.pp topPat).1 = dText y m d ++ [32] ++ wText (Dt.wy y (Dt.num y m d)) (Dt.num y m d) := by
  rw [topPat_pp]
  simp [Dp.out, Dp.showP, dText, wText, ftext, fleast, fval]
theorem cat3 (a b : List UInt8) : (⟨(a ++ [32] ++ b).toArray⟩ : ByteArray) = (⟨a.toArray⟩ : ByteArray) ++ ⟨#[32]⟩ ++ ⟨b.toArray⟩ := by
  rw [show (⟨#[32]⟩ : ByteArray) = ⟨[32].toArray⟩ from rfl, cat_list, cat_list]

theorem ok_2000 : Dt.ok 2000 3 1 := by decide
theorem num_2000 : Dt.num 2000 3 1 = 730179 := by decide

set_option maxHeartbeats 2000000 in
set_option maxRecDepth 100000 in
theorem topDays_bada (ya ma da yb mb db : Int) (w : World) (ha : ¬ Dt.ok ya ma da) (hA : AheadAt w) :
    Calls Tryd.prog 3 #[.agg #[.int .i64 ya, .int .i64 ma, .int .i64 da], .agg #[.int .i64 yb, .int .i64 mb, .int .i64 db]] w fun e w' => e = .returned (.bool true) ∧ Below w.heap.size w w' := by
  have h2000 := fun W (hW : AheadAt W) => number_ok 2000 3 1 W ok_2000 hW
  rw [num_2000] at h2000
  have H2000 := Lib.hid h2000
  have hnb : ∀ W, AheadAt W → ∃ (n : Int) (v : Value), Calls Tryd.prog 6 #[.agg #[.int .i64 yb, .int .i64 mb, .int .i64 db]] W fun e w' => e = .returned (.tuple #[.int .i64 n, v]) ∧ Below W.heap.size W w' := by
    intro W hW
    by_cases hb : Dt.ok yb mb db
    · exact ⟨_, _, number_ok yb mb db W hb hW⟩
    · exact ⟨_, _, number_bad yb mb db W hb hW⟩
  have HNB := Lib.hid hnb
  have HAh := Lib.hid hA; have Ha := Lib.hid ha
  obtain ⟨w0, hw0⟩ : ∃ w0, w0 = (w.alloc (.cells #[.int .i64 ya, .int .i64 ma, .int .i64 da] 23)).alloc (.cells #[.int .i64 yb, .int .i64 mb, .int .i64 db] 23) := ⟨_, rfl⟩
  have B0 : Below w.heap.size w w0 := by rw [hw0]; exact ((Below.refl _ _).alloc (Nat.le_refl _) _).alloc (by simp) _
  have A0 : Tre w0 w.heap.size ya ma da := by rw [hw0]; exact (Tre.made _ _ _ _ _).alloc _
  have E0 : Tre w0 (w.heap.size + 1) yb mb db := by rw [hw0]; have := Tre.made (w.alloc (.cells #[.int .i64 ya, .int .i64 ma, .int .i64 da] 23)) yb mb db 23; simpa using this
  have HB0 := Lib.hid B0; have HA0 := Lib.hid A0; have HE0 := Lib.hid E0; have Hw0 := Lib.hid hw0
  clear h2000 hnb hA ha hw0 B0 A0 E0
  go_enter Tryd.func3, Tryd.ntmps3
  go_wp2_with fail
  refine (number_bad ya ma da _ Ha.out ((HAh.out.alloc _).alloc _)).mono ?_
  rintro e w1 ⟨rfl, hb⟩
  rw [← Hw0.out] at hb
  have HB1 := Lib.hid (below_step HB0.out hb); have A1 := HA0.out.keep hb; have E1 := HE0.out.keep hb
  have HA1 := Lib.hid A1; have HE1 := Lib.hid E1
  obtain ⟨a10, a11, a12⟩ := A1; obtain ⟨e10, e11, e12⟩ := E1
  obtain ⟨nb, vb, hnb⟩ := HNB.out w1 (HAh.out.below HB1.out)
  have HN := Lib.hid hnb; clear hnb hb
  go_wp2_with fail
  refine HN.out.mono ?_
  rintro e w2 ⟨rfl, hb⟩
  have HB2 := Lib.hid (below_step HB1.out hb); have A2 := HA1.out.keep hb; have E2 := HE1.out.keep hb
  have HA2 := Lib.hid A2; have HE2 := Lib.hid E2
  obtain ⟨a20, a21, a22⟩ := A2; obtain ⟨e20, e21, e22⟩ := E2
  clear a10 a11 a12 e10 e11 e12
  clear hb
  go_wp2_with fail
  refine (H2000.out _ (HAh.out.below HB2.out)).mono ?_
  rintro e w3 ⟨rfl, hb⟩
  have HB3 := Lib.hid (below_step HB2.out hb); have A3 := HA2.out.keep hb; have E3 := HE2.out.keep hb
  have HA3 := Lib.hid A3; have HE3 := Lib.hid E3
  obtain ⟨a30, a31, a32⟩ := A3; obtain ⟨e30, e31, e32⟩ := E3
  clear a20 a21 a22 e20 e21 e22
  clear hb
  go_wp2_with fail
  refine (check_bad ya ma da _ Ha.out (HAh.out.below HB3.out)).mono ?_
  rintro e w4 ⟨rfl, hb⟩
  have HB4 := Lib.hid (below_step HB3.out hb); clear hb
  go_wp2_with fail
  go_ret
  exact ⟨rfl, HB4.out⟩

set_option maxHeartbeats 2000000 in
set_option maxRecDepth 100000 in
theorem topDays_badb (ya ma da yb mb db : Int) (w : World) (ha : Dt.ok ya ma da) (hbd : ¬ Dt.ok yb mb db) (hA : AheadAt w) :
    Calls Tryd.prog 3 #[.agg #[.int .i64 ya, .int .i64 ma, .int .i64 da], .agg #[.int .i64 yb, .int .i64 mb, .int .i64 db]] w fun e w' => e = .returned (.bool true) ∧ Below w.heap.size w w' := by
  have h2000 := fun W (hW : AheadAt W) => number_ok 2000 3 1 W ok_2000 hW
  rw [num_2000] at h2000
  have H2000 := Lib.hid h2000
  have hna := fun W (hW : AheadAt W) => number_ok ya ma da W ha hW
  generalize Dt.num ya ma da = na at hna
  have HNA := Lib.hid hna
  have HAh := Lib.hid hA; have Ha := Lib.hid ha; have Hbd := Lib.hid hbd
  obtain ⟨w0, hw0⟩ : ∃ w0, w0 = (w.alloc (.cells #[.int .i64 ya, .int .i64 ma, .int .i64 da] 23)).alloc (.cells #[.int .i64 yb, .int .i64 mb, .int .i64 db] 23) := ⟨_, rfl⟩
  have B0 : Below w.heap.size w w0 := by rw [hw0]; exact ((Below.refl _ _).alloc (Nat.le_refl _) _).alloc (by simp) _
  have A0 : Tre w0 w.heap.size ya ma da := by rw [hw0]; exact (Tre.made _ _ _ _ _).alloc _
  have E0 : Tre w0 (w.heap.size + 1) yb mb db := by rw [hw0]; have := Tre.made (w.alloc (.cells #[.int .i64 ya, .int .i64 ma, .int .i64 da] 23)) yb mb db 23; simpa using this
  have HB0 := Lib.hid B0; have HA0 := Lib.hid A0; have HE0 := Lib.hid E0; have Hw0 := Lib.hid hw0
  clear h2000 hna hA ha hbd hw0 B0 A0 E0
  go_enter Tryd.func3, Tryd.ntmps3
  go_wp2_with fail
  refine (HNA.out _ ((HAh.out.alloc _).alloc _)).mono ?_
  rintro e w1 ⟨rfl, hb⟩
  rw [← Hw0.out] at hb
  have HB1 := Lib.hid (below_step HB0.out hb); have A1 := HA0.out.keep hb; have E1 := HE0.out.keep hb
  have HA1 := Lib.hid A1; have HE1 := Lib.hid E1
  obtain ⟨a10, a11, a12⟩ := A1; obtain ⟨e10, e11, e12⟩ := E1
  clear hb
  go_wp2_with fail
  refine (number_bad yb mb db _ Hbd.out (HAh.out.below HB1.out)).mono ?_
  rintro e w2 ⟨rfl, hb⟩
  have HB2 := Lib.hid (below_step HB1.out hb); have A2 := HA1.out.keep hb; have E2 := HE1.out.keep hb
  have HA2 := Lib.hid A2; have HE2 := Lib.hid E2
  obtain ⟨a20, a21, a22⟩ := A2; obtain ⟨e20, e21, e22⟩ := E2
  clear a10 a11 a12 e10 e11 e12
  clear hb
  go_wp2_with fail
  refine (H2000.out _ (HAh.out.below HB2.out)).mono ?_
  rintro e w3 ⟨rfl, hb⟩
  have HB3 := Lib.hid (below_step HB2.out hb); have A3 := HA2.out.keep hb; have E3 := HE2.out.keep hb
  have HA3 := Lib.hid A3; have HE3 := Lib.hid E3
  obtain ⟨a30, a31, a32⟩ := A3; obtain ⟨e30, e31, e32⟩ := E3
  clear a20 a21 a22 e20 e21 e22
  clear hb
  go_wp2_with fail
  refine (check_ok ya ma da _ Ha.out (HAh.out.below HB3.out)).mono ?_
  rintro e w4 ⟨rfl, hb⟩
  have HB4 := Lib.hid (below_step HB3.out hb); have A4 := HA3.out.keep hb; have E4 := HE3.out.keep hb
  have HA4 := Lib.hid A4; have HE4 := Lib.hid E4
  obtain ⟨a40, a41, a42⟩ := A4; obtain ⟨e40, e41, e42⟩ := E4
  clear a30 a31 a32 e30 e31 e32
  clear hb
  go_wp2_with fail
  refine (check_bad yb mb db _ Hbd.out (HAh.out.below HB4.out)).mono ?_
  rintro e w5 ⟨rfl, hb⟩
  have HB5 := Lib.hid (below_step HB4.out hb); clear hb
  go_wp2_with fail
  go_ret
  exact ⟨rfl, HB5.out⟩

/-- what the walk at two days needs of the callees, in plain words -/
structure TopFacts (w : World) (ya ma da yb mb db n m k kw v1 v2 A B : Int) (T R U : ByteArray) (x : Int) : Prop where
  na : ∀ W, Below w.heap.size w W → Calls Tryd.prog 6 #[.agg #[.int .i64 ya, .int .i64 ma, .int .i64 da]] W fun e w' => e = .returned (.tuple #[.int .i64 n, .nilIface]) ∧ Below W.heap.size W w'
  nb : ∀ W, Below w.heap.size w W → Calls Tryd.prog 6 #[.agg #[.int .i64 yb, .int .i64 mb, .int .i64 db]] W fun e w' => e = .returned (.tuple #[.int .i64 m, .nilIface]) ∧ Below W.heap.size W w'
  n0 : ∀ W, Below w.heap.size w W → Calls Tryd.prog 6 #[.agg #[.int .i64 2000, .int .i64 3, .int .i64 1]] W fun e w' => e = .returned (.tuple #[.int .i64 730179, .nilIface]) ∧ Below W.heap.size W w'
  r : ∀ W, Below w.heap.size w W → Calls Tryd.prog 8 #[.int .i64 (86400 * n), .int .i64 (86400 * m)] W fun e w' => e = .returned (.tuple #[.string U, .int .i64 x, .nilIface]) ∧ Below W.heap.size W w'
  wa : ∀ W, Below w.heap.size w W → Calls Tryd.prog 9 #[.agg #[.int .i64 ya, .int .i64 ma, .int .i64 da]] W fun e w' => e = .returned (.tuple #[.agg #[.int .i64 k, .int .i64 v1, .int .i64 A], .nilIface]) ∧ Below W.heap.size W w'
  wb : ∀ W, Below w.heap.size w W → Calls Tryd.prog 9 #[.agg #[.int .i64 yb, .int .i64 mb, .int .i64 db]] W fun e w' => e = .returned (.tuple #[.agg #[.int .i64 kw, .int .i64 v2, .int .i64 B], .nilIface]) ∧ Below W.heap.size W w'
  fm : ∀ W, Below w.heap.size w W → Calls Tryd.prog 10 #[.string ⟨#[121, 121, 121, 121, 45, 77, 77, 45, 100, 100, 32, 89, 89, 89, 89, 39, 45, 87, 39, 119, 119, 45, 101]⟩, .agg #[.int .i64 ya, .int .i64 ma, .int .i64 da]] W fun e w' => e = .returned (.tuple #[.string (T ++ ⟨#[32]⟩ ++ R), .nilIface]) ∧ Below W.heap.size W w'
  dt : ∀ W, Below w.heap.size w W → Calls Tryd.prog 11 #[.agg #[.int .i64 ya, .int .i64 ma, .int .i64 da]] W fun e w' => e = .returned (.tuple #[.string T, .nilIface]) ∧ Below W.heap.size W w'
  wt : ∀ W, Below w.heap.size w W → Calls Tryd.prog 12 #[.agg #[.int .i64 k, .int .i64 v1, .int .i64 A]] W fun e w' => e = .returned (.tuple #[.string R, .nilIface]) ∧ Below W.heap.size W w'

set_option maxHeartbeats 2000000 in
set_option maxRecDepth 100000 in
theorem topDays_good (ya ma da yb mb db n m k kw v1 v2 A B : Int) (T R U : ByteArray) (x : Int) (w : World) (hF : TopFacts w ya ma da yb mb db n m k kw v1 v2 A B T R U x)
    (hn : 0 ≤ n ∧ n ≤ 4000000) (hm : 0 ≤ m ∧ m ≤ 4000000) (hT : T.size ≤ 1000) (hR : R.size ≤ 1000)
    (hx : (n = m ∧ x = 0) ∨ (n ≠ m ∧ U = ⟨#[100, 97, 121]⟩ ∧ x = m - n))
    (hd : (A = B ∧ (n - m).tmod 7 = 0) ∨ (A ≠ B ∧ (n - m).tmod 7 ≠ 0)) :
    Calls Tryd.prog 3 #[.agg #[.int .i64 ya, .int .i64 ma, .int .i64 da], .agg #[.int .i64 yb, .int .i64 mb, .int .i64 db]] w fun e w' => e = .returned (.bool true) ∧ Below w.heap.size w w' := by
  obtain ⟨w0, hw0⟩ : ∃ w0, w0 = (w.alloc (.cells #[.int .i64 ya, .int .i64 ma, .int .i64 da] 23)).alloc (.cells #[.int .i64 yb, .int .i64 mb, .int .i64 db] 23) := ⟨_, rfl⟩
  have B0 : Below w.heap.size w w0 := by rw [hw0]; exact ((Below.refl _ _).alloc (Nat.le_refl _) _).alloc (by simp) _
  have A0 : Tre w0 w.heap.size ya ma da := by rw [hw0]; exact (Tre.made _ _ _ _ _).alloc _
  have E0 : Tre w0 (w.heap.size + 1) yb mb db := by rw [hw0]; have := Tre.made (w.alloc (.cells #[.int .i64 ya, .int .i64 ma, .int .i64 da] 23)) yb mb db 23; simpa using this
  have HB0 := Lib.hid B0; have HA0 := Lib.hid A0; have HE0 := Lib.hid E0; have Hw0 := Lib.hid hw0
  have HF := Lib.hid hF
  obtain ⟨hn0, hn1⟩ := hn
  obtain ⟨hm0, hm1⟩ := hm
  clear hF hw0 B0 A0 E0
  have z1 : ∃ p q : Bool, (A == B) = p ∧ ((n - m).tmod 7 == 0) = q ∧ p = q := by
    rcases hd with ⟨h1, h2⟩ | ⟨h1, h2⟩
    · exact ⟨true, true, by simpa using h1, by simpa using h2, rfl⟩
    · exact ⟨false, false, by simpa using h1, by simpa using h2, rfl⟩
  obtain ⟨p, q, z2, z3, rfl⟩ := z1
  clear hd
  have hsp : ∃ s : Bool, (n == m) = s ∧ ((s = true ∧ n = m ∧ x = 0) ∨ (s = false ∧ U = ⟨#[100, 97, 121]⟩ ∧ x = m - n)) := by
    rcases hx with ⟨h1, h2⟩ | ⟨h1, h2, h3⟩
    · exact ⟨true, by simpa using h1, .inl ⟨rfl, h1, h2⟩⟩
    · exact ⟨false, by simpa using h1, .inr ⟨rfl, h2, h3⟩⟩
  obtain ⟨s, z4, hs⟩ := hsp
  clear hx
  have Z := Lib.hid z2; have Z3 := Lib.hid z3; have Z4 := Lib.hid z4; have HS := Lib.hid hs
  clear z2 z3 z4 hs
  go_enter Tryd.func3, Tryd.ntmps3
  go_wp2_with fail
  refine (HF.out.na _ (by rw [← Hw0.out]; exact HB0.out)).mono ?_
  rintro e w1 ⟨rfl, hb⟩
  rw [← Hw0.out] at hb
  have HB1 := Lib.hid (below_step HB0.out hb); have A1 := HA0.out.keep hb; have E1 := HE0.out.keep hb
  have HA1 := Lib.hid A1; have HE1 := Lib.hid E1
  obtain ⟨a10, a11, a12⟩ := A1; obtain ⟨e10, e11, e12⟩ := E1
  clear hb
  go_wp2_with fail
  refine (HF.out.nb _ HB1.out).mono ?_
  rintro e w2 ⟨rfl, hb⟩
  have HB2 := Lib.hid (below_step HB1.out hb); have A2 := HA1.out.keep hb; have E2 := HE1.out.keep hb
  have HA2 := Lib.hid A2; have HE2 := Lib.hid E2
  obtain ⟨a20, a21, a22⟩ := A2; obtain ⟨e20, e21, e22⟩ := E2
  clear a10 a11 a12 e10 e11 e12
  clear hb
  go_wp2_with fail
  refine (HF.out.n0 _ HB2.out).mono ?_
  rintro e w3 ⟨rfl, hb⟩
  have HB3 := Lib.hid (below_step HB2.out hb); have A3 := HA2.out.keep hb; have E3 := HE2.out.keep hb
  have HA3 := Lib.hid A3; have HE3 := Lib.hid E3
  obtain ⟨a30, a31, a32⟩ := A3; obtain ⟨e30, e31, e32⟩ := E3
  clear a20 a21 a22 e20 e21 e22
  clear hb
  go_wp2_with fail
  refine (HF.out.r _ HB3.out).mono ?_
  rintro e w4 ⟨rfl, hb⟩
  have HB4 := Lib.hid (below_step HB3.out hb); have A4 := HA3.out.keep hb; have E4 := HE3.out.keep hb
  have HA4 := Lib.hid A4; have HE4 := Lib.hid E4
  obtain ⟨a40, a41, a42⟩ := A4; obtain ⟨e40, e41, e42⟩ := E4
  clear a30 a31 a32 e30 e31 e32
  clear hb
  go_wp2_with fail
  refine (HF.out.wa _ HB4.out).mono ?_
  rintro e w5 ⟨rfl, hb⟩
  have HB5 := Lib.hid (below_step HB4.out hb); have A5 := HA4.out.keep hb; have E5 := HE4.out.keep hb
  have HA5 := Lib.hid A5; have HE5 := Lib.hid E5
  obtain ⟨a50, a51, a52⟩ := A5; obtain ⟨e50, e51, e52⟩ := E5
  clear a40 a41 a42 e40 e41 e42
  clear hb
  have f5 : w.heap.size + 1 < w5.heap.size := cell_lt e50
  go_wp2_with fail
  have HC5 := Lib.hid (HB5.out.alloc HB5.out.size (.cells #[.int .i64 k, .int .i64 v1, .int .i64 A] 32))
  refine (HF.out.wb _ HC5.out).mono ?_
  rintro e w6 ⟨rfl, hb⟩
  have HB6 := Lib.hid (below_step HC5.out hb); have A6 := (HA5.out.alloc _).keep hb; have E6 := (HE5.out.alloc _).keep hb; have V6 := (Tre.made w5 k v1 A 32).keep hb
  have HA6 := Lib.hid A6; have HE6 := Lib.hid E6; have HV6 := Lib.hid V6
  obtain ⟨a60, a61, a62⟩ := A6; obtain ⟨e60, e61, e62⟩ := E6; obtain ⟨v60, v61, v62⟩ := V6
  have f6 : w.heap.size < w6.heap.size := cell_lt a60
  clear hb
  clear a50 a51 a52 e50 e51 e52
  go_wp2_with fail
  have HC6 := Lib.hid (HB6.out.alloc HB6.out.size (.cells #[.int .i64 kw, .int .i64 v2, .int .i64 B] 32))
  refine (HF.out.fm _ HC6.out).mono ?_
  rintro e w7 ⟨rfl, hb⟩
  have HB7 := Lib.hid (below_step HC6.out hb); have A7 := (HA6.out.alloc _).keep hb; have V7 := (HV6.out.alloc _).keep hb; have X7 := (Tre.made w6 kw v2 B 32).keep hb
  have HA7 := Lib.hid A7; have HV7 := Lib.hid V7; have HX7 := Lib.hid X7
  obtain ⟨a70, a71, a72⟩ := A7; obtain ⟨v70, v71, v72⟩ := V7; obtain ⟨x70, x71, x72⟩ := X7
  clear hb v60 v61 v62
  clear a60 a61 a62 e60 e61 e62
  go_wp2_with fail
  refine (HF.out.dt _ HB7.out).mono ?_
  rintro e w8 ⟨rfl, hb⟩
  have HB8 := Lib.hid (below_step HB7.out hb); have V8 := HV7.out.keep hb; have X8 := HX7.out.keep hb
  have HV8 := Lib.hid V8; have HX8 := Lib.hid X8
  obtain ⟨v80, v81, v82⟩ := V8; obtain ⟨x80, x81, x82⟩ := X8
  clear hb a70 a71 a72 v70 v71 v72 x70 x71 x72
  go_wp2_with fail
  refine (HF.out.wt _ HB8.out).mono ?_
  rintro e w9 ⟨rfl, hb⟩
  have HB9 := Lib.hid (below_step HB8.out hb); have V9 := HV8.out.keep hb; have X9 := HX8.out.keep hb
  obtain ⟨v90, v91, v92⟩ := V9; obtain ⟨x90, x91, x92⟩ := X9
  clear hb v80 v81 v82 x80 x81 x82
  have z2 := Z.out; have z3 := Z3.out; have z4 := Z4.out
  cases p <;> rcases HS.out with ⟨rfl, h1, h2⟩ | ⟨rfl, h1, h2⟩
  all_goals
    go_wp2_with fail
    go_ret
    refine ⟨?_, HB9.out⟩
    first
      | rfl
      | (exfalso; have h9 := Z3.out; rw [h1, Int.sub_self] at h9; cases h9)
      | (rw [h1, h2]; rfl)

theorem dText_len (y m d : Int) (h : Dt.ok y m d) : (dText y m d).length ≤ 700 := by
  have h2 := h.2.1; have h3 := h.2.2.1; have h4 := h.2.2.2.1; have h5 := h.2.2.2.2.1; have h6 := h.2.2.2.2.2; have h1 := h.1
  have hdm := Dt.dim_bd y m
  have l1 := padTo_len 4 y (by omega) (by omega) (by omega)
  have l2 := padTo_len 2 m (by omega) (by omega) (by omega)
  have l3 := padTo_len 2 d (by omega) (by omega) (by omega)
  unfold dText; simp only [List.length_append, List.length_cons, List.length_nil]; omega
theorem wText_len (y m d : Int) (h : Dt.ok y m d) : (wText (Dt.wy y (Dt.num y m d)) (Dt.num y m d)).length ≤ 700 := by
  have b7 := fval_bd y m d h 7; have b8 := fval_bd y m d h 8; have b9 := fval_bd y m d h 9
  have l1 := padTo_len 4 (fval y m d 7) (by omega) b7.1 (by omega)
  have l2 := padTo_len 2 (fval y m d 8) (by omega) b8.1 (by omega)
  have l3 := padTo_len 1 (fval y m d 9) (by omega) b9.1 (by omega)
  have e : wText (Dt.wy y (Dt.num y m d)) (Dt.num y m d) = padTo 4 (fval y m d 7) ++ [45, 87] ++ padTo 2 (fval y m d 8) ++ [45] ++ padTo 1 (fval y m d 9) := rfl
  rw [e]; simp only [List.length_append, List.length_cons, List.length_nil]; omega

theorem days_diff (n m : Int) : (86400 * m - 86400 * n).tdiv 86400 = m - n := by
  rw [show 86400 * m - 86400 * n = (m - n) * 86400 by omega]
  exact Int.mul_tdiv_cancel _ (by omega)
theorem tmod7 (n m : Int) : ((n % 7 + 1 = m % 7 + 1) ∧ (n - m).tmod 7 = 0) ∨ ((n % 7 + 1 ≠ m % 7 + 1) ∧ (n - m).tmod 7 ≠ 0) := by
  have h : (n - m).tmod 7 = 0 ↔ 7 ∣ n - m := (Int.dvd_iff_tmod_eq_zero).symm
  by_cases e : n % 7 = m % 7
  · left; exact ⟨by omega, h.2 (by omega)⟩
  · right; exact ⟨by omega, fun h' => e (by have := h.1 h'; omega)⟩

theorem topDays_walk (ya ma da yb mb db : Int) (w : World) (b o c : Nat) (hA : AheadAt w) (hP : Pow10At w) (hM : MaxAt w) (hU : UnitsAt w b o c) :
    Calls Tryd.prog 3 #[.agg #[.int .i64 ya, .int .i64 ma, .int .i64 da], .agg #[.int .i64 yb, .int .i64 mb, .int .i64 db]] w fun e w' => e = .returned (.bool true) ∧ Below w.heap.size w w' := by
  by_cases ha : Dt.ok ya ma da
  · by_cases hb : Dt.ok yb mb db
    · have na := Dt.num_bd ya ma da ha
      have nb := Dt.num_bd yb mb db hb
      have ka := Dt.wy_bd ya _ ha.1 ha.2.1 na.1 na.2.1 na.2.2.1 na.2.2.2
      have wa := Dt.wy_is ya _ na.1 na.2.1
      have hd := tmod7 (Dt.num ya ma da) (Dt.num yb mb db)
      have key : ∀ (U : ByteArray) (x : Int), (∀ W, Below w.heap.size w W → Calls Tryd.prog 8 #[.int .i64 (86400 * Dt.num ya ma da), .int .i64 (86400 * Dt.num yb mb db)] W fun e w' => e = .returned (.tuple #[.string U, .int .i64 x, .nilIface]) ∧ Below W.heap.size W w') →
          ((Dt.num ya ma da = Dt.num yb mb db ∧ x = 0) ∨ (Dt.num ya ma da ≠ Dt.num yb mb db ∧ U = ⟨#[100, 97, 121]⟩ ∧ x = Dt.num yb mb db - Dt.num ya ma da)) →
          Calls Tryd.prog 3 #[.agg #[.int .i64 ya, .int .i64 ma, .int .i64 da], .agg #[.int .i64 yb, .int .i64 mb, .int .i64 db]] w fun e w' => e = .returned (.bool true) ∧ Below w.heap.size w w' := by
        intro U x hr hx
        refine topDays_good ya ma da yb mb db (Dt.num ya ma da) (Dt.num yb mb db) (Dt.wy ya (Dt.num ya ma da)) (Dt.wy yb (Dt.num yb mb db)) ((Dt.num ya ma da - Dt.first (Dt.wy ya (Dt.num ya ma da))) / 7 + 1) ((Dt.num yb mb db - Dt.first (Dt.wy yb (Dt.num yb mb db))) / 7 + 1) (Dt.num ya ma da % 7 + 1) (Dt.num yb mb db % 7 + 1)
          ⟨(dText ya ma da).toArray⟩ ⟨(wText (Dt.wy ya (Dt.num ya ma da)) (Dt.num ya ma da)).toArray⟩ U x w
          ⟨fun W hW => number_ok ya ma da W ha (hA.below hW), fun W hW => number_ok yb mb db W hb (hA.below hW), fun W hW => by have := number_ok 2000 3 1 W ok_2000 (hA.below hW); rw [num_2000] at this; exact this, hr,
            fun W hW => week_ok ya ma da W ha (hA.below hW), fun W hW => week_ok yb mb db W hb (hA.below hW), fun W hW => ?_, fun W hW => text_ok ya ma da W ha (hA.below hW) (hP.below hW),
            fun W hW => wtext_ok (Dt.wy ya (Dt.num ya ma da)) (Dt.num ya ma da) W ka.1 ka.2.2.1 na.2.2.1 na.2.2.2 wa (hA.below hW) (hP.below hW)⟩
          ⟨na.2.2.1, by omega⟩ ⟨nb.2.2.1, by omega⟩ (by rw [sz_mk]; have := dText_len ya ma da ha; omega) (by rw [sz_mk]; have := wText_len ya ma da ha; omega) hx hd
        have := format_ok ⟨topPat.toArray⟩ ya ma da W (by rw [sz_mk]; decide) (hM.below hW) (hA.below hW) (hP.below hW) (by show (Dp.pp topPat).2 = true; rw [topPat_pp]) ha
        have e : Dp.out (ftext ya ma da) (Dp.pp (⟨topPat.toArray⟩ : ByteArray).data.toList).1 = dText ya ma da ++ [32] ++ wText (Dt.wy ya (Dt.num ya ma da)) (Dt.num ya ma da) := topPat_out ya ma da
        rw [e, cat3] at this
        exact this
      by_cases he : Dt.num ya ma da = Dt.num yb mb db
      · refine key ⟨#[115, 101, 99, 111, 110, 100]⟩ 0 (fun W hW => ?_) (.inl ⟨he, rfl⟩)
        rw [← he]
        exact rel_eq (86400 * Dt.num ya ma da) b o c W (by omega) (hU.below hW)
      · exact key _ (Dt.num yb mb db - Dt.num ya ma da) (fun W hW => rel_ne (86400 * Dt.num ya ma da) (86400 * Dt.num yb mb db) _ b o c W (by omega) (by omega) (days_diff _ _) (by omega) (by omega) (hU.below hW)) (.inr ⟨he, rfl, rfl⟩)
    · exact topDays_badb ya ma da yb mb db w ha hb hA
  · exact topDays_bada ya ma da yb mb db w ha hA

theorem topDays_walk1 (ya ma da yb mb db : Int) (w : World) (hA : AheadAt w) (hP : Pow10At w) (hM : MaxAt w) (hU : ∃ b o c, UnitsAt w b o c) :
    Calls Tryd.prog 3 #[.agg #[.int .i64 ya, .int .i64 ma, .int .i64 da], .agg #[.int .i64 yb, .int .i64 mb, .int .i64 db]] w fun e w' => e = .returned (.bool true) ∧ Below w.heap.size w w' := by
  obtain ⟨b, o, c, hU⟩ := hU
  exact topDays_walk ya ma da yb mb db w b o c hA hP hM hU
end Go.Proofs.YtmaccmhpcagcnaaDoor
