/-
  dec.Check, dec.power, nout.trimmed, ops.Of.
  ops.Of: what rules ask of a number.
  dec.Add (of a number and a small one), dec.nearer, dec.Round (to three digits).
  dec.nearer, dec.Round to three digits, dec.Same with a small number, dec.wide.
  dec.Same with a small number from nought on.
-/
import Derived.Test.YtnefcilopgcdpaaGreatDoorPdec
import Derived.Test.YtnefcilopgcdpaaGreatDoorErr
import Derived.Test.YtnefcilopgcdpaaGreatDoorBase
import Derived.Lib.SmallJoins
import Derived.Lib.QuietBelow
import Derived.BigQuiet
import Derived.Deep.RegionWith
import Derived.Deep.RegionHeld3
import Derived.Deep.Cut
import Derived.Deep.DeepCutAuto
import Derived.Test.YtnefcilopgcdpaaGreatDoorShelf
namespace Go.Proofs.YtnefcilopgcdpaaGreatDoor
open Go.RowKit Ms

def dcV (d : Dc) : Value := .agg #[.int .i64 d.c, .int .i64 d.s]
theorem dec_ok {d : Dc} (h : decBad d = false) : (0 ≤ d.s ∧ d.s ≤ 9) ∧ -1000000000000000 ≤ d.c ∧ d.c ≤ 1000000000000000 := by
  unfold decBad at h
  simp only [Bool.or_eq_false_iff, decide_eq_false_iff_not] at h
  omega
theorem dcheck_ok (d : Dc) (w : World) (h : decBad d = false) :
    Calls Tryz.prog 28 #[dcV d] w fun e w' => e = .returned .nilIface ∧ Below w.heap.size w w' := by
  unfold dcV
  obtain ⟨c, s⟩ := d
  unfold decBad at h
  simp only [Bool.or_eq_false_iff] at h
  obtain ⟨⟨⟨h1, h2⟩, h3⟩, h4⟩ := h
  go_enter Tryz.func28, Tryz.ntmps28
  go_wp2_with fail
  go_ret
  exact ⟨rfl, (Below.refl _ _).alloc (Nat.le_refl _) _⟩
theorem dcheck_bad (d : Dc) (w : World) (h : decBad d = true) :
    Calls Tryz.prog 28 #[dcV d] w fun e w' => e = .returned (.iface 56 (.int .i64 1)) ∧ Below w.heap.size w w' := by
  unfold dcV
  obtain ⟨c, s⟩ := d
  unfold decBad at h
  by_cases h1 : decide (s < 0) = true
  · clear h
    go_enter Tryz.func28, Tryz.ntmps28
    go_wp2_with fail
    go_ret
    exact ⟨rfl, (Below.refl _ _).alloc (Nat.le_refl _) _⟩
  · by_cases h2 : decide (9 < s) = true
    · clear h
      have h1' := Bool.eq_false_iff.2 h1
      clear h1
      go_enter Tryz.func28, Tryz.ntmps28
      go_wp2_with fail
      go_ret
      exact ⟨rfl, (Below.refl _ _).alloc (Nat.le_refl _) _⟩
    · by_cases h3 : decide (c < -1000000000000000) = true
      · clear h
        have h1' := Bool.eq_false_iff.2 h1
        have h2' := Bool.eq_false_iff.2 h2
        clear h1 h2
        go_enter Tryz.func28, Tryz.ntmps28
        go_wp2_with fail
        go_ret
        exact ⟨rfl, (Below.refl _ _).alloc (Nat.le_refl _) _⟩
      · have h1' := Bool.eq_false_iff.2 h1
        have h2' := Bool.eq_false_iff.2 h2
        have h3' := Bool.eq_false_iff.2 h3
        rw [h1', h2', h3'] at h
        simp only [Bool.false_or] at h
        clear h1 h2 h3
        go_enter Tryz.func28, Tryz.ntmps28
        go_wp2_with fail
        go_ret
        exact ⟨rfl, (Below.refl _ _).alloc (Nat.le_refl _) _⟩

theorem power_any (n : Nat) (w : World) (hn : n ≤ 9) :
    Calls Tryz.prog 89 #[.int .i64 n] w fun e w' => e = .returned (.int .i64 ((10 ^ n : Nat) : Int)) ∧ w = w' := by
  go_enter Tryz.func89, Tryz.ntmps89
  go_wp2_with fail
  go_loop [3, 5] (fun p i => ∃ k : Nat, k ≤ n ∧ i = .int .i64 k ∧ p = .int .i64 ((10 ^ k : Nat) : Int)) (fun _ i => n - (intOf i).toNat)
  case atStart => exact ⟨0, Nat.zero_le _, rfl, rfl⟩
  case round =>
    obtain ⟨k, hk, rfl, rfl⟩ := hrel
    have hp : (10 ^ k : Nat) ≤ 10 ^ 9 := Nat.pow_le_pow_right (by omega) (by omega)
    have hp2 : 10 ^ (k + 1) = 10 ^ k * 10 := Nat.pow_succ 10 k
    obtain ⟨p, hpe⟩ : ∃ p, p = 10 ^ k := ⟨_, rfl⟩
    rw [← hpe] at hp hp2 ⊢
    have hp' : p ≤ 1000000000 := hp
    have HP := Lib.hid hp2; have HE := Lib.hid hpe
    clear hp2 hpe hp
    by_cases hlt : k < n
    · go_wp2_with fail
      go_round
      case rel => exact ⟨k + 1, by omega, by go_num, by rw [HP.out]; go_num⟩
      case measure => simp [intOf]; omega
    · go_wp2_with fail
      go_ret
      exact ⟨by obtain rfl : k = n := (by omega); rw [HE.out]; simp, rfl⟩

theorem trim_step (s : Nat) (c : Int) (h : c.tmod 10 = 0) : trimD (s + 1) c = trimD s (c.tdiv 10) := by simp [trimD, h]
theorem trim_stop (s : Nat) (c : Int) (h : c.tmod 10 ≠ 0) : trimD (s + 1) c = ⟨c, ((s + 1 : Nat) : Int)⟩ := by simp [trimD, h]
theorem two_boxes (w : World) (a b : Obj) : ((w.alloc a).alloc b).heap[w.heap.size]? = some a ∧ ((w.alloc a).alloc b).heap[w.heap.size + 1]? = some b ∧ Below w.heap.size w ((w.alloc a).alloc b) ∧ ((w.alloc a).alloc b).heap.size = w.heap.size + 2 := by
  refine ⟨(Go.heap_alloc_old (w.alloc a) b (by simp)).trans (Go.heap_alloc_new w a), ?_, ((Below.refl _ _).alloc (Nat.le_refl _) _).alloc (by simp) _, by simp⟩
  have := Go.heap_alloc_new (w.alloc a) b
  rwa [show (w.alloc a).heap.size = w.heap.size + 1 by simp] at this
theorem tdiv_bd (c M : Int) (h0 : -M ≤ c) (h1 : c ≤ M) (hM : 0 ≤ M) : -M ≤ c.tdiv 10 ∧ c.tdiv 10 ≤ M := by
  rcases Int.le_total 0 c with h | h
  · rw [Int.tdiv_eq_ediv_of_nonneg h]; omega
  · have e : c.tdiv 10 = -((-c).tdiv 10) := by rw [Int.neg_tdiv, Int.neg_neg]
    rw [e, Int.tdiv_eq_ediv_of_nonneg (by omega)]; omega
/-- the scale in a block, for a loop's measure -/
def restInt (b : Nat) (W : World) : Nat := match W.cell? ⟨b, 1, none⟩ with
  | some (.int _ n) => n.toNat
  | _ => 0
theorem restInt_eq {b : Nat} {W : World} {k : IntKind} {n : Int} (h : W.cell? ⟨b, 1, none⟩ = some (.int k n)) : restInt b W = n.toNat := by unfold restInt; rw [h]
set_option maxHeartbeats 1000000 in
theorem trimmed_any (c : Int) (s : Nat) (w : World) (hs : s ≤ 9) (h0 : -9000000000000000 ≤ c) (h1 : c ≤ 9000000000000000) :
    Calls Tryz.prog 112 #[.agg #[.int .i64 c, .int .i64 s], .int .i64 0] w fun e w' => e = .returned (dcV (trimD s c)) ∧ Below w.heap.size w w' := by
  obtain ⟨D, hD⟩ : ∃ D, D = trimD s c := ⟨_, rfl⟩
  rw [← hD]
  have HD := Lib.hid hD; clear hD
  go_enter Tryz.func112, Tryz.ntmps112
  go_wp2_with fail
  obtain ⟨hk0, hb1, hB1, hsz⟩ := two_boxes w (Obj.cells #[Value.int IntKind.i64 c, Value.int IntKind.i64 s] 51) (Obj.cells #[Value.int IntKind.i64 0, Value.int IntKind.i64 0] 51)
  generalize ((w.alloc (Obj.cells #[Value.int IntKind.i64 c, Value.int IntKind.i64 s] 51)).alloc (Obj.cells #[Value.int IntKind.i64 0, Value.int IntKind.i64 0] 51)) = w2 at *
  clear hsz
  have HK := Lib.hid hk0; have HB := Lib.hid hb1; have HW := Lib.hid hB1
  clear hk0 hb1 hB1
  go_loopw [] (fun wr => ∃ (c : Int) (s : Nat), s ≤ 9 ∧ -9000000000000000 ≤ c ∧ c ≤ 9000000000000000 ∧ Hid (D = trimD s c) ∧ Hid (wr.heap[w.heap.size]? = some (Obj.cells #[Value.int IntKind.i64 c, Value.int IntKind.i64 s] 51)) ∧
    Hid (wr.heap[w.heap.size + 1]? = some (Obj.cells #[Value.int IntKind.i64 0, Value.int IntKind.i64 0] 51)) ∧ Hid (Below w.heap.size w wr)) (fun wr => restInt w.heap.size wr)
  case atStart => exact ⟨c, s, hs, h0, h1, HD, HK, HB, HW⟩
  case round =>
    clear HD HK HB HW
    obtain ⟨c', s', hs', h0', h1', HD, HK, HB, HW⟩ := hrel
    have y0 := block_cell (i := 0) HK.out rfl
    have y1 := block_cell (i := 1) HK.out rfl
    have z0 := block_cell (i := 0) HB.out rfl
    have z1 := block_cell (i := 1) HB.out rfl
    have f0 : wr.frozen? ⟨w.heap.size, 0, none⟩ = false := by simp [World.frozen?, HK.out]
    have f1 : wr.frozen? ⟨w.heap.size, 1, none⟩ = false := by simp [World.frozen?, HK.out]
    have g0 : wr.frozen? ⟨w.heap.size + 1, 0, none⟩ = false := by simp [World.frozen?, HB.out]
    have g1 : wr.frozen? ⟨w.heap.size + 1, 1, none⟩ = false := by simp [World.frozen?, HB.out]
    cases s' with
    | zero =>
      go_wp2_with fail
      refine bodyPost_ret (v := .agg #[.int .i64 c', .int .i64 0]) (by simp [results, Tryz.results112, go_sem, z0, z1]) rfl ⟨?_, ?_⟩
      · rw [HD.out]; rfl
      · exact (HW.out.setCell (by show w.heap.size ≤ w.heap.size + 1; omega) _).setCell (by show w.heap.size ≤ w.heap.size + 1; omega) _
    | succ s' =>
      by_cases hm : c'.tmod 10 = 0
      · have hm' : (c'.tmod 10 == 0) = true := by simp [hm]
        have e1 : ((s' + 1 : Nat) : Int) - 1 = s' := by omega
        have h3 := tdiv_bd c' 9000000000000000 h0' h1' (by decide)
        go_wp2_with fail
        go_roundw
        case rel =>
          refine ⟨c'.tdiv 10, s', by omega, h3.1, h3.2, Lib.hid (by rw [HD.out, trim_step s' c' hm]), Lib.hid (Joins.block_setCell (i := 1) (Joins.block_setCell (i := 0) HK.out _) _), Lib.hid ?_, Lib.hid ((HW.out.setCell (Nat.le_refl _) _).setCell (Nat.le_refl _) _)⟩
          exact (heap_setCell_other _ ⟨w.heap.size, 1, none⟩ _ _ (by show w.heap.size + 1 ≠ w.heap.size; omega)).trans ((heap_setCell_other _ ⟨w.heap.size, 0, none⟩ _ _ (by show w.heap.size + 1 ≠ w.heap.size; omega)).trans HB.out)
        case measure =>
          rw [restInt_eq y1, restInt_eq (block_cell (i := 1) (Joins.block_setCell (i := 1) (Joins.block_setCell (i := 0) HK.out _) _) rfl)]
          show s' < s' + 1
          omega
      · have hm' : (c'.tmod 10 == 0) = false := by simp [hm]
        go_wp2_with fail
        refine bodyPost_ret (v := .agg #[.int .i64 c', .int .i64 ((s' + 1 : Nat) : Int)]) (by simp [results, Tryz.results112, go_sem, z0, z1]) rfl ⟨?_, ?_⟩
        · rw [HD.out, trim_stop s' c' hm]; rfl
        · exact (HW.out.setCell (by show w.heap.size ≤ w.heap.size + 1; omega) _).setCell (by show w.heap.size ≤ w.heap.size + 1; omega) _
end Go.Proofs.YtnefcilopgcdpaaGreatDoor
namespace Go.Proofs.YtnefcilopgcdpaaGreatDoor
open Go.RowKit Ms

def opsStrip : Nat → Int → Int × Int
  | 0, t => (0, t)
  | w + 1, t => if t.tmod 10 = 0 then opsStrip w (t.tdiv 10) else (((w + 1 : Nat) : Int), t)
def opsOf (d : Dc) : Op5 :=
  { i := (d.c.natAbs : Int).tdiv (10 ^ d.s.toNat), v := d.s, w := (opsStrip d.s.toNat ((d.c.natAbs : Int).tmod (10 ^ d.s.toNat))).1, f := (d.c.natAbs : Int).tmod (10 ^ d.s.toNat), t := (opsStrip d.s.toNat ((d.c.natAbs : Int).tmod (10 ^ d.s.toNat))).2 }
def opV (o : Op5) : Value := .agg #[.int .i64 o.i, .int .i64 o.v, .int .i64 o.w, .int .i64 o.f, .int .i64 o.t]
/-- the number in a cell, for a loop's measure -/
def intAt (b i : Nat) (W : World) : Nat := match W.cell? ⟨b, i, none⟩ with
  | some (.int _ n) => n.toNat
  | _ => 0
theorem intAt_eq {b i : Nat} {W : World} {k : IntKind} {n : Int} (h : W.cell? ⟨b, i, none⟩ = some (.int k n)) : intAt b i W = n.toNat := by unfold intAt; rw [h]
set_option maxRecDepth 100000 in
set_option maxHeartbeats 2000000 in
theorem ops_any (c : Int) (s : Nat) (w : World) (h : decBad ⟨c, s⟩ = false) :
    Calls Tryz.prog 91 #[dcV ⟨c, s⟩] w fun e w' => e = .returned (.tuple #[opV (opsOf ⟨c, s⟩), .nilIface]) ∧ Below w.heap.size w w' := by
  obtain ⟨O, hO⟩ : ∃ O, O = opsOf ⟨c, s⟩ := ⟨_, rfl⟩
  rw [← hO]
  have HO := Lib.hid hO; clear hO
  have hd := dec_ok h
  simp only at hd
  have HH := Lib.hid h; clear h
  go_enter Tryz.func91, Tryz.ntmps91
  unfold dcV
  go_wp2_with fail
  obtain ⟨hk0, hb1, hB1, hsz⟩ := two_boxes w (Obj.cells #[Value.int IntKind.i64 c, Value.int IntKind.i64 s] 51) (Obj.cells #[Value.int IntKind.i64 0, Value.int IntKind.i64 0, Value.int IntKind.i64 0, Value.int IntKind.i64 0, Value.int IntKind.i64 0] 169)
  generalize ((w.alloc (Obj.cells #[Value.int IntKind.i64 c, Value.int IntKind.i64 s] 51)).alloc (Obj.cells #[Value.int IntKind.i64 0, Value.int IntKind.i64 0, Value.int IntKind.i64 0, Value.int IntKind.i64 0, Value.int IntKind.i64 0] 169)) = w2 at *
  refine (dcheck_ok ⟨c, s⟩ w2 HH.out).mono ?_
  rintro e w3 ⟨rfl, hb⟩
  have HK := Lib.hid ((hb.block _ (by omega)).trans hk0)
  have HR := Lib.hid ((hb.block _ (by omega)).trans hb1)
  have HB := Lib.hid (hB1.trans (hb.mono (by omega)))
  have hsz3 : w.heap.size + 2 ≤ w3.heap.size := by have := hb.size; omega
  clear hk0 hb1 hB1 hb hsz
  have y0 := block_cell (i := 0) HK.out rfl
  have y1 := block_cell (i := 1) HK.out rfl
  go_wp2_with fail
  go_loop [5, 16] (fun p i => ∃ k : Nat, k ≤ s ∧ i = .int .i64 k ∧ p = .int .i64 ((10 ^ k : Nat) : Int)) (fun _ i => s - (intOf i).toNat)
  case atStart => exact ⟨0, Nat.zero_le _, rfl, rfl⟩
  case round =>
    obtain ⟨k, hk, rfl, rfl⟩ := hrel
    have hp : (10 ^ k : Nat) ≤ 10 ^ 9 := Nat.pow_le_pow_right (by omega) (by omega)
    have hp0 : 0 < 10 ^ k := Nat.pow_pos (by omega)
    have hp2 : 10 ^ (k + 1) = 10 ^ k * 10 := Nat.pow_succ 10 k
    obtain ⟨p, hpe⟩ : ∃ p, p = 10 ^ k := ⟨_, rfl⟩
    rw [← hpe] at hp hp2 hp0 ⊢
    have hp' : p ≤ 1000000000 := hp
    have HP := Lib.hid hp2; have HE := Lib.hid hpe
    clear hp2 hpe hp
    by_cases hlt : k < s
    · go_wp2_with fail
      go_round
      case rel => exact ⟨k + 1, by omega, by go_num, by rw [HP.out]; go_num⟩
      case measure => simp [intOf]; omega
    · obtain rfl : k = s := by omega
      clear HP hlt
      go_upto_region 10 with fail
      have hn : max c (-c) = (c.natAbs : Int) := by omega
      rw [hn]
      have HN := Lib.hid hn; clear hn
      obtain ⟨n, hne⟩ : ∃ n, n = c.natAbs := ⟨_, rfl⟩
      have hnl : n ≤ 1000000000000000 := by omega
      rw [← hne] at HN ⊢
      have HNE := Lib.hid hne; clear hne
      have hlt : w.heap.size < w3.heap.size := by omega
      have hpz : ((p : Int) == 0) = false := by rw [beq_eq_false_iff_ne]; omega
      have hpz2 : ¬ p = 0 := by omega
      go_region_held3 (fun w' => w'.cell? ⟨w.heap.size, 0, none⟩ = some (.int .i64 c) ∧ w'.cell? ⟨w.heap.size, 1, none⟩ = some (.int .i64 k)) (go_keep) (first | fail)
      go_wp2_with fail
      have hq : IntKind.i64.wrap ((n : Int) / (p : Int)) = (n : Int).tdiv p := by
        rw [Int.tdiv_eq_ediv_of_nonneg (by omega)]
        have h1 : (n : Int) / p ≤ n := Int.ediv_le_self _ (by omega)
        have h2 : 0 ≤ (n : Int) / p := Int.ediv_nonneg (by omega) (by omega)
        exact IntWalk.i64_in _ (by omega)
      rw [hq]
      obtain ⟨q, hqe⟩ : ∃ q, q = (n : Int).tdiv p := ⟨_, rfl⟩
      obtain ⟨r, hre⟩ : ∃ r, r = (n : Int).tmod p := ⟨_, rfl⟩
      have hr0 : 0 ≤ r := by rw [hre]; exact Int.tmod_nonneg _ (by omega)
      have hr1 : r ≤ 1000000000000000 := by
        have : r ≤ n := by
          rw [hre, Int.tmod_eq_emod_of_nonneg (by omega)]
          have := Int.emod_lt_of_pos (n : Int) (show (0 : Int) < p by omega)
          rcases Int.lt_or_le (n : Int) p with h | h
          · rw [Int.emod_eq_of_lt (by omega) h]; omega
          · omega
        omega
      rw [← hqe, ← hre]
      have HQ := Lib.hid hqe; have HE2 := Lib.hid hre
      clear hq hqe hre
      have b1 := Go.heap_alloc_new w3 (Obj.cells #[Value.int IntKind.i64 q, Value.int IntKind.i64 k, Value.int IntKind.i64 k, Value.int IntKind.i64 r, Value.int IntKind.i64 r] 169)
      have b2 := (Go.heap_alloc_old w3 (Obj.cells #[Value.int IntKind.i64 q, Value.int IntKind.i64 k, Value.int IntKind.i64 k, Value.int IntKind.i64 r, Value.int IntKind.i64 r] 169) (show w.heap.size + 1 < w3.heap.size by omega)).trans HR.out
      have b3 := HB.out.trans ((Below.refl w.heap.size w3).alloc (by omega) (Obj.cells #[Value.int IntKind.i64 q, Value.int IntKind.i64 k, Value.int IntKind.i64 k, Value.int IntKind.i64 r, Value.int IntKind.i64 r] 169))
      have B1 := Lib.hid (show (w3.alloc (Obj.cells #[Value.int IntKind.i64 q, Value.int IntKind.i64 k, Value.int IntKind.i64 k, Value.int IntKind.i64 r, Value.int IntKind.i64 r] 169)).drew.heap[w3.heap.size]? = _ from b1)
      have B2 := Lib.hid (show (w3.alloc (Obj.cells #[Value.int IntKind.i64 q, Value.int IntKind.i64 k, Value.int IntKind.i64 k, Value.int IntKind.i64 r, Value.int IntKind.i64 r] 169)).drew.heap[w.heap.size + 1]? = _ from b2)
      have B3 := Lib.hid b3.drew
      clear b1 b2 b3 HK HR HB y0 y1 hlt
      generalize (w3.alloc (Obj.cells #[Value.int IntKind.i64 q, Value.int IntKind.i64 k, Value.int IntKind.i64 k, Value.int IntKind.i64 r, Value.int IntKind.i64 r] 169)).drew = w4 at *
      go_loopw [] (fun wr => ∃ (m : Nat) (x : Int), m ≤ 9 ∧ 0 ≤ x ∧ x ≤ 1000000000000000 ∧ Hid (opsStrip m x = opsStrip k r) ∧ Hid (wr.heap[w3.heap.size]? = some (Obj.cells #[Value.int IntKind.i64 q, Value.int IntKind.i64 k, Value.int IntKind.i64 m, Value.int IntKind.i64 r, Value.int IntKind.i64 x] 169)) ∧
        Hid (wr.heap[w.heap.size + 1]? = some (Obj.cells #[Value.int IntKind.i64 0, Value.int IntKind.i64 0, Value.int IntKind.i64 0, Value.int IntKind.i64 0, Value.int IntKind.i64 0] 169)) ∧ Hid (Below w.heap.size w wr)) (fun wr => intAt w3.heap.size 2 wr)
      case atStart => exact ⟨k, r, by omega, hr0, hr1, Lib.hid rfl, B1, B2, B3⟩
      case round =>
        clear B1 B2 B3
        obtain ⟨m, x, hm, hx0, hx1, HS, HK, HR, HB⟩ := hrel
        have y2 := block_cell (i := 2) HK.out rfl
        have y4 := block_cell (i := 4) HK.out rfl
        have f2 : wr.frozen? ⟨w3.heap.size, 2, none⟩ = false := by simp [World.frozen?, HK.out]
        have f4 : wr.frozen? ⟨w3.heap.size, 4, none⟩ = false := by simp [World.frozen?, HK.out]
        have hdone : ∀ (hs : opsStrip k r = ((m : Int), x)), O = ⟨q, k, m, r, x⟩ := by
          intro hs
          rw [HO.out]
          have e1 : ((10 : Int) ^ k) = ((p : Nat) : Int) := by rw [HE.out]; simp
          unfold opsOf
          simp only [Int.toNat_natCast]
          rw [← HNE.out, e1, ← HQ.out, ← HE2.out, hs]
        have z0 := block_cell (i := 0) HK.out rfl
        have z1 := block_cell (i := 1) HK.out rfl
        have z3 := block_cell (i := 3) HK.out rfl
        have x0 := block_cell (i := 0) HR.out rfl
        have x1 := block_cell (i := 1) HR.out rfl
        have x2 := block_cell (i := 2) HR.out rfl
        have x3 := block_cell (i := 3) HR.out rfl
        have x4 := block_cell (i := 4) HR.out rfl
        have g0 : wr.frozen? ⟨w.heap.size + 1, 0, none⟩ = false := by simp [World.frozen?, HR.out]
        have g1 : wr.frozen? ⟨w.heap.size + 1, 1, none⟩ = false := by simp [World.frozen?, HR.out]
        have g2 : wr.frozen? ⟨w.heap.size + 1, 2, none⟩ = false := by simp [World.frozen?, HR.out]
        have g3 : wr.frozen? ⟨w.heap.size + 1, 3, none⟩ = false := by simp [World.frozen?, HR.out]
        have g4 : wr.frozen? ⟨w.heap.size + 1, 4, none⟩ = false := by simp [World.frozen?, HR.out]
        have HD := Lib.hid hdone
        have hz1 : w.heap.size ≤ w.heap.size + 1 := by omega
        clear hdone
        cases m with
        | zero =>
          go_wp2_with fail
          refine bodyPost_ret (v := .tuple #[.agg #[.int .i64 q, .int .i64 k, .int .i64 0, .int .i64 r, .int .i64 x], .nilIface]) (by simp [results, Tryz.results91, go_sem, x0, x1, x2, x3, x4]) rfl ⟨?_, ?_⟩
          · rw [HD.out (by rw [← HS.out]; rfl)]; rfl
          · exact ((((HB.out.setCell hz1 _).setCell hz1 _).setCell hz1 _).setCell hz1 _).setCell hz1 _
        | succ m =>
          have ht := Int.tmod_eq_emod_of_nonneg (b := 10) hx0
          have hv := Int.tdiv_eq_ediv_of_nonneg (b := 10) hx0
          have HT := Lib.hid ht; have HV := Lib.hid hv
          clear ht hv
          by_cases hm' : x % 10 = 0
          · have hm2 : (x % 10 == 0) = true := by simp [hm']
            have e1 : ((m + 1 : Nat) : Int) - 1 = m := by omega
            have h4 : 0 ≤ x / 10 ∧ x / 10 ≤ 1000000000000000 := by omega
            go_wp2_with fail
            go_roundw
            case rel =>
              refine ⟨m, x / 10, by omega, h4.1, h4.2, Lib.hid ?_, Lib.hid (Joins.block_setCell (i := 4) (Joins.block_setCell (i := 2) HK.out _) _), Lib.hid ?_, Lib.hid ((HB.out.setCell (by show w.heap.size ≤ w3.heap.size; omega) _).setCell (by show w.heap.size ≤ w3.heap.size; omega) _)⟩
              · rw [← HS.out]; simp [opsStrip, HT.out, hm', HV.out]
              · exact (heap_setCell_other _ ⟨w3.heap.size, 4, none⟩ _ _ (by show w.heap.size + 1 ≠ w3.heap.size; omega)).trans ((heap_setCell_other _ ⟨w3.heap.size, 2, none⟩ _ _ (by show w.heap.size + 1 ≠ w3.heap.size; omega)).trans HR.out)
            case measure =>
              rw [intAt_eq y2, intAt_eq (block_cell (i := 2) (Joins.block_setCell (i := 4) (Joins.block_setCell (i := 2) HK.out _) _) rfl)]
              show m < m + 1
              omega
          · have hm2 : (x % 10 == 0) = false := by simp [hm']
            go_wp2_with fail
            refine bodyPost_ret (v := .tuple #[.agg #[.int .i64 q, .int .i64 k, .int .i64 ((m + 1 : Nat) : Int), .int .i64 r, .int .i64 x], .nilIface]) (by simp [results, Tryz.results91, go_sem, x0, x1, x2, x3, x4]) rfl ⟨?_, ?_⟩
            · rw [HD.out (by rw [← HS.out]; simp [opsStrip, HT.out, hm'])]; rfl
            · exact ((((HB.out.setCell hz1 _).setCell hz1 _).setCell hz1 _).setCell hz1 _).setCell hz1 _
end Go.Proofs.YtnefcilopgcdpaaGreatDoor
namespace Go.Proofs.YtnefcilopgcdpaaGreatDoor
open Go.RowKit Ms

theorem three_boxes (w : World) (a b c : Obj) : (((w.alloc a).alloc b).alloc c).heap[w.heap.size]? = some a ∧ (((w.alloc a).alloc b).alloc c).heap[w.heap.size + 1]? = some b ∧ (((w.alloc a).alloc b).alloc c).heap[w.heap.size + 2]? = some c ∧ Below w.heap.size w (((w.alloc a).alloc b).alloc c) ∧ (((w.alloc a).alloc b).alloc c).heap.size = w.heap.size + 3 := by
  obtain ⟨h1, h2, h3, h4⟩ := two_boxes w a b
  refine ⟨(Go.heap_alloc_old _ c (by omega)).trans h1, (Go.heap_alloc_old _ c (by omega)).trans h2, ?_, h3.alloc (by omega) _, by simp⟩
  have := Go.heap_alloc_new ((w.alloc a).alloc b) c
  rwa [h4] at this

/-- the sum, at its guards -/
theorem add_law (a0 b0 p : Int) (hp : 1 ≤ p) (hp9 : p ≤ 1000000000) (hb : -1000000000000000 ≤ b0 ∧ b0 ≤ 1000000000000000) :
    (-1000000000000000 ≤ b0.tdiv p ∧ b0.tdiv p ≤ 1000000000000000) ∧ (-1000000000 ≤ b0.tmod p ∧ b0.tmod p ≤ 1000000000) ∧ (0 ≤ (2000000000000000 : Int) / p ∧ (2000000000000000 : Int) / p ≤ 2000000000000000) ∧
    ((2000000000000000 : Int) / p + 1 < a0 + b0.tdiv p → 1000000000000000 < a0 * p + b0) ∧
    (a0 + b0.tdiv p < -((2000000000000000 : Int) / p) - 1 → a0 * p + b0 < -1000000000000000) ∧
    (a0 + b0.tdiv p ≤ (2000000000000000 : Int) / p + 1 → -((2000000000000000 : Int) / p) - 1 ≤ a0 + b0.tdiv p → (a0 + b0.tdiv p) * p + b0.tmod p = a0 * p + b0 ∧ -4000000000000000 ≤ (a0 + b0.tdiv p) * p ∧ (a0 + b0.tdiv p) * p ≤ 4000000000000000) := by
  have h1 : p * b0.tdiv p + b0.tmod p = b0 := Int.mul_tdiv_add_tmod b0 p
  have hm : -p < b0.tmod p ∧ b0.tmod p < p := by
    rcases Int.le_total 0 b0 with h | h
    · have := Int.tmod_nonneg p h
      have := Int.tmod_lt_of_pos b0 (show 0 < p by omega)
      omega
    · have e : b0.tmod p = -((-b0).tmod p) := by rw [Int.neg_tmod, Int.neg_neg]
      have := Int.tmod_nonneg p (show 0 ≤ -b0 by omega)
      have := Int.tmod_lt_of_pos (-b0) (show 0 < p by omega)
      omega
  have hw : -1000000000000000 ≤ b0.tdiv p ∧ b0.tdiv p ≤ 1000000000000000 := by
    rcases Int.le_total 0 b0 with h | h
    · rw [Int.tdiv_eq_ediv_of_nonneg h]
      have h1 : b0 / p ≤ b0 := Int.ediv_le_self _ h
      have h2 : 0 ≤ b0 / p := Int.ediv_nonneg h (by omega)
      omega
    · have e : b0.tdiv p = -((-b0).tdiv p) := by rw [Int.neg_tdiv, Int.neg_neg]
      rw [e, Int.tdiv_eq_ediv_of_nonneg (by omega)]
      have h1 : (-b0) / p ≤ -b0 := Int.ediv_le_self _ (by omega)
      have h2 : 0 ≤ (-b0) / p := Int.ediv_nonneg (by omega) (by omega)
      omega
  obtain ⟨W, hW⟩ : ∃ W, W = b0.tdiv p := ⟨_, rfl⟩
  obtain ⟨R, hR⟩ : ∃ R, R = b0.tmod p := ⟨_, rfl⟩
  obtain ⟨U, hU⟩ : ∃ U, U = (2000000000000000 : Int) / p := ⟨_, rfl⟩
  rw [← hW, ← hR] at h1 ⊢
  rw [← hR] at hm
  rw [← hW] at hw
  rw [← hU]
  have hu0 : 0 ≤ U := by rw [hU]; exact Int.ediv_nonneg (by decide) (by omega)
  have hu1 : U ≤ 2000000000000000 := by rw [hU]; exact Int.ediv_le_self _ (by decide)
  have hu2 : U * p ≤ 2000000000000000 := by rw [hU]; exact Int.ediv_mul_le _ (by omega)
  have hu3 : 2000000000000000 < U * p + p := by
    have := Int.lt_ediv_add_one_mul_self (2000000000000000 : Int) (show 0 < p by omega)
    rw [← hU, Int.add_mul] at this
    omega
  have hwp : p * W = W * p := Int.mul_comm _ _
  have hs : (a0 + W) * p = a0 * p + W * p := Int.add_mul _ _ _
  obtain ⟨A, hA⟩ : ∃ A, A = a0 * p := ⟨_, rfl⟩
  obtain ⟨V, hV⟩ : ∃ V, V = W * p := ⟨_, rfl⟩
  obtain ⟨UP, hUP⟩ : ∃ UP, UP = U * p := ⟨_, rfl⟩
  obtain ⟨S, hS⟩ : ∃ S, S = a0 + W := ⟨_, rfl⟩
  obtain ⟨SP, hSP⟩ : ∃ SP, SP = S * p := ⟨_, rfl⟩
  rw [← hS] at hs ⊢
  rw [← hA, ← hV, ← hSP] at hs
  rw [hwp, ← hV] at h1
  rw [← hUP] at hu2 hu3
  rw [← hA, ← hSP]
  refine ⟨hw, by omega, ⟨hu0, hu1⟩, ?_, ?_, ?_⟩
  · intro h
    have h2 : (U + 2) * p ≤ S * p := Int.mul_le_mul_of_nonneg_right (by omega) (by omega)
    rw [Int.add_mul, ← hUP, ← hSP] at h2
    omega
  · intro h
    have h2 : S * p ≤ (-U - 2) * p := Int.mul_le_mul_of_nonneg_right (by omega) (by omega)
    rw [Int.sub_mul, Int.neg_mul, ← hUP, ← hSP] at h2
    omega
  · intro h h'
    have h2 : S * p ≤ (U + 1) * p := Int.mul_le_mul_of_nonneg_right (by omega) (by omega)
    rw [Int.add_mul, ← hUP, ← hSP] at h2
    have h3 : (-U - 1) * p ≤ S * p := Int.mul_le_mul_of_nonneg_right (by omega) (by omega)
    rw [Int.sub_mul, Int.neg_mul, ← hUP, ← hSP] at h3
    omega

set_option maxRecDepth 100000 in
set_option maxHeartbeats 2000000 in
theorem dadd_bad (d : Dc) (f : Int) (w : World) (h : decBad d = true) :
    Calls Tryz.prog 66 #[dcV d, dcV ⟨-f, 0⟩] w fun e w' => e = .returned (.tuple #[dcV ⟨0, 0⟩, .iface 56 (.int .i64 1)]) ∧ Below w.heap.size w w' := by
  obtain ⟨c, s⟩ := d
  have HH := Lib.hid h; clear h
  unfold dcV
  go_enter Tryz.func66, Tryz.ntmps66
  go_wp2_with fail
  obtain ⟨hk0, hk1, hk2, hB1, hsz⟩ := three_boxes w (Obj.cells #[Value.int IntKind.i64 c, Value.int IntKind.i64 s] 51) (Obj.cells #[Value.int IntKind.i64 (-f), Value.int IntKind.i64 0] 51) (Obj.cells #[Value.int IntKind.i64 0, Value.int IntKind.i64 0] 51)
  generalize (((w.alloc (Obj.cells #[Value.int IntKind.i64 c, Value.int IntKind.i64 s] 51)).alloc (Obj.cells #[Value.int IntKind.i64 (-f), Value.int IntKind.i64 0] 51)).alloc (Obj.cells #[Value.int IntKind.i64 0, Value.int IntKind.i64 0] 51)) = w2 at *
  refine (dcheck_bad ⟨c, s⟩ w2 HH.out).mono ?_
  rintro e w3 ⟨rfl, hb⟩
  have HR := (hb.block _ (by omega)).trans hk2
  have HB := hB1.trans (hb.mono (by omega))
  have z0 := block_cell (i := 0) HR rfl
  have z1 := block_cell (i := 1) HR rfl
  have g0 : w3.frozen? ⟨w.heap.size + 2, 0, none⟩ = false := by simp [World.frozen?, HR]
  have g1 : w3.frozen? ⟨w.heap.size + 2, 1, none⟩ = false := by simp [World.frozen?, HR]
  have hz : w.heap.size ≤ w.heap.size + 2 := by omega
  clear hk0 hk1 hk2 hB1 hb hsz HR
  have HB := Lib.hid HB
  go_wp2_with fail
  refine bodyPost_ret (v := .tuple #[.agg #[.int .i64 0, .int .i64 0], .iface 56 (.int .i64 1)]) (by simp [results, Tryz.results66, go_sem, z0, z1]) rfl ⟨rfl, ?_⟩
  exact (HB.out.setCell hz _).setCell hz _

set_option maxRecDepth 100000 in
set_option maxHeartbeats 4000000 in
theorem dadd_ok (c : Int) (s : Nat) (f : Int) (w : World) (h : decBad ⟨c, s⟩ = false) (hf : 0 ≤ f ∧ f ≤ 9) :
    Calls Tryz.prog 66 #[dcV ⟨c, s⟩, dcV ⟨-f, 0⟩] w fun e w' => e = .returned (.tuple #[dcV (lessD ⟨c, s⟩ f).1, errVal (lessD ⟨c, s⟩ f).2]) ∧ Below w.heap.size w w' := by
  obtain ⟨L, hL⟩ : ∃ L, L = lessD ⟨c, s⟩ f := ⟨_, rfl⟩
  rw [← hL]
  have hd := dec_ok h
  simp only at hd
  have HH := Lib.hid h
  unfold lessD at hL
  rw [h] at hL
  simp only [Bool.false_eq_true, if_false, Int.toNat_natCast] at hL
  have hf2 : decBad ⟨-f, 0⟩ = false := by
    unfold decBad
    simp only [Bool.or_eq_false_iff, decide_eq_false_iff_not]
    omega
  have HF := Lib.hid hf2; have HL := Lib.hid hL
  clear h hf2 hL
  unfold dcV
  go_enter Tryz.func66, Tryz.ntmps66
  go_wp2_with fail
  obtain ⟨hk0, hk1, hk2, hB1, hsz⟩ := three_boxes w (Obj.cells #[Value.int IntKind.i64 c, Value.int IntKind.i64 s] 51) (Obj.cells #[Value.int IntKind.i64 (-f), Value.int IntKind.i64 0] 51) (Obj.cells #[Value.int IntKind.i64 0, Value.int IntKind.i64 0] 51)
  generalize (((w.alloc (Obj.cells #[Value.int IntKind.i64 c, Value.int IntKind.i64 s] 51)).alloc (Obj.cells #[Value.int IntKind.i64 (-f), Value.int IntKind.i64 0] 51)).alloc (Obj.cells #[Value.int IntKind.i64 0, Value.int IntKind.i64 0] 51)) = w2 at *
  refine (dcheck_ok ⟨c, s⟩ w2 HH.out).mono ?_
  rintro e w3 ⟨rfl, hb⟩
  replace hk0 := (hb.block _ (by omega)).trans hk0
  replace hk1 := (hb.block _ (by omega)).trans hk1
  replace hk2 := (hb.block _ (by omega)).trans hk2
  replace hB1 := hB1.trans (hb.mono (by omega))
  replace hsz : w.heap.size + 3 ≤ w3.heap.size := by have := hb.size; omega
  clear hb
  have y0 := block_cell (i := 0) hk1 rfl
  have y1 := block_cell (i := 1) hk1 rfl
  have K0 := Lib.hid hk0; have K1 := Lib.hid hk1; have K2 := Lib.hid hk2; have KB := Lib.hid hB1
  clear hk0 hk1 hk2 hB1
  go_wp2_with fail
  refine (dcheck_ok ⟨-f, 0⟩ w3 HF.out).mono ?_
  rintro e w4 ⟨rfl, hb⟩
  have hk0 := (hb.block _ (by omega)).trans K0.out
  have hk1 := (hb.block _ (by omega)).trans K1.out
  have hk2 := (hb.block _ (by omega)).trans K2.out
  have hB1 := KB.out.trans (hb.mono (by omega))
  have hsz4 : w.heap.size + 3 ≤ w4.heap.size := by have := hb.size; omega
  clear hb y0 y1 K0 K1 K2 KB hsz
  have y0 := block_cell (i := 0) hk0 rfl
  have y1 := block_cell (i := 1) hk0 rfl
  have z0 := block_cell (i := 0) hk1 rfl
  have z1 := block_cell (i := 1) hk1 rfl
  have f0 : w4.frozen? ⟨w.heap.size, 0, none⟩ = false := by simp [World.frozen?, hk0]
  have f1 : w4.frozen? ⟨w.heap.size, 1, none⟩ = false := by simp [World.frozen?, hk0]
  have g0 : w4.frozen? ⟨w.heap.size + 1, 0, none⟩ = false := by simp [World.frozen?, hk1]
  have g1 : w4.frozen? ⟨w.heap.size + 1, 1, none⟩ = false := by simp [World.frozen?, hk1]
  have K0 := Lib.hid hk0; have K1 := Lib.hid hk1; have K2 := Lib.hid hk2; have KB := Lib.hid hB1
  clear hk0 hk1 hk2 hB1
  go_upto_if 29 with fail
  obtain ⟨a0, b0, sb, hab⟩ : ∃ (a0 b0 : Int) (sb : Nat), sb ≤ 9 ∧ sb = s ∧ (-1000000000000000 ≤ b0 ∧ b0 ≤ 1000000000000000) ∧ Hid (a0 * (10 ^ s : Nat) + b0 = c - f * (10 ^ s : Nat)) ∧ Hid (if s = 0 then a0 = c ∧ b0 = -f else a0 = -f ∧ b0 = c) ∧ (-1000000000000000 ≤ a0 ∧ a0 ≤ 1000000000000000) := by
    by_cases hs0 : s = 0
    · subst hs0
      exact ⟨c, -f, 0, by omega, rfl, by omega, Lib.hid (by simp; omega), Lib.hid (by simp), by omega⟩
    · exact ⟨-f, c, s, by omega, rfl, by omega, Lib.hid (by rw [Int.neg_mul]; omega), Lib.hid (by simp [hs0]), by omega⟩
  obtain ⟨hsb, rfl, hb0, HA, HI, ha0⟩ := hab
  obtain ⟨bb, hbb⟩ : ∃ bb, bb = decide (0 < sb) := ⟨_, rfl⟩
  rw [← hbb]
  have HBB := Lib.hid hbb; clear hbb
  go_cut [] from 30 (fun wx => Hid (wx.heap[w.heap.size]? = some (Obj.cells #[Value.int IntKind.i64 a0, Value.int IntKind.i64 0] 51)) ∧ Hid (wx.heap[w.heap.size + 1]? = some (Obj.cells #[Value.int IntKind.i64 b0, Value.int IntKind.i64 sb] 51)) ∧
    Hid (wx.heap[w.heap.size + 2]? = some (Obj.cells #[Value.int IntKind.i64 0, Value.int IntKind.i64 0] 51)) ∧ Hid (Below w.heap.size w wx))
  case first =>
    have hI := HI.out
    by_cases hs0 : sb = 0
    · rw [if_pos hs0] at hI
      obtain ⟨rfl, rfl⟩ := hI
      have hbb : bb = false := by rw [HBB.out]; simp [hs0]
      subst hs0
      subst hbb
      go_wp2_with fail
      go_meet
      case rel => exact ⟨K0, K1, K2, KB⟩
    · rw [if_neg hs0] at hI
      obtain ⟨rfl, rfl⟩ := hI
      have hs1 : 0 < sb := by omega
      have hbb : bb = true := by rw [HBB.out]; simp [hs1]
      subst hbb
      go_wp2_with fail
      go_meet
      case rel =>
        have h1 := Joins.block_setCell (i := 1) (Joins.block_setCell (i := 0) K0.out (.int .i64 (-f))) (.int .i64 0)
        have h2 := (heap_setCell_other _ ⟨w.heap.size, 1, none⟩ (w.heap.size + 1) (.int .i64 0) (by show w.heap.size + 1 ≠ w.heap.size; omega)).trans ((heap_setCell_other _ ⟨w.heap.size, 0, none⟩ (w.heap.size + 1) (.int .i64 (-f)) (by show w.heap.size + 1 ≠ w.heap.size; omega)).trans K1.out)
        have h3 := (heap_setCell_other _ ⟨w.heap.size, 1, none⟩ (w.heap.size + 2) (.int .i64 0) (by show w.heap.size + 2 ≠ w.heap.size; omega)).trans ((heap_setCell_other _ ⟨w.heap.size, 0, none⟩ (w.heap.size + 2) (.int .i64 (-f)) (by show w.heap.size + 2 ≠ w.heap.size; omega)).trans K2.out)
        have hz : w.heap.size ≤ w.heap.size + 1 := by omega
        refine ⟨Lib.hid ?_, Lib.hid (Joins.block_setCell (i := 1) (Joins.block_setCell (i := 0) h2 _) _), Lib.hid ?_, Lib.hid ((((KB.out.setCell (Nat.le_refl _) _).setCell (Nat.le_refl _) _).setCell hz _).setCell hz _)⟩
        · exact (heap_setCell_other _ ⟨w.heap.size + 1, 1, none⟩ w.heap.size _ (by show w.heap.size ≠ w.heap.size + 1; omega)).trans ((heap_setCell_other _ ⟨w.heap.size + 1, 0, none⟩ w.heap.size _ (by show w.heap.size ≠ w.heap.size + 1; omega)).trans h1)
        · exact (heap_setCell_other _ ⟨w.heap.size + 1, 1, none⟩ (w.heap.size + 2) _ (by show w.heap.size + 2 ≠ w.heap.size + 1; omega)).trans ((heap_setCell_other _ ⟨w.heap.size + 1, 0, none⟩ (w.heap.size + 2) _ (by show w.heap.size + 2 ≠ w.heap.size + 1; omega)).trans h3)
  case rest =>
    obtain ⟨K0, K1, K2, KB⟩ := hcut
    clear HI y0 y1 z0 z1 f0 f1 g0 g1 hsz4 HH HF
    have y0 := block_cell (i := 0) K0.out rfl
    have y1 := block_cell (i := 1) K0.out rfl
    have z0 := block_cell (i := 0) K1.out rfl
    have z1 := block_cell (i := 1) K1.out rfl
    have x0 := block_cell (i := 0) K2.out rfl
    have x1 := block_cell (i := 1) K2.out rfl
    have g0 : wc.frozen? ⟨w.heap.size + 2, 0, none⟩ = false := by simp [World.frozen?, K2.out]
    have g1 : wc.frozen? ⟨w.heap.size + 2, 1, none⟩ = false := by simp [World.frozen?, K2.out]
    have hz : w.heap.size ≤ w.heap.size + 2 := by omega
    go_wp2_with (go_at_call 89; refine (power_any sb wc hsb).mono ?_; rintro e w' ⟨rfl, rfl⟩)
    obtain ⟨p, hp⟩ : ∃ p : Nat, p = 10 ^ sb := ⟨_, rfl⟩
    have hp9 : p ≤ 1000000000 := by rw [hp]; exact Nat.le_trans (Nat.pow_le_pow_right (by omega) hsb) (by decide)
    have hp1 : 1 ≤ p := by rw [hp]; exact Nat.pow_pos (by decide)
    have hpi : ((10 : Int) ^ sb) = (p : Int) := by rw [hp]; simp
    rw [hpi]
    have HP := Lib.hid hp; have HPI := Lib.hid hpi
    clear hp hpi
    obtain ⟨hw, hr, hu, hg1, hg2, hg3⟩ := add_law a0 b0 p (by omega) (by omega) hb0
    have HG1 := Lib.hid hg1; have HG2 := Lib.hid hg2; have HG3 := Lib.hid hg3
    clear hg1 hg2 hg3
    have hwr : IntKind.i64.wrap (b0.tdiv (p : Int)) = b0.tdiv (p : Int) := IntWalk.i64_in _ (by omega)
    have hpz : ((p : Int) == 0) = false := by rw [beq_eq_false_iff_ne]; omega
    have hpz2 : ¬ p = 0 := by omega
    go_quiet (fail)
    clear hwr hpz
    obtain ⟨W, hW⟩ : ∃ W, W = b0.tdiv (p : Int) := ⟨_, rfl⟩
    obtain ⟨R, hR⟩ : ∃ R, R = b0.tmod (p : Int) := ⟨_, rfl⟩
    rw [← hW, ← hR] at HG3
    rw [← hW] at HG1 HG2 hw
    rw [← hR] at hr
    simp only [← hW, ← hR]
    clear hW hR
    obtain ⟨N, hN⟩ : ∃ N, N = c - f * (10 : Int) ^ sb := ⟨_, rfl⟩
    have hNA : a0 * (p : Int) + b0 = N := by rw [hN, HPI.out]; have := HA.out; rw [← HP.out] at this; exact this
    rw [hNA] at HG1 HG2 HG3
    have hLN : L = if N < -1000000000000000 ∨ 1000000000000000 < N then (⟨0, 0⟩, 1) else (⟨N, sb⟩, 0) := by rw [hN]; exact HL.out
    have HLN := Lib.hid hLN
    clear hLN hN hNA HL HA HP HPI HBB hb0
    have hu1 : ∃ U, U = (2000000000000000 : Int) / p := ⟨_, rfl⟩
    obtain ⟨U, hU⟩ := hu1
    rw [← hU] at hu HG1 HG2 HG3
    have hU1 : (2000000000000000 : Int) / p = U := hU.symm
    have hU2 : Int.tdiv 2000000000000000 (p : Int) = U := by rw [Int.tdiv_eq_ediv_of_nonneg (by decide)]; exact hU1
    clear hU
    by_cases hA : U + 1 < a0 + W
    · have hbad := HG1.out hA
      have hl : L = (⟨0, 0⟩, 1) := by rw [HLN.out, if_pos (.inr hbad)]
      clear HG1 HG2 HG3 HLN hbad
      subst hl
      go_wp2_with fail
      refine bodyPost_ret (v := .tuple #[.agg #[.int .i64 0, .int .i64 0], .iface 56 (.int .i64 1)]) (by simp [results, Tryz.results66, go_sem, x0, x1]) rfl ⟨rfl, ?_⟩
      exact ((belowN KB.out _).setCell hz _).setCell hz _
    · by_cases hB : a0 + W < -U - 1
      · have hbad := HG2.out hB
        have hl : L = (⟨0, 0⟩, 1) := by rw [HLN.out, if_pos (.inl hbad)]
        clear HG1 HG2 HG3 HLN hbad
        subst hl
        go_wp2_with fail
        refine bodyPost_ret (v := .tuple #[.agg #[.int .i64 0, .int .i64 0], .iface 56 (.int .i64 1)]) (by simp [results, Tryz.results66, go_sem, x0, x1]) rfl ⟨rfl, ?_⟩
        exact ((belowN KB.out _).setCell hz _).setCell hz _
      · obtain ⟨h1, h2, h3⟩ := HG3.out (by omega) (by omega)
        obtain ⟨SP, hSP⟩ : ∃ SP, SP = (a0 + W) * (p : Int) := ⟨_, rfl⟩
        rw [← hSP] at h1 h2 h3
        have hS : (a0 + W) * (p : Int) = SP := hSP.symm
        have hA' : a0 + W ≤ U + 1 := by omega
        have hB' : -U - 1 ≤ a0 + W := by omega
        clear HG1 HG2 HG3 hSP hA hB
        by_cases hC : N < -1000000000000000
        · have hl : L = (⟨0, 0⟩, 1) := by rw [HLN.out, if_pos (.inl hC)]
          clear HLN
          subst hl
          go_wp2_with fail
          refine bodyPost_ret (v := .tuple #[.agg #[.int .i64 0, .int .i64 0], .iface 56 (.int .i64 1)]) (by simp [results, Tryz.results66, go_sem, x0, x1]) rfl ⟨rfl, ?_⟩
          exact ((belowN KB.out _).setCell hz _).setCell hz _
        · by_cases hD : 1000000000000000 < N
          · have hl : L = (⟨0, 0⟩, 1) := by rw [HLN.out, if_pos (.inr hD)]
            clear HLN
            subst hl
            go_wp2_with fail
            refine bodyPost_ret (v := .tuple #[.agg #[.int .i64 0, .int .i64 0], .iface 56 (.int .i64 1)]) (by simp [results, Tryz.results66, go_sem, x0, x1]) rfl ⟨rfl, ?_⟩
            exact ((belowN KB.out _).setCell hz _).setCell hz _
          · have hl : L = (⟨N, sb⟩, 0) := by rw [HLN.out, if_neg (by omega)]
            clear HLN
            subst hl
            go_wp2_with fail
            refine bodyPost_ret (v := .tuple #[.agg #[.int .i64 N, .int .i64 sb], .nilIface]) (by simp [results, Tryz.results66, go_sem, x0, x1]) rfl ⟨rfl, ?_⟩
            exact ((belowN KB.out _).setCell hz _).setCell hz _
end Go.Proofs.YtnefcilopgcdpaaGreatDoor
namespace Go.Proofs.YtnefcilopgcdpaaGreatDoor
open Go.RowKit Ms

def nearB (whole rest unit : Nat) : Bool := decide (unit < 2 * rest) || (decide (2 * rest = unit) && decide (whole % 2 = 1))
set_option maxRecDepth 100000 in
set_option maxHeartbeats 1000000 in
theorem nearer_any (whole rest unit : Nat) (sign : Int) (w : World) (h1 : whole ≤ 1000000000000000) (h2 : rest ≤ 1000000000000000) (h3 : unit ≤ 1000000000000000) :
    Calls Tryz.prog 144 #[.int .i64 5, .int .i64 whole, .int .i64 rest, .int .i64 unit, .int .i64 sign] w fun e w' => e = .returned (.bool (nearB whole rest unit)) ∧ w = w' := by
  unfold nearB
  by_cases ha : unit < 2 * rest
  · have ha' : (unit : Int) < 2 * (rest : Int) := by omega
    rw [decide_eq_true ha, Bool.true_or]
    go_enter Tryz.func144, Tryz.ntmps144
    go_wp2_with fail
    go_ret
    exact ⟨rfl, rfl⟩
  · rw [decide_eq_false ha, Bool.false_or]
    by_cases hb : 2 * rest = unit
    · rw [decide_eq_true hb, Bool.true_and]
      subst hb
      clear ha
      by_cases hc : whole % 2 = 1
      · rw [decide_eq_true hc]
        go_enter Tryz.func144, Tryz.ntmps144
        go_wp2_with fail
        go_ret
        exact ⟨ret_bool (by rw [beq_iff_eq]; omega), rfl⟩
      · rw [decide_eq_false hc]
        go_enter Tryz.func144, Tryz.ntmps144
        go_wp2_with fail
        go_ret
        exact ⟨ret_bool (by rw [beq_eq_false_iff_ne]; omega), rfl⟩
    · rw [decide_eq_false hb, Bool.false_and]
      have hlt : 2 * rest < unit := by omega
      clear ha hb
      go_enter Tryz.func144, Tryz.ntmps144
      go_wp2_with fail
      go_ret
      exact ⟨ret_bool (decide_eq_false (by omega)), rfl⟩

theorem nearN_eq (n k : Nat) : nearN n k = n / 10 ^ k + (if nearB (n / 10 ^ k) (n % 10 ^ k) (10 ^ k) = true then 1 else 0) := by
  unfold nearN nearB
  simp only [Bool.or_eq_true, Bool.and_eq_true, decide_eq_true_eq]
set_option maxRecDepth 100000 in
set_option maxHeartbeats 2000000 in
theorem round_pos (n s : Nat) (w : World) (h : decBad ⟨(n : Int), s⟩ = false) (h3 : 3 < s) :
    Calls Tryz.prog 113 #[dcV ⟨(n : Int), s⟩, .int .i64 3, .int .i64 5] w fun e w' => e = .returned (.tuple #[dcV ⟨(nearN n (s - 3) : Int), 3⟩, .nilIface]) ∧ Below w.heap.size w w' := by
  have hd := dec_ok h
  simp only at hd
  have HH := Lib.hid h; clear h
  obtain ⟨k, hk⟩ : ∃ k, k = s - 3 := ⟨_, rfl⟩
  obtain ⟨p, hp⟩ : ∃ p : Nat, p = 10 ^ k := ⟨_, rfl⟩
  have hp9 : p ≤ 1000000 := by rw [hp]; exact Nat.le_trans (Nat.pow_le_pow_right (by omega) (show k ≤ 6 by omega)) (by decide)
  have hp1 : 1 ≤ p := by rw [hp]; exact Nat.pow_pos (by decide)
  have hnl : n ≤ 1000000000000000 := by omega
  obtain ⟨q, hq⟩ : ∃ q, q = n / p := ⟨_, rfl⟩
  obtain ⟨r, hr⟩ : ∃ r, r = n % p := ⟨_, rfl⟩
  have hql : q ≤ n := by rw [hq]; exact Nat.div_le_self _ _
  have hrl : r < p := by rw [hr]; exact Nat.mod_lt _ hp1
  have hN : nearN n (s - 3) = q + (if nearB q r p = true then 1 else 0) := by rw [nearN_eq, ← hk, ← hp, ← hq, ← hr]
  rw [hN]
  obtain ⟨b, hb⟩ : ∃ b, b = nearB q r p := ⟨_, rfl⟩
  rw [← hb]
  have HBn := Lib.hid hb; clear hb
  have HPow := Lib.hid (show ∀ w, Calls Tryz.prog 89 #[.int .i64 k] w fun e w' => e = .returned (.int .i64 (p : Int)) ∧ w = w' from fun w => by rw [hp]; exact power_any k w (by omega))
  have hsk : (s : Int) - 3 = k := by omega
  have hqi : IntKind.i64.wrap ((n : Int).tdiv p) = q := by
    rw [Int.tdiv_eq_ediv_of_nonneg (by omega), show (n : Int) / p = q by rw [hq]; simp]; exact IntWalk.i64_in _ (by omega)
  have hqi2 : (n : Int) / p = q := by rw [hq]; simp
  have hri : (n : Int).tmod p = r := by rw [Int.tmod_eq_emod_of_nonneg (by omega), hr]; simp
  have hri2 : (n : Int) % p = r := by rw [hr]; simp
  have HK := Lib.hid hk; have HQ := Lib.hid hqi; have HQ2 := Lib.hid hqi2; have HRR := Lib.hid hri; have HR2 := Lib.hid hri2; have HSK := Lib.hid hsk
  have hks : k ≤ 6 := by omega
  clear hk hp hN hq hr hqi hri hqi2 hri2 hsk
  unfold dcV
  go_enter Tryz.func113, Tryz.ntmps113
  go_wp2_with fail
  obtain ⟨hk0, hb1, hB1, hsz⟩ := two_boxes w (Obj.cells #[Value.int IntKind.i64 ((n : Int)), Value.int IntKind.i64 s] 51) (Obj.cells #[Value.int IntKind.i64 0, Value.int IntKind.i64 0] 51)
  generalize ((w.alloc (Obj.cells #[Value.int IntKind.i64 ((n : Int)), Value.int IntKind.i64 s] 51)).alloc (Obj.cells #[Value.int IntKind.i64 0, Value.int IntKind.i64 0] 51)) = w2 at *
  refine (dcheck_ok ⟨(n : Int), s⟩ w2 HH.out).mono ?_
  rintro e w3 ⟨rfl, hb⟩
  have K0 := Lib.hid ((hb.block _ (by omega)).trans hk0)
  have K1 := Lib.hid ((hb.block _ (by omega)).trans hb1)
  have KB := Lib.hid (hB1.trans (hb.mono (by omega)))
  clear hk0 hb1 hB1 hb hsz
  have y0 := block_cell (i := 0) K0.out rfl
  have y1 := block_cell (i := 1) K0.out rfl
  go_upto_region 8 with fail
  go_quiet (fail)
  have hc : ¬ (n : Int) < 0 := by omega
  go_wp2_with fail
  rw [HSK.out]
  refine (HPow.out _).mono ?_
  rintro e w4 ⟨rfl, rfl⟩
  have hpz : ((p : Int) == 0) = false := by rw [beq_eq_false_iff_ne]; omega
  have hpz2 : ¬ p = 0 := by omega
  go_upto_region 17 with fail
  have hqi := HQ.out; have hri := HRR.out; have hqi2 := HQ2.out; have hri2 := HR2.out
  go_quiet (fail)
  clear hqi hri hqi2 hri2
  go_wp2_with fail
  try rw [HQ.out]
  try rw [HRR.out]
  refine (nearer_any q r p _ _ (by omega) (by omega) (by omega)).mono ?_
  rintro e w5 ⟨rfl, rfl⟩
  rw [← HBn.out]
  clear HBn
  have z0 := block_cell (i := 0) K1.out rfl
  have z1 := block_cell (i := 1) K1.out rfl
  have g0 : w3.frozen? ⟨w.heap.size + 1, 0, none⟩ = false := by simp [World.frozen?, K1.out]
  have g1 : w3.frozen? ⟨w.heap.size + 1, 1, none⟩ = false := by simp [World.frozen?, K1.out]
  have hz : w.heap.size ≤ w.heap.size + 1 := by omega
  cases b with
  | true =>
    go_wp2_with fail
    refine bodyPost_ret (v := .tuple #[.agg #[.int .i64 (((q : Int) + 1)), .int .i64 3], .nilIface]) (by simp [results, Tryz.results113, go_sem, z0, z1]) rfl ⟨by simp, ?_⟩
    exact ((belowN KB.out _).setCell hz _).setCell hz _
  | false =>
    go_wp2_with fail
    refine bodyPost_ret (v := .tuple #[.agg #[.int .i64 ((q : Int)), .int .i64 3], .nilIface]) (by simp [results, Tryz.results113, go_sem, z0, z1]) rfl ⟨by simp, ?_⟩
    exact ((belowN KB.out _).setCell hz _).setCell hz _
set_option maxRecDepth 100000 in
set_option maxHeartbeats 2000000 in
theorem round_neg (n s : Nat) (w : World) (h : decBad ⟨-(n : Int), s⟩ = false) (h3 : 3 < s) (hn0 : 0 < n) :
    Calls Tryz.prog 113 #[dcV ⟨-(n : Int), s⟩, .int .i64 3, .int .i64 5] w fun e w' => e = .returned (.tuple #[dcV ⟨-(nearN n (s - 3) : Int), 3⟩, .nilIface]) ∧ Below w.heap.size w w' := by
  have hd := dec_ok h
  simp only at hd
  have HH := Lib.hid h; clear h
  obtain ⟨k, hk⟩ : ∃ k, k = s - 3 := ⟨_, rfl⟩
  obtain ⟨p, hp⟩ : ∃ p : Nat, p = 10 ^ k := ⟨_, rfl⟩
  have hp9 : p ≤ 1000000 := by rw [hp]; exact Nat.le_trans (Nat.pow_le_pow_right (by omega) (show k ≤ 6 by omega)) (by decide)
  have hp1 : 1 ≤ p := by rw [hp]; exact Nat.pow_pos (by decide)
  have hnl : n ≤ 1000000000000000 := by omega
  obtain ⟨q, hq⟩ : ∃ q, q = n / p := ⟨_, rfl⟩
  obtain ⟨r, hr⟩ : ∃ r, r = n % p := ⟨_, rfl⟩
  have hql : q ≤ n := by rw [hq]; exact Nat.div_le_self _ _
  have hrl : r < p := by rw [hr]; exact Nat.mod_lt _ hp1
  have hN : nearN n (s - 3) = q + (if nearB q r p = true then 1 else 0) := by rw [nearN_eq, ← hk, ← hp, ← hq, ← hr]
  rw [hN]
  obtain ⟨b, hb⟩ : ∃ b, b = nearB q r p := ⟨_, rfl⟩
  rw [← hb]
  have HBn := Lib.hid hb; clear hb
  have HPow := Lib.hid (show ∀ w, Calls Tryz.prog 89 #[.int .i64 k] w fun e w' => e = .returned (.int .i64 (p : Int)) ∧ w = w' from fun w => by rw [hp]; exact power_any k w (by omega))
  have hsk : (s : Int) - 3 = k := by omega
  have hqi : IntKind.i64.wrap ((n : Int).tdiv p) = q := by
    rw [Int.tdiv_eq_ediv_of_nonneg (by omega), show (n : Int) / p = q by rw [hq]; simp]; exact IntWalk.i64_in _ (by omega)
  have hqi2 : (n : Int) / p = q := by rw [hq]; simp
  have hri : (n : Int).tmod p = r := by rw [Int.tmod_eq_emod_of_nonneg (by omega), hr]; simp
  have hri2 : (n : Int) % p = r := by rw [hr]; simp
  have HK := Lib.hid hk; have HQ := Lib.hid hqi; have HQ2 := Lib.hid hqi2; have HRR := Lib.hid hri; have HR2 := Lib.hid hri2; have HSK := Lib.hid hsk
  have hks : k ≤ 6 := by omega
  clear hk hp hN hq hr hqi hri hqi2 hri2 hsk
  unfold dcV
  go_enter Tryz.func113, Tryz.ntmps113
  go_wp2_with fail
  obtain ⟨hk0, hb1, hB1, hsz⟩ := two_boxes w (Obj.cells #[Value.int IntKind.i64 (-(n : Int)), Value.int IntKind.i64 s] 51) (Obj.cells #[Value.int IntKind.i64 0, Value.int IntKind.i64 0] 51)
  generalize ((w.alloc (Obj.cells #[Value.int IntKind.i64 (-(n : Int)), Value.int IntKind.i64 s] 51)).alloc (Obj.cells #[Value.int IntKind.i64 0, Value.int IntKind.i64 0] 51)) = w2 at *
  refine (dcheck_ok ⟨-(n : Int), s⟩ w2 HH.out).mono ?_
  rintro e w3 ⟨rfl, hb⟩
  have K0 := Lib.hid ((hb.block _ (by omega)).trans hk0)
  have K1 := Lib.hid ((hb.block _ (by omega)).trans hb1)
  have KB := Lib.hid (hB1.trans (hb.mono (by omega)))
  clear hk0 hb1 hB1 hb hsz
  have y0 := block_cell (i := 0) K0.out rfl
  have y1 := block_cell (i := 1) K0.out rfl
  go_upto_region 8 with fail
  go_quiet (fail)
  have hc : -(n : Int) < 0 := by omega
  go_wp2_with fail
  rw [HSK.out]
  refine (HPow.out _).mono ?_
  rintro e w4 ⟨rfl, rfl⟩
  have hpz : ((p : Int) == 0) = false := by rw [beq_eq_false_iff_ne]; omega
  have hpz2 : ¬ p = 0 := by omega
  go_upto_region 17 with fail
  have hqi := HQ.out; have hri := HRR.out; have hqi2 := HQ2.out; have hri2 := HR2.out
  go_quiet (fail)
  clear hqi hri hqi2 hri2
  go_wp2_with fail
  try rw [HQ.out]
  try rw [HRR.out]
  refine (nearer_any q r p _ _ (by omega) (by omega) (by omega)).mono ?_
  rintro e w5 ⟨rfl, rfl⟩
  rw [← HBn.out]
  clear HBn
  have z0 := block_cell (i := 0) K1.out rfl
  have z1 := block_cell (i := 1) K1.out rfl
  have g0 : w3.frozen? ⟨w.heap.size + 1, 0, none⟩ = false := by simp [World.frozen?, K1.out]
  have g1 : w3.frozen? ⟨w.heap.size + 1, 1, none⟩ = false := by simp [World.frozen?, K1.out]
  have hz : w.heap.size ≤ w.heap.size + 1 := by omega
  cases b with
  | true =>
    go_wp2_with fail
    refine bodyPost_ret (v := .tuple #[.agg #[.int .i64 (-((q : Int) + 1)), .int .i64 3], .nilIface]) (by simp [results, Tryz.results113, go_sem, z0, z1]) rfl ⟨by simp, ?_⟩
    exact ((belowN KB.out _).setCell hz _).setCell hz _
  | false =>
    go_wp2_with fail
    refine bodyPost_ret (v := .tuple #[.agg #[.int .i64 (-(q : Int)), .int .i64 3], .nilIface]) (by simp [results, Tryz.results113, go_sem, z0, z1]) rfl ⟨by simp, ?_⟩
    exact ((belowN KB.out _).setCell hz _).setCell hz _
end Go.Proofs.YtnefcilopgcdpaaGreatDoor
namespace Go.Proofs.YtnefcilopgcdpaaGreatDoor
open Go.RowKit Ms

theorem wide_any (n s : Nat) (w : World) (hs : s ≤ 9) (hn : n * 10 ^ s < 9223372036854775808) (hn2 : n < 9223372036854775808) :
    Calls Tryz.prog 125 #[.int .i64 n, .int .i64 s] w fun e w' => e = .returned (.tuple #[.int .u64 0, .int .u64 ((n * 10 ^ s : Nat) : Int)]) ∧ w = w' := by
  obtain ⟨p, hp⟩ : ∃ p : Nat, p = 10 ^ s := ⟨_, rfl⟩
  have hp9 : p ≤ 1000000000 := by rw [hp]; exact Nat.le_trans (Nat.pow_le_pow_right (by omega) hs) (by decide)
  have HP := Lib.hid (show ∀ w, Calls Tryz.prog 89 #[.int .i64 s] w fun e w' => e = .returned (.int .i64 (p : Int)) ∧ w = w' from fun w => by rw [hp]; exact power_any s w hs)
  rw [← hp] at hn ⊢
  clear hp
  obtain ⟨q, hq⟩ : ∃ q, q = n * p := ⟨_, rfl⟩
  have HM := Lib.hid (show ∀ w, Calls Tryz.prog 128 #[.int .u64 n, .int .u64 p] w fun e w' => e = .returned (.tuple #[.int .u64 0, .int .u64 (q : Int)]) ∧ w' = w from fun w => (Tryz.bits_Mul64 n p (by omega) (by omega) w).mono (by
    rintro e w' ⟨rfl, rfl⟩
    rw [← hq] at hn ⊢
    rw [Nat.div_eq_of_lt (by omega), Nat.mod_eq_of_lt (by omega)]
    exact ⟨rfl, rfl⟩))
  rw [← hq]
  clear hn hq
  go_enter Tryz.func125, Tryz.ntmps125
  go_wp2_with fail
  refine (HP.out _).mono ?_
  rintro e w1 ⟨rfl, rfl⟩
  go_wp2_with fail
  refine (HM.out _).mono ?_
  rintro e w1 ⟨rfl, rfl⟩
  go_wp2_with fail
  go_ret2
  exact ⟨rfl, rfl⟩

def cmpZ (a b : Nat) : Int := if a < b then -1 else if a = b then 0 else 1
set_option maxRecDepth 100000 in
set_option maxHeartbeats 1000000 in
theorem compared_neg (c : Int) (s n : Nat) (w : World) (hc : c < 0) :
    Calls Tryz.prog 96 #[dcV ⟨c, s⟩, dcV ⟨n, 0⟩] w fun e w' => e = .returned (.int .i64 (-1)) ∧ Below w.heap.size w w' := by
  unfold dcV
  go_enter Tryz.func96, Tryz.ntmps96
  go_wp2_with fail
  go_ret
  exact ⟨rfl, ((Below.refl _ _).alloc (Nat.le_refl _) _).alloc (by simp) _⟩
set_option maxRecDepth 100000 in
set_option maxHeartbeats 2000000 in
theorem compared_pos (a s n : Nat) (w : World) (ha : a ≤ 1000000000000000) (hs : s ≤ 9) (hn : n ≤ 1000) :
    Calls Tryz.prog 96 #[dcV ⟨a, s⟩, dcV ⟨n, 0⟩] w fun e w' => e = .returned (.int .i64 (cmpZ a (n * 10 ^ s))) ∧ Below w.heap.size w w' := by
  have hp9 : 10 ^ s ≤ 1000000000 := Nat.le_trans (Nat.pow_le_pow_right (by omega) hs) (by decide)
  have hb : n * 10 ^ s ≤ 1000 * 1000000000 := Nat.mul_le_mul hn hp9
  have H1 := Lib.hid (fun w => wide_any a 0 w (by decide) (by simp; omega) (by omega))
  have H2 := Lib.hid (fun w => wide_any n s w hs (by omega) (by omega))
  obtain ⟨b, hbe⟩ : ∃ b, b = n * 10 ^ s := ⟨_, rfl⟩
  rw [← hbe] at hb H2 ⊢
  rw [show a * 10 ^ 0 = a by simp] at H1
  clear hbe hp9
  obtain ⟨z, hz⟩ : ∃ z, z = cmpZ a b := ⟨_, rfl⟩
  rw [← hz]
  have HZ := Lib.hid hz; clear hz
  unfold dcV
  go_enter Tryz.func96, Tryz.ntmps96
  have hB := ((Below.refl w.heap.size w).alloc (Nat.le_refl _) (.cells #[.int .i64 a, .int .i64 s] 51)).alloc (by simp) (.cells #[.int .i64 n, .int .i64 0] 51)
  have HB := Lib.hid hB; clear hB
  go_wp2_with fail
  refine (H1.out _).mono ?_
  rintro e w1 ⟨rfl, rfl⟩
  go_wp2_with fail
  refine (H2.out _).mono ?_
  rintro e w1 ⟨rfl, rfl⟩
  rcases Nat.lt_trichotomy a b with h | h | h
  · have h' : decide (a < b) = true := by simpa using h
    obtain rfl : z = -1 := by rw [HZ.out]; unfold cmpZ; rw [if_pos h]
    clear HZ
    go_wp2_with fail
    go_ret
    exact ⟨rfl, HB.out⟩
  · obtain rfl : z = 0 := by rw [HZ.out]; unfold cmpZ; rw [if_neg (by omega), if_pos h]
    clear HZ
    subst h
    go_wp2_with fail
    go_ret
    exact ⟨rfl, HB.out⟩
  · have h' : decide (a < b) = false := by simp; omega
    have h2 : ¬ a = b := by omega
    have h3 : (a == b) = false := by simpa using h2
    obtain rfl : z = 1 := by rw [HZ.out]; unfold cmpZ; rw [if_neg (by omega), if_neg h2]
    clear HZ
    go_wp2_with fail
    go_ret
    exact ⟨rfl, HB.out⟩
theorem dsmall {n : Nat} (hn : n ≤ 1000) : decBad ⟨(n : Int), 0⟩ = false := by
  unfold decBad
  simp only [Bool.or_eq_false_iff, decide_eq_false_iff_not]
  omega
set_option maxRecDepth 100000 in
set_option maxHeartbeats 1000000 in
theorem right_any (d : Dc) (n : Nat) (w : World) (hn : n ≤ 1000) :
    Calls Tryz.prog 95 #[dcV d, dcV ⟨n, 0⟩] w fun e w' => e = .returned (.bool (!decBad d)) ∧ Below w.heap.size w w' := by
  have hok := dsmall hn
  have HO := Lib.hid hok; clear hok
  obtain ⟨c, s⟩ := d
  have hB := ((Below.refl w.heap.size w).alloc (Nat.le_refl _) (.cells #[.int .i64 c, .int .i64 s] 51)).alloc (by simp) (.cells #[.int .i64 n, .int .i64 0] 51)
  have HB := Lib.hid hB; clear hB
  cases hd : decBad ⟨c, s⟩ with
  | true =>
    have HD := Lib.hid hd; clear hd
    unfold dcV
    go_enter Tryz.func95, Tryz.ntmps95
    go_wp2_with (go_at_call 28; refine (dcheck_bad ⟨c, s⟩ _ HD.out).mono ?_; rintro e w1 ⟨rfl, hb⟩; have HX := Lib.hid (HB.out.trans (hb.mono (by simp; omega))); clear hb)
    go_ret
    exact ⟨rfl, HX.out⟩
  | false =>
    have HD := Lib.hid hd; clear hd
    unfold dcV
    go_enter Tryz.func95, Tryz.ntmps95
    have y0 : ∀ w1, Below (w.heap.size + 2) ((w.alloc (.cells #[.int .i64 c, .int .i64 s] 51)).alloc (.cells #[.int .i64 n, .int .i64 0] 51)) w1 → w1.cell? ⟨w.heap.size + 1, 0, none⟩ = some (.int .i64 n) ∧ w1.cell? ⟨w.heap.size + 1, 1, none⟩ = some (.int .i64 0) := by
      intro w1 hb
      have h := (two_boxes w (.cells #[.int .i64 c, .int .i64 s] 51) (.cells #[.int .i64 n, .int .i64 0] 51)).2.1
      have h2 := (hb.block _ (by omega)).trans h
      exact ⟨block_cell h2 rfl, block_cell h2 rfl⟩
    have HY := Lib.hid y0; clear y0
    go_wp2_with fail
    refine (dcheck_ok ⟨c, s⟩ _ HD.out).mono ?_
    rintro e w1 ⟨rfl, hb⟩
    have HX := Lib.hid (HB.out.trans (hb.mono (by simp; omega)))
    obtain ⟨z0, z1⟩ := HY.out _ (hb.mono (by simp))
    clear hb
    go_wp2_with fail
    refine (dcheck_ok ⟨n, 0⟩ _ HO.out).mono ?_
    rintro e w2 ⟨rfl, hb⟩
    have HX2 := Lib.hid (HX.out.trans (hb.mono HX.out.size))
    clear hb
    go_wp2_with fail
    go_ret
    exact ⟨rfl, HX2.out⟩

theorem sameD_pos {d : Dc} {n : Int} {a s m : Nat} (hd : d = ⟨a, s⟩) (hn : n = m) (h : decBad d = false) : sameD d n = (cmpZ a (m * 10 ^ s) == 0) := by
  subst hd hn
  unfold sameD cmpZ
  rw [h]
  have e : (decide ((a : Int) = (m : Int) * 10 ^ ((s : Int)).toNat)) = decide (a = m * 10 ^ s) := by
    rw [Int.toNat_natCast]
    congr 1
    rw [show ((m : Int) * 10 ^ s) = ((m * 10 ^ s : Nat) : Int) by simp]
    simp only [Int.natCast_inj]
  simp only [Bool.not_false, Bool.true_and]
  rw [e, decide_eq_true (show (0 : Int) ≤ (a : Int) by omega), Bool.true_and]
  rcases Nat.lt_trichotomy a (m * 10 ^ s) with h | h | h
  · rw [if_pos h]; simp; omega
  · rw [if_neg (by omega), if_pos h]; simp [h]
  · rw [if_neg (by omega), if_neg (by omega)]; simp; omega
theorem sameD_neg {d : Dc} {n : Int} (h : d.c < 0) : sameD d n = false := by
  unfold sameD
  rw [decide_eq_false (show ¬ 0 ≤ d.c by omega)]
  simp
theorem sameD_bad {d : Dc} {n : Int} (h : decBad d = true) : sameD d n = false := by
  unfold sameD
  rw [h]; rfl
set_option maxRecDepth 100000 in
set_option maxHeartbeats 2000000 in
theorem same_num (d : Dc) (n : Nat) (w : World) (hn : n ≤ 1000) :
    Calls Tryz.prog 69 #[dcV d, dcV ⟨n, 0⟩] w fun e w' => e = .returned (.bool (sameD d n)) ∧ Below w.heap.size w w' := by
  obtain ⟨c, s⟩ := d
  obtain ⟨b, hb⟩ : ∃ b, b = sameD ⟨c, s⟩ n := ⟨_, rfl⟩
  rw [← hb]
  have HR := Lib.hid (fun w => right_any ⟨c, s⟩ n w hn)
  obtain ⟨h1, h2, h3, h4⟩ := two_boxes w (.cells #[.int .i64 c, .int .i64 s] 51) (.cells #[.int .i64 n, .int .i64 0] 51)
  have H1 := Lib.hid h1; have H2 := Lib.hid h2; have H3 := Lib.hid h3; have H4 := Lib.hid h4
  clear h1 h2 h3 h4
  cases hd : decBad ⟨c, s⟩ with
  | true =>
    obtain rfl : b = false := by rw [hb]; exact sameD_bad hd
    rw [hd] at HR
    clear hd hb
    unfold dcV
    go_enter Tryz.func69, Tryz.ntmps69
    go_wp2_with (go_at_call 95; refine (HR.out _).mono ?_; rintro e w1 ⟨rfl, hb⟩; have HX := Lib.hid (H3.out.trans (hb.mono (by simp; omega))); clear hb)
    go_ret
    exact ⟨rfl, HX.out⟩
  | false =>
    rw [hd] at HR
    have hr := dec_ok hd
    simp only at hr
    have HC : Hid (∀ w, Calls Tryz.prog 96 #[dcV ⟨c, s⟩, dcV ⟨n, 0⟩] w fun e w' => (∃ z, e = .returned (.int .i64 z) ∧ b = (z == 0)) ∧ Below w.heap.size w w') := Lib.hid (by
      intro w
      by_cases hc : c < 0
      · obtain ⟨t, rfl⟩ : ∃ t : Nat, s = t := ⟨s.toNat, by omega⟩
        refine (compared_neg c t n w hc).mono ?_
        rintro e w1 ⟨rfl, h⟩
        exact ⟨⟨_, rfl, by rw [hb]; exact sameD_neg hc⟩, h⟩
      · obtain ⟨t, rfl⟩ : ∃ t : Nat, s = t := ⟨s.toNat, by omega⟩
        obtain ⟨a, rfl⟩ : ∃ a : Nat, c = a := ⟨c.toNat, by omega⟩
        refine (compared_pos a t n w (by omega) (by omega) hn).mono ?_
        rintro e w1 ⟨rfl, h⟩
        exact ⟨⟨_, rfl, by rw [hb]; exact sameD_pos rfl rfl hd⟩, h⟩)
    clear hr hd hb
    unfold dcV at HC ⊢
    go_enter Tryz.func69, Tryz.ntmps69
    go_wp2_with (go_at_call 95; refine (HR.out _).mono ?_; rintro e w1 ⟨rfl, hb⟩; have HX := Lib.hid (H3.out.trans (hb.mono (by simp; omega))); have k0 := (hb.block w.heap.size (by simp; omega)).trans H1.out; have k1 := (hb.block (w.heap.size + 1) (by simp)).trans H2.out; have y0 := block_cell (i := 0) k0 rfl; have y1 := block_cell (i := 1) k0 rfl; have z0 := block_cell (i := 0) k1 rfl; have z1 := block_cell (i := 1) k1 rfl; clear hb k0 k1)
    refine (HC.out _).mono ?_
    rintro e w2 ⟨⟨z, rfl, hz⟩, hb⟩
    have HX2 := Lib.hid (HX.out.trans (hb.mono HX.out.size))
    have HZ := Lib.hid hz
    clear hb hz
    go_wp2_with fail
    go_ret
    exact ⟨ret_bool HZ.out.symm, HX2.out⟩
end Go.Proofs.YtnefcilopgcdpaaGreatDoor
