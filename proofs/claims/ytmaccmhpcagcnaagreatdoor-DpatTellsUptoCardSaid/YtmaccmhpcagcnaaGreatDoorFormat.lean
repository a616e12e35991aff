/-
  dpat.Format.
-/
import Derived.Test.YtmaccmhpcagcnaaGreatDoorFmt
namespace Go.Proofs.YtmaccmhpcagcnaaGreatDoor
open Go.Shelf Go.RowKit Go.Lib

/-- what the fields of a day are, by their rows -/
def fval (y m d : Int) : Nat → Int
  | 0 => y
  | 1 => y
  | 2 => m
  | 3 => m
  | 4 => d
  | 5 => d
  | 6 => Dt.num y m d - Dt.num y 1 1 + 1
  | 7 => Dt.wy y (Dt.num y m d)
  | 8 => (Dt.num y m d - Dt.first (Dt.wy y (Dt.num y m d))) / 7 + 1
  | _ => Dt.num y m d % 7 + 1
def fleast : Nat → Nat
  | 0 => 1
  | 1 => 4
  | 2 => 1
  | 3 => 2
  | 4 => 1
  | 5 => 2
  | 6 => 3
  | 7 => 4
  | 8 => 2
  | _ => 1
def ftext (y m d : Int) (k : Nat) : List UInt8 := padTo (fleast k) (fval y m d k)

theorem ok_first {y m d : Int} (h : Dt.ok y m d) : Dt.ok y 1 1 := ⟨h.1, h.2.1, by omega, by omega, by omega, by have := Dt.dim_bd y 1; omega⟩
theorem yearday_bd {y m d : Int} (h : Dt.ok y m d) : 1 ≤ Dt.num y m d - Dt.num y 1 1 + 1 ∧ Dt.num y m d - Dt.num y 1 1 + 1 ≤ 366 := by
  have h1 := Dt.before_bd y m h.2.2.1 (by have := h.2.2.2.1; omega)
  have h2 := Dt.before_lt y m h.2.2.1 h.2.2.2.1
  have h3 := Dt.lp_01 y
  have h4 := h.2.2.2.2.1
  have h5 := h.2.2.2.2.2
  have e : Dt.num y 1 1 = Dt.year y := by unfold Dt.num; rw [Dt.before_one]; omega
  rw [e]; unfold Dt.num; omega
theorem fval_bd (y m d : Int) (h : Dt.ok y m d) (k : Nat) : 0 ≤ fval y m d k ∧ fval y m d k ≤ 9999 := by
  have hnb := Dt.num_bd y m d h
  have hdm := Dt.dim_bd y m
  have hw := Dt.wy_bd y (Dt.num y m d) h.1 h.2.1 hnb.1 hnb.2.1 hnb.2.2.1 hnb.2.2.2
  have hi := Dt.wy_is y (Dt.num y m d) hnb.1 hnb.2.1
  have hyd := yearday_bd h
  obtain ⟨h1, h2, h3, h4, h5, h6⟩ := h
  have hf : (Dt.num y m d - Dt.first (Dt.wy y (Dt.num y m d))) / 7 + 1 ≤ 60 ∧ 0 ≤ (Dt.num y m d - Dt.first (Dt.wy y (Dt.num y m d))) / 7 + 1 := by
    generalize Dt.wy y (Dt.num y m d) = z at hi hw
    generalize Dt.num y m d = n at *
    obtain ⟨i1, i2⟩ := hi
    have a1 := Dt.first_near z
    have a2 := Dt.first_near (z + 1)
    have a3 := Dt.year_succ z
    have a4 := Dt.lp_01 z
    omega
  match k with
  | 0 => exact ⟨by show 0 ≤ y; omega, by show y ≤ _; omega⟩
  | 1 => exact ⟨by show 0 ≤ y; omega, by show y ≤ _; omega⟩
  | 2 => exact ⟨by show 0 ≤ m; omega, by show m ≤ _; omega⟩
  | 3 => exact ⟨by show 0 ≤ m; omega, by show m ≤ _; omega⟩
  | 4 => exact ⟨by show 0 ≤ d; omega, by show d ≤ _; omega⟩
  | 5 => exact ⟨by show 0 ≤ d; omega, by show d ≤ _; omega⟩
  | 6 => exact ⟨by show 0 ≤ Dt.num y m d - Dt.num y 1 1 + 1; omega, by show Dt.num y m d - Dt.num y 1 1 + 1 ≤ _; omega⟩
  | 7 => exact ⟨by show 0 ≤ Dt.wy y (Dt.num y m d); omega, by show Dt.wy y (Dt.num y m d) ≤ _; omega⟩
  | 8 => exact ⟨hf.2, Int.le_trans hf.1 (by omega)⟩
  | k + 9 => exact ⟨by show 0 ≤ Dt.num y m d % 7 + 1; omega, by show Dt.num y m d % 7 + 1 ≤ _; omega⟩
theorem fleast_le (k : Nat) : fleast k ≤ 4 := by
  unfold fleast; split <;> omega

/-- what a number has of digits, at most -/
theorem dec_len : ∀ (n u : Nat), u < 10 ^ n → (Lib.decDigits u).length ≤ max n 1
  | 0, u, h => by
    have : u = 0 := by simpa using h
    subst this; rw [Lib.decDigits_one (by omega)]; simp
  | n + 1, u, h => by
    by_cases h10 : u < 10
    · rw [Lib.decDigits_one h10]; simp
    · rw [Lib.decDigits, dif_neg h10, List.length_append]
      have h' : u / 10 < 10 ^ n := by
        rw [Nat.div_lt_iff_lt_mul (by omega)]; rw [Nat.pow_succ] at h; exact h
      have ih := dec_len n (u / 10) h'
      cases n with
      | zero => simp at h'; omega
      | succ n => simp; omega
theorem itoa_small (n : Int) (h0 : 0 ≤ n) (h1 : n ≤ 9999) : (Lib.itoa n).length ≤ 4 := by
  unfold Lib.itoa
  rw [if_neg (by omega)]
  have := dec_len 4 n.toNat (by omega)
  omega
theorem ftext_len (y m d : Int) (h : Dt.ok y m d) (k : Nat) : (ftext y m d k).length ≤ 10 := by
  have h1 := fval_bd y m d h k
  have h2 := fleast_le k
  have h3 := itoa_small _ h1.1 h1.2
  unfold ftext padTo
  rw [List.length_append, List.length_replicate]; omega

/-- Format's world while it tells: the day's cells, the builder with what is told -/
structure FInv (w : World) (bd b : Nat) (y m d : Int) (ts : List Dp.Piece) (W : World) : Prop where
  below : Below w.heap.size w W
  le : w.heap.size ≤ bd
  lt : bd < b
  ltW : b < W.heap.size
  c0 : W.cell? ⟨bd, 0, none⟩ = some (.int .i64 y)
  c1 : W.cell? ⟨bd, 1, none⟩ = some (.int .i64 m)
  c2 : W.cell? ⟨bd, 2, none⟩ = some (.int .i64 d)
  bld : Lib.IsBuilderF 39 5 b b (Lib.byteCells (Dp.out (ftext y m d) ts)) W

theorem FInv.keep {w W W' : World} {bd b : Nat} {y m d : Int} {ts : List Dp.Piece} (h : FInv w bd b y m d ts W) (hb : Below W.heap.size W W') : FInv w bd b y m d ts W' where
  below := h.below.trans (hb.mono h.below.size)
  le := h.le
  lt := h.lt
  ltW := Nat.lt_of_lt_of_le h.ltW hb.size
  c0 := by rw [hb.cell (p := ⟨_, _, none⟩) (Nat.lt_trans h.lt h.ltW)]; exact h.c0
  c1 := by rw [hb.cell (p := ⟨_, _, none⟩) (Nat.lt_trans h.lt h.ltW)]; exact h.c1
  c2 := by rw [hb.cell (p := ⟨_, _, none⟩) (Nat.lt_trans h.lt h.ltW)]; exact h.c2
  bld := builder_below h.bld hb
theorem FInv.told {w W W' : World} {bd b : Nat} {y m d : Int} {ts : List Dp.Piece} {p : Dp.Piece} {l : List UInt8} (h : FInv w bd b y m d ts W) (hp : Dp.showP (ftext y m d) p = l)
    (hI : Lib.IsBuilderF 39 5 b b (Lib.byteCells (Dp.out (ftext y m d) ts) ++ Lib.byteCells l) W') (hb : Below b W W') : FInv w bd b y m d (ts ++ [p]) W' where
  below := h.below.trans (hb.mono (Nat.le_trans h.le (Nat.le_of_lt h.lt)))
  le := h.le
  lt := h.lt
  ltW := Nat.lt_of_lt_of_le h.ltW hb.size
  c0 := by rw [hb.cell (p := ⟨_, _, none⟩) h.lt]; exact h.c0
  c1 := by rw [hb.cell (p := ⟨_, _, none⟩) h.lt]; exact h.c1
  c2 := by rw [hb.cell (p := ⟨_, _, none⟩) h.lt]; exact h.c2
  bld := by
    rw [Dp.out_append, Lib.byteCells_append]
    have e : Dp.out (ftext y m d) [p] = l := by rw [← hp]; simp [Dp.out]
    rw [e]; exact hI

theorem tell_fld (w : World) (bd b : Nat) (y m d : Int) (ts : List Dp.Piece) (k : Nat) (W : World) (h : Dt.ok y m d) (hI : FInv w bd b y m d ts W) {M : Nat} (hlen : (Lib.byteCells (Dp.out (ftext y m d) ts)).length ≤ M) (hM : M ≤ 10000000000) (hPW : Pow10At W)
    (g : Nat) (cap : Array Value) (n : Nat) (hn : n = fleast k) (eg : ∀ args W, (callFunc g args).run Tryz.prog W = .ok (.enter g args) W)
    (hF : ∀ W', Below W.heap.size W W' → Calls Tryz.prog g (#[.agg #[.int .i64 y, .int .i64 m, .int .i64 d]] ++ cap) W' fun e w' => e = .returned (.int .i64 (fval y m d k)) ∧ Below W'.heap.size W' w') :
    Calls Tryz.prog 11 #[.agg #[.func (.func g) #[] cap, .int .i64 n], .string ⟨#[]⟩, .pointer (some ⟨bd, 0, none⟩), .pointer (some ⟨b, 0, none⟩)] W fun e w' => e = .returned (.tuple #[]) ∧ FInv w bd b y m d (ts ++ [.fld k]) w' := by
  have hx := fval_bd y m d h k
  refine (fmt1_fld g cap n (fval y m d k) bd b y m d _ W hI.bld hI.ltW (by omega) eg hx.1 (by omega) (by have := fleast_le k; omega) hPW hI.lt hI.c0 hI.c1 hI.c2 hF).mono fun e w' hh => ⟨hh.1, hI.told ?_ hh.2.1 hh.2.2⟩
  subst hn; rfl

set_option maxHeartbeats 1000000 in
set_option maxRecDepth 100000 in
theorem tells_fmt (w : World) (bd b : Nat) (y m d : Int) (all : List Dp.Piece) (h : Dt.ok y m d) (hA : AheadAt w) (hP : Pow10At w) (hall : Dp.weights all ≤ 10000000000) :
    Tells 11 #[.pointer (some ⟨bd, 0, none⟩), .pointer (some ⟨b, 0, none⟩)] (FInv w bd b y m d) all := by
  intro ts p q v t W hts hI hp
  have hw : Dp.weights ts + Dp.weight p ≤ 10000000000 := by
    rw [hts] at hall
    rw [Dp.weights_append] at hall
    have : Dp.weights (p :: q) = Dp.weight p + Dp.weights q := by simp [Dp.weights]
    omega
  have hlen : (Lib.byteCells (Dp.out (ftext y m d) ts)).length ≤ Dp.weights ts := by
    rw [Lib.byteCells_length]; exact Dp.out_len _ (ftext_len y m d h) ts
  have hAW : AheadAt W := hA.below hI.below
  have hPW : Pow10At W := hP.below hI.below
  cases hp with
  | txt t =>
    have hsz : t.size ≤ 10000000000 := by
      have : Dp.weight (.txt t.data.toList) = t.size := by rw [Lib.size_eq]; rfl
      omega
    refine (fmt1_txt t ⟨bd, 0, none⟩ b _ W hI.bld hI.ltW (by omega)).mono fun e w' hh => ⟨hh.1, hI.told rfl hh.2.1 hh.2.2⟩
  | fld B k hk h1 h2 h3 =>
    have hx := fval_bd y m d h k
    have hB1 : B + 1 < W.heap.size := cell_lt h1
    have hB2 : B + 1 + 1 < W.heap.size := cell_lt h2
    have hB3 : B + 1 + 2 < W.heap.size := cell_lt h3
    have hk3 : ∀ (b' : Nat) (g : Nat) (x : Int) (hc : W.cell? ⟨b', 0, none⟩ = some (fnV g)) (eg : ∀ args W, (callFunc g args).run Tryz.prog W = .ok (.enter g args) W)
        (hC : ∀ W, Calls Tryz.prog g #[weekV (Dt.wy y (Dt.num y m d)) (Dt.num y m d)] W fun e w' => e = .returned (.int .i64 x) ∧ Below W.heap.size W w') (W' : World) (hb : Below W.heap.size W W'),
        Calls Tryz.prog 72 #[.agg #[.int .i64 y, .int .i64 m, .int .i64 d], .pointer (some ⟨b', 0, none⟩)] W' fun e w' => e = .returned (.int .i64 x) ∧ Below W'.heap.size W' w' := by
      intro b' g x hc eg hC W' hb
      exact wk_any g x y m d b' W' h (hAW.below hb) eg (by rw [hb.cell (p := ⟨_, _, none⟩) (cell_lt hc)]; exact hc) (Nat.lt_of_lt_of_le (cell_lt hc) hb.size) hC
    match k, hk with
    | 0, _ => exact tell_fld w bd b y m d ts 0 W h hI hlen (by omega) hPW 46 #[] 1 rfl (fun _ _ => rfl) (fun W' _ => years_any y m d W')
    | 1, _ => exact tell_fld w bd b y m d ts 1 W h hI hlen (by omega) hPW 46 #[] 4 rfl (fun _ _ => rfl) (fun W' _ => years_any y m d W')
    | 2, _ => exact tell_fld w bd b y m d ts 2 W h hI hlen (by omega) hPW 47 #[] 1 rfl (fun _ _ => rfl) (fun W' _ => months_any y m d W')
    | 3, _ => exact tell_fld w bd b y m d ts 3 W h hI hlen (by omega) hPW 47 #[] 2 rfl (fun _ _ => rfl) (fun W' _ => months_any y m d W')
    | 4, _ => exact tell_fld w bd b y m d ts 4 W h hI hlen (by omega) hPW 48 #[] 1 rfl (fun _ _ => rfl) (fun W' _ => days_any y m d W')
    | 5, _ => exact tell_fld w bd b y m d ts 5 W h hI hlen (by omega) hPW 48 #[] 2 rfl (fun _ _ => rfl) (fun W' _ => days_any y m d W')
    | 6, _ => exact tell_fld w bd b y m d ts 6 W h hI hlen (by omega) hPW 49 #[] 3 rfl (fun _ _ => rfl) (fun W' hb => yearly_ok y m d W' h (hAW.below hb))
    | 7, _ => exact tell_fld w bd b y m d ts 7 W h hI hlen (by omega) hPW 72 #[.pointer (some ⟨B + 1, 0, none⟩)] 4 rfl (fun _ _ => rfl) (hk3 (B + 1) 51 (Dt.wy y (Dt.num y m d)) h1 (fun _ _ => rfl) (fun W => wf1_any (Dt.wy y (Dt.num y m d)) ((Dt.num y m d - Dt.first (Dt.wy y (Dt.num y m d))) / 7 + 1) (Dt.num y m d % 7 + 1) W))
    | 8, _ => exact tell_fld w bd b y m d ts 8 W h hI hlen (by omega) hPW 72 #[.pointer (some ⟨B + 1 + 1, 0, none⟩)] 2 rfl (fun _ _ => rfl) (hk3 (B + 1 + 1) 52 ((Dt.num y m d - Dt.first (Dt.wy y (Dt.num y m d))) / 7 + 1) h2 (fun _ _ => rfl) (fun W => wf2_any (Dt.wy y (Dt.num y m d)) ((Dt.num y m d - Dt.first (Dt.wy y (Dt.num y m d))) / 7 + 1) (Dt.num y m d % 7 + 1) W))
    | 9, _ => exact tell_fld w bd b y m d ts 9 W h hI hlen (by omega) hPW 72 #[.pointer (some ⟨B + 1 + 2, 0, none⟩)] 1 rfl (fun _ _ => rfl) (hk3 (B + 1 + 2) 53 (Dt.num y m d % 7 + 1) h3 (fun _ _ => rfl) (fun W => wf3_any (Dt.wy y (Dt.num y m d)) ((Dt.num y m d - Dt.first (Dt.wy y (Dt.num y m d))) / 7 + 1) (Dt.num y m d % 7 + 1) W))

set_option maxHeartbeats 1000000 in
set_option maxRecDepth 100000 in
theorem format_form (s : ByteArray) (y m d : Int) (w : World) (hs : s.size ≤ 100000000) (hM : MaxAt w) (hp : (Dp.pp s.data.toList).2 = false) :
    Calls Tryz.prog 4 #[.string s, .agg #[.int .i64 y, .int .i64 m, .int .i64 d]] w fun e w' => e = .returned (.tuple #[.string ⟨#[]⟩, .iface 28 (.int .i64 3)]) ∧ Below w.heap.size w w' := by
  have hb0 : Below w.heap.size w (w.alloc (.cells #[.int .i64 y, .int .i64 m, .int .i64 d] 23)) := (Below.refl _ _).alloc (Nat.le_refl _) _
  have hc := dcheck_any s (w.alloc (.cells #[.int .i64 y, .int .i64 m, .int .i64 d] 23)) hs (hM.below hb0)
  rw [hp] at hc
  have e0 : pcsOut false = .iface 28 (.int .i64 3) := rfl
  rw [e0] at hc
  have HC := Lib.hid hc; have Hb0 := Lib.hid hb0
  clear hc hb0 hp hM e0
  go_enter Tryz.func4, Tryz.ntmps4
  go_wp2_with fail
  refine HC.out.mono ?_
  rintro e w1 ⟨rfl, hb1⟩
  have Hb1 := Lib.hid (Hb0.out.trans (hb1.mono Hb0.out.size)); clear hb1
  go_wp2_with fail
  go_ret2
  exact ⟨rfl, Hb1.out⟩

set_option maxHeartbeats 1000000 in
set_option maxRecDepth 100000 in
theorem format_range (s : ByteArray) (y m d : Int) (w : World) (hs : s.size ≤ 100000000) (hM : MaxAt w) (hA : AheadAt w) (hp : (Dp.pp s.data.toList).2 = true) (hd : ¬ Dt.ok y m d) :
    Calls Tryz.prog 4 #[.string s, .agg #[.int .i64 y, .int .i64 m, .int .i64 d]] w fun e w' => e = .returned (.tuple #[.string ⟨#[]⟩, .iface 28 (.int .i64 1)]) ∧ Below w.heap.size w w' := by
  have hb0 : Below w.heap.size w (w.alloc (.cells #[.int .i64 y, .int .i64 m, .int .i64 d] 23)) := (Below.refl _ _).alloc (Nat.le_refl _) _
  have hc := dcheck_any s (w.alloc (.cells #[.int .i64 y, .int .i64 m, .int .i64 d] 23)) hs (hM.below hb0)
  rw [hp] at hc
  have e0 : pcsOut true = .nilIface := rfl
  rw [e0] at hc
  have HC := Lib.hid hc; have Hb0 := Lib.hid hb0; have HA := Lib.hid hA; have Hd := Lib.hid hd
  clear hc hb0 hp hM e0 hA hd
  go_enter Tryz.func4, Tryz.ntmps4
  go_wp2_with fail
  refine HC.out.mono ?_
  rintro e w1 ⟨rfl, hb1⟩
  have hb' : Below (w.heap.size + 1) (w.alloc (.cells #[.int .i64 y, .int .i64 m, .int .i64 d] 23)) w1 := by simpa using hb1
  obtain ⟨c0, c1, c2⟩ := date_cells hb'
  have Hb1 := Lib.hid (Hb0.out.trans (hb1.mono Hb0.out.size)); clear hb1 hb'
  go_wp2_with fail
  refine (check_bad y m d _ Hd.out (HA.out.below Hb1.out)).mono ?_
  rintro e w2 ⟨rfl, hb2⟩
  have Hb2 := Lib.hid (Hb1.out.trans (hb2.mono Hb1.out.size)); clear hb2
  go_wp2_with fail
  go_ret2
  exact ⟨rfl, Hb2.out⟩

set_option maxHeartbeats 1000000 in
set_option maxRecDepth 100000 in
theorem format_ok (s : ByteArray) (y m d : Int) (w : World) (hs : s.size ≤ 100000000) (hM : MaxAt w) (hA : AheadAt w) (hP : Pow10At w) (hp : (Dp.pp s.data.toList).2 = true) (hd : Dt.ok y m d) :
    Calls Tryz.prog 4 #[.string s, .agg #[.int .i64 y, .int .i64 m, .int .i64 d]] w fun e w' => e = .returned (.tuple #[.string ⟨(Dp.out (ftext y m d) (Dp.pp s.data.toList).1).toArray⟩, .nilIface]) ∧ Below w.heap.size w w' := by
  have hb0 : Below w.heap.size w (w.alloc (.cells #[.int .i64 y, .int .i64 m, .int .i64 d] 23)) := (Below.refl _ _).alloc (Nat.le_refl _) _
  have hc := dcheck_any s (w.alloc (.cells #[.int .i64 y, .int .i64 m, .int .i64 d] 23)) hs (hM.below hb0)
  have hwt : Dp.weights (Dp.pp s.data.toList).1 ≤ 10000000000 := by
    have := Dp.pp_weight _ s.data.toList (Nat.le_refl _)
    rw [← Lib.size_eq] at this; omega
  have hpc : ∀ bd b W, FInv w bd b y m d [] W → Calls Tryz.prog 10 #[.string s, .func (.func 11) #[] #[.pointer (some ⟨bd, 0, none⟩), .pointer (some ⟨b, 0, none⟩)]] W fun e w' => e = .returned .nilIface ∧ FInv w bd b y m d (Dp.pp s.data.toList).1 w' := by
    intro bd b W hI
    have := pieces_any 11 #[.pointer (some ⟨bd, 0, none⟩), .pointer (some ⟨b, 0, none⟩)] (FInv w bd b y m d) s W hs (fun _ _ => rfl) hI (fun _ _ h => hM.below h.below) (fun _ _ _ h hb => h.keep hb) (tells_fmt w bd b y m d _ hd hA hP hwt)
    rw [hp] at this
    exact this
  rw [hp] at hc
  have e0 : pcsOut true = .nilIface := rfl
  rw [e0] at hc
  have HC := Lib.hid hc; have Hb0 := Lib.hid hb0; have HA := Lib.hid hA; have Hd := Lib.hid hd; have HPC := Lib.hid hpc
  have hmf : ∀ (fn : Fn) (first cap : Array Value) (w : World), (Instr.makeFunc fn first cap).run Tryz.prog w = .ok (.func fn first cap) w := fun _ _ _ _ => rfl
  clear hc hb0 hp hM e0 hA hd hwt hpc hP
  go_enter Tryz.func4, Tryz.ntmps4
  go_wp2_with fail
  refine HC.out.mono ?_
  rintro e w1 ⟨rfl, hb1⟩
  have hb' : Below (w.heap.size + 1) (w.alloc (.cells #[.int .i64 y, .int .i64 m, .int .i64 d] 23)) w1 := by simpa using hb1
  obtain ⟨c0, c1, c2⟩ := date_cells hb'
  have Hb1 := Lib.hid (Hb0.out.trans (hb1.mono Hb0.out.size))
  have hs1 := hb1.size
  simp only [World.size_alloc] at hs1
  clear hb1 hb'
  go_wp2_with fail
  refine (check_ok y m d _ Hd.out (HA.out.below Hb1.out)).mono ?_
  rintro e w2 ⟨rfl, hb2⟩
  have j0 : w2.cell? ⟨w.heap.size, 0, none⟩ = some (.int .i64 y) := by rw [hb2.cell (p := ⟨_, _, none⟩) (by simp; omega)]; exact c0
  have j1 : w2.cell? ⟨w.heap.size, 1, none⟩ = some (.int .i64 m) := by rw [hb2.cell (p := ⟨_, _, none⟩) (by simp; omega)]; exact c1
  have j2 : w2.cell? ⟨w.heap.size, 2, none⟩ = some (.int .i64 d) := by rw [hb2.cell (p := ⟨_, _, none⟩) (by simp; omega)]; exact c2
  have hs2 : w.heap.size < w2.heap.size := by have := hb2.size; omega
  have Hb2 := Lib.hid (Hb1.out.trans (hb2.mono Hb1.out.size))
  have HF : ∀ o, FInv w w.heap.size w2.heap.size y m d [] (w2.alloc o) ∨ ¬ Lib.IsBuilderF 39 5 w2.heap.size w2.heap.size [] (w2.alloc o) := by
    intro o
    by_cases hbo : Lib.IsBuilderF 39 5 w2.heap.size w2.heap.size [] (w2.alloc o)
    · left
      exact ⟨Hb2.out.alloc Hb2.out.size _, Nat.le_refl _, hs2, by simp, by rw [World.cell?_alloc_lt _ _ _ (by simpa using hs2)]; exact j0, by rw [World.cell?_alloc_lt _ _ _ (by simpa using hs2)]; exact j1, by rw [World.cell?_alloc_lt _ _ _ (by simpa using hs2)]; exact j2, hbo⟩
    · right; exact hbo
  have HFI := Lib.hid ((HF _).resolve_right (fun h => h (Lib.IsBuilderF.of (Lib.fresh_isBuilder 39 5 w2))))
  clear hb2 c0 c1 c2 HF j0 j1 j2
  go_wp2_with fail
  refine (HPC.out _ _ _ HFI.out).mono ?_
  rintro e w3 ⟨rfl, hi3⟩
  have HI3 := Lib.hid hi3; clear hi3
  go_wp2_with fail
  refine (Tryz.Builder_String_any_k w2.heap.size w2.heap.size _ _ HI3.out.bld (Nat.le_of_lt HI3.out.ltW)).mono ?_
  rintro e w4 ⟨rfl, _, hb4, _⟩
  have Hb4 := Lib.hid (HI3.out.below.trans (hb4.mono (Nat.le_of_lt hs2))); clear hb4
  go_wp2_with fail
  go_ret2
  exact ⟨rfl, Hb4.out⟩
end Go.Proofs.YtmaccmhpcagcnaaGreatDoor
