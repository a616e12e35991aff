/-
  rel.Of at two days.
-/
import Derived.Test.YtmaccmhpcagcnaaDoorWtext
namespace Go.Proofs.YtmaccmhpcagcnaaDoor
open Go.RowKit Go.Lib

/-- the program's table of units -/
structure UnitsAt (w : World) (b o c : Nat) : Prop where
  v : w.cell? ⟨0, 0, none⟩ = some (.slice (some ⟨b, o, none⟩) 3 c)
  a0 : w.cell? ⟨b, o, none⟩ = some (.string ⟨#[100, 97, 121]⟩)
  a1 : w.cell? ⟨b, o + 1, none⟩ = some (.int .i64 86400)
  b0 : w.cell? ⟨b, o + 2, none⟩ = some (.string ⟨#[104, 111, 117, 114]⟩)
  b1 : w.cell? ⟨b, o + 2 + 1, none⟩ = some (.int .i64 3600)
  c0 : w.cell? ⟨b, o + 4, none⟩ = some (.string ⟨#[109, 105, 110, 117, 116, 101]⟩)
  c1 : w.cell? ⟨b, o + 4 + 1, none⟩ = some (.int .i64 60)
theorem UnitsAt.below {w w' : World} {b o c : Nat} (h : UnitsAt w b o c) (hb : Below w.heap.size w w') : UnitsAt w' b o c where
  v := by rw [hb.cell (p := ⟨_, _, none⟩) (cell_lt h.v)]; exact h.v
  a0 := by rw [hb.cell (p := ⟨_, _, none⟩) (cell_lt h.a0)]; exact h.a0
  a1 := by rw [hb.cell (p := ⟨_, _, none⟩) (cell_lt h.a0)]; exact h.a1
  b0 := by rw [hb.cell (p := ⟨_, _, none⟩) (cell_lt h.a0)]; exact h.b0
  b1 := by rw [hb.cell (p := ⟨_, _, none⟩) (cell_lt h.a0)]; exact h.b1
  c0 := by rw [hb.cell (p := ⟨_, _, none⟩) (cell_lt h.a0)]; exact h.c0
  c1 := by rw [hb.cell (p := ⟨_, _, none⟩) (cell_lt h.a0)]; exact h.c1

set_option maxHeartbeats 1000000 in
set_option maxRecDepth 100000 in
theorem rel_ne (p q x : Int) (b o c : Nat) (w : World) (hp : 0 ≤ p ∧ p ≤ 400000000000) (hq : 0 ≤ q ∧ q ≤ 400000000000) (hx : (q - p).tdiv 86400 = x) (hx0 : x ≠ 0) (hxb : -4000000 ≤ x ∧ x ≤ 4000000) (hU : UnitsAt w b o c) :
    Calls Tryd.prog 8 #[.int .i64 p, .int .i64 q] w fun e w' => e = .returned (.tuple #[.string ⟨#[100, 97, 121]⟩, .int .i64 x, .nilIface]) ∧ Below w.heap.size w w' := by
  have t1 : decide (p < -1099511627776) = false := decide_eq_false (by omega)
  have t2 : decide (1099511627776 < p) = false := decide_eq_false (by omega)
  have t3 : decide (q < -1099511627776) = false := decide_eq_false (by omega)
  have t4 : decide (1099511627776 < q) = false := decide_eq_false (by omega)
  have t5 : ((q - p).tdiv 86400 != 0) = true := by rw [hx]; simpa using hx0
  have i0 : ∀ w, (Instr.index 46 (.agg #[.int .i64 p, .int .i64 q]) (.int .i64 0)).run Tryd.prog w = .ok (.int .i64 p) w := fun _ => by kernel_rfl
  have i1 : ∀ w, (Instr.index 46 (.agg #[.int .i64 p, .int .i64 q]) (.int .i64 1)).run Tryd.prog w = .ok (.int .i64 q) w := fun _ => by kernel_rfl
  obtain ⟨hv, ha0, ha1, _, _, _, _⟩ := hU
  obtain ⟨hp0, hp1⟩ := hp
  obtain ⟨hq0, hq1⟩ := hq
  go_enter Tryd.func8, Tryd.ntmps8
  go_wp2_with fail
  go_loop [15] (fun i => ∃ k : Nat, k ≤ 2 ∧ i = .int .i64 k) (fun i => 2 - (RowKit.intOf i).toNat)
  case atStart => exact ⟨0, by omega, rfl⟩
  case round =>
    obtain ⟨k, hk, rfl⟩ := hrel
    match k, hk with
    | 0, _ =>
      go_wp2_with fail
      go_round
      case rel => exact ⟨1, by omega, by go_num⟩
      case measure => simp [RowKit.intOf]
    | 1, _ =>
      go_wp2_with fail
      go_round
      case rel => exact ⟨2, by omega, by go_num⟩
      case measure => simp [RowKit.intOf]
    | 2, _ =>
      go_wp2_with fail
      have hdv : IntKind.i64.wrap ((q - p).tdiv 86400) = x := by rw [hx]; exact IntWalk.i64_in x (by omega)
      have Hx := Lib.hid hx; have Hdv := Lib.hid hdv; have Hx0 := Lib.hid hx0
      clear hx hdv hx0
      go_loop [31] (fun i => i = .int .i64 0) (fun _ => 0)
      case atStart => rfl
      case round =>
        subst hrel
        go_wp2_with fail
        have hqp : IntKind.i64.wrap (q - p) = q - p := IntWalk.i64_in _ (by omega)
        have hdv := Hdv.out
        go_quiet (fail)
        clear hqp hdv
        go_wp2_with fail
        go_ret3
        exact ⟨rfl, belowN ((Below.refl _ _).alloc (Nat.le_refl _) _) _⟩

set_option maxHeartbeats 1000000 in
set_option maxRecDepth 100000 in
theorem rel_eq (p : Int) (b o c : Nat) (w : World) (hp : 0 ≤ p ∧ p ≤ 400000000000) (hU : UnitsAt w b o c) :
    Calls Tryd.prog 8 #[.int .i64 p, .int .i64 p] w fun e w' => e = .returned (.tuple #[.string ⟨#[115, 101, 99, 111, 110, 100]⟩, .int .i64 0, .nilIface]) ∧ Below w.heap.size w w' := by
  have t1 : decide (p < -1099511627776) = false := decide_eq_false (by omega)
  have t2 : decide (1099511627776 < p) = false := decide_eq_false (by omega)
  have i0 : ∀ w, (Instr.index 46 (.agg #[.int .i64 p, .int .i64 p]) (.int .i64 0)).run Tryd.prog w = .ok (.int .i64 p) w := fun _ => by kernel_rfl
  have i1 : ∀ w, (Instr.index 46 (.agg #[.int .i64 p, .int .i64 p]) (.int .i64 1)).run Tryd.prog w = .ok (.int .i64 p) w := fun _ => by kernel_rfl
  have hv := hU.v
  have HU := Lib.hid hU; clear hU
  obtain ⟨hp0, hp1⟩ := hp
  go_enter Tryd.func8, Tryd.ntmps8
  go_wp2_with fail
  go_loop [15] (fun i => ∃ k : Nat, k ≤ 2 ∧ i = .int .i64 k) (fun i => 2 - (RowKit.intOf i).toNat)
  case atStart => exact ⟨0, by omega, rfl⟩
  case round =>
    obtain ⟨k, hk, rfl⟩ := hrel
    match k, hk with
    | 0, _ =>
      go_wp2_with fail
      go_round
      case rel => exact ⟨1, by omega, by go_num⟩
      case measure => simp [RowKit.intOf]
    | 1, _ =>
      go_wp2_with fail
      go_round
      case rel => exact ⟨2, by omega, by go_num⟩
      case measure => simp [RowKit.intOf]
    | 2, _ =>
      go_wp2_with fail
      go_loopw [31] (fun i wr => ∃ k : Nat, k ≤ 3 ∧ i = .int .i64 k ∧ Hid (Below w.heap.size w wr)) (fun i _ => 3 - (RowKit.intOf i).toNat)
      case atStart => exact ⟨0, by omega, rfl, Below.refl _ _⟩
      case round =>
        obtain ⟨k, hk, rfl, HB⟩ := hrel
        obtain ⟨_, a0, a1, b0, b1, c0, c1⟩ := HU.out.below HB.out
        match k, hk with
        | 0, _ =>
          go_wp2_with fail
          go_roundw
          case rel => exact ⟨1, by omega, by go_num, HB.out.alloc HB.out.size _⟩
          case measure => simp [RowKit.intOf]
        | 1, _ =>
          go_wp2_with fail
          go_roundw
          case rel => exact ⟨2, by omega, by go_num, HB.out.alloc HB.out.size _⟩
          case measure => simp [RowKit.intOf]
        | 2, _ =>
          go_wp2_with fail
          go_roundw
          case rel => exact ⟨3, by omega, by go_num, HB.out.alloc HB.out.size _⟩
          case measure => simp [RowKit.intOf]
        | 3, _ =>
          go_wp2_with fail
          go_ret3
          exact ⟨rfl, HB.out⟩
end Go.Proofs.YtmaccmhpcagcnaaDoor
