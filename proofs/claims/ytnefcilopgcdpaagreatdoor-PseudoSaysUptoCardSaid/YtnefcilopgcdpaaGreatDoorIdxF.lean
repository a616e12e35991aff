/-
  slices.IndexFunc and slices.ContainsFunc at this program's four element types, at whatever function value answers.
-/
import Derived.Test.YtnefcilopgcdpaaGreatDoorParsA
namespace Go.Proofs.YtnefcilopgcdpaaGreatDoor
open Go.RowKit

/-- the first place from i on, of k, that p tells; -1: none -/
def firstI (p : Nat → Bool) : Nat → Nat → Int
  | _, 0 => -1
  | i, k + 1 => if p i = true then (i : Int) else firstI p (i + 1) k
def anyI (p : Nat → Bool) : Nat → Nat → Bool
  | _, 0 => false
  | i, k + 1 => p i || anyI p (i + 1) k
theorem first_any (p : Nat → Bool) : ∀ (k i : Nat), decide (0 ≤ firstI p i k) = anyI p i k
  | 0, i => rfl
  | k + 1, i => by
    unfold firstI anyI
    cases h : p i with
    | true => simp
    | false => simp [first_any p k (i + 1)]
theorem first_bd (p : Nat → Bool) : ∀ (k i : Nat), -1 ≤ firstI p i k ∧ firstI p i k ≤ i + k
  | 0, i => by simp [firstI]
  | k + 1, i => by
    have := first_bd p k (i + 1)
    unfold firstI
    split <;> omega
theorem anyI_list {α : Type} (p : α → Bool) (d : α) : ∀ (l : List α) (i : Nat) (q : Nat → Bool), (∀ j, j < l.length → q (i + j) = p (l.getD j d)) → anyI q i l.length = l.any p
  | [], _, _, _ => rfl
  | a :: l, i, q, h => by
    show (q i || anyI q (i + 1) l.length) = (p a || l.any p)
    rw [anyI_list p d l (i + 1) q (fun j hj => by
      have := h (j + 1) (by simp only [List.length_cons]; omega)
      rw [show i + 1 + j = i + (j + 1) by omega, this]; rfl)]
    have := h 0 (by simp)
    rw [show i + 0 = i by omega] at this
    rw [this]; rfl

set_option maxRecDepth 100000 in
set_option maxHeartbeats 2000000 in
theorem idxRngFine (a : Option Addr) (n c : Nat) (e : Nat → Int × Int) (p : Nat → Bool) (w : World) (hn : n ≤ 1000000) 
    (hr : n = 0 ∨ ∃ g o, a = some ⟨g, o, none⟩ ∧ ∀ i, i < n → w.cell? ⟨g, o + i * 2, none⟩ = some (.int .i64 (e i).1) ∧ w.cell? ⟨g, o + i * 2 + 1, none⟩ = some (.int .i64 (e i).2))
    (hf : ∀ i, i < n → ∀ W, Below w.heap.size w W → Calls Tryz.prog 179 #[.agg #[.int .i64 (e i).1, .int .i64 (e i).2]] W fun e W' => e = .returned (.bool (p i)) ∧ Below W.heap.size W W') :
    Calls Tryz.prog 180 #[.slice a n c, .func (.func 179) #[] #[]] w fun e w' => e = .returned (.int .i64 (firstI p 0 n)) ∧ Below w.heap.size w w' := by
  rcases hr with rfl | ⟨g, o, rfl, hc⟩
  · clear hf
    go_enter Tryz.func180, Tryz.ntmps180
    go_wp2_with fail
    go_loop [8] (fun i => i = .int .i64 0) (fun _ => 0)
    case atStart => exact rfl
    case round =>
      obtain rfl := hrel
      go_wp2_with fail
      go_ret
      exact ⟨rfl, Below.refl _ _⟩
  · obtain ⟨F, hF⟩ : ∃ F, F = firstI p 0 n := ⟨_, rfl⟩
    rw [← hF]
    have HF := Lib.hid hF; have HC := Lib.hid hc; have HFn := Lib.hid hf
    clear hF hc hf
    go_enter Tryz.func180, Tryz.ntmps180
    go_wp2_with fail
    go_loopw [8] (fun i wr => ∃ i' : Nat, i = .int .i64 i' ∧ i' ≤ n ∧ Hid (F = firstI p i' (n - i')) ∧ Hid (Below w.heap.size w wr)) (fun i _ => n - (intOf i).toNat)
    case atStart => exact ⟨0, rfl, Nat.zero_le _, HF, Lib.hid (Below.refl _ _)⟩
    case round =>
      clear HF
      obtain ⟨i, rfl, hi, HF, HBr⟩ := hrel
      by_cases hlt : i < n
      · obtain ⟨y0, y1⟩ := HC.out i hlt
        have z0 := (HBr.out.cell (p := ⟨g, o + i * 2, none⟩) (cellLt y0)).trans y0
        have z1 := (HBr.out.cell (p := ⟨g, o + i * 2 + 1, none⟩) (cellLt y1)).trans y1
        have hcl := HFn.out i hlt wr HBr.out
        have hF2 : F = if p i = true then (i : Int) else firstI p (i + 1) (n - (i + 1)) := by
          have := HF.out
          rw [show n - i = n - (i + 1) + 1 by omega] at this
          exact this
        have HF2 := Lib.hid hF2
        have HCL := Lib.hid hcl
        clear y0 y1 hF2 hcl HF
        go_wp2_with fail
        refine HCL.out.mono ?_
        rintro e w1 ⟨rfl, hb⟩
        have HB1 := Lib.hid (HBr.out.trans (hb.mono HBr.out.size))
        clear hb
        cases hpi : p i with
        | true =>
          have HE := Lib.hid (show F = (i : Int) by rw [HF2.out, hpi]; rfl)
          clear hpi HF2
          go_wp2_with fail
          go_ret
          exact ⟨ret_int HE.out.symm, HB1.out⟩
        | false =>
          have HE := Lib.hid (show F = firstI p (i + 1) (n - (i + 1)) by rw [HF2.out, hpi]; rfl)
          clear hpi HF2
          go_wp2_with fail
          go_roundw
          case rel => exact ⟨i + 1, by go_num, by omega, HE, HB1⟩
          case measure => simp [intOf]; omega
      · have hin : i = n := by omega
        have HE := Lib.hid (show F = -1 by rw [HF.out, hin, Nat.sub_self]; rfl)
        clear HF
        go_wp2_with fail
        go_ret
        exact ⟨ret_int HE.out.symm, HBr.out⟩
theorem contRngFine (a : Option Addr) (n c : Nat) (e : Nat → Int × Int) (p : Nat → Bool) (w : World) (hn : n ≤ 1000000) 
    (hr : n = 0 ∨ ∃ g o, a = some ⟨g, o, none⟩ ∧ ∀ i, i < n → w.cell? ⟨g, o + i * 2, none⟩ = some (.int .i64 (e i).1) ∧ w.cell? ⟨g, o + i * 2 + 1, none⟩ = some (.int .i64 (e i).2))
    (hf : ∀ i, i < n → ∀ W, Below w.heap.size w W → Calls Tryz.prog 179 #[.agg #[.int .i64 (e i).1, .int .i64 (e i).2]] W fun e W' => e = .returned (.bool (p i)) ∧ Below W.heap.size W W') :
    Calls Tryz.prog 159 #[.slice a n c, .func (.func 179) #[] #[]] w fun e w' => e = .returned (.bool (anyI p 0 n)) ∧ Below w.heap.size w w' := by
  have HI := Lib.hid (idxRngFine a n c e p w hn hr hf)
  obtain ⟨b, hb⟩ : ∃ b, b = anyI p 0 n := ⟨_, rfl⟩
  rw [← hb]
  rw [← first_any] at hb
  have hbd := first_bd p n 0
  obtain ⟨F, hF⟩ : ∃ F, F = firstI p 0 n := ⟨_, rfl⟩
  rw [← hF] at hb hbd HI
  have HB := Lib.hid hb
  clear hb hF hr hf hbd
  go_enter Tryz.func159, Tryz.ntmps159
  go_wp2_with fail
  refine HI.out.mono ?_
  rintro e w1 ⟨rfl, hb⟩
  have HB1 := Lib.hid hb
  clear hb
  go_wp2_with fail
  go_ret
  exact ⟨ret_bool HB.out.symm, HB1.out⟩

set_option maxRecDepth 100000 in
set_option maxHeartbeats 2000000 in
theorem idxRngIn (a : Option Addr) (n c : Nat) (e : Nat → Int × Int) (p : Nat → Bool) (cb : Nat) (w : World) (hn : n ≤ 1000000) 
    (hr : n = 0 ∨ ∃ g o, a = some ⟨g, o, none⟩ ∧ ∀ i, i < n → w.cell? ⟨g, o + i * 2, none⟩ = some (.int .i64 (e i).1) ∧ w.cell? ⟨g, o + i * 2 + 1, none⟩ = some (.int .i64 (e i).2))
    (hf : ∀ i, i < n → ∀ W, Below w.heap.size w W → Calls Tryz.prog 160 #[.agg #[.int .i64 (e i).1, .int .i64 (e i).2], .pointer (some ⟨cb, 0, none⟩)] W fun e W' => e = .returned (.bool (p i)) ∧ Below W.heap.size W W') :
    Calls Tryz.prog 180 #[.slice a n c, .func (.func 160) #[] #[.pointer (some ⟨cb, 0, none⟩)]] w fun e w' => e = .returned (.int .i64 (firstI p 0 n)) ∧ Below w.heap.size w w' := by
  rcases hr with rfl | ⟨g, o, rfl, hc⟩
  · clear hf
    go_enter Tryz.func180, Tryz.ntmps180
    go_wp2_with fail
    go_loop [8] (fun i => i = .int .i64 0) (fun _ => 0)
    case atStart => exact rfl
    case round =>
      obtain rfl := hrel
      go_wp2_with fail
      go_ret
      exact ⟨rfl, Below.refl _ _⟩
  · obtain ⟨F, hF⟩ : ∃ F, F = firstI p 0 n := ⟨_, rfl⟩
    rw [← hF]
    have HF := Lib.hid hF; have HC := Lib.hid hc; have HFn := Lib.hid hf
    clear hF hc hf
    go_enter Tryz.func180, Tryz.ntmps180
    go_wp2_with fail
    go_loopw [8] (fun i wr => ∃ i' : Nat, i = .int .i64 i' ∧ i' ≤ n ∧ Hid (F = firstI p i' (n - i')) ∧ Hid (Below w.heap.size w wr)) (fun i _ => n - (intOf i).toNat)
    case atStart => exact ⟨0, rfl, Nat.zero_le _, HF, Lib.hid (Below.refl _ _)⟩
    case round =>
      clear HF
      obtain ⟨i, rfl, hi, HF, HBr⟩ := hrel
      by_cases hlt : i < n
      · obtain ⟨y0, y1⟩ := HC.out i hlt
        have z0 := (HBr.out.cell (p := ⟨g, o + i * 2, none⟩) (cellLt y0)).trans y0
        have z1 := (HBr.out.cell (p := ⟨g, o + i * 2 + 1, none⟩) (cellLt y1)).trans y1
        have hcl := HFn.out i hlt wr HBr.out
        have hF2 : F = if p i = true then (i : Int) else firstI p (i + 1) (n - (i + 1)) := by
          have := HF.out
          rw [show n - i = n - (i + 1) + 1 by omega] at this
          exact this
        have HF2 := Lib.hid hF2
        have HCL := Lib.hid hcl
        clear y0 y1 hF2 hcl HF
        go_wp2_with fail
        refine HCL.out.mono ?_
        rintro e w1 ⟨rfl, hb⟩
        have HB1 := Lib.hid (HBr.out.trans (hb.mono HBr.out.size))
        clear hb
        cases hpi : p i with
        | true =>
          have HE := Lib.hid (show F = (i : Int) by rw [HF2.out, hpi]; rfl)
          clear hpi HF2
          go_wp2_with fail
          go_ret
          exact ⟨ret_int HE.out.symm, HB1.out⟩
        | false =>
          have HE := Lib.hid (show F = firstI p (i + 1) (n - (i + 1)) by rw [HF2.out, hpi]; rfl)
          clear hpi HF2
          go_wp2_with fail
          go_roundw
          case rel => exact ⟨i + 1, by go_num, by omega, HE, HB1⟩
          case measure => simp [intOf]; omega
      · have hin : i = n := by omega
        have HE := Lib.hid (show F = -1 by rw [HF.out, hin, Nat.sub_self]; rfl)
        clear HF
        go_wp2_with fail
        go_ret
        exact ⟨ret_int HE.out.symm, HBr.out⟩
theorem contRngIn (a : Option Addr) (n c : Nat) (e : Nat → Int × Int) (p : Nat → Bool) (cb : Nat) (w : World) (hn : n ≤ 1000000) 
    (hr : n = 0 ∨ ∃ g o, a = some ⟨g, o, none⟩ ∧ ∀ i, i < n → w.cell? ⟨g, o + i * 2, none⟩ = some (.int .i64 (e i).1) ∧ w.cell? ⟨g, o + i * 2 + 1, none⟩ = some (.int .i64 (e i).2))
    (hf : ∀ i, i < n → ∀ W, Below w.heap.size w W → Calls Tryz.prog 160 #[.agg #[.int .i64 (e i).1, .int .i64 (e i).2], .pointer (some ⟨cb, 0, none⟩)] W fun e W' => e = .returned (.bool (p i)) ∧ Below W.heap.size W W') :
    Calls Tryz.prog 159 #[.slice a n c, .func (.func 160) #[] #[.pointer (some ⟨cb, 0, none⟩)]] w fun e w' => e = .returned (.bool (anyI p 0 n)) ∧ Below w.heap.size w w' := by
  have HI := Lib.hid (idxRngIn a n c e p cb w hn hr hf)
  obtain ⟨b, hb⟩ : ∃ b, b = anyI p 0 n := ⟨_, rfl⟩
  rw [← hb]
  rw [← first_any] at hb
  have hbd := first_bd p n 0
  obtain ⟨F, hF⟩ : ∃ F, F = firstI p 0 n := ⟨_, rfl⟩
  rw [← hF] at hb hbd HI
  have HB := Lib.hid hb
  clear hb hF hr hf hbd
  go_enter Tryz.func159, Tryz.ntmps159
  go_wp2_with fail
  refine HI.out.mono ?_
  rintro e w1 ⟨rfl, hb⟩
  have HB1 := Lib.hid hb
  clear hb
  go_wp2_with fail
  go_ret
  exact ⟨ret_bool HB.out.symm, HB1.out⟩

set_option maxRecDepth 100000 in
set_option maxHeartbeats 2000000 in
theorem idxRelNot (a : Option Addr) (n c : Nat) (e : Nat → Re) (u : Nat → Value) (p : Nat → Bool) (cb : Nat) (w : World) (hn : n ≤ 1000000) (hu : ∀ i, i < n → ∃ a m c, u i = .slice a m c) 
    (hr : n = 0 ∨ ∃ g o, a = some ⟨g, o, none⟩ ∧ ∀ i, i < n → w.cell? ⟨g, o + i * 4, none⟩ = some (.int .u8 (e i).op) ∧ w.cell? ⟨g, o + i * 4 + 1, none⟩ = some (.int .i64 (e i).md) ∧ w.cell? ⟨g, o + i * 4 + 2, none⟩ = some (.bool (e i).no) ∧ w.cell? ⟨g, o + i * 4 + 3, none⟩ = some (u i))
    (hf : ∀ i, i < n → ∀ W, Below w.heap.size w W → Calls Tryz.prog 123 #[.agg #[.int .u8 (e i).op, .int .i64 (e i).md, .bool (e i).no, u i], .pointer (some ⟨cb, 0, none⟩)] W fun e W' => e = .returned (.bool (p i)) ∧ Below W.heap.size W W') :
    Calls Tryz.prog 158 #[.slice a n c, .func (.func 123) #[] #[.pointer (some ⟨cb, 0, none⟩)]] w fun e w' => e = .returned (.int .i64 (firstI p 0 n)) ∧ Below w.heap.size w w' := by
  rcases hr with rfl | ⟨g, o, rfl, hc⟩
  · clear hf hu
    go_enter Tryz.func158, Tryz.ntmps158
    go_wp2_with fail
    go_loop [8] (fun i => i = .int .i64 0) (fun _ => 0)
    case atStart => exact rfl
    case round =>
      obtain rfl := hrel
      go_wp2_with fail
      go_ret
      exact ⟨rfl, Below.refl _ _⟩
  · obtain ⟨F, hF⟩ : ∃ F, F = firstI p 0 n := ⟨_, rfl⟩
    rw [← hF]
    have HF := Lib.hid hF; have HC := Lib.hid hc; have HFn := Lib.hid hf
    clear hF hc hf
    go_enter Tryz.func158, Tryz.ntmps158
    go_wp2_with fail
    go_loopw [8] (fun i wr => ∃ i' : Nat, i = .int .i64 i' ∧ i' ≤ n ∧ Hid (F = firstI p i' (n - i')) ∧ Hid (Below w.heap.size w wr)) (fun i _ => n - (intOf i).toNat)
    case atStart => exact ⟨0, rfl, Nat.zero_le _, HF, Lib.hid (Below.refl _ _)⟩
    case round =>
      clear HF
      obtain ⟨i, rfl, hi, HF, HBr⟩ := hrel
      by_cases hlt : i < n
      · obtain ⟨y0, y1, y2, y3⟩ := HC.out i hlt
        have z0 := (HBr.out.cell (p := ⟨g, o + i * 4, none⟩) (cellLt y0)).trans y0
        have z1 := (HBr.out.cell (p := ⟨g, o + i * 4 + 1, none⟩) (cellLt y1)).trans y1
        have z2 := (HBr.out.cell (p := ⟨g, o + i * 4 + 2, none⟩) (cellLt y2)).trans y2
        have z3 := (HBr.out.cell (p := ⟨g, o + i * 4 + 3, none⟩) (cellLt y3)).trans y3
        have hcl := HFn.out i hlt wr HBr.out
        have hF2 : F = if p i = true then (i : Int) else firstI p (i + 1) (n - (i + 1)) := by
          have := HF.out
          rw [show n - i = n - (i + 1) + 1 by omega] at this
          exact this
        have HF2 := Lib.hid hF2
        obtain ⟨ua, um, uc, hue⟩ := hu i hlt
        rw [hue] at z3
        rw [hue] at hcl
        clear hue
        have HCL := Lib.hid hcl
        clear y0 y1 y2 y3 hF2 hcl HF
        go_wp2_with fail
        refine HCL.out.mono ?_
        rintro e w1 ⟨rfl, hb⟩
        have HB1 := Lib.hid (HBr.out.trans (hb.mono HBr.out.size))
        clear hb
        cases hpi : p i with
        | true =>
          have HE := Lib.hid (show F = (i : Int) by rw [HF2.out, hpi]; rfl)
          clear hpi HF2
          go_wp2_with fail
          go_ret
          exact ⟨ret_int HE.out.symm, HB1.out⟩
        | false =>
          have HE := Lib.hid (show F = firstI p (i + 1) (n - (i + 1)) by rw [HF2.out, hpi]; rfl)
          clear hpi HF2
          go_wp2_with fail
          go_roundw
          case rel => exact ⟨i + 1, by go_num, by omega, HE, HB1⟩
          case measure => simp [intOf]; omega
      · have hin : i = n := by omega
        have HE := Lib.hid (show F = -1 by rw [HF.out, hin, Nat.sub_self]; rfl)
        clear HF
        go_wp2_with fail
        go_ret
        exact ⟨ret_int HE.out.symm, HBr.out⟩
theorem contRelNot (a : Option Addr) (n c : Nat) (e : Nat → Re) (u : Nat → Value) (p : Nat → Bool) (cb : Nat) (w : World) (hn : n ≤ 1000000) (hu : ∀ i, i < n → ∃ a m c, u i = .slice a m c) 
    (hr : n = 0 ∨ ∃ g o, a = some ⟨g, o, none⟩ ∧ ∀ i, i < n → w.cell? ⟨g, o + i * 4, none⟩ = some (.int .u8 (e i).op) ∧ w.cell? ⟨g, o + i * 4 + 1, none⟩ = some (.int .i64 (e i).md) ∧ w.cell? ⟨g, o + i * 4 + 2, none⟩ = some (.bool (e i).no) ∧ w.cell? ⟨g, o + i * 4 + 3, none⟩ = some (u i))
    (hf : ∀ i, i < n → ∀ W, Below w.heap.size w W → Calls Tryz.prog 123 #[.agg #[.int .u8 (e i).op, .int .i64 (e i).md, .bool (e i).no, u i], .pointer (some ⟨cb, 0, none⟩)] W fun e W' => e = .returned (.bool (p i)) ∧ Below W.heap.size W W') :
    Calls Tryz.prog 122 #[.slice a n c, .func (.func 123) #[] #[.pointer (some ⟨cb, 0, none⟩)]] w fun e w' => e = .returned (.bool (anyI p 0 n)) ∧ Below w.heap.size w w' := by
  have HI := Lib.hid (idxRelNot a n c e u p cb w hn hu hr hf)
  obtain ⟨b, hb⟩ : ∃ b, b = anyI p 0 n := ⟨_, rfl⟩
  rw [← hb]
  rw [← first_any] at hb
  have hbd := first_bd p n 0
  obtain ⟨F, hF⟩ : ∃ F, F = firstI p 0 n := ⟨_, rfl⟩
  rw [← hF] at hb hbd HI
  have HB := Lib.hid hb
  clear hb hF hr hf hbd
  go_enter Tryz.func122, Tryz.ntmps122
  go_wp2_with fail
  refine HI.out.mono ?_
  rintro e w1 ⟨rfl, hb⟩
  have HB1 := Lib.hid hb
  clear hb
  go_wp2_with fail
  go_ret
  exact ⟨ret_bool HB.out.symm, HB1.out⟩

set_option maxRecDepth 100000 in
set_option maxHeartbeats 2000000 in
theorem idxPartAll (a : Option Addr) (n c : Nat) (u : Nat → Value) (p : Nat → Bool) (cb : Nat) (w : World) (hn : n ≤ 1000000) (hu : ∀ i, i < n → ∃ a m c, u i = .slice a m c) 
    (hr : n = 0 ∨ ∃ g o, a = some ⟨g, o, none⟩ ∧ ∀ i, i < n → w.cell? ⟨g, o + i, none⟩ = some (u i))
    (hf : ∀ i, i < n → ∀ W, Below w.heap.size w W → Calls Tryz.prog 121 #[u i, .pointer (some ⟨cb, 0, none⟩)] W fun e W' => e = .returned (.bool (p i)) ∧ Below W.heap.size W W') :
    Calls Tryz.prog 157 #[.slice a n c, .func (.func 121) #[] #[.pointer (some ⟨cb, 0, none⟩)]] w fun e w' => e = .returned (.int .i64 (firstI p 0 n)) ∧ Below w.heap.size w w' := by
  rcases hr with rfl | ⟨g, o, rfl, hc⟩
  · clear hf hu
    go_enter Tryz.func157, Tryz.ntmps157
    go_wp2_with fail
    go_loop [8] (fun i => i = .int .i64 0) (fun _ => 0)
    case atStart => exact rfl
    case round =>
      obtain rfl := hrel
      go_wp2_with fail
      go_ret
      exact ⟨rfl, Below.refl _ _⟩
  · obtain ⟨F, hF⟩ : ∃ F, F = firstI p 0 n := ⟨_, rfl⟩
    rw [← hF]
    have HF := Lib.hid hF; have HC := Lib.hid hc; have HFn := Lib.hid hf
    clear hF hc hf
    go_enter Tryz.func157, Tryz.ntmps157
    go_wp2_with fail
    go_loopw [8] (fun i wr => ∃ i' : Nat, i = .int .i64 i' ∧ i' ≤ n ∧ Hid (F = firstI p i' (n - i')) ∧ Hid (Below w.heap.size w wr)) (fun i _ => n - (intOf i).toNat)
    case atStart => exact ⟨0, rfl, Nat.zero_le _, HF, Lib.hid (Below.refl _ _)⟩
    case round =>
      clear HF
      obtain ⟨i, rfl, hi, HF, HBr⟩ := hrel
      by_cases hlt : i < n
      · have y0 := HC.out i hlt
        have z0 := (HBr.out.cell (p := ⟨g, o + i, none⟩) (cellLt y0)).trans y0
        have hcl := HFn.out i hlt wr HBr.out
        have hF2 : F = if p i = true then (i : Int) else firstI p (i + 1) (n - (i + 1)) := by
          have := HF.out
          rw [show n - i = n - (i + 1) + 1 by omega] at this
          exact this
        have HF2 := Lib.hid hF2
        obtain ⟨ua, um, uc, hue⟩ := hu i hlt
        rw [hue] at z0
        rw [hue] at hcl
        clear hue
        have HCL := Lib.hid hcl
        clear y0 hF2 hcl HF
        go_wp2_with fail
        refine HCL.out.mono ?_
        rintro e w1 ⟨rfl, hb⟩
        have HB1 := Lib.hid (HBr.out.trans (hb.mono HBr.out.size))
        clear hb
        cases hpi : p i with
        | true =>
          have HE := Lib.hid (show F = (i : Int) by rw [HF2.out, hpi]; rfl)
          clear hpi HF2
          go_wp2_with fail
          go_ret
          exact ⟨ret_int HE.out.symm, HB1.out⟩
        | false =>
          have HE := Lib.hid (show F = firstI p (i + 1) (n - (i + 1)) by rw [HF2.out, hpi]; rfl)
          clear hpi HF2
          go_wp2_with fail
          go_roundw
          case rel => exact ⟨i + 1, by go_num, by omega, HE, HB1⟩
          case measure => simp [intOf]; omega
      · have hin : i = n := by omega
        have HE := Lib.hid (show F = -1 by rw [HF.out, hin, Nat.sub_self]; rfl)
        clear HF
        go_wp2_with fail
        go_ret
        exact ⟨ret_int HE.out.symm, HBr.out⟩
theorem contPartAll (a : Option Addr) (n c : Nat) (u : Nat → Value) (p : Nat → Bool) (cb : Nat) (w : World) (hn : n ≤ 1000000) (hu : ∀ i, i < n → ∃ a m c, u i = .slice a m c) 
    (hr : n = 0 ∨ ∃ g o, a = some ⟨g, o, none⟩ ∧ ∀ i, i < n → w.cell? ⟨g, o + i, none⟩ = some (u i))
    (hf : ∀ i, i < n → ∀ W, Below w.heap.size w W → Calls Tryz.prog 121 #[u i, .pointer (some ⟨cb, 0, none⟩)] W fun e W' => e = .returned (.bool (p i)) ∧ Below W.heap.size W W') :
    Calls Tryz.prog 120 #[.slice a n c, .func (.func 121) #[] #[.pointer (some ⟨cb, 0, none⟩)]] w fun e w' => e = .returned (.bool (anyI p 0 n)) ∧ Below w.heap.size w w' := by
  have HI := Lib.hid (idxPartAll a n c u p cb w hn hu hr hf)
  obtain ⟨b, hb⟩ : ∃ b, b = anyI p 0 n := ⟨_, rfl⟩
  rw [← hb]
  rw [← first_any] at hb
  have hbd := first_bd p n 0
  obtain ⟨F, hF⟩ : ∃ F, F = firstI p 0 n := ⟨_, rfl⟩
  rw [← hF] at hb hbd HI
  have HB := Lib.hid hb
  clear hb hF hr hf hbd
  go_enter Tryz.func120, Tryz.ntmps120
  go_wp2_with fail
  refine HI.out.mono ?_
  rintro e w1 ⟨rfl, hb⟩
  have HB1 := Lib.hid hb
  clear hb
  go_wp2_with fail
  go_ret
  exact ⟨ret_bool HB.out.symm, HB1.out⟩

set_option maxRecDepth 100000 in
set_option maxHeartbeats 2000000 in
theorem idxNeedBoth (a : Option Addr) (n c : Nat) (e : Nat → List UInt8 × Bool × Bool) (p : Nat → Bool) (w : World) (hn : n ≤ 1000000) 
    (hr : n = 0 ∨ ∃ g o, a = some ⟨g, o, none⟩ ∧ ∀ i, i < n → w.cell? ⟨g, o + i * 3, none⟩ = some (.string ⟨(e i).1.toArray⟩) ∧ w.cell? ⟨g, o + i * 3 + 1, none⟩ = some (.bool (e i).2.1) ∧ w.cell? ⟨g, o + i * 3 + 2, none⟩ = some (.bool (e i).2.2))
    (hf : ∀ i, i < n → ∀ W, Below w.heap.size w W → Calls Tryz.prog 40 #[.agg #[.string ⟨(e i).1.toArray⟩, .bool (e i).2.1, .bool (e i).2.2]] W fun e W' => e = .returned (.bool (p i)) ∧ Below W.heap.size W W') :
    Calls Tryz.prog 57 #[.slice a n c, .func (.func 40) #[] #[]] w fun e w' => e = .returned (.int .i64 (firstI p 0 n)) ∧ Below w.heap.size w w' := by
  rcases hr with rfl | ⟨g, o, rfl, hc⟩
  · clear hf
    go_enter Tryz.func57, Tryz.ntmps57
    go_wp2_with fail
    go_loop [8] (fun i => i = .int .i64 0) (fun _ => 0)
    case atStart => exact rfl
    case round =>
      obtain rfl := hrel
      go_wp2_with fail
      go_ret
      exact ⟨rfl, Below.refl _ _⟩
  · obtain ⟨F, hF⟩ : ∃ F, F = firstI p 0 n := ⟨_, rfl⟩
    rw [← hF]
    have HF := Lib.hid hF; have HC := Lib.hid hc; have HFn := Lib.hid hf
    clear hF hc hf
    go_enter Tryz.func57, Tryz.ntmps57
    go_wp2_with fail
    go_loopw [8] (fun i wr => ∃ i' : Nat, i = .int .i64 i' ∧ i' ≤ n ∧ Hid (F = firstI p i' (n - i')) ∧ Hid (Below w.heap.size w wr)) (fun i _ => n - (intOf i).toNat)
    case atStart => exact ⟨0, rfl, Nat.zero_le _, HF, Lib.hid (Below.refl _ _)⟩
    case round =>
      clear HF
      obtain ⟨i, rfl, hi, HF, HBr⟩ := hrel
      by_cases hlt : i < n
      · obtain ⟨y0, y1, y2⟩ := HC.out i hlt
        have z0 := (HBr.out.cell (p := ⟨g, o + i * 3, none⟩) (cellLt y0)).trans y0
        have z1 := (HBr.out.cell (p := ⟨g, o + i * 3 + 1, none⟩) (cellLt y1)).trans y1
        have z2 := (HBr.out.cell (p := ⟨g, o + i * 3 + 2, none⟩) (cellLt y2)).trans y2
        have hcl := HFn.out i hlt wr HBr.out
        have hF2 : F = if p i = true then (i : Int) else firstI p (i + 1) (n - (i + 1)) := by
          have := HF.out
          rw [show n - i = n - (i + 1) + 1 by omega] at this
          exact this
        have HF2 := Lib.hid hF2
        have HCL := Lib.hid hcl
        clear y0 y1 y2 hF2 hcl HF
        go_wp2_with fail
        refine HCL.out.mono ?_
        rintro e w1 ⟨rfl, hb⟩
        have HB1 := Lib.hid (HBr.out.trans (hb.mono HBr.out.size))
        clear hb
        cases hpi : p i with
        | true =>
          have HE := Lib.hid (show F = (i : Int) by rw [HF2.out, hpi]; rfl)
          clear hpi HF2
          go_wp2_with fail
          go_ret
          exact ⟨ret_int HE.out.symm, HB1.out⟩
        | false =>
          have HE := Lib.hid (show F = firstI p (i + 1) (n - (i + 1)) by rw [HF2.out, hpi]; rfl)
          clear hpi HF2
          go_wp2_with fail
          go_roundw
          case rel => exact ⟨i + 1, by go_num, by omega, HE, HB1⟩
          case measure => simp [intOf]; omega
      · have hin : i = n := by omega
        have HE := Lib.hid (show F = -1 by rw [HF.out, hin, Nat.sub_self]; rfl)
        clear HF
        go_wp2_with fail
        go_ret
        exact ⟨ret_int HE.out.symm, HBr.out⟩
theorem contNeedBoth (a : Option Addr) (n c : Nat) (e : Nat → List UInt8 × Bool × Bool) (p : Nat → Bool) (w : World) (hn : n ≤ 1000000) 
    (hr : n = 0 ∨ ∃ g o, a = some ⟨g, o, none⟩ ∧ ∀ i, i < n → w.cell? ⟨g, o + i * 3, none⟩ = some (.string ⟨(e i).1.toArray⟩) ∧ w.cell? ⟨g, o + i * 3 + 1, none⟩ = some (.bool (e i).2.1) ∧ w.cell? ⟨g, o + i * 3 + 2, none⟩ = some (.bool (e i).2.2))
    (hf : ∀ i, i < n → ∀ W, Below w.heap.size w W → Calls Tryz.prog 40 #[.agg #[.string ⟨(e i).1.toArray⟩, .bool (e i).2.1, .bool (e i).2.2]] W fun e W' => e = .returned (.bool (p i)) ∧ Below W.heap.size W W') :
    Calls Tryz.prog 39 #[.slice a n c, .func (.func 40) #[] #[]] w fun e w' => e = .returned (.bool (anyI p 0 n)) ∧ Below w.heap.size w w' := by
  have HI := Lib.hid (idxNeedBoth a n c e p w hn hr hf)
  obtain ⟨b, hb⟩ : ∃ b, b = anyI p 0 n := ⟨_, rfl⟩
  rw [← hb]
  rw [← first_any] at hb
  have hbd := first_bd p n 0
  obtain ⟨F, hF⟩ : ∃ F, F = firstI p 0 n := ⟨_, rfl⟩
  rw [← hF] at hb hbd HI
  have HB := Lib.hid hb
  clear hb hF hr hf hbd
  go_enter Tryz.func39, Tryz.ntmps39
  go_wp2_with fail
  refine HI.out.mono ?_
  rintro e w1 ⟨rfl, hb⟩
  have HB1 := Lib.hid hb
  clear hb
  go_wp2_with fail
  go_ret
  exact ⟨ret_bool HB.out.symm, HB1.out⟩

set_option maxRecDepth 100000 in
set_option maxHeartbeats 2000000 in
theorem idxNeedAt (a : Option Addr) (n c : Nat) (e : Nat → List UInt8 × Bool × Bool) (p : Nat → Bool) (cb : Nat) (w : World) (hn : n ≤ 1000000) 
    (hr : n = 0 ∨ ∃ g o, a = some ⟨g, o, none⟩ ∧ ∀ i, i < n → w.cell? ⟨g, o + i * 3, none⟩ = some (.string ⟨(e i).1.toArray⟩) ∧ w.cell? ⟨g, o + i * 3 + 1, none⟩ = some (.bool (e i).2.1) ∧ w.cell? ⟨g, o + i * 3 + 2, none⟩ = some (.bool (e i).2.2))
    (hf : ∀ i, i < n → ∀ W, Below w.heap.size w W → Calls Tryz.prog 83 #[.agg #[.string ⟨(e i).1.toArray⟩, .bool (e i).2.1, .bool (e i).2.2], .pointer (some ⟨cb, 0, none⟩)] W fun e W' => e = .returned (.bool (p i)) ∧ Below W.heap.size W W') :
    Calls Tryz.prog 57 #[.slice a n c, .func (.func 83) #[] #[.pointer (some ⟨cb, 0, none⟩)]] w fun e w' => e = .returned (.int .i64 (firstI p 0 n)) ∧ Below w.heap.size w w' := by
  rcases hr with rfl | ⟨g, o, rfl, hc⟩
  · clear hf
    go_enter Tryz.func57, Tryz.ntmps57
    go_wp2_with fail
    go_loop [8] (fun i => i = .int .i64 0) (fun _ => 0)
    case atStart => exact rfl
    case round =>
      obtain rfl := hrel
      go_wp2_with fail
      go_ret
      exact ⟨rfl, Below.refl _ _⟩
  · obtain ⟨F, hF⟩ : ∃ F, F = firstI p 0 n := ⟨_, rfl⟩
    rw [← hF]
    have HF := Lib.hid hF; have HC := Lib.hid hc; have HFn := Lib.hid hf
    clear hF hc hf
    go_enter Tryz.func57, Tryz.ntmps57
    go_wp2_with fail
    go_loopw [8] (fun i wr => ∃ i' : Nat, i = .int .i64 i' ∧ i' ≤ n ∧ Hid (F = firstI p i' (n - i')) ∧ Hid (Below w.heap.size w wr)) (fun i _ => n - (intOf i).toNat)
    case atStart => exact ⟨0, rfl, Nat.zero_le _, HF, Lib.hid (Below.refl _ _)⟩
    case round =>
      clear HF
      obtain ⟨i, rfl, hi, HF, HBr⟩ := hrel
      by_cases hlt : i < n
      · obtain ⟨y0, y1, y2⟩ := HC.out i hlt
        have z0 := (HBr.out.cell (p := ⟨g, o + i * 3, none⟩) (cellLt y0)).trans y0
        have z1 := (HBr.out.cell (p := ⟨g, o + i * 3 + 1, none⟩) (cellLt y1)).trans y1
        have z2 := (HBr.out.cell (p := ⟨g, o + i * 3 + 2, none⟩) (cellLt y2)).trans y2
        have hcl := HFn.out i hlt wr HBr.out
        have hF2 : F = if p i = true then (i : Int) else firstI p (i + 1) (n - (i + 1)) := by
          have := HF.out
          rw [show n - i = n - (i + 1) + 1 by omega] at this
          exact this
        have HF2 := Lib.hid hF2
        have HCL := Lib.hid hcl
        clear y0 y1 y2 hF2 hcl HF
        go_wp2_with fail
        refine HCL.out.mono ?_
        rintro e w1 ⟨rfl, hb⟩
        have HB1 := Lib.hid (HBr.out.trans (hb.mono HBr.out.size))
        clear hb
        cases hpi : p i with
        | true =>
          have HE := Lib.hid (show F = (i : Int) by rw [HF2.out, hpi]; rfl)
          clear hpi HF2
          go_wp2_with fail
          go_ret
          exact ⟨ret_int HE.out.symm, HB1.out⟩
        | false =>
          have HE := Lib.hid (show F = firstI p (i + 1) (n - (i + 1)) by rw [HF2.out, hpi]; rfl)
          clear hpi HF2
          go_wp2_with fail
          go_roundw
          case rel => exact ⟨i + 1, by go_num, by omega, HE, HB1⟩
          case measure => simp [intOf]; omega
      · have hin : i = n := by omega
        have HE := Lib.hid (show F = -1 by rw [HF.out, hin, Nat.sub_self]; rfl)
        clear HF
        go_wp2_with fail
        go_ret
        exact ⟨ret_int HE.out.symm, HBr.out⟩
theorem contNeedAt (a : Option Addr) (n c : Nat) (e : Nat → List UInt8 × Bool × Bool) (p : Nat → Bool) (cb : Nat) (w : World) (hn : n ≤ 1000000) 
    (hr : n = 0 ∨ ∃ g o, a = some ⟨g, o, none⟩ ∧ ∀ i, i < n → w.cell? ⟨g, o + i * 3, none⟩ = some (.string ⟨(e i).1.toArray⟩) ∧ w.cell? ⟨g, o + i * 3 + 1, none⟩ = some (.bool (e i).2.1) ∧ w.cell? ⟨g, o + i * 3 + 2, none⟩ = some (.bool (e i).2.2))
    (hf : ∀ i, i < n → ∀ W, Below w.heap.size w W → Calls Tryz.prog 83 #[.agg #[.string ⟨(e i).1.toArray⟩, .bool (e i).2.1, .bool (e i).2.2], .pointer (some ⟨cb, 0, none⟩)] W fun e W' => e = .returned (.bool (p i)) ∧ Below W.heap.size W W') :
    Calls Tryz.prog 39 #[.slice a n c, .func (.func 83) #[] #[.pointer (some ⟨cb, 0, none⟩)]] w fun e w' => e = .returned (.bool (anyI p 0 n)) ∧ Below w.heap.size w w' := by
  have HI := Lib.hid (idxNeedAt a n c e p cb w hn hr hf)
  obtain ⟨b, hb⟩ : ∃ b, b = anyI p 0 n := ⟨_, rfl⟩
  rw [← hb]
  rw [← first_any] at hb
  have hbd := first_bd p n 0
  obtain ⟨F, hF⟩ : ∃ F, F = firstI p 0 n := ⟨_, rfl⟩
  rw [← hF] at hb hbd HI
  have HB := Lib.hid hb
  clear hb hF hr hf hbd
  go_enter Tryz.func39, Tryz.ntmps39
  go_wp2_with fail
  refine HI.out.mono ?_
  rintro e w1 ⟨rfl, hb⟩
  have HB1 := Lib.hid hb
  clear hb
  go_wp2_with fail
  go_ret
  exact ⟨ret_bool HB.out.symm, HB1.out⟩
end Go.Proofs.YtnefcilopgcdpaaGreatDoor
