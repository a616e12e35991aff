/-
  rule.joined at its three element types: the texts of all elements, joined.
-/
import Derived.Test.YtnefcilopgcdpaaGreatDoorParsC
import Derived.Test.YtnefcilopgcdpaaGreatDoorShelf
import Derived.Test.YtnefcilopgcdpaaGreatDoorChk
import Derived.Test.YtnefcilopgcdpaaGreatDoorPut
namespace Go.Proofs.YtnefcilopgcdpaaGreatDoor
open Go.RowKit

/-- strings.Join at a row of the call's own -/
theorem join_own {W : World} {b : Nat} {v : Value} {xs : List (List UInt8)} (sep : ByteArray) (h : W.ownsRow b 9 1 v xs.length (keysV xs)) (hl : (Lib.join xs sep.data.toList).length ≤ 140737488355328) (hN : xs.length ≤ 140737488355328) :
    Calls Tryz.prog 149 #[v, .string sep] W fun e w' => e = .returned (.string ⟨(Lib.join xs sep.data.toList).toArray⟩) ∧ Below W.heap.size W w' := by
  rcases h.2 with ⟨rfl, h0⟩ | ⟨g, cap, cur, rfl, hb, hg, hc, _⟩
  · have : xs = [] := List.eq_nil_of_length_eq_zero h0
    subst this
    refine (Tryz.strings_Join_none none 0 sep W).mono ?_
    rintro e w' ⟨rfl, rfl⟩
    exact ⟨rfl, Below.refl _ _⟩
  · have hjm : (xs.map fun l => (⟨l.toArray⟩ : ByteArray)).map (·.data.toList) = xs := by simp [List.map_map, Function.comp_def]
    have hcell : ∀ (j : Nat) x, (xs.map fun l => (⟨l.toArray⟩ : ByteArray))[j]? = some x → W.cell? ⟨g, 0 + j, none⟩ = some (.string x) := by
      intro j x hx
      have h1 := h.cells (g := g) rfl j (.string x) (by
        unfold keysV
        rw [List.getElem?_map] at hx ⊢
        cases hq : xs[j]? with
        | none => rw [hq] at hx; cases hx
        | some l => rw [hq] at hx; simp only [Option.map_some, Option.some.injEq] at hx ⊢; rw [hx])
      have ha : (⟨g, 0, none⟩ : Addr).add j = ⟨g, 0 + j, none⟩ := by rw [Nat.zero_add]; unfold Addr.add; split <;> simp_all
      rwa [ha] at h1
    have hj := Tryz.strings_Join g 0 cap (xs.map fun l => (⟨l.toArray⟩ : ByteArray)) sep W hcell (Array.getElem?_eq_some_iff.1 hg).1 (by simpa using hN) (by simpa using hc) (by rw [hjm]; exact hl)
    rw [hjm, List.length_map] at hj
    exact hj
theorem keysV_take (xs : List (List UInt8)) (i : Nat) (hi : i < xs.length) : keysV (xs.take (i + 1)) = keysV (xs.take i) ++ [.string ⟨(xs.getD i []).toArray⟩] := by
  unfold keysV
  rw [List.take_add_one, List.map_append, List.getD_eq_getElem?_getD, List.getElem?_eq_getElem hi]
  rfl

set_option maxRecDepth 100000 in
set_option maxHeartbeats 4000000 in
theorem joinedRng (a : Option Addr) (c : Nat) (e : Nat → Int × Int) (ts : List (List UInt8)) (sep : ByteArray) (w : World) (hn : ts.length ≤ 1000) (hjl : (Lib.join ts sep.data.toList).length ≤ 140737488355328)
    (hr : ts.length = 0 ∨ ∃ g o, a = some ⟨g, o, none⟩ ∧ ∀ i, i < ts.length → w.cell? ⟨g, o + i * 2, none⟩ = some (.int .i64 (e i).1) ∧ w.cell? ⟨g, o + i * 2 + 1, none⟩ = some (.int .i64 (e i).2))
    (hf : ∀ i, i < ts.length → ∀ W, Below w.heap.size w W → Calls Tryz.prog 178 #[.agg #[.int .i64 (e i).1, .int .i64 (e i).2]] W fun e W' => e = .returned (.string ⟨(ts.getD i []).toArray⟩) ∧ Below W.heap.size W W') :
    Calls Tryz.prog 177 #[.slice a ts.length c, .string sep, .func (.func 178) #[] #[]] w fun e w' => e = .returned (.string ⟨(Lib.join ts sep.data.toList).toArray⟩) ∧ Below w.heap.size w w' := by
  obtain ⟨J, hJ⟩ : ∃ J, J = Lib.join ts sep.data.toList := ⟨_, rfl⟩
  have hjo : ∀ (W : World) (v : Value), W.ownsRow w.heap.size 9 1 v ts.length (keysV ts) → Calls Tryz.prog 149 #[v, .string sep] W fun e w' => e = .returned (.string ⟨J.toArray⟩) ∧ Below W.heap.size W w' := fun W v h => by rw [hJ]; exact join_own sep h hjl (by omega)
  rw [← hJ]
  have HJ := Lib.hid hjo
  clear hJ hjo hjl
  rcases hr with h0 | ⟨g, o, rfl, hc⟩
  · have : ts = [] := List.eq_nil_of_length_eq_zero h0
    subst this
    clear hf
    simp only [List.length_nil] at HJ ⊢
    go_enter Tryz.func177, Tryz.ntmps177
    go_wp2_with fail
    go_loop [7, 12] (fun v i => v = .slice none 0 0 ∧ i = .int .i64 0) (fun _ _ => 0)
    case atStart => exact ⟨rfl, rfl⟩
    case round =>
      obtain ⟨rfl, rfl⟩ := hrel
      go_wp2_with fail
      refine (HJ.out _ _ (World.ownsRow_nil _ _ _ _)).mono ?_
      rintro e w1 ⟨rfl, hb⟩
      have HB := Lib.hid hb; clear hb
      go_wp2_with fail
      go_ret
      exact ⟨rfl, HB.out⟩
  · obtain ⟨i0, hi0, hz0, hz1, hz2⟩ := info_parts infoStr
    obtain ⟨n, hne⟩ : ∃ n, ts.length = n := ⟨_, rfl⟩
    rw [hne] at hn hc hf ⊢
    have HC := Lib.hid hc; have HFn := Lib.hid hf; have HN := Lib.hid hne
    clear hc hf hne
    go_enter Tryz.func177, Tryz.ntmps177
    go_wp2_with fail
    go_loopw [7, 12] (fun v i wr => ∃ i' : Nat, i = .int .i64 i' ∧ i' ≤ n ∧ Hid (wr.ownsRow w.heap.size 9 1 v i' (keysV (ts.take i'))) ∧ Hid (Below w.heap.size w wr)) (fun _ i _ => n - (intOf i).toNat)
    case atStart => exact ⟨0, rfl, Nat.zero_le _, Lib.hid (World.ownsRow_nil _ _ _ _), Lib.hid (Below.refl _ _)⟩
    case round =>
      obtain ⟨i, rfl, hi, HO, HBr⟩ := hrel
      have hBs := HBr.out.size
      by_cases hlt : i < n
      · obtain ⟨y0, y1⟩ := HC.out i hlt
        have z0 := (HBr.out.cell (p := ⟨g, o + i * 2, none⟩) (cellLt y0)).trans y0
        have z1 := (HBr.out.cell (p := ⟨g, o + i * 2 + 1, none⟩) (cellLt y1)).trans y1
        have hcl := HFn.out i hlt
        clear y0 y1
        have HCL := Lib.hid (hcl (wr.alloc (Obj.cells #[.int .i64 (e i).1, .int .i64 (e i).2] 237)) ((HBr.out.alloc HBr.out.size _)))
        have HO1 := Lib.hid ((HO.out.alloc (Obj.cells #[.int .i64 (e i).1, .int .i64 (e i).2] 237)))
        have HB1 := Lib.hid (show Below w.heap.size w (wr.alloc (Obj.cells #[.int .i64 (e i).1, .int .i64 (e i).2] 237)) from ((HBr.out.alloc HBr.out.size _)))
        have hsW : w.heap.size ≤ (wr.alloc (Obj.cells #[.int .i64 (e i).1, .int .i64 (e i).2] 237)).heap.size := HB1.out.size
        obtain ⟨T, hT⟩ : ∃ T, T = ts.getD i [] := ⟨_, rfl⟩
        rw [← hT] at HCL
        have HT := Lib.hid hT
        clear hcl hT
        go_wp2_with fail
        refine HCL.out.mono ?_
        rintro e w1 ⟨rfl, hb⟩
        have HO2 := Lib.hid (owns_below HO1.out hb)
        have HB2 := Lib.hid (HB1.out.trans (hb.mono HB1.out.size))
        have hs2 : w.heap.size ≤ w1.heap.size := HB2.out.size
        clear hb z0 z1 hsW
        go_wp2_with (at_builtin; refine wpList_append_own _ rfl _ _ 116 rfl w.heap.size 9 i0 (.string ⟨#[]⟩) 1 16 Tryz.underlying116 hi0 hz0 hz1 hz2 rfl (by decide) _ _ _ rfl (HO2.out.alloc _) ⟨w1.heap.size, 0, none⟩ 1 1 [.string ⟨T.toArray⟩] rfl rfl (cell_one_new _ _ _) (fun x hx => by simp at hx; subst hx; rfl) (by unfold maxLen; omega) (by omega) (by simp; omega) ?_; intro v' w3 hown3 hgrow3 _; have HG3 := Lib.hid hgrow3; have HO3 := Lib.hid hown3; clear hgrow3 hown3)
        go_roundw
        case rel =>
          refine ⟨i + 1, by go_num, by omega, Lib.hid ?_, Lib.hid (step_below HB2.out hs2 HG3.out HO2.out (Nat.le_refl _))⟩
          rw [keysV_take ts i (by rw [HN.out]; exact hlt), ← HT.out]
          exact HO3.out
        case measure => simp [intOf]; omega
      · have hin : i = n := by omega
        subst hin
        have hO := HO.out
        rw [← HN.out, List.take_length] at hO
        have HJo := Lib.hid (HJ.out wr _ hO)
        clear hO
        go_wp2_with fail
        refine HJo.out.mono ?_
        rintro e w1 ⟨rfl, hb⟩
        have HB1 := Lib.hid (HBr.out.trans (hb.mono hBs))
        clear hb
        go_wp2_with fail
        go_ret
        exact ⟨rfl, HB1.out⟩

set_option maxRecDepth 100000 in
set_option maxHeartbeats 4000000 in
theorem joinedRel (a : Option Addr) (c : Nat) (e : Nat → Re) (u : Nat → Value) (ts : List (List UInt8)) (sep : ByteArray) (w : World) (hn : ts.length ≤ 1000) (hu : ∀ i, i < ts.length → ∃ a m c, u i = .slice a m c) (hjl : (Lib.join ts sep.data.toList).length ≤ 140737488355328)
    (hr : ts.length = 0 ∨ ∃ g o, a = some ⟨g, o, none⟩ ∧ ∀ i, i < ts.length → w.cell? ⟨g, o + i * 4, none⟩ = some (.int .u8 (e i).op) ∧ w.cell? ⟨g, o + i * 4 + 1, none⟩ = some (.int .i64 (e i).md) ∧ w.cell? ⟨g, o + i * 4 + 2, none⟩ = some (.bool (e i).no) ∧ w.cell? ⟨g, o + i * 4 + 3, none⟩ = some (u i))
    (hf : ∀ i, i < ts.length → ∀ W, Below w.heap.size w W → Calls Tryz.prog 155 #[.agg #[.int .u8 (e i).op, .int .i64 (e i).md, .bool (e i).no, u i]] W fun e W' => e = .returned (.string ⟨(ts.getD i []).toArray⟩) ∧ Below W.heap.size W W') :
    Calls Tryz.prog 154 #[.slice a ts.length c, .string sep, .func (.func 155) #[] #[]] w fun e w' => e = .returned (.string ⟨(Lib.join ts sep.data.toList).toArray⟩) ∧ Below w.heap.size w w' := by
  obtain ⟨J, hJ⟩ : ∃ J, J = Lib.join ts sep.data.toList := ⟨_, rfl⟩
  have hjo : ∀ (W : World) (v : Value), W.ownsRow w.heap.size 9 1 v ts.length (keysV ts) → Calls Tryz.prog 149 #[v, .string sep] W fun e w' => e = .returned (.string ⟨J.toArray⟩) ∧ Below W.heap.size W w' := fun W v h => by rw [hJ]; exact join_own sep h hjl (by omega)
  rw [← hJ]
  have HJ := Lib.hid hjo
  clear hJ hjo hjl
  rcases hr with h0 | ⟨g, o, rfl, hc⟩
  · have : ts = [] := List.eq_nil_of_length_eq_zero h0
    subst this
    clear hf hu
    simp only [List.length_nil] at HJ ⊢
    go_enter Tryz.func154, Tryz.ntmps154
    go_wp2_with fail
    go_loop [7, 12] (fun v i => v = .slice none 0 0 ∧ i = .int .i64 0) (fun _ _ => 0)
    case atStart => exact ⟨rfl, rfl⟩
    case round =>
      obtain ⟨rfl, rfl⟩ := hrel
      go_wp2_with fail
      refine (HJ.out _ _ (World.ownsRow_nil _ _ _ _)).mono ?_
      rintro e w1 ⟨rfl, hb⟩
      have HB := Lib.hid hb; clear hb
      go_wp2_with fail
      go_ret
      exact ⟨rfl, HB.out⟩
  · obtain ⟨i0, hi0, hz0, hz1, hz2⟩ := info_parts infoStr
    obtain ⟨n, hne⟩ : ∃ n, ts.length = n := ⟨_, rfl⟩
    rw [hne] at hn hc hf hu ⊢
    have HC := Lib.hid hc; have HFn := Lib.hid hf; have HN := Lib.hid hne
    clear hc hf hne
    go_enter Tryz.func154, Tryz.ntmps154
    go_wp2_with fail
    go_loopw [7, 12] (fun v i wr => ∃ i' : Nat, i = .int .i64 i' ∧ i' ≤ n ∧ Hid (wr.ownsRow w.heap.size 9 1 v i' (keysV (ts.take i'))) ∧ Hid (Below w.heap.size w wr)) (fun _ i _ => n - (intOf i).toNat)
    case atStart => exact ⟨0, rfl, Nat.zero_le _, Lib.hid (World.ownsRow_nil _ _ _ _), Lib.hid (Below.refl _ _)⟩
    case round =>
      obtain ⟨i, rfl, hi, HO, HBr⟩ := hrel
      have hBs := HBr.out.size
      by_cases hlt : i < n
      · obtain ⟨y0, y1, y2, y3⟩ := HC.out i hlt
        have z0 := (HBr.out.cell (p := ⟨g, o + i * 4, none⟩) (cellLt y0)).trans y0
        have z1 := (HBr.out.cell (p := ⟨g, o + i * 4 + 1, none⟩) (cellLt y1)).trans y1
        have z2 := (HBr.out.cell (p := ⟨g, o + i * 4 + 2, none⟩) (cellLt y2)).trans y2
        have z3 := (HBr.out.cell (p := ⟨g, o + i * 4 + 3, none⟩) (cellLt y3)).trans y3
        have hcl := HFn.out i hlt
        clear y0 y1 y2 y3
        obtain ⟨ua, um, uc, hue⟩ := hu i hlt
        rw [hue] at z3
        rw [hue] at hcl
        clear hue
        have HCL := Lib.hid (hcl (wr.alloc (Obj.cells #[.int .u8 (e i).op, .int .i64 (e i).md, .bool (e i).no, .slice ua um uc] 203)) ((HBr.out.alloc HBr.out.size _)))
        have HO1 := Lib.hid ((HO.out.alloc (Obj.cells #[.int .u8 (e i).op, .int .i64 (e i).md, .bool (e i).no, .slice ua um uc] 203)))
        have HB1 := Lib.hid (show Below w.heap.size w (wr.alloc (Obj.cells #[.int .u8 (e i).op, .int .i64 (e i).md, .bool (e i).no, .slice ua um uc] 203)) from ((HBr.out.alloc HBr.out.size _)))
        have hsW : w.heap.size ≤ (wr.alloc (Obj.cells #[.int .u8 (e i).op, .int .i64 (e i).md, .bool (e i).no, .slice ua um uc] 203)).heap.size := HB1.out.size
        obtain ⟨T, hT⟩ : ∃ T, T = ts.getD i [] := ⟨_, rfl⟩
        rw [← hT] at HCL
        have HT := Lib.hid hT
        clear hcl hT
        go_wp2_with fail
        refine HCL.out.mono ?_
        rintro e w1 ⟨rfl, hb⟩
        have HO2 := Lib.hid (owns_below HO1.out hb)
        have HB2 := Lib.hid (HB1.out.trans (hb.mono HB1.out.size))
        have hs2 : w.heap.size ≤ w1.heap.size := HB2.out.size
        clear hb z0 z1 z2 z3 hsW
        go_wp2_with (at_builtin; refine wpList_append_own _ rfl _ _ 116 rfl w.heap.size 9 i0 (.string ⟨#[]⟩) 1 16 Tryz.underlying116 hi0 hz0 hz1 hz2 rfl (by decide) _ _ _ rfl (HO2.out.alloc _) ⟨w1.heap.size, 0, none⟩ 1 1 [.string ⟨T.toArray⟩] rfl rfl (cell_one_new _ _ _) (fun x hx => by simp at hx; subst hx; rfl) (by unfold maxLen; omega) (by omega) (by simp; omega) ?_; intro v' w3 hown3 hgrow3 _; have HG3 := Lib.hid hgrow3; have HO3 := Lib.hid hown3; clear hgrow3 hown3)
        go_roundw
        case rel =>
          refine ⟨i + 1, by go_num, by omega, Lib.hid ?_, Lib.hid (step_below HB2.out hs2 HG3.out HO2.out (Nat.le_refl _))⟩
          rw [keysV_take ts i (by rw [HN.out]; exact hlt), ← HT.out]
          exact HO3.out
        case measure => simp [intOf]; omega
      · have hin : i = n := by omega
        subst hin
        have hO := HO.out
        rw [← HN.out, List.take_length] at hO
        have HJo := Lib.hid (HJ.out wr _ hO)
        clear hO
        go_wp2_with fail
        refine HJo.out.mono ?_
        rintro e w1 ⟨rfl, hb⟩
        have HB1 := Lib.hid (HBr.out.trans (hb.mono hBs))
        clear hb
        go_wp2_with fail
        go_ret
        exact ⟨rfl, HB1.out⟩

set_option maxRecDepth 100000 in
set_option maxHeartbeats 4000000 in
theorem joinedPart (a : Option Addr) (c : Nat) (u : Nat → Value) (ts : List (List UInt8)) (sep : ByteArray) (w : World) (hn : ts.length ≤ 1000) (hu : ∀ i, i < ts.length → ∃ a m c, u i = .slice a m c) (hjl : (Lib.join ts sep.data.toList).length ≤ 140737488355328)
    (hr : ts.length = 0 ∨ ∃ g o, a = some ⟨g, o, none⟩ ∧ ∀ i, i < ts.length → w.cell? ⟨g, o + i, none⟩ = some (u i))
    (hf : ∀ i, i < ts.length → ∀ W, Below w.heap.size w W → Calls Tryz.prog 153 #[u i] W fun e W' => e = .returned (.string ⟨(ts.getD i []).toArray⟩) ∧ Below W.heap.size W W') :
    Calls Tryz.prog 152 #[.slice a ts.length c, .string sep, .func (.func 153) #[] #[]] w fun e w' => e = .returned (.string ⟨(Lib.join ts sep.data.toList).toArray⟩) ∧ Below w.heap.size w w' := by
  obtain ⟨J, hJ⟩ : ∃ J, J = Lib.join ts sep.data.toList := ⟨_, rfl⟩
  have hjo : ∀ (W : World) (v : Value), W.ownsRow w.heap.size 9 1 v ts.length (keysV ts) → Calls Tryz.prog 149 #[v, .string sep] W fun e w' => e = .returned (.string ⟨J.toArray⟩) ∧ Below W.heap.size W w' := fun W v h => by rw [hJ]; exact join_own sep h hjl (by omega)
  rw [← hJ]
  have HJ := Lib.hid hjo
  clear hJ hjo hjl
  rcases hr with h0 | ⟨g, o, rfl, hc⟩
  · have : ts = [] := List.eq_nil_of_length_eq_zero h0
    subst this
    clear hf hu
    simp only [List.length_nil] at HJ ⊢
    go_enter Tryz.func152, Tryz.ntmps152
    go_wp2_with fail
    go_loop [7, 12] (fun v i => v = .slice none 0 0 ∧ i = .int .i64 0) (fun _ _ => 0)
    case atStart => exact ⟨rfl, rfl⟩
    case round =>
      obtain ⟨rfl, rfl⟩ := hrel
      go_wp2_with fail
      refine (HJ.out _ _ (World.ownsRow_nil _ _ _ _)).mono ?_
      rintro e w1 ⟨rfl, hb⟩
      have HB := Lib.hid hb; clear hb
      go_wp2_with fail
      go_ret
      exact ⟨rfl, HB.out⟩
  · obtain ⟨i0, hi0, hz0, hz1, hz2⟩ := info_parts infoStr
    obtain ⟨n, hne⟩ : ∃ n, ts.length = n := ⟨_, rfl⟩
    rw [hne] at hn hc hf hu ⊢
    have HC := Lib.hid hc; have HFn := Lib.hid hf; have HN := Lib.hid hne
    clear hc hf hne
    go_enter Tryz.func152, Tryz.ntmps152
    go_wp2_with fail
    go_loopw [7, 12] (fun v i wr => ∃ i' : Nat, i = .int .i64 i' ∧ i' ≤ n ∧ Hid (wr.ownsRow w.heap.size 9 1 v i' (keysV (ts.take i'))) ∧ Hid (Below w.heap.size w wr)) (fun _ i _ => n - (intOf i).toNat)
    case atStart => exact ⟨0, rfl, Nat.zero_le _, Lib.hid (World.ownsRow_nil _ _ _ _), Lib.hid (Below.refl _ _)⟩
    case round =>
      obtain ⟨i, rfl, hi, HO, HBr⟩ := hrel
      have hBs := HBr.out.size
      by_cases hlt : i < n
      · have y0 := HC.out i hlt
        have z0 := (HBr.out.cell (p := ⟨g, o + i, none⟩) (cellLt y0)).trans y0
        have hcl := HFn.out i hlt
        clear y0
        obtain ⟨ua, um, uc, hue⟩ := hu i hlt
        rw [hue] at z0
        rw [hue] at hcl
        clear hue
        have HCL := Lib.hid (hcl wr HBr.out)
        have HO1 := Lib.hid (HO.out)
        have HB1 := Lib.hid (show Below w.heap.size w wr from HBr.out)
        have hsW : w.heap.size ≤ wr.heap.size := HB1.out.size
        obtain ⟨T, hT⟩ : ∃ T, T = ts.getD i [] := ⟨_, rfl⟩
        rw [← hT] at HCL
        have HT := Lib.hid hT
        clear hcl hT
        go_wp2_with fail
        refine HCL.out.mono ?_
        rintro e w1 ⟨rfl, hb⟩
        have HO2 := Lib.hid (owns_below HO1.out hb)
        have HB2 := Lib.hid (HB1.out.trans (hb.mono HB1.out.size))
        have hs2 : w.heap.size ≤ w1.heap.size := HB2.out.size
        clear hb z0 hsW
        go_wp2_with (at_builtin; refine wpList_append_own _ rfl _ _ 116 rfl w.heap.size 9 i0 (.string ⟨#[]⟩) 1 16 Tryz.underlying116 hi0 hz0 hz1 hz2 rfl (by decide) _ _ _ rfl (HO2.out.alloc _) ⟨w1.heap.size, 0, none⟩ 1 1 [.string ⟨T.toArray⟩] rfl rfl (cell_one_new _ _ _) (fun x hx => by simp at hx; subst hx; rfl) (by unfold maxLen; omega) (by omega) (by simp; omega) ?_; intro v' w3 hown3 hgrow3 _; have HG3 := Lib.hid hgrow3; have HO3 := Lib.hid hown3; clear hgrow3 hown3)
        go_roundw
        case rel =>
          refine ⟨i + 1, by go_num, by omega, Lib.hid ?_, Lib.hid (step_below HB2.out hs2 HG3.out HO2.out (Nat.le_refl _))⟩
          rw [keysV_take ts i (by rw [HN.out]; exact hlt), ← HT.out]
          exact HO3.out
        case measure => simp [intOf]; omega
      · have hin : i = n := by omega
        subst hin
        have hO := HO.out
        rw [← HN.out, List.take_length] at hO
        have HJo := Lib.hid (HJ.out wr _ hO)
        clear hO
        go_wp2_with fail
        refine HJo.out.mono ?_
        rintro e w1 ⟨rfl, hb⟩
        have HB1 := Lib.hid (HBr.out.trans (hb.mono hBs))
        clear hb
        go_wp2_with fail
        go_ret
        exact ⟨rfl, HB1.out⟩
end Go.Proofs.YtnefcilopgcdpaaGreatDoor
