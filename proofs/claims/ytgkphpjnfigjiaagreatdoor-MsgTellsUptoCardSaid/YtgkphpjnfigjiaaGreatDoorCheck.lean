/-
  msg.cases, msg.check, msg.Check: what is wrong with a message.
-/
import Derived.Test.YtgkphpjnfigjiaaGreatDoorFine
import Derived.Test.YtgkphpjnfigjiaaGreatDoorSize
import Derived.Test.YtgkphpjnfigjiaaGreatDoorErr
namespace Go.Proofs.YtgkphpjnfigjiaaGreatDoor
open Go.RowKit Ms

def keysV (seen : List (List UInt8)) : List Value := seen.map fun l => .string ⟨l.toArray⟩
theorem ownsRow_below {w w' : World} {base : Nat} {e : TypeId} {size : Nat} {v : Value} {n : Nat} {xs : List Value} (h : w.ownsRow base e size v n xs) (hb : Below w.heap.size w w') : w'.ownsRow base e size v n xs :=
  h.kept (grown_of_below hb none) (by cases hv : v.ownBlock with | none => exact .inl rfl | some k => exact .inr (by simp))
theorem grown_cell {w w' : World} {row : Option Nat} (h : w.grownBy w' row) {b o : Nat} {v : Value} (hc : w.cell? ⟨b, o, none⟩ = some v) (hne : row ≠ some b) : w'.cell? ⟨b, o, none⟩ = some v := by
  have hlt := cellLt hc
  have := h.block b hlt (fun e => hne e.symm)
  unfold World.cell? at hc ⊢
  simp only at hc ⊢
  rw [this]; exact hc
theorem step_below {B base : Nat} {a w w' : World} {o : Obj} {e : TypeId} {size : Nat} {v : Value} {n : Nat} {xs : List Value} (h : Below B a w) (hB : B ≤ w.heap.size) (hg : (w.alloc o).grownBy w' v.ownBlock) (ho : w.ownsRow base e size v n xs) (hb : B ≤ base) : Below B a w' :=
  (h.alloc hB o).grown hg (by simp; omega) (fun q hq => Nat.le_trans hb (ho.lt q hq).1)
theorem step_size {w w' : World} {o : Obj} {row : Option Nat} (hg : (w.alloc o).grownBy w' row) : w.heap.size + 1 ≤ w'.heap.size := by have := hg.size; simpa using this
/-- slices.Contains on texts that the call gathered -/
theorem contains_own {w : World} {base : Nat} {vs : Value} {seen : List (List UInt8)} (h : w.ownsRow base 9 1 vs seen.length (keysV seen)) (x : ByteArray) (hl : seen.length ≤ 2000000) :
    Calls Tryz.prog 84 #[vs, .string x] w fun e w' => e = .returned (.bool (seen.contains x.data.toList)) ∧ w' = w := by
  rcases h.2 with ⟨rfl, h0⟩ | ⟨g, cap, cur, rfl, hb, hg, hcap, _, _, htake⟩
  · have : seen = [] := List.length_eq_zero_iff.1 h0
    subst this
    exact Tryz.slices_Contains_string_empty none 0 x w
  · refine (Tryz.slices_Contains_string g 0 seen.length cap (seen.map fun l => ⟨l.toArray⟩) x w (by simp) (by omega) ?_).mono ?_
    · intro j hj
      have hj' : j < seen.length := by simpa using hj
      have hc := h.cells (g := g) rfl j (.string ⟨(seen[j]'hj').toArray⟩) (by simp [keysV, hj'])
      have ha : (⟨g, 0, none⟩ : Addr).add j = ⟨g, 0 + j, none⟩ := by rw [Nat.zero_add]; unfold Addr.add; split <;> simp_all
      rw [ha] at hc
      rw [hc]; simp [hj']
    · rintro e w' ⟨rfl, rfl⟩
      refine ⟨?_, rfl⟩
      rw [List.take_of_length_le (by simp), contains_bytes]
theorem flt_case (key : List UInt8) (body nx : T) (mark : Bool) (k : Int) (seen : List (List UInt8)) : flt (.case key body nx) mark false k seen = if keyB k key = false then 3 else if seen.contains key then 5 else if flt body mark false 0 [] ≠ 0 then flt body mark false 0 [] else flt nx mark false k (seen ++ [key]) := rfl
theorem flt_nilC {k : Int} (hk : k ≠ 0) (mark : Bool) (seen : List (List UInt8)) : flt .nil mark false k seen = if seen.contains otherK then 0 else 2 := by simp [flt, hk]
theorem errVal_no {k : Int} (h : k ≠ 0) : errVal k = .iface 37 (.int .i64 k) := by unfold errVal; rw [if_neg h]
theorem errVal_0 : errVal 0 = .nilIface := rfl
theorem infoStr : (Tryz.prog.info? 9).map (fun i => (i.zero, i.size, i.bytes)) = some (some (.string ⟨#[]⟩), 1, 16) := by kernel_rfl

def CheckOut (t : T) (mark : Bool) (w : World) (e : Ending) (w' : World) : Prop := e = .returned (errVal (flt t mark false 0 [])) ∧ Below w.heap.size w w'
def CheckIH (N : Nat) : Prop := ∀ (t : T) (v : Value) (mark : Bool) (w : World), sz t ≤ N → isN t = true → wt t ≤ 2000000 → MW w → SV w v t → Calls Tryz.prog 31 #[v, .bool mark] w (CheckOut t mark w)

set_option maxHeartbeats 1000000 in
set_option maxRecDepth 100000 in
theorem cases_of (N : Nat) (IH : CheckIH N) (k f : Int) (x : ByteArray) (b o n c : Nat) (cs : T) (mark : Bool) (w : World) (hk : k = 4 ∨ k = 5) (hz : sz cs ≤ N) (hc : isN.isC cs = true) (hw : wt cs ≤ 2000000) (hm : MW w) (hr : Rd w cs b o n) :
    Calls Tryz.prog 53 #[.agg #[.int .i64 k, .string x, .int .i64 f, .slice (some ⟨b, o, none⟩) n c], .bool mark] w fun e w' => e = .returned (errVal (flt cs (mark || k == 4) false k [])) ∧ Below w.heap.size w w' := by
  obtain ⟨i0, hi, hz0, hz1, hz2⟩ := info_parts infoStr
  have hk0 : k ≠ 0 := by rcases hk with rfl | rfl <;> decide
  have hnl := Rd.len cs b o n hr
  have hlw := len_wt cs
  have hn2 : n ≤ 2000000 := by omega
  have HB0 := Lib.hid ((Below.refl w.heap.size w).alloc (Nat.le_refl _) (.cells #[.int .i64 k, .string x, .int .i64 f, .slice (some ⟨b, o, none⟩) n c] 35))
  have HM := Lib.hid hm; have HR := Lib.hid hr; have HC := Lib.hid hc; have HZ := Lib.hid hz; have HWt := Lib.hid hw; have IH := Lib.hid IH
  have HK0 := Lib.hid hk0
  clear hm hr hc hz hw hnl hlw hk0
  generalize hmk : (mark || k == 4) = mk
  have HMK := Lib.hid hmk; clear hmk
  cases mark
  all_goals
    go_enter Tryz.func53, Tryz.ntmps53
    go_wp2_with fail
    go_loopw [5, 12] (fun vs i wr => ∃ (i' : Nat) (t' : T) (seen : List (List UInt8)), i' ≤ n ∧ i = .int .i64 i' ∧ seen.length = i' ∧ Hid (wr.ownsRow (w.heap.size + 1) 9 1 vs seen.length (keysV seen)) ∧ Hid (Rd w t' b (o + i' * 2) (n - i') ∧ isN.isC t' = true ∧ sz t' ≤ sz cs ∧ wt t' ≤ wt cs ∧ flt cs mk false k [] = flt t' mk false k seen) ∧ Hid (Below (w.heap.size + 1) (w.alloc (.cells #[.int .i64 k, .string x, .int .i64 f, .slice (some ⟨b, o, none⟩) n c] 35)) wr)) (fun _ i _ => n - (RowKit.intOf i).toNat)
    case atStart => exact ⟨0, cs, [], by omega, rfl, rfl, World.ownsRow_nil _ _ _ _, ⟨by simpa using HR.out, HC.out, Nat.le_refl _, Nat.le_refl _, rfl⟩, Below.refl _ _⟩
    case round =>
      obtain ⟨i, t', seen, hin, rfl, hsl, HO, HT, HB⟩ := hrel
      have hbb : w.heap.size + 1 ≤ wr.heap.size := by have := HB.out.size; simpa using this
      have hcl := fun (j : Nat) => HB.out.cell (p := ⟨w.heap.size, j, none⟩) (by simp)
      have hk0 : wr.cell? ⟨w.heap.size, 0, none⟩ = some (.int .i64 k) := by rw [hcl 0]; simp
      have hk1 : wr.cell? ⟨w.heap.size, 1, none⟩ = some (.string x) := by rw [hcl 1]; simp
      have hk2 : wr.cell? ⟨w.heap.size, 2, none⟩ = some (.int .i64 f) := by rw [hcl 2]; simp
      have hk3 : wr.cell? ⟨w.heap.size, 3, none⟩ = some (.slice (some ⟨b, o, none⟩) n c) := by rw [hcl 3]; simp
      clear hcl
      have HBw : Hid (Below w.heap.size w wr) := HB0.out.trans (HB.out.mono (by simp))
      by_cases hlt : i < n
      · cases t' with
        | nil =>
          have h0 : n - i = 0 := HT.out.1
          omega
        | node _ _ _ _ _ => cases HT.out.2.1
        | case key body nx =>
          obtain ⟨hr3, hn3, hz3, hw3, hfl⟩ := HT.out
          obtain ⟨hnb, hnnx⟩ := isC_case hn3
          obtain ⟨v3, m3, hm3, q0, q1, hv3, hrest3⟩ := hr3
          have kc := keepCells HBw.out
          have c0 := kc _ _ _ q0; have c1 := kc _ _ _ q1
          have hks : (⟨key.toArray⟩ : ByteArray).size ≤ 2000000 := by
            have h1 := HWt.out; have h2 := Lib.size_eq (⟨key.toArray⟩ : ByteArray); simp only [wt] at hw3; simp only at h2; omega
          have hrest3' : Rd w nx b (o + (i + 1) * 2) (n - (i + 1)) := by
            rw [show o + (i + 1) * 2 = o + i * 2 + 2 by omega, show n - (i + 1) = m3 by omega]; exact hrest3
          have hbz : sz body ≤ N := by have := HZ.out; simp only [sz] at hz3; omega
          have hbw : wt body ≤ 2000000 := by have := HWt.out; simp only [wt] at hw3; omega
          have hz4 : sz nx ≤ sz cs := by simp only [sz] at hz3; omega
          have hw4 : wt nx ≤ wt cs := by simp only [wt] at hw3; omega
          have hwtb : wt nx + 2 ≤ wt cs := by simp only [wt] at hw3; omega
          rw [flt_case] at hfl
          have hsv : SV w v3 body := hv3
          have hic := fun W (hB : Below w.heap.size w W) => IH.out body v3 mk W hbz hnb hbw (HM.out.below hB) (SV.below hsv hB)
          have HIC := Lib.hid hic; have HRest := Lib.hid hrest3'; have HFl := Lib.hid hfl; have Hz4 := Lib.hid hz4; have Hw4 := Lib.hid hw4; have Hnx := Lib.hid hnnx
          have hv5 : ∃ a n' c', v3 = .slice a n' c' := by
            rcases hv3 with ⟨⟨_, h⟩, _⟩ | ⟨b', o', n', c', h, _⟩
            · exact ⟨_, _, _, h⟩
            · exact ⟨_, _, _, h⟩
          obtain ⟨a3, n3, c3', rfl⟩ := hv5
          have hky := fun W (hB : Below w.heap.size w W) => key_any k f x (.slice (some ⟨b, o, none⟩) n c) ⟨key.toArray⟩ W hks (HM.out.below hB)
          have HKY := Lib.hid hky
          have hic2 : ∀ W, Below w.heap.size w W → ∀ q : Bool, q = mk → Calls Tryz.prog 31 #[.slice a3 n3 c3', .bool q] W (CheckOut body mk W) := fun W hB q hq => by
            rw [hq]; exact hic W hB
          have HIC2 := Lib.hid hic2
          clear hic2
          clear hky hn3 hz3 hw3 hfl hnb hnnx hv3 hsv hrest3 hrest3' hic kc q0 q1 hbz hbw hz4 hw4 hwtb hm3 HT hks
          have g0 : (wr.alloc (.cells #[.string ⟨key.toArray⟩, .slice a3 n3 c3'] 45)).cell? ⟨w.heap.size, 0, none⟩ = some (.int .i64 k) := by rw [World.cell?_alloc_lt _ _ ⟨w.heap.size, 0, none⟩ (show w.heap.size < wr.heap.size by omega)]; exact hk0
          have g1 : (wr.alloc (.cells #[.string ⟨key.toArray⟩, .slice a3 n3 c3'] 45)).cell? ⟨w.heap.size, 1, none⟩ = some (.string x) := by rw [World.cell?_alloc_lt _ _ ⟨w.heap.size, 1, none⟩ (show w.heap.size < wr.heap.size by omega)]; exact hk1
          have g2 : (wr.alloc (.cells #[.string ⟨key.toArray⟩, .slice a3 n3 c3'] 45)).cell? ⟨w.heap.size, 2, none⟩ = some (.int .i64 f) := by rw [World.cell?_alloc_lt _ _ ⟨w.heap.size, 2, none⟩ (show w.heap.size < wr.heap.size by omega)]; exact hk2
          have g3 : (wr.alloc (.cells #[.string ⟨key.toArray⟩, .slice a3 n3 c3'] 45)).cell? ⟨w.heap.size, 3, none⟩ = some (.slice (some ⟨b, o, none⟩) n c) := by rw [World.cell?_alloc_lt _ _ ⟨w.heap.size, 3, none⟩ (show w.heap.size < wr.heap.size by omega)]; exact hk3
          clear hk0 hk1 hk2 hk3
          go_wp2_with fail
          have HB1 := Lib.hid (HB.out.alloc (by omega) (.cells #[.string ⟨key.toArray⟩, .slice a3 n3 c3'] 45))
          have HBw1 := Lib.hid (HBw.out.alloc HBw.out.size (.cells #[.string ⟨key.toArray⟩, .slice a3 n3 c3'] 45))
          have HO1 := Lib.hid (HO.out.alloc (.cells #[.string ⟨key.toArray⟩, .slice a3 n3 c3'] 45))
          refine (HKY.out _ HBw1.out).mono ?_
          rintro e w2 ⟨rfl, hb2⟩
          have d0 : w2.cell? ⟨wr.heap.size, 0, none⟩ = some (.string ⟨key.toArray⟩) := by rw [hb2.cell (p := ⟨wr.heap.size, 0, none⟩) (by simp)]; simp
          have d1 : w2.cell? ⟨wr.heap.size, 1, none⟩ = some (.slice a3 n3 c3') := by rw [hb2.cell (p := ⟨wr.heap.size, 1, none⟩) (by simp)]; simp
          have hsz2 : wr.heap.size + 1 ≤ w2.heap.size := by have := hb2.size; simpa using this
          have e0 := hb2.cell (p := ⟨w.heap.size, 0, none⟩) (by simp; omega)
          have e0' : w2.cell? ⟨w.heap.size, 0, none⟩ = some (.int .i64 k) := by
            rw [e0]; exact g0
          have HOL := Lib.hid (HO.out.lt)
          have HB2 := Lib.hid (HB1.out.trans (hb2.mono (by have := HB1.out.size; simp at this ⊢; omega)))
          have HBw2 := Lib.hid (HBw1.out.trans (hb2.mono HBw1.out.size))
          have HO2 := Lib.hid (ownsRow_below HO1.out hb2)
          have HD1 := Lib.hid d1; have HD0 := Lib.hid d0; have HE0 := Lib.hid e0'
          clear hb2 HO HO1 HB1 HBw1 e0 d1 e0' g0 g1 g2 g3 c0 c1
          cases hkb : keyB k key with
          | false =>
            have hfin : flt cs mk false k [] = 3 := by rw [HFl.out, if_pos hkb]
            have HF := Lib.hid hfin; clear hfin hkb
            go_wp2_with fail
            go_ret
            exact ⟨by rw [HF.out] <;> rfl, HBw2.out⟩
          | true =>
            have hkb2 : ¬ keyB k key = false := by rw [hkb]; decide
            have HKb := Lib.hid hkb2
            clear hkb hkb2
            go_wp2_with fail
            refine (contains_own HO2.out ⟨key.toArray⟩ (by omega)).mono ?_
            rintro e w2' ⟨rfl, rfl⟩
            cases hin2 : seen.contains key with
            | true =>
              have hfin : flt cs mk false k [] = 5 := by rw [HFl.out, if_neg HKb.out, if_pos hin2]
              have HF := Lib.hid hfin; clear hfin
              clear hin2
              go_wp2_with fail
              go_ret
              exact ⟨by rw [HF.out] <;> rfl, HBw2.out⟩
            | false =>
              have hfl2 : flt cs mk false k [] = if flt body mk false 0 [] ≠ 0 then flt body mk false 0 [] else flt nx mk false k (seen ++ [key]) := by
                rw [HFl.out, if_neg HKb.out, if_neg (by rw [hin2]; decide)]
              have HF2 := Lib.hid hfl2; clear hfl2
              clear hin2 HFl
              have hs2 : seen.length ≤ 2000000 := by omega
              go_wp2_with (at_builtin; refine wpList_append_own _ rfl _ _ 93 rfl (w.heap.size + 1) 9 i0 (.string ⟨#[]⟩) 1 16 Tryz.underlying93 hi hz0 hz1 hz2 rfl (by decide) _ _ _ rfl (HO2.out.alloc _) ⟨w2'.heap.size, 0, none⟩ 1 1 [.string ⟨key.toArray⟩] rfl rfl (cell_one_new _ _ _) (fun x hx => by simp at hx; subst hx; rfl) (by unfold maxLen; omega) (by omega) (by simp; omega) ?_; intro v' w3 hown3 hgrow3 _; have hc1 := grown_cell hgrow3 (b := wr.heap.size) (o := 1) (v := .slice a3 n3 c3') (by rw [World.cell?_alloc_lt _ _ ⟨wr.heap.size, 1, none⟩ (show wr.heap.size < w2'.heap.size by omega)]; exact HD1.out) (fun hh => by have := (HOL.out _ hh).2; omega); have hc0 := grown_cell hgrow3 (b := w.heap.size) (o := 0) (v := .int .i64 k) (by rw [World.cell?_alloc_lt _ _ ⟨w.heap.size, 0, none⟩ (show w.heap.size < w2'.heap.size by omega)]; exact HE0.out) (fun hh => by have := (HOL.out _ hh).1; omega); have HG3 := Lib.hid hgrow3; have HO3 := Lib.hid hown3; clear hgrow3 hown3)
              all_goals
                have hs3 : w2'.heap.size + 1 ≤ w3.heap.size := step_size HG3.out
                have HB3 := Lib.hid (step_below HB2.out (by omega) HG3.out HO2.out (Nat.le_refl _))
                have HBw3 := Lib.hid (step_below HBw2.out (by omega) HG3.out HO2.out (by omega))
                have hq := HIC2.out w3 HBw3.out
                refine (hq _ HMK.out).mono ?_
                rintro e w4 ⟨rfl, hb4⟩
                have HO4 := Lib.hid (ownsRow_below HO3.out hb4)
                have HB4 := Lib.hid (HB3.out.trans (hb4.mono (by omega)))
                have HBw4 := Lib.hid (HBw3.out.trans (hb4.mono (by omega)))
                clear hb4 hc0 hc1 d0
                by_cases he0 : flt body mk false 0 [] = 0
                · have hf3 : flt cs mk false k [] = flt nx mk false k (seen ++ [key]) := by rw [HF2.out, if_neg (by rw [he0]; decide)]
                  have HF3 := Lib.hid hf3
                  rw [he0, errVal_0]
                  clear hf3 he0
                  go_wp2_with fail
                  go_roundw
                  case rel =>
                    refine ⟨i + 1, nx, seen ++ [key], by omega, by go_num, by simp; omega, ?_, ⟨HRest.out, Hnx.out, Hz4.out, Hw4.out, HF3.out⟩, HB4⟩
                    have h := HO4.out
                    have e1 : (seen ++ [key]).length = seen.length + 1 := by simp
                    have e2 : keysV (seen ++ [key]) = keysV seen ++ [.string ⟨key.toArray⟩] := by simp [keysV]
                    rw [e1, e2]; exact h
                  case measure => simp [RowKit.intOf]; omega
                · have hf3 : flt cs mk false k [] = flt body mk false 0 [] := by rw [HF2.out, if_pos he0]
                  have HF3 := Lib.hid hf3
                  generalize flt body mk false 0 [] = e0 at *
                  rw [errVal_no he0]
                  have HE := Lib.hid (errVal_no he0)
                  clear hf3 he0 HF2
                  go_wp2_with fail
                  go_ret
                  exact ⟨by rw [HF3.out, HE.out] <;> rfl, HBw4.out⟩
      · have hie : i = n := by omega
        have ht0 : t' = .nil := by
          have h1 := HT.out.1
          rw [hie, Nat.sub_self] at h1
          cases t' with
          | nil => rfl
          | node _ _ _ _ _ => obtain ⟨_, _, h, _⟩ := h1; cases h
          | case _ _ _ => obtain ⟨_, _, h, _⟩ := h1; cases h
        subst ht0
        have hfl := HT.out.2.2.2.2
        rw [flt_nilC HK0.out] at hfl
        have HF := Lib.hid hfl
        clear hfl hk0 hk1 hk2 hk3
        go_wp2_with fail
        refine (contains_own HO.out ⟨otherK.toArray⟩ (by omega)).mono ?_
        rintro e w2' ⟨rfl, rfl⟩
        cases hin2 : seen.contains otherK with
        | true =>
          have hfin : flt cs mk false k [] = 0 := by rw [HF.out, if_pos hin2]
          have HF3 := Lib.hid hfin; clear hfin
          clear hin2
          go_wp2_with fail
          go_ret
          exact ⟨by rw [HF3.out] <;> rfl, HBw.out⟩
        | false =>
          have hfin : flt cs mk false k [] = 2 := by rw [HF.out, if_neg (by rw [hin2]; decide)]
          have HF3 := Lib.hid hfin; clear hfin
          clear hin2
          go_wp2_with fail
          go_ret
          exact ⟨by rw [HF3.out] <;> rfl, HBw.out⟩
end Go.Proofs.YtgkphpjnfigjiaaGreatDoor
