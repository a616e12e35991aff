/-
  msg.cases, msg.check, msg.Check: what is wrong with a message.
  msg.check, msg.Check: what is wrong with a message.
  msg.Check: what is wrong with a message.
-/
import Derived.Test.YtnefcilopgcdpaaGreatDoorKey
import Derived.Test.YtnefcilopgcdpaaGreatDoorSize
import Derived.Test.YtnefcilopgcdpaaGreatDoorErr
import Derived.Lib.QuietBelow
namespace Go.Proofs.YtnefcilopgcdpaaGreatDoor
open Go.RowKit Ms

def keysV (seen : List (List UInt8)) : List Value := seen.map fun l => .string ⟨l.toArray⟩
theorem ownsRow_below {w w' : World} {base : Nat} {e : TypeId} {size : Nat} {v : Value} {n : Nat} {xs : List Value} (h : w.ownsRow base e size v n xs) (hb : Below w.heap.size w w') : w'.ownsRow base e size v n xs :=
  h.kept (grown_of_below hb none) (by cases hv : v.ownBlock with | none => exact .inl rfl | some k => exact .inr (by simp))
theorem grown_cell {w w' : World} {row : Option Nat} (h : w.grownBy w' row) {b o : Nat} {v : Value} (hc : w.cell? ⟨b, o, none⟩ = some v) (hne : row ≠ some b) : w'.cell? ⟨b, o, none⟩ = some v := by
  have hlt := cellLt hc
  have := h.block b hlt (fun e => hne e.symm)
  unfold World.cell? at hc ⊢
  simp only at hc ⊢
  rw [this]; exact hc
theorem step_below {B base : Nat} {a w w' : World} {o : Obj} {e : TypeId} {size : Nat} {v : Value} {n : Nat} {xs : List Value} (h : Below B a w) (hB : B ≤ w.heap.size) (hg : (w.alloc o).grownBy w' v.ownBlock) (ho : w.ownsRow base e size v n xs) (hb : B ≤ base) : Below B a w' :=
  (h.alloc hB o).grown hg (by simp; omega) (fun q hq => Nat.le_trans hb (ho.lt q hq).1)
theorem step_size {w w' : World} {o : Obj} {row : Option Nat} (hg : (w.alloc o).grownBy w' row) : w.heap.size + 1 ≤ w'.heap.size := by have := hg.size; simpa using this
/-- slices.Contains on texts that the call gathered -/
theorem contains_own {w : World} {base : Nat} {vs : Value} {seen : List (List UInt8)} (h : w.ownsRow base 9 1 vs seen.length (keysV seen)) (x : ByteArray) (hl : seen.length ≤ 2100000) :
    Calls Tryz.prog 55 #[vs, .string x] w fun e w' => e = .returned (.bool (seen.contains x.data.toList)) ∧ w' = w := by
  rcases h.2 with ⟨rfl, h0⟩ | ⟨g, cap, cur, rfl, hb, hg, hcap, _, _, htake⟩
  · have : seen = [] := List.length_eq_zero_iff.1 h0
    subst this
    exact Tryz.slices_Contains_string_empty none 0 x w
  · refine (Tryz.slices_Contains_string g 0 seen.length cap (seen.map fun l => ⟨l.toArray⟩) x w (by simp) (by omega) ?_).mono ?_
    · intro j hj
      have hj' : j < seen.length := by simpa using hj
      have hc := h.cells (g := g) rfl j (.string ⟨(seen[j]'hj').toArray⟩) (by simp [keysV, hj'])
      have ha : (⟨g, 0, none⟩ : Addr).add j = ⟨g, 0 + j, none⟩ := by rw [Nat.zero_add]; unfold Addr.add; split <;> simp_all
      rw [ha] at hc
      rw [hc]; simp [hj']
    · rintro e w' ⟨rfl, rfl⟩
      refine ⟨?_, rfl⟩
      rw [List.take_of_length_le (by simp), contains_bytes]
theorem flt_case (key : List UInt8) (body nx : T) (mark : Bool) (k : Int) (seen : List (List UInt8)) : flt (.case key body nx) mark false k seen = if keyB k key = false then 3 else if seen.contains key then 5 else if flt body mark false 0 [] ≠ 0 then flt body mark false 0 [] else flt nx mark false k (seen ++ [key]) := rfl
theorem flt_nilC {k : Int} (hk : k ≠ 0) (mark : Bool) (seen : List (List UInt8)) : flt .nil mark false k seen = if seen.contains otherK then 0 else 2 := by simp [flt, hk]
theorem errVal_no {k : Int} (h : k ≠ 0) : errVal k = .iface 56 (.int .i64 k) := by unfold errVal; rw [if_neg h]
theorem errVal_0 : errVal 0 = .nilIface := rfl
theorem infoStr : (Tryz.prog.info? 9).map (fun i => (i.zero, i.size, i.bytes)) = some (some (.string ⟨#[]⟩), 1, 16) := by kernel_rfl

def CheckOut (t : T) (mark : Bool) (w : World) (e : Ending) (w' : World) : Prop := e = .returned (errVal (flt t mark false 0 [])) ∧ Below w.heap.size w w'
def CheckIH (N : Nat) : Prop := ∀ (t : T) (v : Value) (mark : Bool) (w : World), sz t ≤ N → isN t = true → wt t ≤ 2100000 → MW w → SV w v t → Calls Tryz.prog 24 #[v, .bool mark] w (CheckOut t mark w)

set_option maxHeartbeats 1000000 in
set_option maxRecDepth 100000 in
theorem cases_of (N : Nat) (IH : CheckIH N) (k f : Int) (x : ByteArray) (b o n c : Nat) (cs : T) (mark : Bool) (w : World) (hk : k = 4 ∨ k = 5) (hz : sz cs ≤ N) (hc : isN.isC cs = true) (hw : wt cs ≤ 2100000) (hm : MW w) (hr : Rd w cs b o n) :
    Calls Tryz.prog 37 #[.agg #[.int .i64 k, .string x, .int .i64 f, .slice (some ⟨b, o, none⟩) n c], .bool mark] w fun e w' => e = .returned (errVal (flt cs (mark || k == 4) false k [])) ∧ Below w.heap.size w w' := by
  obtain ⟨i0, hi, hz0, hz1, hz2⟩ := info_parts infoStr
  have hk0 : k ≠ 0 := by rcases hk with rfl | rfl <;> decide
  have hnl := Rd.len cs b o n hr
  have hlw := len_wt cs
  have hn2 : n ≤ 2100000 := by omega
  have HB0 := Lib.hid ((Below.refl w.heap.size w).alloc (Nat.le_refl _) (.cells #[.int .i64 k, .string x, .int .i64 f, .slice (some ⟨b, o, none⟩) n c] 60))
  have HM := Lib.hid hm; have HR := Lib.hid hr; have HC := Lib.hid hc; have HZ := Lib.hid hz; have HWt := Lib.hid hw; have IH := Lib.hid IH
  have HK0 := Lib.hid hk0
  clear hm hr hc hz hw hnl hlw hk0
  generalize hmk : (mark || k == 4) = mk
  have HMK := Lib.hid hmk; clear hmk
  cases mark
  all_goals
    go_enter Tryz.func37, Tryz.ntmps37
    go_wp2_with fail
    go_loopw [5, 12] (fun vs i wr => ∃ (i' : Nat) (t' : T) (seen : List (List UInt8)), i' ≤ n ∧ i = .int .i64 i' ∧ seen.length = i' ∧ Hid (wr.ownsRow (w.heap.size + 1) 9 1 vs seen.length (keysV seen)) ∧ Hid (Rd w t' b (o + i' * 2) (n - i') ∧ isN.isC t' = true ∧ sz t' ≤ sz cs ∧ wt t' ≤ wt cs ∧ flt cs mk false k [] = flt t' mk false k seen) ∧ Hid (Below (w.heap.size + 1) (w.alloc (.cells #[.int .i64 k, .string x, .int .i64 f, .slice (some ⟨b, o, none⟩) n c] 60)) wr)) (fun _ i _ => n - (RowKit.intOf i).toNat)
    case atStart => exact ⟨0, cs, [], by omega, rfl, rfl, World.ownsRow_nil _ _ _ _, ⟨by simpa using HR.out, HC.out, Nat.le_refl _, Nat.le_refl _, rfl⟩, Below.refl _ _⟩
    case round =>
      obtain ⟨i, t', seen, hin, rfl, hsl, HO, HT, HB⟩ := hrel
      have hbb : w.heap.size + 1 ≤ wr.heap.size := by have := HB.out.size; simpa using this
      have hcl := fun (j : Nat) => HB.out.cell (p := ⟨w.heap.size, j, none⟩) (by simp)
      have hk0 : wr.cell? ⟨w.heap.size, 0, none⟩ = some (.int .i64 k) := by rw [hcl 0]; simp
      have hk1 : wr.cell? ⟨w.heap.size, 1, none⟩ = some (.string x) := by rw [hcl 1]; simp
      have hk2 : wr.cell? ⟨w.heap.size, 2, none⟩ = some (.int .i64 f) := by rw [hcl 2]; simp
      have hk3 : wr.cell? ⟨w.heap.size, 3, none⟩ = some (.slice (some ⟨b, o, none⟩) n c) := by rw [hcl 3]; simp
      clear hcl
      have HBw : Hid (Below w.heap.size w wr) := HB0.out.trans (HB.out.mono (by simp))
      by_cases hlt : i < n
      · cases t' with
        | nil =>
          have h0 : n - i = 0 := HT.out.1
          omega
        | node _ _ _ _ _ => cases HT.out.2.1
        | case key body nx =>
          obtain ⟨hr3, hn3, hz3, hw3, hfl⟩ := HT.out
          obtain ⟨hnb, hnnx⟩ := isC_case hn3
          obtain ⟨v3, m3, hm3, q0, q1, hv3, hrest3⟩ := hr3
          have kc := keepCells HBw.out
          have c0 := kc _ _ _ q0; have c1 := kc _ _ _ q1
          have hks : (⟨key.toArray⟩ : ByteArray).size ≤ 2100000 := by
            have h1 := HWt.out; have h2 := Lib.size_eq (⟨key.toArray⟩ : ByteArray); simp only [wt] at hw3; simp only at h2; omega
          have hrest3' : Rd w nx b (o + (i + 1) * 2) (n - (i + 1)) := by
            rw [show o + (i + 1) * 2 = o + i * 2 + 2 by omega, show n - (i + 1) = m3 by omega]; exact hrest3
          have hbz : sz body ≤ N := by have := HZ.out; simp only [sz] at hz3; omega
          have hbw : wt body ≤ 2100000 := by have := HWt.out; simp only [wt] at hw3; omega
          have hz4 : sz nx ≤ sz cs := by simp only [sz] at hz3; omega
          have hw4 : wt nx ≤ wt cs := by simp only [wt] at hw3; omega
          have hwtb : wt nx + 2 ≤ wt cs := by simp only [wt] at hw3; omega
          rw [flt_case] at hfl
          have hsv : SV w v3 body := hv3
          have hic := fun W (hB : Below w.heap.size w W) => IH.out body v3 mk W hbz hnb hbw (HM.out.below hB) (SV.below hsv hB)
          have HIC := Lib.hid hic; have HRest := Lib.hid hrest3'; have HFl := Lib.hid hfl; have Hz4 := Lib.hid hz4; have Hw4 := Lib.hid hw4; have Hnx := Lib.hid hnnx
          have hv5 : ∃ a n' c', v3 = .slice a n' c' := by
            rcases hv3 with ⟨⟨_, h⟩, _⟩ | ⟨b', o', n', c', h, _⟩
            · exact ⟨_, _, _, h⟩
            · exact ⟨_, _, _, h⟩
          obtain ⟨a3, n3, c3', rfl⟩ := hv5
          have hky := fun W (hB : Below w.heap.size w W) => key_any k f x (.slice (some ⟨b, o, none⟩) n c) ⟨key.toArray⟩ W hks (HM.out.below hB)
          have HKY := Lib.hid hky
          have hic2 : ∀ W, Below w.heap.size w W → ∀ q : Bool, q = mk → Calls Tryz.prog 24 #[.slice a3 n3 c3', .bool q] W (CheckOut body mk W) := fun W hB q hq => by
            rw [hq]; exact hic W hB
          have HIC2 := Lib.hid hic2
          clear hic2
          clear hky hn3 hz3 hw3 hfl hnb hnnx hv3 hsv hrest3 hrest3' hic kc q0 q1 hbz hbw hz4 hw4 hwtb hm3 HT hks
          have g0 : (wr.alloc (.cells #[.string ⟨key.toArray⟩, .slice a3 n3 c3'] 62)).cell? ⟨w.heap.size, 0, none⟩ = some (.int .i64 k) := by rw [World.cell?_alloc_lt _ _ ⟨w.heap.size, 0, none⟩ (show w.heap.size < wr.heap.size by omega)]; exact hk0
          have g1 : (wr.alloc (.cells #[.string ⟨key.toArray⟩, .slice a3 n3 c3'] 62)).cell? ⟨w.heap.size, 1, none⟩ = some (.string x) := by rw [World.cell?_alloc_lt _ _ ⟨w.heap.size, 1, none⟩ (show w.heap.size < wr.heap.size by omega)]; exact hk1
          have g2 : (wr.alloc (.cells #[.string ⟨key.toArray⟩, .slice a3 n3 c3'] 62)).cell? ⟨w.heap.size, 2, none⟩ = some (.int .i64 f) := by rw [World.cell?_alloc_lt _ _ ⟨w.heap.size, 2, none⟩ (show w.heap.size < wr.heap.size by omega)]; exact hk2
          have g3 : (wr.alloc (.cells #[.string ⟨key.toArray⟩, .slice a3 n3 c3'] 62)).cell? ⟨w.heap.size, 3, none⟩ = some (.slice (some ⟨b, o, none⟩) n c) := by rw [World.cell?_alloc_lt _ _ ⟨w.heap.size, 3, none⟩ (show w.heap.size < wr.heap.size by omega)]; exact hk3
          clear hk0 hk1 hk2 hk3
          go_wp2_with fail
          have HB1 := Lib.hid (HB.out.alloc (by omega) (.cells #[.string ⟨key.toArray⟩, .slice a3 n3 c3'] 62))
          have HBw1 := Lib.hid (HBw.out.alloc HBw.out.size (.cells #[.string ⟨key.toArray⟩, .slice a3 n3 c3'] 62))
          have HO1 := Lib.hid (HO.out.alloc (.cells #[.string ⟨key.toArray⟩, .slice a3 n3 c3'] 62))
          refine (HKY.out _ HBw1.out).mono ?_
          rintro e w2 ⟨rfl, hb2⟩
          have d0 : w2.cell? ⟨wr.heap.size, 0, none⟩ = some (.string ⟨key.toArray⟩) := by rw [hb2.cell (p := ⟨wr.heap.size, 0, none⟩) (by simp)]; simp
          have d1 : w2.cell? ⟨wr.heap.size, 1, none⟩ = some (.slice a3 n3 c3') := by rw [hb2.cell (p := ⟨wr.heap.size, 1, none⟩) (by simp)]; simp
          have hsz2 : wr.heap.size + 1 ≤ w2.heap.size := by have := hb2.size; simpa using this
          have e0 := hb2.cell (p := ⟨w.heap.size, 0, none⟩) (by simp; omega)
          have e0' : w2.cell? ⟨w.heap.size, 0, none⟩ = some (.int .i64 k) := by
            rw [e0]; exact g0
          have HOL := Lib.hid (HO.out.lt)
          have HB2 := Lib.hid (HB1.out.trans (hb2.mono (by have := HB1.out.size; simp at this ⊢; omega)))
          have HBw2 := Lib.hid (HBw1.out.trans (hb2.mono HBw1.out.size))
          have HO2 := Lib.hid (ownsRow_below HO1.out hb2)
          have HD1 := Lib.hid d1; have HD0 := Lib.hid d0; have HE0 := Lib.hid e0'
          clear hb2 HO HO1 HB1 HBw1 e0 d1 e0' g0 g1 g2 g3 c0 c1
          cases hkb : keyB k key with
          | false =>
            have hfin : flt cs mk false k [] = 3 := by rw [HFl.out, if_pos hkb]
            have HF := Lib.hid hfin; clear hfin hkb
            go_wp2_with fail
            go_ret
            exact ⟨by rw [HF.out] <;> rfl, HBw2.out⟩
          | true =>
            have hkb2 : ¬ keyB k key = false := by rw [hkb]; decide
            have HKb := Lib.hid hkb2
            clear hkb hkb2
            go_wp2_with fail
            refine (contains_own HO2.out ⟨key.toArray⟩ (by omega)).mono ?_
            rintro e w2' ⟨rfl, rfl⟩
            cases hin2 : seen.contains key with
            | true =>
              have hfin : flt cs mk false k [] = 5 := by rw [HFl.out, if_neg HKb.out, if_pos hin2]
              have HF := Lib.hid hfin; clear hfin
              clear hin2
              go_wp2_with fail
              go_ret
              exact ⟨by rw [HF.out] <;> rfl, HBw2.out⟩
            | false =>
              have hfl2 : flt cs mk false k [] = if flt body mk false 0 [] ≠ 0 then flt body mk false 0 [] else flt nx mk false k (seen ++ [key]) := by
                rw [HFl.out, if_neg HKb.out, if_neg (by rw [hin2]; decide)]
              have HF2 := Lib.hid hfl2; clear hfl2
              clear hin2 HFl
              have hs2 : seen.length ≤ 2100000 := by omega
              go_wp2_with (at_builtin; refine wpList_append_own _ rfl _ _ 116 rfl (w.heap.size + 1) 9 i0 (.string ⟨#[]⟩) 1 16 Tryz.underlying116 hi hz0 hz1 hz2 rfl (by decide) _ _ _ rfl (HO2.out.alloc _) ⟨w2'.heap.size, 0, none⟩ 1 1 [.string ⟨key.toArray⟩] rfl rfl (cell_one_new _ _ _) (fun x hx => by simp at hx; subst hx; rfl) (by unfold maxLen; omega) (by omega) (by simp; omega) ?_; intro v' w3 hown3 hgrow3 _; have hc1 := grown_cell hgrow3 (b := wr.heap.size) (o := 1) (v := .slice a3 n3 c3') (by rw [World.cell?_alloc_lt _ _ ⟨wr.heap.size, 1, none⟩ (show wr.heap.size < w2'.heap.size by omega)]; exact HD1.out) (fun hh => by have := (HOL.out _ hh).2; omega); have hc0 := grown_cell hgrow3 (b := w.heap.size) (o := 0) (v := .int .i64 k) (by rw [World.cell?_alloc_lt _ _ ⟨w.heap.size, 0, none⟩ (show w.heap.size < w2'.heap.size by omega)]; exact HE0.out) (fun hh => by have := (HOL.out _ hh).1; omega); have HG3 := Lib.hid hgrow3; have HO3 := Lib.hid hown3; clear hgrow3 hown3)
              all_goals
                have hs3 : w2'.heap.size + 1 ≤ w3.heap.size := step_size HG3.out
                have HB3 := Lib.hid (step_below HB2.out (by omega) HG3.out HO2.out (Nat.le_refl _))
                have HBw3 := Lib.hid (step_below HBw2.out (by omega) HG3.out HO2.out (by omega))
                have hq := HIC2.out w3 HBw3.out
                refine (hq _ HMK.out).mono ?_
                rintro e w4 ⟨rfl, hb4⟩
                have HO4 := Lib.hid (ownsRow_below HO3.out hb4)
                have HB4 := Lib.hid (HB3.out.trans (hb4.mono (by omega)))
                have HBw4 := Lib.hid (HBw3.out.trans (hb4.mono (by omega)))
                clear hb4 hc0 hc1 d0
                by_cases he0 : flt body mk false 0 [] = 0
                · have hf3 : flt cs mk false k [] = flt nx mk false k (seen ++ [key]) := by rw [HF2.out, if_neg (by rw [he0]; decide)]
                  have HF3 := Lib.hid hf3
                  rw [he0, errVal_0]
                  clear hf3 he0
                  go_wp2_with fail
                  go_roundw
                  case rel =>
                    refine ⟨i + 1, nx, seen ++ [key], by omega, by go_num, by simp; omega, ?_, ⟨HRest.out, Hnx.out, Hz4.out, Hw4.out, HF3.out⟩, HB4⟩
                    have h := HO4.out
                    have e1 : (seen ++ [key]).length = seen.length + 1 := by simp
                    have e2 : keysV (seen ++ [key]) = keysV seen ++ [.string ⟨key.toArray⟩] := by simp [keysV]
                    rw [e1, e2]; exact h
                  case measure => simp [RowKit.intOf]; omega
                · have hf3 : flt cs mk false k [] = flt body mk false 0 [] := by rw [HF2.out, if_pos he0]
                  have HF3 := Lib.hid hf3
                  generalize flt body mk false 0 [] = e0 at *
                  rw [errVal_no he0]
                  have HE := Lib.hid (errVal_no he0)
                  clear hf3 he0 HF2
                  go_wp2_with fail
                  go_ret
                  exact ⟨by rw [HF3.out, HE.out] <;> rfl, HBw4.out⟩
      · have hie : i = n := by omega
        have ht0 : t' = .nil := by
          have h1 := HT.out.1
          rw [hie, Nat.sub_self] at h1
          cases t' with
          | nil => rfl
          | node _ _ _ _ _ => obtain ⟨_, _, h, _⟩ := h1; cases h
          | case _ _ _ => obtain ⟨_, _, h, _⟩ := h1; cases h
        subst ht0
        have hfl := HT.out.2.2.2.2
        rw [flt_nilC HK0.out] at hfl
        have HF := Lib.hid hfl
        clear hfl hk0 hk1 hk2 hk3
        go_wp2_with fail
        refine (contains_own HO.out ⟨otherK.toArray⟩ (by omega)).mono ?_
        rintro e w2' ⟨rfl, rfl⟩
        cases hin2 : seen.contains otherK with
        | true =>
          have hfin : flt cs mk false k [] = 0 := by rw [HF.out, if_pos hin2]
          have HF3 := Lib.hid hfin; clear hfin
          clear hin2
          go_wp2_with fail
          go_ret
          exact ⟨by rw [HF3.out] <;> rfl, HBw.out⟩
        | false =>
          have hfin : flt cs mk false k [] = 2 := by rw [HF.out, if_neg (by rw [hin2]; decide)]
          have HF3 := Lib.hid hfin; clear hfin
          clear hin2
          go_wp2_with fail
          go_ret
          exact ⟨by rw [HF3.out] <;> rfl, HBw.out⟩
end Go.Proofs.YtnefcilopgcdpaaGreatDoor
namespace Go.Proofs.YtnefcilopgcdpaaGreatDoor
open Go.RowKit Go.Sort Ms

theorem flt_node (k f : Int) (x : List UInt8) (cs nx : T) (mark pw : Bool) : flt (.node k x f cs nx) mark pw 0 [] = if fine k x mark pw = false then 3 else if k = 4 ∧ (f < 0 ∨ f > 9) then 1 else if hasC k = true ∧ flt cs (mark || k == 4) false k [] ≠ 0 then flt cs (mark || k == 4) false k [] else flt nx mark (k == 1) 0 [] := rfl

set_option maxHeartbeats 1000000 in
set_option maxRecDepth 100000 in
theorem cases_nil (a : Option Addr) (k f : Int) (x : ByteArray) (mark : Bool) (w : World) (hk : k ≠ 0) :
    Calls Tryz.prog 37 #[.agg #[.int .i64 k, .string x, .int .i64 f, .slice a 0 0], .bool mark] w fun e w' => e = .returned (errVal (flt .nil (mark || k == 4) false k [])) ∧ Below w.heap.size w w' := by
  have hf : flt .nil (mark || k == 4) false k [] = 2 := by rw [flt_nilC hk]; rfl
  have HF := Lib.hid hf; clear hf hk
  have HB0 := Lib.hid ((Below.refl w.heap.size w).alloc (Nat.le_refl _) (.cells #[.int .i64 k, .string x, .int .i64 f, .slice a 0 0] 60))
  go_enter Tryz.func37, Tryz.ntmps37
  go_wp2_with fail
  refine wp_loop_rounds 1 ?_
  rw [rounds_succ]
  go_wp2_with fail
  refine (Tryz.slices_Contains_string_empty none 0 ⟨otherK.toArray⟩ _).mono ?_
  rintro e w2 ⟨rfl, rfl⟩
  go_wp2_with fail
  go_ret
  exact ⟨by rw [HF.out] <;> rfl, HB0.out⟩
theorem casesV (N : Nat) (IH : CheckIH N) (k f : Int) (x : ByteArray) (v : Value) (cs : T) (mark : Bool) (w : World) (hk : k = 4 ∨ k = 5) (hz : sz cs ≤ N) (hc : isN.isC cs = true) (hw : wt cs ≤ 2100000) (hm : MW w) (hr : SV w v cs) :
    Calls Tryz.prog 37 #[.agg #[.int .i64 k, .string x, .int .i64 f, v], .bool mark] w fun e w' => e = .returned (errVal (flt cs (mark || k == 4) false k [])) ∧ Below w.heap.size w w' := by
  rcases hr with ⟨⟨a, rfl⟩, rfl⟩ | ⟨b, o, n, c, rfl, _, hr⟩
  · exact cases_nil a k f x mark w (by rcases hk with rfl | rfl <;> decide)
  · exact cases_of N IH k f x b o n c cs mark w hk hz hc hw hm hr

set_option maxHeartbeats 1000000 in
set_option maxRecDepth 100000 in
theorem check_nil (a : Option Addr) (mark : Bool) (w : World) : Calls Tryz.prog 24 #[.slice a 0 0, .bool mark] w (CheckOut .nil mark w) := by
  go_enter Tryz.func24, Tryz.ntmps24
  go_wp2_with fail
  refine wp_loop_rounds 1 ?_
  rw [rounds_succ]
  go_wp2_with fail
  go_ret
  exact ⟨rfl, Below.refl _ _⟩

set_option maxHeartbeats 2000000 in
set_option maxRecDepth 100000 in
theorem check_any (N : Nat) : CheckIH N := by
  induction N with
  | zero =>
    intro t v mark w hz hn hw hm hs
    have ht : t = .nil := by
      cases t with
      | nil => rfl
      | node _ _ _ _ _ => simp [sz] at hz
      | case _ _ _ => cases hn
    subst ht
    rcases hs with ⟨⟨a, rfl⟩, _⟩ | ⟨b, o, n, c, rfl, hnc, hr⟩
    · exact check_nil a mark w
    · have hn0 : n = 0 := hr
      subst hn0
      go_enter Tryz.func24, Tryz.ntmps24
      go_wp2_with fail
      refine wp_loop_rounds 1 ?_
      rw [rounds_succ]
      go_wp2_with fail
      go_ret
      exact ⟨rfl, Below.refl _ _⟩
  | succ N IH =>
    intro t v mark w hz hn hw hm hs
    rcases hs with ⟨⟨a, rfl⟩, rfl⟩ | ⟨b, o, n, c, rfl, hnc, hr⟩
    · exact check_nil a mark w
    have hnl := Rd.len t b o n hr
    have hlw := len_wt t
    have hn2 : n ≤ 2100000 := by omega
    have HM := Lib.hid hm; have HR := Lib.hid hr; have HN := Lib.hid hn; have HZ := Lib.hid hz; have HWt := Lib.hid hw; have IH := Lib.hid IH
    clear hm hr hn hz hw hnl hlw
    go_enter Tryz.func24, Tryz.ntmps24
    go_wp2_with fail
    go_loopw [10] (fun i wr => ∃ (i' : Nat) (t' : T) (pw : Bool), i' ≤ n ∧ i = .int .i64 i' ∧ Hid (Rd w t' b (o + i' * 4) (n - i') ∧ isN t' = true ∧ sz t' ≤ sz t ∧ wt t' ≤ wt t ∧ flt t mark false 0 [] = flt t' mark pw 0 [] ∧ Pw w b o i' pw) ∧ Hid (Below w.heap.size w wr)) (fun i _ => n - (RowKit.intOf i).toNat)
    case atStart => exact ⟨0, t, false, by omega, rfl, ⟨by simpa using HR.out, HN.out, Nat.le_refl _, Nat.le_refl _, rfl, .inl ⟨rfl, rfl⟩⟩, Below.refl _ _⟩
    case round =>
      obtain ⟨i, t', pw, hin, rfl, HT, HB⟩ := hrel
      by_cases hlt : i < n
      · cases t' with
        | nil =>
          have h0 : n - i = 0 := HT.out.1
          omega
        | case _ _ _ => cases HT.out.2.1
        | node k x f cs nx =>
          obtain ⟨hr1, hn1, hz1, hw1, hfl, hpw⟩ := HT.out
          obtain ⟨hncs, hnnx⟩ := isN_node hn1
          obtain ⟨v, m, hm1, q0, q1, q2, q3, hv, hrest⟩ := hr1
          have hsv : SV w v cs := hv
          have hv5 : ∃ a n' c', v = .slice a n' c' := by
            rcases hv with ⟨⟨_, h⟩, _⟩ | ⟨b', o', n', c', h, _⟩
            · exact ⟨_, _, _, h⟩
            · exact ⟨_, _, _, h⟩
          obtain ⟨a3, n3, c3', rfl⟩ := hv5
          have kc := keepCells HB.out
          have c0 := kc _ _ _ q0; have c1 := kc _ _ _ q1; have c2 := kc _ _ _ q2; have c3 := kc _ _ _ q3
          have hxs : (⟨x.toArray⟩ : ByteArray).size ≤ 2100000 := by
            have h1 := HWt.out; have h2 := Lib.size_eq (⟨x.toArray⟩ : ByteArray); simp only [wt] at hw1; simp only at h2; omega
          have hrest' : Rd w nx b (o + (i + 1) * 4) (n - (i + 1)) := by
            rw [show o + (i + 1) * 4 = o + i * 4 + 4 by omega, show n - (i + 1) = m by omega]; exact hrest
          have hcsz : sz cs ≤ N := by have := HZ.out; simp only [sz] at hz1; omega
          have hcsw : wt cs ≤ 2100000 := by have := HWt.out; simp only [wt] at hw1; omega
          have hnz : sz nx ≤ sz t := by simp only [sz] at hz1; omega
          have hnw : wt nx ≤ wt t := by simp only [wt] at hw1; omega
          have hpn : Pw w b o (i + 1) (k == 1) := .inr ⟨i, k, rfl, q0, rfl⟩
          rw [flt_node] at hfl
          obtain ⟨W1, hw1'⟩ : ∃ W1, W1 = wr.alloc (.cells #[.int .i64 k, .string ⟨x.toArray⟩, .int .i64 f, .slice a3 n3 c3'] 60) := ⟨_, rfl⟩
          have hb1 : Below w.heap.size w W1 := by rw [hw1']; exact HB.out.alloc HB.out.size _
          have j0 : W1.cell? ⟨wr.heap.size, 0, none⟩ = some (.int .i64 k) := by rw [hw1']; simp
          have j1 : W1.cell? ⟨wr.heap.size, 1, none⟩ = some (.string ⟨x.toArray⟩) := by rw [hw1']; simp
          have j2 : W1.cell? ⟨wr.heap.size, 2, none⟩ = some (.int .i64 f) := by rw [hw1']; simp
          have j3 : W1.cell? ⟨wr.heap.size, 3, none⟩ = some (.slice a3 n3 c3') := by rw [hw1']; simp
          have g0 := cell_regrown j0; have g1 := cell_regrown j1; have g2 := cell_regrown j2; have g3 := cell_regrown j3
          have hpw1 : ∀ dr os, Pw (grow (redrawn W1 dr) os) b o i pw := fun dr os => by
            rcases hpw with h | ⟨n', kp, h1, h2, h3⟩
            · exact .inl h
            · exact .inr ⟨n', kp, h1, cell_regrown (keepCells hb1 _ _ _ h2) dr os, h3⟩
          obtain ⟨fq, hfq⟩ : ∃ fq, fine k x mark pw = fq := ⟨_, rfl⟩
          have d1 : ∀ dr os, Calls Tryz.prog 36 #[.agg #[.int .i64 k, .string ⟨x.toArray⟩, .int .i64 f, .slice a3 n3 c3'], .slice (some ⟨b, o, none⟩) i c, .bool mark] (grow (redrawn W1 dr) os) (fun e w' => e = .returned (.bool fq) ∧ ∃ p : Regrown, w' = grow (redrawn W1 p.d) p.os) :=
            fun dr os => Calls.regrown_of (by
              have h := fine_any k f ⟨x.toArray⟩ (.slice a3 n3 c3') b o i c mark pw (grow (redrawn W1 dr) os) hxs (by omega) (hpw1 dr os)
              rw [show fine k (⟨x.toArray⟩ : ByteArray).data.toList mark pw = fq from hfq] at h
              exact h)
          have hcv := fun (hk : k = 4 ∨ k = 5) W (hB : Below w.heap.size w W) => casesV N IH.out k f ⟨x.toArray⟩ (.slice a3 n3 c3') cs mark W hk hcsz hncs hcsw (HM.out.below hB) (SV.below hsv hB)
          have D1 := Lib.hid d1; have HW1 := Lib.hid hw1'; have HB1 := Lib.hid hb1; have HCV := Lib.hid hcv
          have HFL := Lib.hid hfl; have HFQ := Lib.hid hfq
          have hnext : Hid (Rd w nx b (o + (i + 1) * 4) (n - (i + 1)) ∧ isN nx = true ∧ sz nx ≤ sz t ∧ wt nx ≤ wt t ∧ Pw w b o (i + 1) (k == 1)) := ⟨hrest', hnnx, hnz, hnw, hpn⟩
          have hic : i ≤ c := by omega
          clear d1 hw1' hb1 hcv hfl hfq hrest' hnnx hnz hnw hpn hpw1 hpw hn1 hz1 hw1 hncs q0 q1 q2 q3 hv hsv kc hxs hrest hcsz hcsw j0 j1 j2 j3 HT hm1
          cases fq with
          | false =>
            have hfin : flt t mark false 0 [] = 3 := by rw [HFL.out, if_pos HFQ.out]
            have HF := Lib.hid hfin; clear hfin
            go_wp2_with fail
            rw [← HW1.out]
            refine wp_region_quiet_below (by kernel_rfl) (by kernel_rfl) ?_
            repeat (quiet_step (first | with_reducible exact D1.out _ _))
            refine wpQuiet_nil ?_
            intro _ hw'
            obtain ⟨⟨dq, osq⟩, hw''⟩ := hw'
            subst hw''
            go_wp2_with fail
            go_ret
            exact ⟨by rw [HF.out] <;> rfl, HB1.out.trans ((below_regrown W1 dq osq).mono HB1.out.size)⟩
          | true =>
            go_wp2_with fail
            rw [← HW1.out]
            refine wp_region_quiet_below (by kernel_rfl) (by kernel_rfl) ?_
            repeat (quiet_step (first | with_reducible exact D1.out _ _))
            refine wpQuiet_nil ?_
            intro _ hw'
            obtain ⟨⟨dq, osq⟩, hw''⟩ := hw'
            subst hw''
            have e0 := g0 dq osq; have e1 := g1 dq osq; have e2 := g2 dq osq; have e3 := g3 dq osq
            have hb2 := HB1.out.trans ((below_regrown W1 dq osq).mono HB1.out.size)
            clear g0 g1 g2 g3
            simp only []
            generalize grow (redrawn W1 dq) osq = W2 at e0 e1 e2 e3 hb2 ⊢
            have HB2 := Lib.hid hb2; clear hb2
            have hf2 : flt t mark false 0 [] = if k = 4 ∧ (f < 0 ∨ f > 9) then 1 else if hasC k = true ∧ flt cs (mark || k == 4) false k [] ≠ 0 then flt cs (mark || k == 4) false k [] else flt nx mark (k == 1) 0 [] := by
              rw [HFL.out, if_neg (by rw [HFQ.out]; decide)]
            have HF2 := Lib.hid hf2; clear hf2 HFL
            by_cases h4 : k = 4
            · subst h4
              by_cases hf0 : f < 0
              · have hfin : flt t mark false 0 [] = 1 := by rw [HF2.out, if_pos ⟨rfl, .inl hf0⟩]
                have HF := Lib.hid hfin; clear hfin
                go_wp2_with fail
                go_ret
                exact ⟨by rw [HF.out] <;> rfl, HB2.out⟩
              · by_cases hf9 : 9 < f
                · have hfin : flt t mark false 0 [] = 1 := by rw [HF2.out, if_pos ⟨rfl, .inr hf9⟩]
                  have HF := Lib.hid hfin; clear hfin
                  go_wp2_with fail
                  go_ret
                  exact ⟨by rw [HF.out] <;> rfl, HB2.out⟩
                · have hf3 : flt t mark false 0 [] = if hasC 4 = true ∧ flt cs (mark || (4 : Int) == 4) false 4 [] ≠ 0 then flt cs (mark || (4 : Int) == 4) false 4 [] else flt nx mark ((4 : Int) == 1) 0 [] := by
                    rw [HF2.out, if_neg (by omega)]
                  have HF3 := Lib.hid hf3; clear hf3
                  go_wp2_with fail
                  refine (HCV.out (by simp) W2 HB2.out).mono ?_
                  rintro e w3 ⟨rfl, hb3⟩
                  have HB3 := Lib.hid (HB2.out.trans (hb3.mono HB2.out.size))
                  clear hb3 e0 e1 e2 e3
                  by_cases he0 : flt cs (mark || (4 : Int) == 4) false 4 [] = 0
                  · have hf4 : flt t mark false 0 [] = flt nx mark ((4 : Int) == 1) 0 [] := by
                      rw [HF3.out, if_neg (fun h => h.2 he0)]
                    have HF4 := Lib.hid hf4
                    rw [he0, errVal_0]
                    clear hf4 he0
                    go_wp2_with fail
                    go_roundw
                    case rel => exact ⟨i + 1, nx, ((4 : Int) == 1), by omega, by go_num, ⟨hnext.out.1, hnext.out.2.1, hnext.out.2.2.1, hnext.out.2.2.2.1, HF4.out, hnext.out.2.2.2.2⟩, HB3⟩
                    case measure => simp [RowKit.intOf]; omega
                  · have hf4 : flt t mark false 0 [] = flt cs (mark || (4 : Int) == 4) false 4 [] := by
                      rw [HF3.out, if_pos ⟨by first | trivial | rfl, he0⟩]
                    have HF4 := Lib.hid hf4
                    generalize flt cs (mark || (4 : Int) == 4) false 4 [] = e0 at *
                    rw [errVal_no he0]
                    have HE := Lib.hid (errVal_no he0)
                    clear hf4 he0 HF3
                    go_wp2_with fail
                    go_ret
                    exact ⟨by rw [HF4.out, HE.out] <;> rfl, HB3.out⟩
            · by_cases h5 : k = 5
              · subst h5
                have hf3 : flt t mark false 0 [] = if hasC 5 = true ∧ flt cs (mark || (5 : Int) == 4) false 5 [] ≠ 0 then flt cs (mark || (5 : Int) == 4) false 5 [] else flt nx mark ((5 : Int) == 1) 0 [] := by
                  rw [HF2.out, if_neg (by omega)]
                have HF3 := Lib.hid hf3; clear hf3
                go_wp2_with fail
                refine (HCV.out (by simp) W2 HB2.out).mono ?_
                rintro e w3 ⟨rfl, hb3⟩
                have HB3 := Lib.hid (HB2.out.trans (hb3.mono HB2.out.size))
                clear hb3 e0 e1 e2 e3
                by_cases he0 : flt cs (mark || (5 : Int) == 4) false 5 [] = 0
                · have hf4 : flt t mark false 0 [] = flt nx mark ((5 : Int) == 1) 0 [] := by
                    rw [HF3.out, if_neg (fun h => h.2 he0)]
                  have HF4 := Lib.hid hf4
                  rw [he0, errVal_0]
                  clear hf4 he0
                  go_wp2_with fail
                  go_roundw
                  case rel => exact ⟨i + 1, nx, ((5 : Int) == 1), by omega, by go_num, ⟨hnext.out.1, hnext.out.2.1, hnext.out.2.2.1, hnext.out.2.2.2.1, HF4.out, hnext.out.2.2.2.2⟩, HB3⟩
                  case measure => simp [RowKit.intOf]; omega
                · have hf4 : flt t mark false 0 [] = flt cs (mark || (5 : Int) == 4) false 5 [] := by
                    rw [HF3.out, if_pos ⟨by first | trivial | rfl, he0⟩]
                  have HF4 := Lib.hid hf4
                  generalize flt cs (mark || (5 : Int) == 4) false 5 [] = e0 at *
                  rw [errVal_no he0]
                  have HE := Lib.hid (errVal_no he0)
                  clear hf4 he0 HF3
                  go_wp2_with fail
                  go_ret
                  exact ⟨by rw [HF4.out, HE.out] <;> rfl, HB3.out⟩
              · have hc0 : hasC k = false := by
                  have h1 : (k == 4) = false := beq_eq_false_iff_ne.2 h4
                  have h2 : (k == 5) = false := beq_eq_false_iff_ne.2 h5
                  unfold hasC; rw [h1, h2]; rfl
                have hf3 : flt t mark false 0 [] = flt nx mark (k == 1) 0 [] := by
                  rw [HF2.out, if_neg (fun h => h4 h.1), if_neg (by rw [hc0]; simp)]
                have HF3 := Lib.hid hf3; clear hf3 hc0
                have hb4 : (k == 4) = false := beq_eq_false_iff_ne.2 h4
                have hb5 : (k == 5) = false := beq_eq_false_iff_ne.2 h5
                go_wp2_with fail
                go_roundw
                case rel => exact ⟨i + 1, nx, (k == 1), by omega, by go_num, ⟨hnext.out.1, hnext.out.2.1, hnext.out.2.2.1, hnext.out.2.2.2.1, HF3.out, hnext.out.2.2.2.2⟩, HB2⟩
                case measure => simp [RowKit.intOf]; omega
      · have hie : i = n := by omega
        have ht0 : t' = .nil := by
          have h1 := HT.out.1
          rw [hie, Nat.sub_self] at h1
          cases t' with
          | nil => rfl
          | node _ _ _ _ _ => obtain ⟨_, _, h, _⟩ := h1; cases h
          | case _ _ _ => obtain ⟨_, _, h, _⟩ := h1; cases h
        subst ht0
        have HF : Hid (flt t mark false 0 [] = 0) := HT.out.2.2.2.2.1
        go_wp2_with fail
        go_ret
        exact ⟨by rw [HF.out] <;> rfl, HB.out⟩
end Go.Proofs.YtnefcilopgcdpaaGreatDoor
namespace Go.Proofs.YtnefcilopgcdpaaGreatDoor
open Go.RowKit Ms

set_option maxHeartbeats 1000000 in
set_option maxRecDepth 100000 in
theorem mcheck_any (t : T) (v : Value) (w : World) (hn : isN t = true) (hw : wt t ≤ 2100000) (hm : MW w) (hs : SV w v t) :
    Calls Tryz.prog 12 #[v] w fun e w' => e = .returned (errVal (fault t)) ∧ Below w.heap.size w w' := by
  have h1 := fun W (hB : Below w.heap.size w W) => size_any (sz t) t v 0 W (Nat.le_refl _) hn hw (by omega) (SV.below hs hB)
  have h2 := fun W (hB : Below w.heap.size w W) => check_any (sz t) t v false W (Nat.le_refl _) hn hw (hm.below hB) (SV.below hs hB)
  have hv5 : ∃ a n' c', v = .slice a n' c' := by
    rcases hs with ⟨⟨_, h⟩, _⟩ | ⟨b', o', n', c', h, _⟩
    · exact ⟨_, _, _, h⟩
    · exact ⟨_, _, _, h⟩
  obtain ⟨a3, n3, c3', rfl⟩ := hv5
  have H1 := Lib.hid h1; have H2 := Lib.hid h2
  clear h1 h2 hs hn hw hm
  go_enter Tryz.func12, Tryz.ntmps12
  go_wp2_with fail
  refine (H1.out _ (Below.refl _ _)).mono ?_
  rintro e w2 ⟨⟨n, rfl, hn, _⟩, hb⟩
  have HB := Lib.hid hb; clear hb hn
  cases hbg : big t 0 with
  | true =>
    have hf : fault t = 4 := by unfold fault; rw [if_pos hbg]
    have HF := Lib.hid hf; clear hf hbg
    go_wp2_with fail
    go_ret
    exact ⟨by rw [HF.out] <;> rfl, HB.out⟩
  | false =>
    have hf : fault t = flt t false false 0 [] := by unfold fault; rw [if_neg (by rw [hbg]; decide)]
    have HF := Lib.hid hf; clear hf hbg
    go_wp2_with fail
    refine (H2.out _ HB.out).mono ?_
    rintro e w3 ⟨rfl, hb3⟩
    have HB3 := Lib.hid (HB.out.trans (hb3.mono HB.out.size))
    clear hb3
    go_wp2_with fail
    go_ret
    exact ⟨by rw [HF.out] <;> rfl, HB3.out⟩
end Go.Proofs.YtnefcilopgcdpaaGreatDoor
