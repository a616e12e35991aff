/-
  msg.check, msg.Check: what is wrong with a message.
-/
import Derived.Test.YtgkphpjnfigjiaaGreatDoorCheck
import Derived.Lib.QuietBelow
namespace Go.Proofs.YtgkphpjnfigjiaaGreatDoor
open Go.RowKit Go.Sort Ms

theorem flt_node (k f : Int) (x : List UInt8) (cs nx : T) (mark pw : Bool) : flt (.node k x f cs nx) mark pw 0 [] = if fine k x mark pw = false then 3 else if k = 4 ∧ (f < 0 ∨ f > 9) then 1 else if hasC k = true ∧ flt cs (mark || k == 4) false k [] ≠ 0 then flt cs (mark || k == 4) false k [] else flt nx mark (k == 1) 0 [] := rfl

set_option maxHeartbeats 1000000 in
set_option maxRecDepth 100000 in
theorem cases_nil (a : Option Addr) (k f : Int) (x : ByteArray) (mark : Bool) (w : World) (hk : k ≠ 0) :
    Calls Tryz.prog 53 #[.agg #[.int .i64 k, .string x, .int .i64 f, .slice a 0 0], .bool mark] w fun e w' => e = .returned (errVal (flt .nil (mark || k == 4) false k [])) ∧ Below w.heap.size w w' := by
  have hf : flt .nil (mark || k == 4) false k [] = 2 := by rw [flt_nilC hk]; rfl
  have HF := Lib.hid hf; clear hf hk
  have HB0 := Lib.hid ((Below.refl w.heap.size w).alloc (Nat.le_refl _) (.cells #[.int .i64 k, .string x, .int .i64 f, .slice a 0 0] 35))
  go_enter Tryz.func53, Tryz.ntmps53
  go_wp2_with fail
  refine wp_loop_rounds 1 ?_
  rw [rounds_succ]
  go_wp2_with fail
  refine (Tryz.slices_Contains_string_empty none 0 ⟨otherK.toArray⟩ _).mono ?_
  rintro e w2 ⟨rfl, rfl⟩
  go_wp2_with fail
  go_ret
  exact ⟨by rw [HF.out] <;> rfl, HB0.out⟩
theorem casesV (N : Nat) (IH : CheckIH N) (k f : Int) (x : ByteArray) (v : Value) (cs : T) (mark : Bool) (w : World) (hk : k = 4 ∨ k = 5) (hz : sz cs ≤ N) (hc : isN.isC cs = true) (hw : wt cs ≤ 2000000) (hm : MW w) (hr : SV w v cs) :
    Calls Tryz.prog 53 #[.agg #[.int .i64 k, .string x, .int .i64 f, v], .bool mark] w fun e w' => e = .returned (errVal (flt cs (mark || k == 4) false k [])) ∧ Below w.heap.size w w' := by
  rcases hr with ⟨⟨a, rfl⟩, rfl⟩ | ⟨b, o, n, c, rfl, _, hr⟩
  · exact cases_nil a k f x mark w (by rcases hk with rfl | rfl <;> decide)
  · exact cases_of N IH k f x b o n c cs mark w hk hz hc hw hm hr

set_option maxHeartbeats 1000000 in
set_option maxRecDepth 100000 in
theorem check_nil (a : Option Addr) (mark : Bool) (w : World) : Calls Tryz.prog 31 #[.slice a 0 0, .bool mark] w (CheckOut .nil mark w) := by
  go_enter Tryz.func31, Tryz.ntmps31
  go_wp2_with fail
  refine wp_loop_rounds 1 ?_
  rw [rounds_succ]
  go_wp2_with fail
  go_ret
  exact ⟨rfl, Below.refl _ _⟩

set_option maxHeartbeats 2000000 in
set_option maxRecDepth 100000 in
theorem check_any (N : Nat) : CheckIH N := by
  induction N with
  | zero =>
    intro t v mark w hz hn hw hm hs
    have ht : t = .nil := by
      cases t with
      | nil => rfl
      | node _ _ _ _ _ => simp [sz] at hz
      | case _ _ _ => cases hn
    subst ht
    rcases hs with ⟨⟨a, rfl⟩, _⟩ | ⟨b, o, n, c, rfl, hnc, hr⟩
    · exact check_nil a mark w
    · have hn0 : n = 0 := hr
      subst hn0
      go_enter Tryz.func31, Tryz.ntmps31
      go_wp2_with fail
      refine wp_loop_rounds 1 ?_
      rw [rounds_succ]
      go_wp2_with fail
      go_ret
      exact ⟨rfl, Below.refl _ _⟩
  | succ N IH =>
    intro t v mark w hz hn hw hm hs
    rcases hs with ⟨⟨a, rfl⟩, rfl⟩ | ⟨b, o, n, c, rfl, hnc, hr⟩
    · exact check_nil a mark w
    have hnl := Rd.len t b o n hr
    have hlw := len_wt t
    have hn2 : n ≤ 2000000 := by omega
    have HM := Lib.hid hm; have HR := Lib.hid hr; have HN := Lib.hid hn; have HZ := Lib.hid hz; have HWt := Lib.hid hw; have IH := Lib.hid IH
    clear hm hr hn hz hw hnl hlw
    go_enter Tryz.func31, Tryz.ntmps31
    go_wp2_with fail
    go_loopw [10] (fun i wr => ∃ (i' : Nat) (t' : T) (pw : Bool), i' ≤ n ∧ i = .int .i64 i' ∧ Hid (Rd w t' b (o + i' * 4) (n - i') ∧ isN t' = true ∧ sz t' ≤ sz t ∧ wt t' ≤ wt t ∧ flt t mark false 0 [] = flt t' mark pw 0 [] ∧ Pw w b o i' pw) ∧ Hid (Below w.heap.size w wr)) (fun i _ => n - (RowKit.intOf i).toNat)
    case atStart => exact ⟨0, t, false, by omega, rfl, ⟨by simpa using HR.out, HN.out, Nat.le_refl _, Nat.le_refl _, rfl, .inl ⟨rfl, rfl⟩⟩, Below.refl _ _⟩
    case round =>
      obtain ⟨i, t', pw, hin, rfl, HT, HB⟩ := hrel
      by_cases hlt : i < n
      · cases t' with
        | nil =>
          have h0 : n - i = 0 := HT.out.1
          omega
        | case _ _ _ => cases HT.out.2.1
        | node k x f cs nx =>
          obtain ⟨hr1, hn1, hz1, hw1, hfl, hpw⟩ := HT.out
          obtain ⟨hncs, hnnx⟩ := isN_node hn1
          obtain ⟨v, m, hm1, q0, q1, q2, q3, hv, hrest⟩ := hr1
          have hsv : SV w v cs := hv
          have hv5 : ∃ a n' c', v = .slice a n' c' := by
            rcases hv with ⟨⟨_, h⟩, _⟩ | ⟨b', o', n', c', h, _⟩
            · exact ⟨_, _, _, h⟩
            · exact ⟨_, _, _, h⟩
          obtain ⟨a3, n3, c3', rfl⟩ := hv5
          have kc := keepCells HB.out
          have c0 := kc _ _ _ q0; have c1 := kc _ _ _ q1; have c2 := kc _ _ _ q2; have c3 := kc _ _ _ q3
          have hxs : (⟨x.toArray⟩ : ByteArray).size ≤ 2000000 := by
            have h1 := HWt.out; have h2 := Lib.size_eq (⟨x.toArray⟩ : ByteArray); simp only [wt] at hw1; simp only at h2; omega
          have hrest' : Rd w nx b (o + (i + 1) * 4) (n - (i + 1)) := by
            rw [show o + (i + 1) * 4 = o + i * 4 + 4 by omega, show n - (i + 1) = m by omega]; exact hrest
          have hcsz : sz cs ≤ N := by have := HZ.out; simp only [sz] at hz1; omega
          have hcsw : wt cs ≤ 2000000 := by have := HWt.out; simp only [wt] at hw1; omega
          have hnz : sz nx ≤ sz t := by simp only [sz] at hz1; omega
          have hnw : wt nx ≤ wt t := by simp only [wt] at hw1; omega
          have hpn : Pw w b o (i + 1) (k == 1) := .inr ⟨i, k, rfl, q0, rfl⟩
          rw [flt_node] at hfl
          obtain ⟨W1, hw1'⟩ : ∃ W1, W1 = wr.alloc (.cells #[.int .i64 k, .string ⟨x.toArray⟩, .int .i64 f, .slice a3 n3 c3'] 35) := ⟨_, rfl⟩
          have hb1 : Below w.heap.size w W1 := by rw [hw1']; exact HB.out.alloc HB.out.size _
          have j0 : W1.cell? ⟨wr.heap.size, 0, none⟩ = some (.int .i64 k) := by rw [hw1']; simp
          have j1 : W1.cell? ⟨wr.heap.size, 1, none⟩ = some (.string ⟨x.toArray⟩) := by rw [hw1']; simp
          have j2 : W1.cell? ⟨wr.heap.size, 2, none⟩ = some (.int .i64 f) := by rw [hw1']; simp
          have j3 : W1.cell? ⟨wr.heap.size, 3, none⟩ = some (.slice a3 n3 c3') := by rw [hw1']; simp
          have g0 := cell_regrown j0; have g1 := cell_regrown j1; have g2 := cell_regrown j2; have g3 := cell_regrown j3
          have hpw1 : ∀ dr os, Pw (grow (redrawn W1 dr) os) b o i pw := fun dr os => by
            rcases hpw with h | ⟨n', kp, h1, h2, h3⟩
            · exact .inl h
            · exact .inr ⟨n', kp, h1, cell_regrown (keepCells hb1 _ _ _ h2) dr os, h3⟩
          obtain ⟨fq, hfq⟩ : ∃ fq, fine k x mark pw = fq := ⟨_, rfl⟩
          have d1 : ∀ dr os, Calls Tryz.prog 52 #[.agg #[.int .i64 k, .string ⟨x.toArray⟩, .int .i64 f, .slice a3 n3 c3'], .slice (some ⟨b, o, none⟩) i c, .bool mark] (grow (redrawn W1 dr) os) (fun e w' => e = .returned (.bool fq) ∧ ∃ p : Regrown, w' = grow (redrawn W1 p.d) p.os) :=
            fun dr os => Calls.regrown_of (by
              have h := fine_any k f ⟨x.toArray⟩ (.slice a3 n3 c3') b o i c mark pw (grow (redrawn W1 dr) os) hxs (by omega) (hpw1 dr os)
              rw [show fine k (⟨x.toArray⟩ : ByteArray).data.toList mark pw = fq from hfq] at h
              exact h)
          have hcv := fun (hk : k = 4 ∨ k = 5) W (hB : Below w.heap.size w W) => casesV N IH.out k f ⟨x.toArray⟩ (.slice a3 n3 c3') cs mark W hk hcsz hncs hcsw (HM.out.below hB) (SV.below hsv hB)
          have D1 := Lib.hid d1; have HW1 := Lib.hid hw1'; have HB1 := Lib.hid hb1; have HCV := Lib.hid hcv
          have HFL := Lib.hid hfl; have HFQ := Lib.hid hfq
          have hnext : Hid (Rd w nx b (o + (i + 1) * 4) (n - (i + 1)) ∧ isN nx = true ∧ sz nx ≤ sz t ∧ wt nx ≤ wt t ∧ Pw w b o (i + 1) (k == 1)) := ⟨hrest', hnnx, hnz, hnw, hpn⟩
          have hic : i ≤ c := by omega
          clear d1 hw1' hb1 hcv hfl hfq hrest' hnnx hnz hnw hpn hpw1 hpw hn1 hz1 hw1 hncs q0 q1 q2 q3 hv hsv kc hxs hrest hcsz hcsw j0 j1 j2 j3 HT hm1
          cases fq with
          | false =>
            have hfin : flt t mark false 0 [] = 3 := by rw [HFL.out, if_pos HFQ.out]
            have HF := Lib.hid hfin; clear hfin
            go_wp2_with fail
            rw [← HW1.out]
            refine wp_region_quiet_below (by kernel_rfl) (by kernel_rfl) ?_
            repeat (quiet_step (first | with_reducible exact D1.out _ _))
            refine wpQuiet_nil ?_
            intro _ hw'
            obtain ⟨⟨dq, osq⟩, hw''⟩ := hw'
            subst hw''
            go_wp2_with fail
            go_ret
            exact ⟨by rw [HF.out] <;> rfl, HB1.out.trans ((below_regrown W1 dq osq).mono HB1.out.size)⟩
          | true =>
            go_wp2_with fail
            rw [← HW1.out]
            refine wp_region_quiet_below (by kernel_rfl) (by kernel_rfl) ?_
            repeat (quiet_step (first | with_reducible exact D1.out _ _))
            refine wpQuiet_nil ?_
            intro _ hw'
            obtain ⟨⟨dq, osq⟩, hw''⟩ := hw'
            subst hw''
            have e0 := g0 dq osq; have e1 := g1 dq osq; have e2 := g2 dq osq; have e3 := g3 dq osq
            have hb2 := HB1.out.trans ((below_regrown W1 dq osq).mono HB1.out.size)
            clear g0 g1 g2 g3
            simp only []
            generalize grow (redrawn W1 dq) osq = W2 at e0 e1 e2 e3 hb2 ⊢
            have HB2 := Lib.hid hb2; clear hb2
            have hf2 : flt t mark false 0 [] = if k = 4 ∧ (f < 0 ∨ f > 9) then 1 else if hasC k = true ∧ flt cs (mark || k == 4) false k [] ≠ 0 then flt cs (mark || k == 4) false k [] else flt nx mark (k == 1) 0 [] := by
              rw [HFL.out, if_neg (by rw [HFQ.out]; decide)]
            have HF2 := Lib.hid hf2; clear hf2 HFL
            by_cases h4 : k = 4
            · subst h4
              by_cases hf0 : f < 0
              · have hfin : flt t mark false 0 [] = 1 := by rw [HF2.out, if_pos ⟨rfl, .inl hf0⟩]
                have HF := Lib.hid hfin; clear hfin
                go_wp2_with fail
                go_ret
                exact ⟨by rw [HF.out] <;> rfl, HB2.out⟩
              · by_cases hf9 : 9 < f
                · have hfin : flt t mark false 0 [] = 1 := by rw [HF2.out, if_pos ⟨rfl, .inr hf9⟩]
                  have HF := Lib.hid hfin; clear hfin
                  go_wp2_with fail
                  go_ret
                  exact ⟨by rw [HF.out] <;> rfl, HB2.out⟩
                · have hf3 : flt t mark false 0 [] = if hasC 4 = true ∧ flt cs (mark || (4 : Int) == 4) false 4 [] ≠ 0 then flt cs (mark || (4 : Int) == 4) false 4 [] else flt nx mark ((4 : Int) == 1) 0 [] := by
                    rw [HF2.out, if_neg (by omega)]
                  have HF3 := Lib.hid hf3; clear hf3
                  go_wp2_with fail
                  refine (HCV.out (by simp) W2 HB2.out).mono ?_
                  rintro e w3 ⟨rfl, hb3⟩
                  have HB3 := Lib.hid (HB2.out.trans (hb3.mono HB2.out.size))
                  clear hb3 e0 e1 e2 e3
                  by_cases he0 : flt cs (mark || (4 : Int) == 4) false 4 [] = 0
                  · have hf4 : flt t mark false 0 [] = flt nx mark ((4 : Int) == 1) 0 [] := by
                      rw [HF3.out, if_neg (fun h => h.2 he0)]
                    have HF4 := Lib.hid hf4
                    rw [he0, errVal_0]
                    clear hf4 he0
                    go_wp2_with fail
                    go_roundw
                    case rel => exact ⟨i + 1, nx, ((4 : Int) == 1), by omega, by go_num, ⟨hnext.out.1, hnext.out.2.1, hnext.out.2.2.1, hnext.out.2.2.2.1, HF4.out, hnext.out.2.2.2.2⟩, HB3⟩
                    case measure => simp [RowKit.intOf]; omega
                  · have hf4 : flt t mark false 0 [] = flt cs (mark || (4 : Int) == 4) false 4 [] := by
                      rw [HF3.out, if_pos ⟨by first | trivial | rfl, he0⟩]
                    have HF4 := Lib.hid hf4
                    generalize flt cs (mark || (4 : Int) == 4) false 4 [] = e0 at *
                    rw [errVal_no he0]
                    have HE := Lib.hid (errVal_no he0)
                    clear hf4 he0 HF3
                    go_wp2_with fail
                    go_ret
                    exact ⟨by rw [HF4.out, HE.out] <;> rfl, HB3.out⟩
            · by_cases h5 : k = 5
              · subst h5
                have hf3 : flt t mark false 0 [] = if hasC 5 = true ∧ flt cs (mark || (5 : Int) == 4) false 5 [] ≠ 0 then flt cs (mark || (5 : Int) == 4) false 5 [] else flt nx mark ((5 : Int) == 1) 0 [] := by
                  rw [HF2.out, if_neg (by omega)]
                have HF3 := Lib.hid hf3; clear hf3
                go_wp2_with fail
                refine (HCV.out (by simp) W2 HB2.out).mono ?_
                rintro e w3 ⟨rfl, hb3⟩
                have HB3 := Lib.hid (HB2.out.trans (hb3.mono HB2.out.size))
                clear hb3 e0 e1 e2 e3
                by_cases he0 : flt cs (mark || (5 : Int) == 4) false 5 [] = 0
                · have hf4 : flt t mark false 0 [] = flt nx mark ((5 : Int) == 1) 0 [] := by
                    rw [HF3.out, if_neg (fun h => h.2 he0)]
                  have HF4 := Lib.hid hf4
                  rw [he0, errVal_0]
                  clear hf4 he0
                  go_wp2_with fail
                  go_roundw
                  case rel => exact ⟨i + 1, nx, ((5 : Int) == 1), by omega, by go_num, ⟨hnext.out.1, hnext.out.2.1, hnext.out.2.2.1, hnext.out.2.2.2.1, HF4.out, hnext.out.2.2.2.2⟩, HB3⟩
                  case measure => simp [RowKit.intOf]; omega
                · have hf4 : flt t mark false 0 [] = flt cs (mark || (5 : Int) == 4) false 5 [] := by
                    rw [HF3.out, if_pos ⟨by first | trivial | rfl, he0⟩]
                  have HF4 := Lib.hid hf4
                  generalize flt cs (mark || (5 : Int) == 4) false 5 [] = e0 at *
                  rw [errVal_no he0]
                  have HE := Lib.hid (errVal_no he0)
                  clear hf4 he0 HF3
                  go_wp2_with fail
                  go_ret
                  exact ⟨by rw [HF4.out, HE.out] <;> rfl, HB3.out⟩
              · have hc0 : hasC k = false := by
                  have h1 : (k == 4) = false := beq_eq_false_iff_ne.2 h4
                  have h2 : (k == 5) = false := beq_eq_false_iff_ne.2 h5
                  unfold hasC; rw [h1, h2]; rfl
                have hf3 : flt t mark false 0 [] = flt nx mark (k == 1) 0 [] := by
                  rw [HF2.out, if_neg (fun h => h4 h.1), if_neg (by rw [hc0]; simp)]
                have HF3 := Lib.hid hf3; clear hf3 hc0
                have hb4 : (k == 4) = false := beq_eq_false_iff_ne.2 h4
                have hb5 : (k == 5) = false := beq_eq_false_iff_ne.2 h5
                go_wp2_with fail
                go_roundw
                case rel => exact ⟨i + 1, nx, (k == 1), by omega, by go_num, ⟨hnext.out.1, hnext.out.2.1, hnext.out.2.2.1, hnext.out.2.2.2.1, HF3.out, hnext.out.2.2.2.2⟩, HB2⟩
                case measure => simp [RowKit.intOf]; omega
      · have hie : i = n := by omega
        have ht0 : t' = .nil := by
          have h1 := HT.out.1
          rw [hie, Nat.sub_self] at h1
          cases t' with
          | nil => rfl
          | node _ _ _ _ _ => obtain ⟨_, _, h, _⟩ := h1; cases h
          | case _ _ _ => obtain ⟨_, _, h, _⟩ := h1; cases h
        subst ht0
        have HF : Hid (flt t mark false 0 [] = 0) := HT.out.2.2.2.2.1
        go_wp2_with fail
        go_ret
        exact ⟨by rw [HF.out] <;> rfl, HB.out⟩
end Go.Proofs.YtgkphpjnfigjiaaGreatDoor
