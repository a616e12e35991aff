/-
  msg.Exact, eval.Choice, eval.Case.
-/
import Derived.Test.YtnefcilopgcdpaaGreatDoorKind
import Derived.Test.YtnefcilopgcdpaaGreatDoorDecB
import Derived.Test.YtnefcilopgcdpaaGreatDoorSize
import Derived.Test.YtnefcilopgcdpaaGreatDoorKey
import Derived.Test.YtnefcilopgcdpaaGreatDoorPsay
namespace Go.Proofs.YtnefcilopgcdpaaGreatDoor
open Go.RowKit Go.Sort Ms

set_option maxHeartbeats 1000000 in
theorem Exact_any (x : List UInt8) (w : World) (hx : x.length ≤ 2100000) (hw : MW w) :
    Calls Tryz.prog 68 #[.string ⟨x.toArray⟩] w fun e w' => e = .returned (.tuple #[.int .i64 (exactN x), .bool (decide (0 ≤ exactN x))]) ∧ Below w.heap.size w w' := by
  have h1 := fun W (hB : Below w.heap.size w W) => exact_any ⟨x.toArray⟩ W (by simpa [ByteArray.size] using hx) (hw.below hB)
  have H1 := Lib.hid h1
  clear h1 hw hx
  go_enter Tryz.func68, Tryz.ntmps68
  go_wp2_with fail
  refine (H1.out w (Below.refl _ _)).mono ?_
  rintro e w1 ⟨rfl, hb⟩
  have HB1 := Lib.hid hb
  clear hb
  go_wp2_with fail
  refine (H1.out w1 HB1.out).mono ?_
  rintro e w2 ⟨rfl, hb⟩
  have HB2 := Lib.hid (HB1.out.trans (hb.mono HB1.out.size))
  clear hb
  go_wp2_with fail
  go_ret2
  exact ⟨rfl, HB2.out⟩
set_option maxRecDepth 100000 in
set_option maxHeartbeats 2000000 in
theorem choice_any (k f : Int) (x s : List UInt8) (cs : T) (v : Value) (w0 w : World) (hs : SV w0 v cs) (hc : isN.isC cs = true) (hl : len cs ≤ 2100000) (hb0 : Below w0.heap.size w0 w) :
    Calls Tryz.prog 44 #[.agg #[.int .i64 k, .string ⟨x.toArray⟩, .int .i64 f, v], .string ⟨s.toArray⟩] w fun e w' => e = .returned (.int .i64 (choGo s (keysT cs) 0 0 : Nat)) ∧ Below w.heap.size w w' := by
  obtain ⟨a, n, c, rfl, hn, hfr⟩ := casesFrom_start hs
  obtain ⟨R, hR⟩ : ∃ R, R = choGo s (keysT cs) 0 0 := ⟨_, rfl⟩
  rw [← hR]
  have hn2 : n ≤ 2100000 := by omega
  have HT0 := Lib.hid (show CasesFrom w0 a n 0 cs ∧ isN.isC cs = true ∧ choGo s (keysT cs) 0 0 = R from ⟨hfr, hc, hR.symm⟩)
  have HB0 := Lib.hid hb0
  have HA0 := Lib.hid ((Below.refl w.heap.size w).alloc (Nat.le_refl _) (Obj.cells #[.int .i64 k, .string ⟨x.toArray⟩, .int .i64 f, .slice a n c] 60))
  clear hs hc hl hb0 hfr hR hn
  go_enter Tryz.func44, Tryz.ntmps44
  go_wp2_with fail
  go_loopw [11, 5] (fun j b wr => ∃ (j' b' : Nat) (t' : T), j' ≤ n ∧ j = .int .i64 j' ∧ b = .int .i64 b' ∧ Hid (CasesFrom w0 a n j' t' ∧ isN.isC t' = true ∧ choGo s (keysT t') j' b' = R) ∧ Hid (Below w.heap.size w wr)) (fun j _ _ => n - (intOf j).toNat)
  case atStart => exact ⟨0, 0, cs, Nat.zero_le _, rfl, rfl, HT0, HA0⟩
  case round =>
    clear HT0 HA0
    obtain ⟨j, b, t', hj, rfl, rfl, HT, HB⟩ := hrel
    by_cases hlt : j < n
    · obtain ⟨g1, g2, g3⟩ := HT.out
      obtain ⟨key, body, nx, b2, o2, v2, rfl, rfl, p0, p1, hsv2, hnext2⟩ := casesFrom_next g1 hlt g2
      obtain ⟨va, vn, vcap, rfl⟩ := hsv2.form
      have kc := keepCells (HB0.out.trans (HB.out.mono HB0.out.size))
      have r0 := kc _ _ _ p0; have r1 := kc _ _ _ p1
      obtain ⟨hnb, hnn2⟩ := isC_case g2
      have HC := Lib.hid (show (if key = s then j else choGo s (keysT nx) (j + 1) (if key = otherK then j else b)) = R from g3)
      have HNX := Lib.hid (show CasesFrom w0 (some ⟨b2, o2, none⟩) n (j + 1) nx ∧ isN.isC nx = true from ⟨hnext2, hnn2⟩)
      have HBa := Lib.hid (HB.out.trans (((Below.refl wr.heap.size wr).alloc (Nat.le_refl _) (Obj.cells #[.string ⟨key.toArray⟩, .slice va vn vcap] 62)).mono HB.out.size))
      clear g1 g2 g3 p0 p1 hsv2 hnext2 hnb hnn2 kc HT
      by_cases hks : key = s
      · have hb : (key == s) = true := by simpa using hks
        have HR := Lib.hid (show j = R by rw [← HC.out, if_pos hks])
        clear hks HC
        go_wp2_with fail
        go_ret
        exact ⟨by rw [← HR.out]; rfl, HBa.out⟩
      · have hb : (key == s) = false := by simpa using hks
        have hcc := HC.out
        rw [if_neg hks] at hcc
        by_cases hko : key = otherK
        · have hb2 : (key == [111, 116, 104, 101, 114]) = true := by rw [hko]; rfl
          rw [if_pos hko] at hcc
          have HN := Lib.hid (⟨HNX.out.1, HNX.out.2, hcc⟩ : CasesFrom w0 (some ⟨b2, o2, none⟩) n (j + 1) nx ∧ isN.isC nx = true ∧ choGo s (keysT nx) (j + 1) j = R)
          clear hks hko HC hcc HNX
          go_wp2_with fail
          go_roundw
          case rel => exact ⟨j + 1, j, nx, by omega, by go_num, rfl, HN, HBa⟩
          case measure => simp [intOf]; omega
        · have hb2 : (key == [111, 116, 104, 101, 114]) = false := by
            rw [beq_eq_false_iff_ne]; exact hko
          rw [if_neg hko] at hcc
          have HN := Lib.hid (⟨HNX.out.1, HNX.out.2, hcc⟩ : CasesFrom w0 (some ⟨b2, o2, none⟩) n (j + 1) nx ∧ isN.isC nx = true ∧ choGo s (keysT nx) (j + 1) b = R)
          clear hks hko HC hcc HNX
          go_wp2_with fail
          go_roundw
          case rel => exact ⟨j + 1, b, nx, by omega, by go_num, rfl, HN, HBa⟩
          case measure => simp [intOf]; omega
    · obtain rfl : j = n := by omega
      obtain ⟨g1, _, g3⟩ := HT.out
      have hnil := casesFrom_end g1
      subst hnil
      have HR := Lib.hid (show b = R from g3)
      clear g1 g3 HT
      go_wp2_with fail
      go_ret
      exact ⟨by rw [← HR.out]; rfl, HB.out⟩
theorem exact_lt (key : List UInt8) (h : 0 ≤ exactN key) : ∃ n : Nat, exactN key = n ∧ n ≤ 1000 := by
  obtain ⟨r, n, _, _, h1, h2⟩ := exact_cons h
  exact ⟨n, h2, by omega⟩
theorem lessD_ok (c : Int) (s : Nat) (f : Int) (h : (lessD ⟨c, s⟩ f).2 = 0) (hd : decBad ⟨c, s⟩ = false) : ∃ c' : Int, (lessD ⟨c, s⟩ f).1 = ⟨c', s⟩ ∧ decBad ⟨c', s⟩ = false := by
  have h0 := dec_ok hd
  unfold lessD at h ⊢
  rw [if_neg (by simp [hd])] at h ⊢
  split at h
  · cases h
  · next hc =>
    rw [if_neg hc]
    refine ⟨_, rfl, ?_⟩
    unfold decBad
    simp only [Bool.or_eq_false_iff, decide_eq_false_iff_not]
    simp only at h0 hc
    omega
theorem four_boxes (w : World) (a b c d : Obj) : ∃ W, W = (((w.alloc a).alloc b).alloc c).alloc d ∧ W.heap[w.heap.size]? = some a ∧ W.heap[w.heap.size + 1]? = some b ∧ W.heap[w.heap.size + 2]? = some c ∧ W.heap[w.heap.size + 3]? = some d ∧ RowKit.Below w.heap.size w W ∧ W.heap.size = w.heap.size + 4 := by
  refine ⟨_, rfl, ?_, ?_, ?_, ?_, ?_, ?_⟩
  · exact (Go.heap_alloc_old _ _ (by simp <;> omega)).trans ((Go.heap_alloc_old _ _ (by simp <;> omega)).trans ((Go.heap_alloc_old _ _ (by simp <;> omega)).trans (Go.heap_alloc_new w a)))
  · exact (Go.heap_alloc_old _ _ (by simp <;> omega)).trans ((Go.heap_alloc_old _ _ (by simp <;> omega)).trans (by have := Go.heap_alloc_new (w.alloc a) b; simpa using this))
  · exact (Go.heap_alloc_old _ _ (by simp <;> omega)).trans (by have := Go.heap_alloc_new ((w.alloc a).alloc b) c; simpa using this)
  · have := Go.heap_alloc_new (((w.alloc a).alloc b).alloc c) d; simpa using this
  · exact ((((RowKit.Below.refl w.heap.size w).alloc (Nat.le_refl _) a).alloc (by simp <;> omega) b).alloc (by simp <;> omega) c).alloc (by simp <;> omega) d
  · simp
set_option maxRecDepth 100000 in
set_option maxHeartbeats 4000000 in
theorem case_any (k f : Int) (x : List UInt8) (cs : T) (v : Value) (z o t1 f1 m : List UInt8) (c : Int) (s : Nat) (w0 w : World) (hs : SV w0 v cs) (hc : isN.isC cs = true) (hw : wt cs ≤ 2100000) (hset : ∀ y ∈ [z, o, t1, f1, m], SetText y) (hd : decBad ⟨c, s⟩ = false) (hf : 0 ≤ f ∧ f ≤ 9) (hL0 : (lessD ⟨c, s⟩ f).2 = 0) (hm : MW w) (hx : MaxAt w) (hp : PlAt w) (hb0 : RowKit.Below w0.heap.size w0 w) :
    Calls Tryz.prog 43 #[.agg #[.int .i64 k, .string ⟨x.toArray⟩, .int .i64 f, v], setV z o t1 f1 m, dcV ⟨c, s⟩] w fun e w' => e = .returned (.tuple #[.int .i64 (caseGo (kindOf [z, o, t1, f1, m] (lessD ⟨c, s⟩ f).1) ⟨c, s⟩ (keysT cs) 0 0 0 : Nat), dcV (lessD ⟨c, s⟩ f).1, .nilIface]) ∧ RowKit.Below w.heap.size w w' := by
  obtain ⟨a, n, cp, rfl, hn, hfr⟩ := casesFrom_start hs
  obtain ⟨c', hc1, hc2⟩ := lessD_ok c s f hL0 hd
  have hadd := fun W => dadd_ok c s f W hd hf
  rw [hL0, errVal_0, hc1] at hadd
  rw [hc1]
  obtain ⟨K, hK⟩ : ∃ K, K = kindOf [z, o, t1, f1, m] ⟨c', s⟩ := ⟨_, rfl⟩
  have hkind := fun W (hB : RowKit.Below w.heap.size w W) => kind_any z o t1 f1 m c' s W hset hc2 (hm.below hB) (hx.keep hx.lt hB) (hp.below hB)
  rw [← hK] at hkind ⊢
  obtain ⟨R, hR⟩ : ∃ R, R = caseGo K ⟨c, s⟩ (keysT cs) 0 0 0 := ⟨_, rfl⟩
  rw [← hR]
  have hn2 : n ≤ 2100000 := by have := len_wt cs; omega
  have HT0 := Lib.hid (show CasesFrom w0 a n 0 cs ∧ isN.isC cs = true ∧ wt cs ≤ 2100000 ∧ caseGo K ⟨c, s⟩ (keysT cs) 0 0 0 = R from ⟨hfr, hc, hw, hR.symm⟩)
  have HB0 := Lib.hid hb0; have HADD := Lib.hid hadd; have HKD := Lib.hid hkind; have HMW := Lib.hid hm
  obtain ⟨W4, hW4, k0, k1, k2, k3, hB4, hz4⟩ := four_boxes w (Obj.cells #[.int .i64 k, .string ⟨x.toArray⟩, .int .i64 f, .slice a n cp] 60) (Obj.cells #[.string ⟨z.toArray⟩, .string ⟨o.toArray⟩, .string ⟨t1.toArray⟩, .string ⟨f1.toArray⟩, .string ⟨m.toArray⟩] 41) (Obj.cells #[.int .i64 c, .int .i64 s] 51) (Obj.cells #[.int .i64 0, .int .i64 0] 51)
  have HW4 := Lib.hid hW4; have K0 := Lib.hid k0; have K1 := Lib.hid k1; have K2 := Lib.hid k2; have K3 := Lib.hid k3; have HB4 := Lib.hid hB4
  clear hs hc hw hset hd hL0 hm hx hp hb0 hfr hR hn hc1 hc2 hadd hkind hK hW4 k0 k1 k2 k3 hB4
  unfold setV dcV at *
  go_enter Tryz.func43, Tryz.ntmps43
  go_upto_region 1 with fail
  rw [← HW4.out]
  have y0 := block_cell (i := 2) K0.out rfl
  have y2 := block_cell (i := 0) K2.out rfl
  have y3 := block_cell (i := 1) K2.out rfl
  go_wp2_with fail
  refine (HADD.out W4).mono ?_
  rintro e w5 ⟨rfl, hb5⟩
  have HB5 := Lib.hid (HB4.out.trans (hb5.mono HB4.out.size))
  have k0 := (hb5.block _ (by omega)).trans K0.out
  have k1 := (hb5.block _ (by omega)).trans K1.out
  have k2 := (hb5.block _ (by omega)).trans K2.out
  have k3 := (hb5.block _ (by omega)).trans K3.out
  have hz5 : w.heap.size + 4 ≤ w5.heap.size := by have := hb5.size; omega
  clear hb5 y0 y2 y3 K0 K1 K2 K3 HW4 HADD HB4 hz4
  have hba := (RowKit.Below.refl w5.heap.size w5).alloc (Nat.le_refl _) (Obj.cells #[.int .i64 c', .int .i64 s] 51)
  have k4 := Go.heap_alloc_new w5 (Obj.cells #[.int .i64 c', .int .i64 s] 51)
  obtain ⟨w6, hw6⟩ : ∃ w6, w6 = w5.alloc (Obj.cells #[.int .i64 c', .int .i64 s] 51) := ⟨_, rfl⟩
  have HW6 := Lib.hid hw6
  rw [← hw6] at hba k4
  have K0 := Lib.hid ((hba.block _ (by omega)).trans k0)
  have K1 := Lib.hid ((hba.block _ (by omega)).trans k1)
  have K2 := Lib.hid ((hba.block _ (by omega)).trans k2)
  have K3 := Lib.hid ((hba.block _ (by omega)).trans k3)
  have K4 := Lib.hid k4
  have HB6 := Lib.hid (HB5.out.trans (hba.mono HB5.out.size))
  obtain ⟨mb, hmb⟩ : ∃ mb, mb = w5.heap.size := ⟨_, rfl⟩
  have HMB := Lib.hid hmb
  have hs6 : mb < w6.heap.size := by rw [hmb]; exact (Array.getElem?_eq_some_iff.1 k4).1
  rw [← hmb] at K4 hz5
  clear hba k4 k0 k1 k2 k3 hw6 HB5 hmb
  go_upto_if 29 with fail
  rw [← HMB.out, ← HW6.out]
  have K4' := K4.out
  have u0 : w6.cell? ⟨w.heap.size + 1, 0, none⟩ = some (.string ⟨z.toArray⟩) := block_cell K1.out rfl
  have u1 : w6.cell? ⟨w.heap.size + 1, 1, none⟩ = some (.string ⟨o.toArray⟩) := block_cell K1.out rfl
  have u2 : w6.cell? ⟨w.heap.size + 1, 2, none⟩ = some (.string ⟨t1.toArray⟩) := block_cell K1.out rfl
  have u3 : w6.cell? ⟨w.heap.size + 1, 3, none⟩ = some (.string ⟨f1.toArray⟩) := block_cell K1.out rfl
  have u4 : w6.cell? ⟨w.heap.size + 1, 4, none⟩ = some (.string ⟨m.toArray⟩) := block_cell K1.out rfl
  have u5 : w6.cell? ⟨mb, 0, none⟩ = some (.int .i64 c') := block_cell K4.out rfl
  have u6 : w6.cell? ⟨mb, 1, none⟩ = some (.int .i64 s) := block_cell K4.out rfl
  clear K4' HMB HW6
  go_wp2_with fail
  refine (HKD.out w6 HB6.out).mono ?_
  rintro e w7 ⟨rfl, hb7⟩
  have HB7 := Lib.hid (HB6.out.trans (hb7.mono HB6.out.size))
  have k0 := (hb7.block _ (by omega)).trans K0.out
  have k2 := (hb7.block _ (by omega)).trans K2.out
  have k3 := (hb7.block _ (by omega)).trans K3.out
  have k4 := (hb7.block _ hs6).trans K4.out
  have hz7 : mb < w7.heap.size := Nat.lt_of_lt_of_le hs6 hb7.size
  clear hb7 u0 u1 u2 u3 u4 u5 u6 K0 K1 K2 K3 K4 HKD HB6 hs6
  have u0 : w7.cell? ⟨w.heap.size, 3, none⟩ = some (.slice a n cp) := block_cell k0 rfl
  have K2 := Lib.hid k2; have K3 := Lib.hid k3; have K4 := Lib.hid k4
  clear k0 k2 k3 k4
  go_wp2_with fail
  obtain ⟨wo, hwo⟩ : ∃ wo : World, wo = w7 := ⟨_, rfl⟩
  have HO7 := Lib.hid (show RowKit.Below w7.heap.size w7 wo by rw [hwo]; exact RowKit.Below.refl _ _)
  have HB7' := Lib.hid HB7.out
  rw [← hwo] at u0 ⊢
  clear hwo u0
  go_loopw [45, 12, 13] (fun j b r wr => ∃ (j' b' r' : Nat) (t' : T), j' ≤ n ∧ j = .int .i64 j' ∧ b = .int .i64 b' ∧ r = .int .i64 r' ∧ r' ≤ 3 ∧ Hid (CasesFrom w0 a n j' t' ∧ isN.isC t' = true ∧ wt t' ≤ 2100000 ∧ caseGo K ⟨c, s⟩ (keysT t') j' b' r' = R) ∧ Hid (RowKit.Below w7.heap.size w7 wr)) (fun j _ _ _ => n - (intOf j).toNat)
  case atStart => exact ⟨0, 0, 0, cs, Nat.zero_le _, rfl, rfl, rfl, by omega, HT0, HO7⟩
  case round =>
    clear HT0 HO7
    obtain ⟨j, b, r, t', hj, rfl, rfl, rfl, hr3, HT, HB⟩ := hrel
    by_cases hlt : j < n
    · obtain ⟨g1, g2, g3, g4⟩ := HT.out
      obtain ⟨key, body, nx, b2, o2, v2, rfl, rfl, p0, p1, hsv2, hnext2⟩ := casesFrom_next g1 hlt g2
      obtain ⟨va, vn, vcap, rfl⟩ := hsv2.form
      have hBw := HB7.out.trans (HB.out.mono HB7.out.size)
      have kc := keepCells (HB0.out.trans (hBw.mono HB0.out.size))
      have r0 := kc _ _ _ p0; have r1 := kc _ _ _ p1
      obtain ⟨hnb, hnn2⟩ := isC_case g2
      have hkl : key.length ≤ 2100000 := by simp only [wt] at g3; omega
      have hwn : wt nx ≤ 2100000 := by simp only [wt] at g3; omega
      have HC := Lib.hid (show (if r < rankD K ⟨c, s⟩ key then caseGo K ⟨c, s⟩ (keysT nx) (j + 1) j (rankD K ⟨c, s⟩ key) else caseGo K ⟨c, s⟩ (keysT nx) (j + 1) b r) = R from g4)
      have HNX := Lib.hid (show CasesFrom w0 (some ⟨b2, o2, none⟩) n (j + 1) nx ∧ isN.isC nx = true ∧ wt nx ≤ 2100000 from ⟨hnext2, hnn2, hwn⟩)
      have hba := (RowKit.Below.refl wr.heap.size wr).alloc (Nat.le_refl _) (Obj.cells #[.string ⟨key.toArray⟩, .slice va vn vcap] 62)
      have hka := Go.heap_alloc_new wr (Obj.cells #[.string ⟨key.toArray⟩, .slice va vn vcap] 62)
      obtain ⟨wa, hwa⟩ : ∃ wa, wa = wr.alloc (Obj.cells #[.string ⟨key.toArray⟩, .slice va vn vcap] 62) := ⟨_, rfl⟩
      rw [← hwa] at hba hka
      have HWA := Lib.hid hwa
      obtain ⟨xb, hxb⟩ : ∃ xb, xb = wr.heap.size := ⟨_, rfl⟩
      have HXB := Lib.hid hxb
      rw [← hxb] at hka
      have HKA := Lib.hid hka
      have HBa := Lib.hid (HB.out.trans (hba.mono HB.out.size))
      have HEX := Lib.hid (Exact_any key wa hkl (HMW.out.below (hBw.trans (hba.mono hBw.size))))
      have hxs : xb < wa.heap.size := (Array.getElem?_eq_some_iff.1 hka).1
      clear g1 g2 g3 g4 p0 p1 hsv2 hnext2 hnb hnn2 kc HT hkl hwn hba hka hwa hxb hBw
      go_upto_region 11 with fail
      rw [← HXB.out, ← HWA.out]
      have q0 : wa.cell? ⟨xb, 0, none⟩ = some (.string ⟨key.toArray⟩) := block_cell HKA.out rfl
      clear HXB HWA r0 r1
      go_wp2_with fail
      refine HEX.out.mono ?_
      rintro e wb ⟨rfl, hbb⟩
      have q0 := keepCells hbb _ _ _ q0
      have HBb := Lib.hid (HBa.out.trans (hbb.mono HBa.out.size))
      have q1 : wb.cell? ⟨w.heap.size + 2, 0, none⟩ = some (.int .i64 c) := keepCells HBb.out _ _ _ (block_cell K2.out rfl)
      have q2 : wb.cell? ⟨w.heap.size + 2, 1, none⟩ = some (.int .i64 s) := keepCells HBb.out _ _ _ (block_cell K2.out rfl)
      clear hbb HEX HBa HKA hxs
      by_cases h0 : 0 ≤ exactN key
      · obtain ⟨nn, hnn, hle⟩ := exact_lt key h0
        have HSM := Lib.hid (fun W => same_num ⟨c, s⟩ nn W hle)
        unfold dcV at HSM
        have HNN := Lib.hid hnn
        rw [hnn, show decide ((0 : Int) ≤ (nn : Int)) = true by simp]
        clear hnn hle
        go_wp2_with fail
        refine (HSM.out wb).mono ?_
        rintro e wd ⟨rfl, hbd⟩
        have HBd := Lib.hid (HBb.out.trans (hbd.mono HBb.out.size))
        have q0 := keepCells hbd _ _ _ q0
        clear hbd HSM q1 q2
        cases hsm : sameD ⟨c, s⟩ nn with
        | true =>
          have HRK := Lib.hid (show rankD K ⟨c, s⟩ key = 3 by unfold rankD; rw [HNN.out, hsm]; simp)
          clear hsm h0 HNN
          by_cases hq : r < 3
          · have HN := Lib.hid (show CasesFrom w0 (some ⟨b2, o2, none⟩) n (j + 1) nx ∧ isN.isC nx = true ∧ wt nx ≤ 2100000 ∧ caseGo K ⟨c, s⟩ (keysT nx) (j + 1) j 3 = R from ⟨HNX.out.1, HNX.out.2.1, HNX.out.2.2, by have := HC.out; rw [HRK.out, if_pos hq] at this; exact this⟩)
            have hqi : (r : Int) < 3 := by omega
            clear HNX HC HRK
            go_wp2_with fail
            go_roundw
            case rel => exact ⟨j + 1, j, 3, nx, by omega, by go_num, rfl, rfl, by omega, HN, HBd⟩
            case measure => simp [intOf]; omega
          · have HN := Lib.hid (show CasesFrom w0 (some ⟨b2, o2, none⟩) n (j + 1) nx ∧ isN.isC nx = true ∧ wt nx ≤ 2100000 ∧ caseGo K ⟨c, s⟩ (keysT nx) (j + 1) b r = R from ⟨HNX.out.1, HNX.out.2.1, HNX.out.2.2, by have := HC.out; rw [HRK.out, if_neg hq] at this; exact this⟩)
            have hqi : ¬ (r : Int) < 3 := by omega
            clear HNX HC HRK
            go_wp2_with fail
            go_roundw
            case rel => exact ⟨j + 1, b, r, nx, by omega, by go_num, rfl, rfl, by omega, HN, HBd⟩
            case measure => simp [intOf]; omega
        | false =>
          have HNA := Lib.hid (show (decide (0 ≤ exactN key) && sameD ⟨c, s⟩ (exactN key)) = false by rw [HNN.out, hsm]; simp)
          clear hsm h0 HNN
          by_cases hkk : key = K
          · have hb1 : (key == K) = true := by simpa using hkk
            have HRK := Lib.hid (show rankD K ⟨c, s⟩ key = 2 by unfold rankD; rw [if_neg (by rw [HNA.out]; decide), if_pos hkk])
            clear hkk HNA
            by_cases hq : r < 2
            · have HN := Lib.hid (show CasesFrom w0 (some ⟨b2, o2, none⟩) n (j + 1) nx ∧ isN.isC nx = true ∧ wt nx ≤ 2100000 ∧ caseGo K ⟨c, s⟩ (keysT nx) (j + 1) j 2 = R from ⟨HNX.out.1, HNX.out.2.1, HNX.out.2.2, by have := HC.out; rw [HRK.out, if_pos hq] at this; exact this⟩)
              have hqi : (r : Int) < 2 := by omega
              clear HNX HC HRK
              go_wp2_with fail
              go_roundw
              case rel => exact ⟨j + 1, j, 2, nx, by omega, by go_num, rfl, rfl, by omega, HN, HBd⟩
              case measure => simp [intOf]; omega
            · have HN := Lib.hid (show CasesFrom w0 (some ⟨b2, o2, none⟩) n (j + 1) nx ∧ isN.isC nx = true ∧ wt nx ≤ 2100000 ∧ caseGo K ⟨c, s⟩ (keysT nx) (j + 1) b r = R from ⟨HNX.out.1, HNX.out.2.1, HNX.out.2.2, by have := HC.out; rw [HRK.out, if_neg hq] at this; exact this⟩)
              have hqi : ¬ (r : Int) < 2 := by omega
              clear HNX HC HRK
              go_wp2_with fail
              go_roundw
              case rel => exact ⟨j + 1, b, r, nx, by omega, by go_num, rfl, rfl, by omega, HN, HBd⟩
              case measure => simp [intOf]; omega
          · have hb1 : (key == K) = false := by simpa using hkk
            by_cases hko : key = otherK
            · have hb2 : (key == [111, 116, 104, 101, 114]) = true := by rw [hko]; rfl
              have HRK := Lib.hid (show rankD K ⟨c, s⟩ key = 1 by unfold rankD; rw [if_neg (by rw [HNA.out]; decide), if_neg hkk, if_pos hko])
              clear hkk hko HNA
              by_cases hq : r < 1
              · have HN := Lib.hid (show CasesFrom w0 (some ⟨b2, o2, none⟩) n (j + 1) nx ∧ isN.isC nx = true ∧ wt nx ≤ 2100000 ∧ caseGo K ⟨c, s⟩ (keysT nx) (j + 1) j 1 = R from ⟨HNX.out.1, HNX.out.2.1, HNX.out.2.2, by have := HC.out; rw [HRK.out, if_pos hq] at this; exact this⟩)
                have hqi : (r : Int) < 1 := by omega
                clear HNX HC HRK
                go_wp2_with fail
                go_roundw
                case rel => exact ⟨j + 1, j, 1, nx, by omega, by go_num, rfl, rfl, by omega, HN, HBd⟩
                case measure => simp [intOf]; omega
              · have HN := Lib.hid (show CasesFrom w0 (some ⟨b2, o2, none⟩) n (j + 1) nx ∧ isN.isC nx = true ∧ wt nx ≤ 2100000 ∧ caseGo K ⟨c, s⟩ (keysT nx) (j + 1) b r = R from ⟨HNX.out.1, HNX.out.2.1, HNX.out.2.2, by have := HC.out; rw [HRK.out, if_neg hq] at this; exact this⟩)
                have hqi : ¬ (r : Int) < 1 := by omega
                clear HNX HC HRK
                go_wp2_with fail
                go_roundw
                case rel => exact ⟨j + 1, b, r, nx, by omega, by go_num, rfl, rfl, by omega, HN, HBd⟩
                case measure => simp [intOf]; omega
            · have hb2 : (key == [111, 116, 104, 101, 114]) = false := by rw [beq_eq_false_iff_ne]; exact hko
              have HRK := Lib.hid (show rankD K ⟨c, s⟩ key = 0 by unfold rankD; rw [if_neg (by rw [HNA.out]; decide), if_neg hkk, if_neg hko])
              clear hkk hko HNA
              have hqi : ¬ (r : Int) < 0 := by omega
              have HN := Lib.hid (show CasesFrom w0 (some ⟨b2, o2, none⟩) n (j + 1) nx ∧ isN.isC nx = true ∧ wt nx ≤ 2100000 ∧ caseGo K ⟨c, s⟩ (keysT nx) (j + 1) b r = R from ⟨HNX.out.1, HNX.out.2.1, HNX.out.2.2, by have := HC.out; rw [HRK.out, if_neg (by omega)] at this; exact this⟩)
              clear HNX HC HRK
              go_wp2_with fail
              go_roundw
              case rel => exact ⟨j + 1, b, r, nx, by omega, by go_num, rfl, rfl, by omega, HN, HBd⟩
              case measure => simp [intOf]; omega
      · have HNA := Lib.hid (show (decide (0 ≤ exactN key) && sameD ⟨c, s⟩ (exactN key)) = false by simp [h0])
        rw [show decide (0 ≤ exactN key) = false by simp [h0]]
        clear h0
        by_cases hkk : key = K
        · have hb1 : (key == K) = true := by simpa using hkk
          have HRK := Lib.hid (show rankD K ⟨c, s⟩ key = 2 by unfold rankD; rw [if_neg (by rw [HNA.out]; decide), if_pos hkk])
          clear hkk HNA
          by_cases hq : r < 2
          · have HN := Lib.hid (show CasesFrom w0 (some ⟨b2, o2, none⟩) n (j + 1) nx ∧ isN.isC nx = true ∧ wt nx ≤ 2100000 ∧ caseGo K ⟨c, s⟩ (keysT nx) (j + 1) j 2 = R from ⟨HNX.out.1, HNX.out.2.1, HNX.out.2.2, by have := HC.out; rw [HRK.out, if_pos hq] at this; exact this⟩)
            have hqi : (r : Int) < 2 := by omega
            clear HNX HC HRK
            go_wp2_with fail
            go_roundw
            case rel => exact ⟨j + 1, j, 2, nx, by omega, by go_num, rfl, rfl, by omega, HN, HBb⟩
            case measure => simp [intOf]; omega
          · have HN := Lib.hid (show CasesFrom w0 (some ⟨b2, o2, none⟩) n (j + 1) nx ∧ isN.isC nx = true ∧ wt nx ≤ 2100000 ∧ caseGo K ⟨c, s⟩ (keysT nx) (j + 1) b r = R from ⟨HNX.out.1, HNX.out.2.1, HNX.out.2.2, by have := HC.out; rw [HRK.out, if_neg hq] at this; exact this⟩)
            have hqi : ¬ (r : Int) < 2 := by omega
            clear HNX HC HRK
            go_wp2_with fail
            go_roundw
            case rel => exact ⟨j + 1, b, r, nx, by omega, by go_num, rfl, rfl, by omega, HN, HBb⟩
            case measure => simp [intOf]; omega
        · have hb1 : (key == K) = false := by simpa using hkk
          by_cases hko : key = otherK
          · have hb2 : (key == [111, 116, 104, 101, 114]) = true := by rw [hko]; rfl
            have HRK := Lib.hid (show rankD K ⟨c, s⟩ key = 1 by unfold rankD; rw [if_neg (by rw [HNA.out]; decide), if_neg hkk, if_pos hko])
            clear hkk hko HNA
            by_cases hq : r < 1
            · have HN := Lib.hid (show CasesFrom w0 (some ⟨b2, o2, none⟩) n (j + 1) nx ∧ isN.isC nx = true ∧ wt nx ≤ 2100000 ∧ caseGo K ⟨c, s⟩ (keysT nx) (j + 1) j 1 = R from ⟨HNX.out.1, HNX.out.2.1, HNX.out.2.2, by have := HC.out; rw [HRK.out, if_pos hq] at this; exact this⟩)
              have hqi : (r : Int) < 1 := by omega
              clear HNX HC HRK
              go_wp2_with fail
              go_roundw
              case rel => exact ⟨j + 1, j, 1, nx, by omega, by go_num, rfl, rfl, by omega, HN, HBb⟩
              case measure => simp [intOf]; omega
            · have HN := Lib.hid (show CasesFrom w0 (some ⟨b2, o2, none⟩) n (j + 1) nx ∧ isN.isC nx = true ∧ wt nx ≤ 2100000 ∧ caseGo K ⟨c, s⟩ (keysT nx) (j + 1) b r = R from ⟨HNX.out.1, HNX.out.2.1, HNX.out.2.2, by have := HC.out; rw [HRK.out, if_neg hq] at this; exact this⟩)
              have hqi : ¬ (r : Int) < 1 := by omega
              clear HNX HC HRK
              go_wp2_with fail
              go_roundw
              case rel => exact ⟨j + 1, b, r, nx, by omega, by go_num, rfl, rfl, by omega, HN, HBb⟩
              case measure => simp [intOf]; omega
          · have hb2 : (key == [111, 116, 104, 101, 114]) = false := by rw [beq_eq_false_iff_ne]; exact hko
            have HRK := Lib.hid (show rankD K ⟨c, s⟩ key = 0 by unfold rankD; rw [if_neg (by rw [HNA.out]; decide), if_neg hkk, if_neg hko])
            clear hkk hko HNA
            have hqi : ¬ (r : Int) < 0 := by omega
            have HN := Lib.hid (show CasesFrom w0 (some ⟨b2, o2, none⟩) n (j + 1) nx ∧ isN.isC nx = true ∧ wt nx ≤ 2100000 ∧ caseGo K ⟨c, s⟩ (keysT nx) (j + 1) b r = R from ⟨HNX.out.1, HNX.out.2.1, HNX.out.2.2, by have := HC.out; rw [HRK.out, if_neg (by omega)] at this; exact this⟩)
            clear HNX HC HRK
            go_wp2_with fail
            go_roundw
            case rel => exact ⟨j + 1, b, r, nx, by omega, by go_num, rfl, rfl, by omega, HN, HBb⟩
            case measure => simp [intOf]; omega
    · obtain rfl : j = n := by omega
      obtain ⟨g1, _, _, g4⟩ := HT.out
      have hnil := casesFrom_end g1
      subst hnil
      have HR := Lib.hid (show b = R from g4)
      clear g1 g4 HT
      have z0 : wr.cell? ⟨mb, 0, none⟩ = some (.int .i64 c') := keepCells HB.out _ _ _ (block_cell K4.out rfl)
      have z1 : wr.cell? ⟨mb, 1, none⟩ = some (.int .i64 s) := keepCells HB.out _ _ _ (block_cell K4.out rfl)
      have k3 : wr.heap[w.heap.size + 1 + 1 + 1]? = _ := (HB.out.block _ (Array.getElem?_eq_some_iff.1 K3.out).1).trans K3.out
      have fz0 : wr.frozen? ⟨w.heap.size + 1 + 1 + 1, 0, none⟩ = false := by simp [World.frozen?, k3]
      have fz1 : wr.frozen? ⟨w.heap.size + 1 + 1 + 1, 1, none⟩ = false := by simp [World.frozen?, k3]
      have e0 : wr.cell? ⟨w.heap.size + 1 + 1 + 1, 0, none⟩ = some (.int .i64 0) := block_cell k3 rfl
      have e1 : wr.cell? ⟨w.heap.size + 1 + 1 + 1, 1, none⟩ = some (.int .i64 0) := block_cell k3 rfl
      have k5 := Joins.block_setCell (i := 1) (Joins.block_setCell (i := 0) k3 (.int .i64 c')) (.int .i64 s)
      have hB1 := ((HB7.out.trans (HB.out.mono HB7.out.size)).setCell (p := ⟨w.heap.size + 1 + 1 + 1, 0, none⟩) (by show w.heap.size ≤ w.heap.size + 1 + 1 + 1; omega) (.int .i64 c')).setCell (p := ⟨w.heap.size + 1 + 1 + 1, 1, none⟩) (by show w.heap.size ≤ w.heap.size + 1 + 1 + 1; omega) (.int .i64 s)
      have K5 := Lib.hid k5; have HB1 := Lib.hid hB1
      have hne : mb ≠ w.heap.size + 1 + 1 + 1 := by omega
      have zz0 : (wr.setCell ⟨w.heap.size + 1 + 1 + 1, 0, none⟩ (.int .i64 c')).cell? ⟨mb, 1, none⟩ = some (.int .i64 s) := far_cell (b := mb) (cb := w.heap.size + 1 + 1 + 1) hne _ _ z1
      clear k3 k5 hB1
      go_wp2_with fail
      go_region
      go_wp2_with fail
      clear fz0 fz1 e0 e1 z0 z1 zz0
      generalize (wr.setCell ⟨w.heap.size + 1 + 1 + 1, 0, none⟩ (.int .i64 c')).setCell ⟨w.heap.size + 1 + 1 + 1, 1, none⟩ (.int .i64 s) = W9 at *
      have y0 : W9.cell? ⟨w.heap.size + 1 + 1 + 1, 0, none⟩ = some (.int .i64 c') := block_cell K5.out rfl
      have y1 : W9.cell? ⟨w.heap.size + 1 + 1 + 1, 1, none⟩ = some (.int .i64 s) := block_cell K5.out rfl
      refine bodyPost_ret (v := .tuple #[.int .i64 b, .agg #[.int .i64 c', .int .i64 s], .nilIface]) (by simp [results, Tryz.results43, go_sem, y0, y1]) rfl ⟨by rw [HR.out], HB1.out.drew⟩
theorem lessD_err (d : Dc) (f : Int) (h : (lessD d f).2 ≠ 0) : (lessD d f).1 = ⟨0, 0⟩ := by
  unfold lessD at h ⊢
  split at h
  · next hc => rw [if_pos hc]
  · next hc =>
    rw [if_neg hc]
    split at h
    · next h2 => rw [if_pos h2]
    · exact absurd rfl h
set_option maxRecDepth 100000 in
set_option maxHeartbeats 4000000 in
theorem case_err (k f : Int) (x : List UInt8) (a : Option Addr) (n cp : Nat) (z o t1 f1 m : List UInt8) (c : Int) (s : Nat) (w : World) (hd : decBad ⟨c, s⟩ = false) (hf : 0 ≤ f ∧ f ≤ 9) (hL0 : (lessD ⟨c, s⟩ f).2 ≠ 0) :
    Calls Tryz.prog 43 #[.agg #[.int .i64 k, .string ⟨x.toArray⟩, .int .i64 f, .slice a n cp], setV z o t1 f1 m, dcV ⟨c, s⟩] w fun e w' => e = .returned (.tuple #[.int .i64 0, dcV ⟨0, 0⟩, errVal (lessD ⟨c, s⟩ f).2]) ∧ RowKit.Below w.heap.size w w' := by
  have hadd := fun W => dadd_ok c s f W hd hf
  rw [lessD_err _ _ hL0, errVal_no hL0] at hadd
  rw [errVal_no hL0]
  generalize (lessD ⟨c, s⟩ f).2 = q at *
  have HADD := Lib.hid hadd
  obtain ⟨W4, hW4, k0, k1, k2, k3, hB4, hz4⟩ := four_boxes w (Obj.cells #[.int .i64 k, .string ⟨x.toArray⟩, .int .i64 f, .slice a n cp] 60) (Obj.cells #[.string ⟨z.toArray⟩, .string ⟨o.toArray⟩, .string ⟨t1.toArray⟩, .string ⟨f1.toArray⟩, .string ⟨m.toArray⟩] 41) (Obj.cells #[.int .i64 c, .int .i64 s] 51) (Obj.cells #[.int .i64 0, .int .i64 0] 51)
  have HW4 := Lib.hid hW4; have K0 := Lib.hid k0; have K2 := Lib.hid k2; have K3 := Lib.hid k3; have HB4 := Lib.hid hB4
  clear hadd hW4 k0 k1 k2 k3 hB4 hd hL0
  unfold setV dcV at *
  go_enter Tryz.func43, Tryz.ntmps43
  go_upto_region 1 with fail
  rw [← HW4.out]
  have y0 : W4.cell? ⟨w.heap.size, 2, none⟩ = some (.int .i64 f) := block_cell K0.out rfl
  have y2 : W4.cell? ⟨w.heap.size + 2, 0, none⟩ = some (.int .i64 c) := block_cell K2.out rfl
  have y3 : W4.cell? ⟨w.heap.size + 2, 1, none⟩ = some (.int .i64 s) := block_cell K2.out rfl
  go_wp2_with fail
  refine (HADD.out W4).mono ?_
  rintro e w5 ⟨rfl, hb5⟩
  have HB5 := Lib.hid (HB4.out.trans (hb5.mono HB4.out.size))
  have k3 := (hb5.block _ (by omega)).trans K3.out
  have hz5 : w.heap.size + 4 ≤ w5.heap.size := by have := hb5.size; omega
  clear hb5 y0 y2 y3 K0 K2 K3 HW4 HADD HB4 hz4
  have hba := (RowKit.Below.refl w5.heap.size w5).alloc (Nat.le_refl _) (Obj.cells #[.int .i64 0, .int .i64 0] 51)
  obtain ⟨w6, hw6⟩ : ∃ w6, w6 = w5.alloc (Obj.cells #[.int .i64 0, .int .i64 0] 51) := ⟨_, rfl⟩
  have HW6 := Lib.hid hw6
  rw [← hw6] at hba
  have k3 : w6.heap[w.heap.size + 1 + 1 + 1]? = some (Obj.cells #[.int .i64 0, .int .i64 0] 51) := (hba.block _ (by omega)).trans k3
  have HB6 := Lib.hid (HB5.out.trans (hba.mono HB5.out.size))
  clear hba hw6 HB5
  go_upto_if 29 with fail
  rw [← HW6.out]
  have fz0 : w6.frozen? ⟨w.heap.size + 1 + 1 + 1, 0, none⟩ = false := by simp [World.frozen?, k3]
  have fz1 : w6.frozen? ⟨w.heap.size + 1 + 1 + 1, 1, none⟩ = false := by simp [World.frozen?, k3]
  have e0 : w6.cell? ⟨w.heap.size + 1 + 1 + 1, 0, none⟩ = some (.int .i64 0) := block_cell k3 rfl
  have e1 : w6.cell? ⟨w.heap.size + 1 + 1 + 1, 1, none⟩ = some (.int .i64 0) := block_cell k3 rfl
  have K5 := Lib.hid (Joins.block_setCell (i := 1) (Joins.block_setCell (i := 0) k3 (.int .i64 0)) (.int .i64 0))
  have HB1 := Lib.hid ((HB6.out.setCell (p := ⟨w.heap.size + 1 + 1 + 1, 0, none⟩) (by show w.heap.size ≤ w.heap.size + 1 + 1 + 1; omega) (.int .i64 0)).setCell (p := ⟨w.heap.size + 1 + 1 + 1, 1, none⟩) (by show w.heap.size ≤ w.heap.size + 1 + 1 + 1; omega) (.int .i64 0))
  clear HW6 k3
  go_wp2_with fail
  clear fz0 fz1 e0 e1
  generalize (w6.setCell ⟨w.heap.size + 1 + 1 + 1, 0, none⟩ (.int .i64 0)).setCell ⟨w.heap.size + 1 + 1 + 1, 1, none⟩ (.int .i64 0) = W9 at *
  have y0 : W9.cell? ⟨w.heap.size + 1 + 1 + 1, 0, none⟩ = some (.int .i64 0) := block_cell K5.out rfl
  have y1 : W9.cell? ⟨w.heap.size + 1 + 1 + 1, 1, none⟩ = some (.int .i64 0) := block_cell K5.out rfl
  refine bodyPost_ret (v := .tuple #[.int .i64 0, .agg #[.int .i64 0, .int .i64 0], .iface 56 (.int .i64 q)]) (by simp [results, Tryz.results43, go_sem, y0, y1]) rfl ⟨rfl, HB1.out⟩
end Go.Proofs.YtnefcilopgcdpaaGreatDoor
