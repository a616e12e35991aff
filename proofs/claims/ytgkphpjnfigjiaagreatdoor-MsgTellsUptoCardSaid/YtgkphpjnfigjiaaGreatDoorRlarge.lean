/-
  The reference's Large: how many nodes a message has, and whether they are too many or one is too deep: as the program's size.
-/
import Derived.Test.YtgkphpjnfigjiaaGreatDoorSize
namespace Go.Proofs.YtgkphpjnfigjiaaGreatDoor
open Go.RowKit Ms

def LargeIH (N : Nat) : Prop := ∀ (t : T) (v : Value) (d : Nat) (w : World), sz t < N → isN t = true → wt t ≤ 2000000 → d ≤ 6 → SV w v t → Calls Tryz.prog 27 #[v, .int .i64 d] w (SizeOut t d w)
theorem len_isN {t : T} (hn : isN t = true) (h : len t = 0) : t = .nil := by
  cases t with
  | nil => rfl
  | node _ _ _ _ _ => simp [len] at h
  | case _ _ _ => cases hn
set_option maxHeartbeats 4000000 in
set_option maxRecDepth 100000 in
theorem large_step (N : Nat) (IH : LargeIH N) (t : T) (v : Value) (d : Nat) (w : World) (hz : sz t ≤ N) (hn : isN t = true) (hw : wt t ≤ 2000000) (hd : d ≤ 6) (hs : SV w v t) :
    Calls Tryz.prog 27 #[v, .int .i64 d] w (SizeOut t d w) := by
  obtain ⟨a, n, c, rfl, hnl, hfr⟩ := nodesFrom_start hs
  have hlw := len_wt t
  have hn2 : n ≤ 2000000 := by omega
  by_cases hn0 : n = 0
  · subst hn0
    have ht : t = .nil := len_isN hn hnl.symm
    subst ht
    have HBg := Lib.hid (big_nil d)
    clear hfr hs IH
    go_enter Tryz.func27, Tryz.ntmps27
    go_wp2_with fail
    go_ret2
    exact ⟨⟨0, by rw [HBg.out]; rfl, Nat.le_refl _, fun _ => rfl⟩, Below.refl _ _⟩
  · by_cases hd6 : d = 6
    · have hbg : Hid (big t d = true) := big_deep hn (by omega) (by omega)
      subst hd6
      clear hfr hs IH hnl hlw
      go_enter Tryz.func27, Tryz.ntmps27
      go_wp2_with fail
      go_ret2
      exact ⟨⟨0, by rw [hbg.out]; rfl, Nat.zero_le _, fun h => by rw [hbg.out] at h; cases h⟩, Below.refl _ _⟩
    · have hd5 : d ≤ 5 := by omega
      have hcw : cnt t ≤ 2000000 := Nat.le_trans (cnt_wt t) hw
      have hnc : n ≤ cnt t := by have := len_cnt t hn; omega
      have HIH := Lib.hid IH; have HN := Lib.hid hn; have HF := Lib.hid hfr; have HZ := Lib.hid hz; have HW := Lib.hid hw; have HLc := Lib.hid (len_cnt t hn)
      have hn0b : ((n : Int) == 0) = false := beq_eq_false_iff_ne.2 (by omega)
      have hd6b : decide ((6 : Int) ≤ (d : Int)) = false := decide_eq_false (by omega)
      clear IH hn hfr hz hw hs hlw hnl hd6 hd
      go_enter Tryz.func27, Tryz.ntmps27
      go_wp2_with fail
      go_loopw [6, 7] (fun m i wr => ∃ (i' c' : Nat) (t' : T), i' ≤ n ∧ i = .int .i64 i' ∧ m = .int .i64 c' ∧ c' ≤ 4000000 ∧ Hid (NodesFrom w a n i' t' ∧ isN t' = true ∧ sz t' ≤ sz t ∧ wt t' ≤ wt t ∧ c' + cnt t' = cnt t + (n - i') ∧ deepB t d = deepB t' d ∧ n - i' ≤ cnt t') ∧ Hid (Below w.heap.size w wr)) (fun _ i _ => n - (RowKit.intOf i).toNat)
      case atStart => exact ⟨0, n, t, by omega, rfl, rfl, by omega, ⟨HF.out, HN.out, Nat.le_refl _, Nat.le_refl _, by omega, rfl, by omega⟩, Below.refl _ _⟩
      case round =>
        obtain ⟨i, c1, t', hin, rfl, rfl, hc1, HT, HB⟩ := hrel
        by_cases hlt : i < n
        · obtain ⟨hf1, hn1, hs1, hw1, hcc, hdd, _⟩ := HT.out
          obtain ⟨k, x, f, cs, nx, b, o, v, rfl, rfl, q0, q1, q2, q3, hsv, hnext⟩ := nodesFrom_next hf1 hlt hn1
          have kc := keepCells HB.out
          have k0 := kc _ _ _ q0; have k1 := kc _ _ _ q1; have k2 := kc _ _ _ q2; have k3 := kc _ _ _ q3
          obtain ⟨hncs, hnnx⟩ := isN_node hn1
          obtain ⟨cs', hcs'⟩ : ∃ cs' : T, cs' = if hasC k = true then cs else .nil := ⟨_, rfl⟩
          obtain ⟨vc, hvc⟩ : ∃ vc, vc = if hasC k = true then v else .slice none 0 0 := ⟨_, rfl⟩
          have HCa := Lib.hid (cases_val k f x v vc hvc)
          have hS2 := cases_sv hsv hvc
          rw [← hcs'] at hS2
          obtain ⟨a2, n2, c2, rfl, hl2, hfr2⟩ := casesFrom_start hS2
          rw [cnt_node] at hcc
          rw [deep_node5 hd5] at hdd
          have e1 : (if hasC k = true then cnt cs else 0) = cnt cs' := by rw [hcs']; split <;> rfl
          have e2 : (hasC k && deepB cs d) = deepB cs' d := by
            rw [hcs']
            cases hasC k <;> simp [deepB]
          rw [e1] at hcc
          rw [e2] at hdd
          have hcs2 : isN.isC cs' = true ∧ sz cs' ≤ sz cs ∧ wt cs' ≤ wt cs := by
            rw [hcs']; split
            · exact ⟨hncs, Nat.le_refl _, Nat.le_refl _⟩
            · exact ⟨rfl, by simp [sz], by cases cs <;> simp [wt] <;> omega⟩
          have hlnx : n - (i + 1) ≤ cnt nx := by
            have h1 := len_cnt nx hnnx
            rcases hnext with ⟨h2, h3⟩ | ⟨b', o', _, h2⟩
            · omega
            · have := Rd.len _ _ _ _ h2; omega
          have hn2b : n2 ≤ 2000000 := by have h2 := len_wt cs'; have h4 := HW.out; simp only [wt] at hw1; omega
          have HNX := Lib.hid hnext; have HNN := Lib.hid hnnx; have HC2 := Lib.hid hcs2; have HF2 := Lib.hid hfr2
          have HSZ := Lib.hid hs1; have HWT := Lib.hid hw1; have HCC := Lib.hid hcc; have HDD := Lib.hid hdd; have HLN := Lib.hid hlnx
          clear hf1 hn1 hs1 hw1 q0 q1 q2 q3 hsv hnext kc hncs hnnx hvc hS2 hl2 hfr2 HT hcs' hcs2 hcc hdd e1 e2 hlnx
          go_wp2_with fail
          refine (HCa.out _).mono ?_
          rintro e w3 ⟨rfl, hb3⟩
          have HB3 := Lib.hid (HB.out.trans (hb3.mono HB.out.size))
          clear hb3 k0 k1 k2 k3
          go_wp2_with fail
          go_loopw [6, 9] (fun m j wr => ∃ (j' c' : Nat) (t' : T), j' ≤ n2 ∧ j = .int .i64 j' ∧ m = .int .i64 c' ∧ c' ≤ 4000000 ∧ Hid (CasesFrom w a2 n2 j' t' ∧ isN.isC t' = true ∧ sz t' ≤ sz cs' ∧ wt t' ≤ wt cs' ∧ c' + cnt t' + cnt nx = cnt t + (n - (i + 1)) ∧ deepB t d = (deepB t' d || deepB nx d)) ∧ Hid (Below w.heap.size w wr)) (fun _ j _ => n2 - (RowKit.intOf j).toNat)
          case atStart => exact ⟨0, c1, cs', by omega, rfl, rfl, hc1, ⟨HF2.out, HC2.out.1, Nat.le_refl _, Nat.le_refl _, by have := HCC.out; omega, HDD.out⟩, HB3⟩
          case round =>
            obtain ⟨j, c3, t3, hj, rfl, rfl, hc3, HT3, HB4⟩ := hrel
            by_cases hlt2 : j < n2
            · obtain ⟨g1, g2, g3, g4, g5, g6⟩ := HT3.out
              obtain ⟨key, body, nx3, b2, o2, v3, rfl, rfl, p0, p1, hsv3, hnext3⟩ := casesFrom_next g1 hlt2 g2
              obtain ⟨va, vn, vcap, rfl⟩ : ∃ a n c, v3 = .slice a n c := by
                rcases hsv3 with ⟨⟨_, h⟩, _⟩ | ⟨b', o', n', c', h, _⟩
                · exact ⟨_, _, _, h⟩
                · exact ⟨_, _, _, h⟩
              have kc := keepCells HB4.out
              have k1 := kc _ _ _ p1
              obtain ⟨hnb, hncs2⟩ := isC_case g2
              have hbz : sz body < N := by have h1 := HZ.out; have h2 := HSZ.out; have h3 := HC2.out.2.1; simp only [sz] at h2 g3; omega
              have hbw : wt body ≤ 2000000 := by have h1 := HW.out; have h2 := HWT.out; have h3 := HC2.out.2.2; simp only [wt] at h2 g4; omega
              have hgz : sz nx3 ≤ sz cs' := by simp only [sz] at g3; omega
              have hgw : wt nx3 ≤ wt cs' := by simp only [wt] at g4; omega
              rw [show cnt (.case key body nx3) = cnt body + cnt nx3 from rfl] at g5
              rw [show deepB (.case key body nx3) d = (deepB body (d + 1) || deepB nx3 d) from rfl] at g6
              have HIC := Lib.hid (fun W (hB : Below w.heap.size w W) => HIH.out body (.slice va vn vcap) (d + 1) W hbz hnb hbw (by omega) (hsv3.below hB))
              have hcb := Nat.le_trans (cnt_wt body) hbw
              have G5 := Lib.hid g5; have G6 := Lib.hid g6
              have HNX3 : Hid (CasesFrom w (some ⟨b2, o2, none⟩) n2 (j + 1) nx3 ∧ isN.isC nx3 = true ∧ sz nx3 ≤ sz cs' ∧ wt nx3 ≤ wt cs') := ⟨hnext3, hncs2, hgz, hgw⟩
              clear g1 g2 g3 g4 g5 g6 p0 p1 hsv3 hnext3 kc hbz hbw hgz hgw hnb hncs2 HT3
              go_wp2_with fail
              refine (HIC.out _ HB4.out).mono ?_
              rintro e w6 ⟨⟨nn, rfl, hle, heq⟩, hb6⟩
              have HB6 := Lib.hid (HB4.out.trans (hb6.mono HB4.out.size))
              have hnn : nn ≤ 2000000 := by omega
              have Hle := Lib.hid hle
              clear hb6 k1
              cases hbg : big body (d + 1) with
              | true =>
                have hbt : big t d = true := by
                  unfold big at hbg
                  rw [Bool.or_eq_true] at hbg
                  have h1 := G6.out; have h2 := G5.out
                  rcases hbg with h | h
                  · exact big_of_deep (by rw [h1, h]; rfl)
                  · have h3 := of_decide_eq_true h
                    have h4 := HLN.out; have h6 := HLc.out
                    exact big_of_cnt (by omega)
                have hfin : c3 + nn ≤ cnt t := by
                  have h2 := G5.out; have h4 := HLN.out; have h6 := Hle.out
                  omega
                have HBT := Lib.hid hbt; have HFin := Lib.hid hfin
                clear hbg heq hbt hle hfin
                go_wp2_with fail
                go_ret2
                exact ⟨⟨c3 + nn, by rw [HBT.out]; rfl, HFin.out, fun h => by rw [HBT.out] at h; cases h⟩, HB6.out⟩
              | false =>
                have hnc2 : nn = cnt body := heq hbg
                have hbd : deepB body (d + 1) = false := by
                  unfold big at hbg
                  rw [Bool.or_eq_false_iff] at hbg; exact hbg.1
                have hfin : c3 + nn ≤ cnt t := by
                  have h2 := G5.out; have h4 := HLN.out; have h6 := Hle.out
                  omega
                have HNc := Lib.hid hnc2; have HBd := Lib.hid hbd; have HFin := Lib.hid hfin
                clear hbg heq hnc2 hbd hle
                by_cases h60 : 60 < c3 + nn
                · have HBT : Hid (big t d = true) := big_of_cnt (by have := HFin.out; omega)
                  go_wp2_with fail
                  go_ret2
                  exact ⟨⟨c3 + nn, by rw [HBT.out]; rfl, HFin.out, fun h => by rw [HBT.out] at h; cases h⟩, HB6.out⟩
                · go_wp2_with fail
                  go_roundw
                  case rel => exact ⟨j + 1, c3 + nn, nx3, by omega, by go_num, by go_num, by omega, ⟨HNX3.out.1, HNX3.out.2.1, HNX3.out.2.2.1, HNX3.out.2.2.2, by have h2 := G5.out; have h3 := HNc.out; omega, by have h2 := G6.out; rw [HBd.out, Bool.false_or] at h2; exact h2⟩, HB6⟩
                  case measure => simp [RowKit.intOf]; omega
            · have hje : j = n2 := by omega
              subst hje
              obtain ⟨g1, g2, g3, g4, g5, g6⟩ := HT3.out
              have ht3 := casesFrom_end g1
              subst ht3
              have G5 := Lib.hid g5; have G6 := Lib.hid g6
              clear g1 g2 g3 g4 g5 g6 HT3
              go_wp2_with fail
              go_roundw
              case rel => exact ⟨i + 1, c3, nx, by omega, by go_num, rfl, hc3, ⟨HNX.out, HNN.out, by have := HSZ.out; simp only [sz] at this; omega, by have := HWT.out; simp only [wt] at this; omega, by have := G5.out; simpa [cnt] using this, by have := G6.out; simpa [deepB] using this, HLN.out⟩, HB4⟩
              case measure => simp [RowKit.intOf]; omega
        · have hie : i = n := by omega
          subst hie
          obtain ⟨hf1, hn1, hs1, hw1, hcc, hdd, _⟩ := HT.out
          have ht0 := nodesFrom_end hf1
          subst ht0
          have hc : c1 = cnt t := by simpa [cnt] using hcc
          have hdp : deepB t d = false := by simpa [deepB] using hdd
          have HC := Lib.hid hc; have HD := Lib.hid hdp
          clear hf1 hn1 hs1 hw1 hcc hdd hc hdp HT
          by_cases h60 : 60 < c1
          · have HBT : Hid (big t d = true) := big_of_cnt (by have := HC.out; omega)
            have h60b : decide ((60 : Int) < (c1 : Int)) = true := decide_eq_true (by omega)
            go_wp2_with fail
            go_ret2
            exact ⟨⟨c1, by rw [HBT.out]; rfl, by have := HC.out; omega, fun h => by rw [HBT.out] at h; cases h⟩, HB.out⟩
          · have HBT : Hid (big t d = false) := by
              show big t d = false
              unfold big; rw [HD.out, decide_eq_false (by have := HC.out; omega)]; rfl
            have h60b : decide ((60 : Int) < (c1 : Int)) = false := decide_eq_false (by omega)
            go_wp2_with fail
            go_ret2
            exact ⟨⟨c1, by rw [HBT.out]; rfl, by have := HC.out; omega, fun _ => HC.out⟩, HB.out⟩
theorem large_any : ∀ N, LargeIH N
  | 0 => fun _ _ _ _ hz => absurd hz (Nat.not_lt_zero _)
  | N + 1 => fun t v d w hz hn hw hd hs => large_step N (large_any N) t v d w (by omega) hn hw hd hs
end Go.Proofs.YtgkphpjnfigjiaaGreatDoor
