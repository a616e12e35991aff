/-
  The reference's NodeFault and MsgFault: what is wrong with a message, as the program's check.
-/
import Derived.Test.YtgkphpjnfigjiaaGreatDoorRname
import Derived.Test.YtgkphpjnfigjiaaGreatDoorRlarge
import Derived.Test.YtgkphpjnfigjiaaGreatDoorChk
import Derived.Lib.QuietBelow
namespace Go.Proofs.YtgkphpjnfigjiaaGreatDoor
open Go.RowKit Ms Go.Sort

def FaultIH (N : Nat) : Prop := ∀ (t : T) (v : Value) (mark : Bool) (w : World), sz t < N → isN t = true → wt t ≤ 2000000 → SV w v t → Calls Tryz.prog 28 #[v, .bool mark] w fun e w' => e = .returned (.int .i64 (flt t mark false 0 [])) ∧ Below w.heap.size w w'
/-- is the node ahead one of words? -/
def PwA (w : World) (a : Option Addr) (i : Nat) (pw : Bool) : Prop := (i = 0 ∧ pw = false) ∨ ∃ b o i' kp, a = some ⟨b, o, none⟩ ∧ i = i' + 1 ∧ w.cell? ⟨b, o + i' * 4, none⟩ = some (.int .i64 kp) ∧ pw = (kp == 1)


set_option maxHeartbeats 8000000 in
set_option maxRecDepth 100000 in
theorem fault_no (N : Nat) (IH : FaultIH N) (t : T) (v : Value) (w : World) (hz : sz t ≤ N) (hn : isN t = true) (hw : wt t ≤ 2000000) (hs : SV w v t) :
    Calls Tryz.prog 28 #[v, .bool false] w fun e w' => e = .returned (.int .i64 (flt t false false 0 [])) ∧ Below w.heap.size w w' := by
  obtain ⟨i0, hi, hz0, hz1, hz2⟩ := info_parts infoStr
  obtain ⟨a, n, c, rfl, hnl, hfr⟩ := nodesFrom_start hs
  have hlw := len_wt t
  have hn2 : n ≤ 2000000 := by omega
  have HIH := Lib.hid IH; have HN := Lib.hid hn; have HF := Lib.hid hfr; have HZ := Lib.hid hz; have HW := Lib.hid hw
  clear IH hn hfr hz hw hs hlw hnl
  go_enter Tryz.func28, Tryz.ntmps28
  go_wp2_with fail
  go_loopw [5] (fun i wr => ∃ (i' : Nat) (t' : T) (pw : Bool), i' ≤ n ∧ i = .int .i64 i' ∧ Hid (NodesFrom w a n i' t' ∧ isN t' = true ∧ sz t' ≤ sz t ∧ wt t' ≤ wt t ∧ flt t false false 0 [] = flt t' false pw 0 [] ∧ PwA w a i' pw) ∧ Hid (Below w.heap.size w wr)) (fun i _ => n - (RowKit.intOf i).toNat)
  case atStart => exact ⟨0, t, false, by omega, rfl, ⟨HF.out, HN.out, Nat.le_refl _, Nat.le_refl _, rfl, .inl ⟨rfl, rfl⟩⟩, Below.refl _ _⟩
  case round =>
    obtain ⟨i, t', pw, hin, rfl, HT, HB⟩ := hrel
    by_cases hlt : i < n
    · obtain ⟨hf1, hn1, hs1, hw1, hfl, hpw⟩ := HT.out
      obtain ⟨k, x, f, cs, nx, b, o, v, rfl, rfl, q0, q1, q2, q3, hsv, hnext⟩ := nodesFrom_next hf1 hlt hn1
      have kc := keepCells HB.out
      have k0 := kc _ _ _ q0; have k1 := kc _ _ _ q1; have k2 := kc _ _ _ q2; have k3 := kc _ _ _ q3
      obtain ⟨hncs, hnnx⟩ := isN_node hn1
      obtain ⟨a3, n3, c3, rfl, hl3, hfr3⟩ := casesFrom_start hsv
      have hxs : (⟨x.toArray⟩ : ByteArray).size ≤ 2000000 := by
        have h1 := HW.out; have h2 := Lib.size_eq (⟨x.toArray⟩ : ByteArray); simp only [wt] at hw1; simp only at h2; omega
      have hcsz : sz cs < N := by have := HZ.out; simp only [sz] at hs1; omega
      have hcsw : wt cs ≤ 2000000 := by have := HW.out; simp only [wt] at hw1; omega
      have hn3 : n3 ≤ 2000000 := by have := len_wt cs; omega
      have hnz : sz nx ≤ sz t := by simp only [sz] at hs1; omega
      have hnw : wt nx ≤ wt t := by simp only [wt] at hw1; omega
      rw [flt_node] at hfl
      have HNX : Hid (NodesFrom w (some ⟨b, o, none⟩) n (i + 1) nx ∧ isN nx = true ∧ sz nx ≤ sz t ∧ wt nx ≤ wt t ∧ PwA w (some ⟨b, o, none⟩) (i + 1) (k == 1)) := ⟨hnext, hnnx, hnz, hnw, .inr ⟨b, o, i, k, rfl, rfl, q0, rfl⟩⟩
      have HFL := Lib.hid hfl; have HCF := Lib.hid hfr3; have HNC := Lib.hid hncs; have HCZ := Lib.hid hcsz; have HCW := Lib.hid hcsw
      clear hf1 hn1 hs1 hw1 hfl q0 q1 q2 q3 hsv hnext kc hncs hnnx hl3 hfr3 HT hcsz hcsw hnz hnw
      by_cases hlo : k < 1
      · have HF3 := Lib.hid (show flt t false false 0 [] = 3 by
          rw [HFL.out, if_pos (by
            unfold fine
            rw [if_neg (by omega), if_neg (by omega), show (k == 6) = false from beq_eq_false_iff_ne.2 (by omega)]; rfl)])
        go_wp2_with fail
        go_ret
        exact ⟨by rw [HF3.out] <;> rfl, HB.out.alloc HB.out.size _⟩
      · by_cases hhi : 6 < k
        · have HF3 := Lib.hid (show flt t false false 0 [] = 3 by
            rw [HFL.out, if_pos (by
              unfold fine
              rw [if_neg (by omega), if_neg (by omega), show (k == 6) = false from beq_eq_false_iff_ne.2 (by omega)]; rfl)])
          go_wp2_with fail
          go_ret
          exact ⟨by rw [HF3.out] <;> rfl, HB.out.alloc HB.out.size _⟩
        · go_upto_region 5 with fail
          obtain ⟨cb, hcb⟩ : ∃ cb, cb = wr.heap.size := ⟨_, rfl⟩
          have hb1 : Below w.heap.size w (wr.alloc (.cells #[.int .i64 k, .string ⟨x.toArray⟩, .int .i64 f, .slice a3 n3 c3] 35)) := HB.out.alloc HB.out.size _
          have j0 : (wr.alloc (.cells #[.int .i64 k, .string ⟨x.toArray⟩, .int .i64 f, .slice a3 n3 c3] 35)).cell? ⟨cb, 0, none⟩ = some (.int .i64 k) := by rw [hcb]; simp
          have j1 : (wr.alloc (.cells #[.int .i64 k, .string ⟨x.toArray⟩, .int .i64 f, .slice a3 n3 c3] 35)).cell? ⟨cb, 1, none⟩ = some (.string ⟨x.toArray⟩) := by rw [hcb]; simp
          have j2 : (wr.alloc (.cells #[.int .i64 k, .string ⟨x.toArray⟩, .int .i64 f, .slice a3 n3 c3] 35)).cell? ⟨cb, 2, none⟩ = some (.int .i64 f) := by rw [hcb]; simp
          have j3 : (wr.alloc (.cells #[.int .i64 k, .string ⟨x.toArray⟩, .int .i64 f, .slice a3 n3 c3] 35)).cell? ⟨cb, 3, none⟩ = some (.slice a3 n3 c3) := by rw [hcb]; simp
          have hcs1 : (wr.alloc (.cells #[.int .i64 k, .string ⟨x.toArray⟩, .int .i64 f, .slice a3 n3 c3] 35)).heap.size = cb + 1 := by rw [hcb]; simp
          rw [← hcb]
          generalize wr.alloc (.cells #[.int .i64 k, .string ⟨x.toArray⟩, .int .i64 f, .slice a3 n3 c3] 35) = W1 at hb1 j0 j1 j2 j3 hcs1 ⊢
          have HB1 := Lib.hid hb1
          clear hb1 k0 k1 k2 k3 hcb
          have hk : k = 1 ∨ k = 2 ∨ k = 3 ∨ k = 4 ∨ k = 5 ∨ k = 6 := by omega
          clear hlo hhi
          rcases hk with hk | hk | hk | hk | hk | hk
          · subst hk
            by_cases hx : x = []
            · have he : x.isEmpty = true := by rw [hx]; rfl
              have HF := Lib.hid (show flt t false false 0 [] = 3 by rw [HFL.out, if_pos (by
                simp [fine, he])])
              clear HFL hpw
              go_wp2_with fail
              go_ret
              exact ⟨by rw [HF.out] <;> rfl, HB1.out⟩
            · have he : x.isEmpty = false := by
                cases x with
                | nil => exact absurd rfl hx
                | cons _ _ => rfl
              have hfe : fine 1 x false pw = !pw := by
                simp [fine, he]
              rw [hfe] at HFL
              clear hfe
              rcases hpw with ⟨rfl, rfl⟩ | ⟨b', o', i', kp, ha, rfl, hc, rfl⟩
              · have HF2 := Lib.hid (show flt t false false 0 [] = flt nx false ((1 : Int) == 1) 0 [] by rw [HFL.out, if_neg (by decide), if_neg (by omega), if_neg (fun h => absurd h.1 (by decide))])
                clear HFL
                go_wp2_with fail
                go_roundw
                case rel => exact ⟨0 + 1, nx, ((1 : Int) == 1), by omega, by go_num, ⟨HNX.out.1, HNX.out.2.1, HNX.out.2.2.1, HNX.out.2.2.2.1, HF2.out, HNX.out.2.2.2.2⟩, HB1⟩
                case measure => simp [RowKit.intOf]; omega
              · cases ha
                have hcc := keepCells HB1.out _ _ _ hc
                by_cases hkp : kp = 1
                · subst hkp
                  have HF := Lib.hid (show flt t false false 0 [] = 3 by rw [HFL.out, if_pos (by rfl)])
                  clear HFL
                  go_wp2_with fail
                  go_ret
                  exact ⟨by rw [HF.out] <;> rfl, HB1.out⟩
                · have hkb : (kp == 1) = false := beq_eq_false_iff_ne.2 hkp
                  have HF2 := Lib.hid (show flt t false false 0 [] = flt nx false ((1 : Int) == 1) 0 [] by rw [HFL.out, if_neg (by rw [hkb]; decide), if_neg (by omega), if_neg (fun h => absurd h.1 (by decide))])
                  clear HFL
                  go_wp2_with fail
                  go_roundw
                  case rel => exact ⟨i' + 1 + 1, nx, ((1 : Int) == 1), by omega, by go_num, ⟨HNX.out.1, HNX.out.2.1, HNX.out.2.2.1, HNX.out.2.2.2.1, HF2.out, HNX.out.2.2.2.2⟩, HB1⟩
                  case measure => simp [RowKit.intOf]; omega
          · subst hk
            have HN := Lib.hid (fun W => rname_any ⟨x.toArray⟩ W hxs)
            cases hnb : nameB x with
            | false =>
              have HF := Lib.hid (show flt t false false 0 [] = 3 by rw [HFL.out, if_pos (show fine 2 x false pw = false from hnb)])
              rw [show nameB (⟨x.toArray⟩ : ByteArray).data.toList = false from hnb] at HN
              clear hnb
              go_wp2_with fail
              refine (HN.out _).mono ?_
              rintro e W2 ⟨rfl, hb⟩
              have HB2 := Lib.hid (HB1.out.trans (hb.mono HB1.out.size)); clear hb
              go_wp2_with fail
              go_ret
              exact ⟨by rw [HF.out] <;> rfl, HB2.out⟩
            | true =>
              have HFL2 := Lib.hid (show flt t false false 0 [] = if (2 : Int) = 4 ∧ (f < 0 ∨ f > 9) then 1 else if hasC 2 = true ∧ flt cs (false || (2 : Int) == 4) false 2 [] ≠ 0 then flt cs (false || (2 : Int) == 4) false 2 [] else flt nx false ((2 : Int) == 1) 0 [] by
                rw [HFL.out, if_neg (by rw [show fine 2 x false pw = true from hnb]; decide)])
              rw [show nameB (⟨x.toArray⟩ : ByteArray).data.toList = true from hnb] at HN
              clear hnb HFL
              go_wp2_with fail
              refine (HN.out _).mono ?_
              rintro e W2 ⟨rfl, hb⟩
              have hcbl : cb < W2.heap.size := by have := hb.size; omega
              have e0 := (hb.cell (p := ⟨cb, 0, none⟩) (by show cb < _; omega)).trans j0
              have e1 := (hb.cell (p := ⟨cb, 1, none⟩) (by show cb < _; omega)).trans j1
              have e2 := (hb.cell (p := ⟨cb, 2, none⟩) (by show cb < _; omega)).trans j2
              have e3 := (hb.cell (p := ⟨cb, 3, none⟩) (by show cb < _; omega)).trans j3
              have HB2 := Lib.hid (HB1.out.trans (hb.mono HB1.out.size)); clear hb j0 j1 j2 j3
              have HF2 := Lib.hid (show flt t false false 0 [] = flt nx false ((2 : Int) == 1) 0 [] by rw [HFL2.out, if_neg (fun h => absurd h.1 (by decide)), if_neg (fun h => absurd h.1 (by decide))])
              clear HFL2
              go_wp2_with fail
              go_roundw
              case rel => exact ⟨i + 1, nx, ((2 : Int) == 1), by omega, by go_num, ⟨HNX.out.1, HNX.out.2.1, HNX.out.2.2.1, HNX.out.2.2.2.1, HF2.out, HNX.out.2.2.2.2⟩, HB2⟩
              case measure => simp [RowKit.intOf]; omega
          · subst hk
            have HN := Lib.hid (fun W => rname_any ⟨x.toArray⟩ W hxs)
            cases hnb : nameB x with
            | false =>
              have HF := Lib.hid (show flt t false false 0 [] = 3 by rw [HFL.out, if_pos (show fine 3 x false pw = false from hnb)])
              rw [show nameB (⟨x.toArray⟩ : ByteArray).data.toList = false from hnb] at HN
              clear hnb
              go_wp2_with fail
              refine (HN.out _).mono ?_
              rintro e W2 ⟨rfl, hb⟩
              have HB2 := Lib.hid (HB1.out.trans (hb.mono HB1.out.size)); clear hb
              go_wp2_with fail
              go_ret
              exact ⟨by rw [HF.out] <;> rfl, HB2.out⟩
            | true =>
              have HFL2 := Lib.hid (show flt t false false 0 [] = if (3 : Int) = 4 ∧ (f < 0 ∨ f > 9) then 1 else if hasC 3 = true ∧ flt cs (false || (3 : Int) == 4) false 3 [] ≠ 0 then flt cs (false || (3 : Int) == 4) false 3 [] else flt nx false ((3 : Int) == 1) 0 [] by
                rw [HFL.out, if_neg (by rw [show fine 3 x false pw = true from hnb]; decide)])
              rw [show nameB (⟨x.toArray⟩ : ByteArray).data.toList = true from hnb] at HN
              clear hnb HFL
              go_wp2_with fail
              refine (HN.out _).mono ?_
              rintro e W2 ⟨rfl, hb⟩
              have hcbl : cb < W2.heap.size := by have := hb.size; omega
              have e0 := (hb.cell (p := ⟨cb, 0, none⟩) (by show cb < _; omega)).trans j0
              have e1 := (hb.cell (p := ⟨cb, 1, none⟩) (by show cb < _; omega)).trans j1
              have e2 := (hb.cell (p := ⟨cb, 2, none⟩) (by show cb < _; omega)).trans j2
              have e3 := (hb.cell (p := ⟨cb, 3, none⟩) (by show cb < _; omega)).trans j3
              have HB2 := Lib.hid (HB1.out.trans (hb.mono HB1.out.size)); clear hb j0 j1 j2 j3
              have HF2 := Lib.hid (show flt t false false 0 [] = flt nx false ((3 : Int) == 1) 0 [] by rw [HFL2.out, if_neg (fun h => absurd h.1 (by decide)), if_neg (fun h => absurd h.1 (by decide))])
              clear HFL2
              go_wp2_with fail
              go_roundw
              case rel => exact ⟨i + 1, nx, ((3 : Int) == 1), by omega, by go_num, ⟨HNX.out.1, HNX.out.2.1, HNX.out.2.2.1, HNX.out.2.2.2.1, HF2.out, HNX.out.2.2.2.2⟩, HB2⟩
              case measure => simp [RowKit.intOf]; omega
          · subst hk
            have HN := Lib.hid (fun W => rname_any ⟨x.toArray⟩ W hxs)
            cases hnb : nameB x with
            | false =>
              have HF := Lib.hid (show flt t false false 0 [] = 3 by rw [HFL.out, if_pos (show fine 4 x false pw = false from hnb)])
              rw [show nameB (⟨x.toArray⟩ : ByteArray).data.toList = false from hnb] at HN
              clear hnb
              go_wp2_with fail
              refine (HN.out _).mono ?_
              rintro e W2 ⟨rfl, hb⟩
              have HB2 := Lib.hid (HB1.out.trans (hb.mono HB1.out.size)); clear hb
              go_wp2_with fail
              go_ret
              exact ⟨by rw [HF.out] <;> rfl, HB2.out⟩
            | true =>
              have HFL2 := Lib.hid (show flt t false false 0 [] = if (4 : Int) = 4 ∧ (f < 0 ∨ f > 9) then 1 else if hasC 4 = true ∧ flt cs (false || (4 : Int) == 4) false 4 [] ≠ 0 then flt cs (false || (4 : Int) == 4) false 4 [] else flt nx false ((4 : Int) == 1) 0 [] by
                rw [HFL.out, if_neg (by rw [show fine 4 x false pw = true from hnb]; decide)])
              rw [show nameB (⟨x.toArray⟩ : ByteArray).data.toList = true from hnb] at HN
              clear hnb HFL
              go_wp2_with fail
              refine (HN.out _).mono ?_
              rintro e W2 ⟨rfl, hb⟩
              have hcbl : cb < W2.heap.size := by have := hb.size; omega
              have e0 := (hb.cell (p := ⟨cb, 0, none⟩) (by show cb < _; omega)).trans j0
              have e1 := (hb.cell (p := ⟨cb, 1, none⟩) (by show cb < _; omega)).trans j1
              have e2 := (hb.cell (p := ⟨cb, 2, none⟩) (by show cb < _; omega)).trans j2
              have e3 := (hb.cell (p := ⟨cb, 3, none⟩) (by show cb < _; omega)).trans j3
              have HB2 := Lib.hid (HB1.out.trans (hb.mono HB1.out.size)); clear hb j0 j1 j2 j3
              by_cases hf0 : f < 0
              · have HF := Lib.hid (show flt t false false 0 [] = 1 by rw [HFL2.out, if_pos ⟨by first | trivial | rfl, .inl hf0⟩])
                go_wp2_with fail
                go_ret
                exact ⟨by rw [HF.out] <;> rfl, HB2.out⟩
              · by_cases hf9 : 9 < f
                · have HF := Lib.hid (show flt t false false 0 [] = 1 by rw [HFL2.out, if_pos ⟨by first | trivial | rfl, .inr hf9⟩])
                  go_wp2_with fail
                  go_ret
                  exact ⟨by rw [HF.out] <;> rfl, HB2.out⟩
                · have HF2 := Lib.hid (show flt t false false 0 [] = if hasC 4 = true ∧ flt cs true false 4 [] ≠ 0 then flt cs true false 4 [] else flt nx false ((4 : Int) == 1) 0 [] by rw [HFL2.out, if_neg (by omega)]; rfl)
                  clear HFL2
                  have HF3 : Hid (flt t false false 0 [] = if flt cs true false 4 [] ≠ 0 then flt cs true false 4 [] else flt nx false ((4 : Int) == 1) 0 []) := by
                    show _ = _
                    rw [HF2.out]
                    by_cases h : flt cs true false 4 [] = 0
                    · rw [if_neg (fun hh => hh.2 h), if_neg (fun hh => hh h)]
                    · rw [if_pos ⟨by first | trivial | rfl, h⟩, if_pos h]
                  clear HF2
                  go_wp2_with fail
                  go_loopw [7, 8] (fun vs j wr2 => ∃ (j' : Nat) (t3 : T) (seen : List (List UInt8)), j' ≤ n3 ∧ j = .int .i64 j' ∧ seen.length = j' ∧ Hid (wr2.ownsRow W2.heap.size 9 1 vs seen.length (keysV seen)) ∧ Hid (CasesFrom w a3 n3 j' t3 ∧ isN.isC t3 = true ∧ sz t3 ≤ sz cs ∧ wt t3 ≤ wt cs ∧ flt cs true false 4 [] = flt t3 true false 4 seen) ∧ Hid (Below W2.heap.size W2 wr2)) (fun _ j _ => n3 - (RowKit.intOf j).toNat)
                  case atStart => exact ⟨0, cs, [], by omega, rfl, rfl, World.ownsRow_nil _ _ _ _, ⟨HCF.out, HNC.out, Nat.le_refl _, Nat.le_refl _, rfl⟩, Below.refl _ _⟩
                  case round =>
                    obtain ⟨j, t3, seen, hjn, rfl, hsl, HO, HT3, HB3⟩ := hrel
                    have HBw3 : Hid (Below w.heap.size w wr) := HB2.out.trans (HB3.out.mono HB2.out.size)
                    have f0 := (HB3.out.cell (p := ⟨cb, 0, none⟩) hcbl).trans e0
                    have f1 := (HB3.out.cell (p := ⟨cb, 1, none⟩) hcbl).trans e1
                    have f2 := (HB3.out.cell (p := ⟨cb, 2, none⟩) hcbl).trans e2
                    have f3 := (HB3.out.cell (p := ⟨cb, 3, none⟩) hcbl).trans e3
                    have hs3 := HB3.out.size
                    by_cases hlt2 : j < n3
                    · obtain ⟨g1, g2, g3, g4, g5⟩ := HT3.out
                      obtain ⟨key, body, nx3, b2, o2, v3, rfl, rfl, p0, p1, hsv3, hnext3⟩ := casesFrom_next g1 hlt2 g2
                      obtain ⟨va, vn, vcap, rfl⟩ : ∃ a n c, v3 = .slice a n c := by
                        rcases hsv3 with ⟨⟨_, h⟩, _⟩ | ⟨b', o', n', c', h, _⟩
                        · exact ⟨_, _, _, h⟩
                        · exact ⟨_, _, _, h⟩
                      obtain ⟨hnb, hncs2⟩ := isC_case g2
                      rw [flt_case] at g5
                      have kc := keepCells HBw3.out
                      have y0 := kc _ _ _ p0; have y1 := kc _ _ _ p1
                      have hb2w : b2 < w.heap.size := cellLt p0
                      have hks : (⟨key.toArray⟩ : ByteArray).size ≤ 2000000 := by
                        have h1 := HCW.out; have h2 := Lib.size_eq (⟨key.toArray⟩ : ByteArray); simp only [wt] at g4; simp only at h2; omega
                      have hbz : sz body < N := by have h1 := HCZ.out; simp only [sz] at g3; omega
                      have hbw : wt body ≤ 2000000 := by have h1 := HCW.out; simp only [wt] at g4; omega
                      have hgz : sz nx3 ≤ sz cs := by simp only [sz] at g3; omega
                      have hgw : wt nx3 ≤ wt cs := by simp only [wt] at g4; omega
                      have HIC := Lib.hid (fun W (hB : Below w.heap.size w W) => HIH.out body (.slice va vn vcap) true W hbz hnb hbw (hsv3.below hB))
                      have HNX3 : Hid (CasesFrom w (some ⟨b2, o2, none⟩) n3 (j + 1) nx3 ∧ isN.isC nx3 = true ∧ sz nx3 ≤ sz cs ∧ wt nx3 ≤ wt cs) := ⟨hnext3, hncs2, hgz, hgw⟩
                      obtain ⟨kq, hkq⟩ : ∃ kq, (!keyB 4 key) = kq := ⟨_, rfl⟩
                      have D1 := Lib.hid (show ∀ dr os, Calls Tryz.prog 48 #[.agg #[.int .i64 4, .string ⟨x.toArray⟩, .int .i64 f, .slice (some ⟨b2, o2, none⟩) n3 c3], .string ⟨key.toArray⟩] (grow (redrawn wr dr) os) (fun e w' => e = .returned (.bool kq) ∧ ∃ p : Regrown, w' = grow (redrawn wr p.d) p.os) from
                        fun dr os => Calls.regrown_of (by
                          have h := keyfault_any 4 f ⟨x.toArray⟩ (.slice (some ⟨b2, o2, none⟩) n3 c3) ⟨key.toArray⟩ (grow (redrawn wr dr) os) hks
                          rw [show (!keyB 4 (⟨key.toArray⟩ : ByteArray).data.toList) = kq from hkq] at h
                          exact h))
                      have r0 := cell_regrown f0; have r1 := cell_regrown f1; have r2 := cell_regrown f2; have r3 := cell_regrown f3
                      have t0 := cell_regrown y0; have t1 := cell_regrown y1
                      have G5 := Lib.hid g5; have HKQ := Lib.hid hkq; have P1 := Lib.hid p1
                      clear g1 g2 g3 g4 g5 p0 p1 hsv3 hnext3 kc hks hbz hbw hgz hgw hnb hncs2 HT3 hkq y0 y1 f0 f1 f2
                      cases kq with
                      | true =>
                        have HF4 := Lib.hid (show flt t false false 0 [] = 3 by
                          rw [HF3.out, G5.out, if_pos (show keyB 4 key = false by have := HKQ.out; simpa using this)]; rfl)
                        go_wp2_with fail
                        refine wp_region_quiet_below (by kernel_rfl) (by kernel_rfl) ?_
                        repeat (quiet_step (first | with_reducible exact D1.out _ _))
                        refine wpQuiet_nil ?_
                        intro _ hw'
                        obtain ⟨⟨dq, osq⟩, hw''⟩ := hw'
                        subst hw''
                        go_wp2_with fail
                        go_ret
                        exact ⟨by rw [HF4.out] <;> rfl, HBw3.out.trans ((below_regrown wr dq osq).mono HBw3.out.size)⟩
                      | false =>
                        have hkt : ¬ keyB 4 key = false := by have := HKQ.out; simp at this; rw [this]; decide
                        have HKT := Lib.hid hkt; clear hkt
                        go_wp2_with fail
                        refine wp_region_quiet_below (by kernel_rfl) (by kernel_rfl) ?_
                        repeat (quiet_step (first | with_reducible exact D1.out _ _))
                        refine wpQuiet_nil ?_
                        intro _ hw'
                        obtain ⟨⟨dq, osq⟩, hw''⟩ := hw'
                        subst hw''
                        have hbq := below_regrown wr dq osq
                        have s0 := r0 dq osq; have s1 := r1 dq osq; have s2 := r2 dq osq; have s3 := r3 dq osq; have z0 := t0 dq osq; have z1 := t1 dq osq
                        have HO3 := Lib.hid (ownsRow_below HO.out hbq)
                        have HB4 := Lib.hid (HB3.out.trans (hbq.mono HB3.out.size))
                        have HBw4 := Lib.hid (HBw3.out.trans (hbq.mono HBw3.out.size))
                        have hs4 : W2.heap.size ≤ (grow (redrawn wr dq) osq).heap.size := by have := hbq.size; omega
                        clear r0 r1 r2 r3 t0 t1 hbq D1
                        simp only []
                        generalize grow (redrawn wr dq) osq = W3 at s0 s1 s2 s3 z0 z1 HO3 HB4 HBw4 hs4 ⊢
                        go_wp2_with fail
                        refine (in_own HO3.out ⟨key.toArray⟩ (by omega)).mono ?_
                        rintro e W3' ⟨rfl, rfl⟩
                        cases hin2 : seen.contains key with
                        | true =>
                          have HF4 := Lib.hid (show flt t false false 0 [] = 5 by
                            rw [HF3.out, G5.out, if_neg HKT.out, if_pos hin2]; rfl)
                          clear hin2
                          go_wp2_with fail
                          go_ret
                          exact ⟨by rw [HF4.out] <;> rfl, HBw4.out⟩
                        | false =>
                          have HF4 := Lib.hid (show flt cs true false 4 [] = if flt body true false 0 [] ≠ 0 then flt body true false 0 [] else flt nx3 true false 4 (seen ++ [key]) by
                            rw [G5.out, if_neg HKT.out, if_neg (by rw [hin2]; decide)])
                          clear hin2
                          have Z1 := Lib.hid z1; have S0 := Lib.hid s0; have S1 := Lib.hid s1; have S2 := Lib.hid s2; have S3 := Lib.hid s3
                          have HOL := Lib.hid HO3.out.lt
                          go_wp2_with (at_builtin; refine wpList_append_own _ rfl _ _ 93 rfl W2.heap.size 9 i0 (.string ⟨#[]⟩) 1 16 Tryz.underlying93 hi hz0 hz1 hz2 rfl (by decide) _ _ _ rfl (HO3.out.alloc _) ⟨W3'.heap.size, 0, none⟩ 1 1 [.string ⟨key.toArray⟩] rfl rfl (cell_one_new _ _ _) (fun x hx => by simp at hx; subst hx; rfl) (by unfold maxLen; omega) (by omega) (by simp; omega) ?_; intro v' w3 hown3 hgrow3 _)
                          all_goals
                            have hne3 : ∀ bq, bq < W2.heap.size → u7.ownBlock ≠ some bq := fun bq hq hh => by have := (HOL.out _ hh).1; omega
                            have m0 := grown_cell hgrow3 (keepCells ((Below.refl W3'.heap.size W3').alloc (Nat.le_refl _) (.cells #[.string ⟨key.toArray⟩] 9)) _ _ _ S0.out) (hne3 _ hcbl)
                            have m3 := grown_cell hgrow3 (keepCells ((Below.refl W3'.heap.size W3').alloc (Nat.le_refl _) (.cells #[.string ⟨key.toArray⟩] 9)) _ _ _ S3.out) (hne3 _ hcbl)
                            have m1 := grown_cell hgrow3 (keepCells ((Below.refl W3'.heap.size W3').alloc (Nat.le_refl _) (.cells #[.string ⟨key.toArray⟩] 9)) _ _ _ Z1.out) (hne3 _ (by have := HB2.out.size; omega))
                            have HB5 := Lib.hid (step_below HB4.out hs4 hgrow3 HO3.out (Nat.le_refl _))
                            have HBw5 := Lib.hid (step_below HBw4.out (by have := HB2.out.size; omega) hgrow3 HO3.out (by have := HB2.out.size; omega))
                            have HO5 := Lib.hid hown3
                            have hs5 : W3'.heap.size + 1 ≤ w3.heap.size := step_size hgrow3
                            obtain ⟨fq, hfq⟩ : ∃ fq, flt body true false 0 [] = fq := ⟨_, rfl⟩
                            have D2 := Lib.hid (show ∀ dr os, Calls Tryz.prog 28 #[.slice va vn vcap, .bool true] (grow (redrawn w3 dr) os) (fun e w' => e = .returned (.int .i64 fq) ∧ ∃ p : Regrown, w' = grow (redrawn w3 p.d) p.os) from
                              fun dr os => Calls.regrown_of (by
                                have h := HIC.out (grow (redrawn w3 dr) os) (HBw5.out.trans ((below_regrown w3 dr os).mono HBw5.out.size))
                                rw [hfq] at h; exact h))
                            have r0 := cell_regrown m0; have r3 := cell_regrown m3; have r1 := cell_regrown m1
                            rw [hfq] at HF4
                            clear m0 m1 m3 z0 z1 s0 s1 s2 s3 hown3 hgrow3 hfq hne3
                            refine wp_region_quiet_below (by kernel_rfl) (by kernel_rfl) ?_
                            repeat (quiet_step (first | with_reducible exact D2.out _ _))
                            refine wpQuiet_nil ?_
                            intro _ hw'
                            obtain ⟨⟨dq, osq⟩, hw''⟩ := hw'
                            subst hw''
                            have hbq := below_regrown w3 dq osq
                            have HO6 := Lib.hid (ownsRow_below HO5.out hbq)
                            have HB6 := Lib.hid (HB5.out.trans (hbq.mono (by omega)))
                            have HBw6 := Lib.hid (HBw5.out.trans (hbq.mono HBw5.out.size))
                            clear r0 r1 r3 hbq D2
                            simp only []
                            generalize grow (redrawn w3 dq) osq = W5 at HO6 HB6 HBw6 ⊢
                            by_cases he0 : fq = 0
                            · have HF5 := Lib.hid (show flt cs true false 4 [] = flt nx3 true false 4 (seen ++ [key]) by rw [HF4.out, if_neg (fun h => h he0)])
                              subst he0
                              go_wp2_with fail
                              go_roundw
                              case rel =>
                                refine ⟨j + 1, nx3, seen ++ [key], by omega, by go_num, by simp; omega, ?_, ⟨HNX3.out.1, HNX3.out.2.1, HNX3.out.2.2.1, HNX3.out.2.2.2, HF5.out⟩, HB6⟩
                                have h := HO6.out
                                have e1 : (seen ++ [key]).length = seen.length + 1 := by simp
                                have e2 : keysV (seen ++ [key]) = keysV seen ++ [.string ⟨key.toArray⟩] := by simp [keysV]
                                rw [e1, e2]; exact h
                              case measure => simp [RowKit.intOf]; omega
                            · have HF5 := Lib.hid (show flt t false false 0 [] = fq by rw [HF3.out, HF4.out, if_pos he0, if_pos he0])
                              have hfb : (fq != 0) = true := by simpa using he0
                              go_wp2_with fail
                              go_ret
                              exact ⟨by rw [HF5.out] <;> rfl, HBw6.out⟩
                    · have hje : j = n3 := by omega
                      subst hje
                      obtain ⟨g1, g2, g3, g4, g5⟩ := HT3.out
                      have ht3 := casesFrom_end g1
                      subst ht3
                      rw [flt_nilC (by decide)] at g5
                      have G5 := Lib.hid g5
                      clear g1 g2 g3 g4 g5 HT3
                      go_wp2_with fail
                      refine (in_own HO.out ⟨otherK.toArray⟩ (by omega)).mono ?_
                      rintro e W3 ⟨rfl, rfl⟩
                      cases hin2 : seen.contains otherK with
                      | true =>
                        have HF5 := Lib.hid (show flt t false false 0 [] = flt nx false ((4 : Int) == 1) 0 [] by
                          rw [HF3.out, show flt cs true false 4 [] = 0 by rw [G5.out, if_pos hin2], if_neg (by decide)])
                        clear hin2
                        go_wp2_with fail
                        go_roundw
                        case rel => exact ⟨i + 1, nx, ((4 : Int) == 1), by omega, by go_num, ⟨HNX.out.1, HNX.out.2.1, HNX.out.2.2.1, HNX.out.2.2.2.1, HF5.out, HNX.out.2.2.2.2⟩, HBw3⟩
                        case measure => simp [RowKit.intOf]; omega
                      | false =>
                        have HF5 := Lib.hid (show flt t false false 0 [] = 2 by
                          rw [HF3.out, show flt cs true false 4 [] = 2 by rw [G5.out, if_neg (by rw [hin2]; decide)], if_pos (by decide)])
                        clear hin2
                        go_wp2_with fail
                        go_ret
                        exact ⟨by rw [HF5.out] <;> rfl, HBw3.out⟩
          · subst hk
            have HN := Lib.hid (fun W => rname_any ⟨x.toArray⟩ W hxs)
            cases hnb : nameB x with
            | false =>
              have HF := Lib.hid (show flt t false false 0 [] = 3 by rw [HFL.out, if_pos (show fine 5 x false pw = false from hnb)])
              rw [show nameB (⟨x.toArray⟩ : ByteArray).data.toList = false from hnb] at HN
              clear hnb
              go_wp2_with fail
              refine (HN.out _).mono ?_
              rintro e W2 ⟨rfl, hb⟩
              have HB2 := Lib.hid (HB1.out.trans (hb.mono HB1.out.size)); clear hb
              go_wp2_with fail
              go_ret
              exact ⟨by rw [HF.out] <;> rfl, HB2.out⟩
            | true =>
              have HFL2 := Lib.hid (show flt t false false 0 [] = if (5 : Int) = 4 ∧ (f < 0 ∨ f > 9) then 1 else if hasC 5 = true ∧ flt cs (false || (5 : Int) == 4) false 5 [] ≠ 0 then flt cs (false || (5 : Int) == 4) false 5 [] else flt nx false ((5 : Int) == 1) 0 [] by
                rw [HFL.out, if_neg (by rw [show fine 5 x false pw = true from hnb]; decide)])
              rw [show nameB (⟨x.toArray⟩ : ByteArray).data.toList = true from hnb] at HN
              clear hnb HFL
              go_wp2_with fail
              refine (HN.out _).mono ?_
              rintro e W2 ⟨rfl, hb⟩
              have hcbl : cb < W2.heap.size := by have := hb.size; omega
              have e0 := (hb.cell (p := ⟨cb, 0, none⟩) (by show cb < _; omega)).trans j0
              have e1 := (hb.cell (p := ⟨cb, 1, none⟩) (by show cb < _; omega)).trans j1
              have e2 := (hb.cell (p := ⟨cb, 2, none⟩) (by show cb < _; omega)).trans j2
              have e3 := (hb.cell (p := ⟨cb, 3, none⟩) (by show cb < _; omega)).trans j3
              have HB2 := Lib.hid (HB1.out.trans (hb.mono HB1.out.size)); clear hb j0 j1 j2 j3
              have HF2 := Lib.hid (show flt t false false 0 [] = if hasC 5 = true ∧ flt cs false false 5 [] ≠ 0 then flt cs false false 5 [] else flt nx false ((5 : Int) == 1) 0 [] by rw [HFL2.out, if_neg (by omega)]; rfl)
              clear HFL2

              have HF3 : Hid (flt t false false 0 [] = if flt cs false false 5 [] ≠ 0 then flt cs false false 5 [] else flt nx false ((5 : Int) == 1) 0 []) := by
                show _ = _
                rw [HF2.out]
                by_cases h : flt cs false false 5 [] = 0
                · rw [if_neg (fun hh => hh.2 h), if_neg (fun hh => hh h)]
                · rw [if_pos ⟨by first | trivial | rfl, h⟩, if_pos h]
              clear HF2
              go_wp2_with fail
              go_loopw [7, 8] (fun vs j wr2 => ∃ (j' : Nat) (t3 : T) (seen : List (List UInt8)), j' ≤ n3 ∧ j = .int .i64 j' ∧ seen.length = j' ∧ Hid (wr2.ownsRow W2.heap.size 9 1 vs seen.length (keysV seen)) ∧ Hid (CasesFrom w a3 n3 j' t3 ∧ isN.isC t3 = true ∧ sz t3 ≤ sz cs ∧ wt t3 ≤ wt cs ∧ flt cs false false 5 [] = flt t3 false false 5 seen) ∧ Hid (Below W2.heap.size W2 wr2)) (fun _ j _ => n3 - (RowKit.intOf j).toNat)
              case atStart => exact ⟨0, cs, [], by omega, rfl, rfl, World.ownsRow_nil _ _ _ _, ⟨HCF.out, HNC.out, Nat.le_refl _, Nat.le_refl _, rfl⟩, Below.refl _ _⟩
              case round =>
                obtain ⟨j, t3, seen, hjn, rfl, hsl, HO, HT3, HB3⟩ := hrel
                have HBw3 : Hid (Below w.heap.size w wr) := HB2.out.trans (HB3.out.mono HB2.out.size)
                have f0 := (HB3.out.cell (p := ⟨cb, 0, none⟩) hcbl).trans e0
                have f1 := (HB3.out.cell (p := ⟨cb, 1, none⟩) hcbl).trans e1
                have f2 := (HB3.out.cell (p := ⟨cb, 2, none⟩) hcbl).trans e2
                have f3 := (HB3.out.cell (p := ⟨cb, 3, none⟩) hcbl).trans e3
                have hs3 := HB3.out.size
                by_cases hlt2 : j < n3
                · obtain ⟨g1, g2, g3, g4, g5⟩ := HT3.out
                  obtain ⟨key, body, nx3, b2, o2, v3, rfl, rfl, p0, p1, hsv3, hnext3⟩ := casesFrom_next g1 hlt2 g2
                  obtain ⟨va, vn, vcap, rfl⟩ : ∃ a n c, v3 = .slice a n c := by
                    rcases hsv3 with ⟨⟨_, h⟩, _⟩ | ⟨b', o', n', c', h, _⟩
                    · exact ⟨_, _, _, h⟩
                    · exact ⟨_, _, _, h⟩
                  obtain ⟨hnb, hncs2⟩ := isC_case g2
                  rw [flt_case] at g5
                  have kc := keepCells HBw3.out
                  have y0 := kc _ _ _ p0; have y1 := kc _ _ _ p1
                  have hb2w : b2 < w.heap.size := cellLt p0
                  have hks : (⟨key.toArray⟩ : ByteArray).size ≤ 2000000 := by
                    have h1 := HCW.out; have h2 := Lib.size_eq (⟨key.toArray⟩ : ByteArray); simp only [wt] at g4; simp only at h2; omega
                  have hbz : sz body < N := by have h1 := HCZ.out; simp only [sz] at g3; omega
                  have hbw : wt body ≤ 2000000 := by have h1 := HCW.out; simp only [wt] at g4; omega
                  have hgz : sz nx3 ≤ sz cs := by simp only [sz] at g3; omega
                  have hgw : wt nx3 ≤ wt cs := by simp only [wt] at g4; omega
                  have HIC := Lib.hid (fun W (hB : Below w.heap.size w W) => HIH.out body (.slice va vn vcap) false W hbz hnb hbw (hsv3.below hB))
                  have HNX3 : Hid (CasesFrom w (some ⟨b2, o2, none⟩) n3 (j + 1) nx3 ∧ isN.isC nx3 = true ∧ sz nx3 ≤ sz cs ∧ wt nx3 ≤ wt cs) := ⟨hnext3, hncs2, hgz, hgw⟩
                  obtain ⟨kq, hkq⟩ : ∃ kq, (!keyB 5 key) = kq := ⟨_, rfl⟩
                  have D1 := Lib.hid (show ∀ dr os, Calls Tryz.prog 48 #[.agg #[.int .i64 5, .string ⟨x.toArray⟩, .int .i64 f, .slice (some ⟨b2, o2, none⟩) n3 c3], .string ⟨key.toArray⟩] (grow (redrawn wr dr) os) (fun e w' => e = .returned (.bool kq) ∧ ∃ p : Regrown, w' = grow (redrawn wr p.d) p.os) from
                    fun dr os => Calls.regrown_of (by
                      have h := keyfault_any 5 f ⟨x.toArray⟩ (.slice (some ⟨b2, o2, none⟩) n3 c3) ⟨key.toArray⟩ (grow (redrawn wr dr) os) hks
                      rw [show (!keyB 5 (⟨key.toArray⟩ : ByteArray).data.toList) = kq from hkq] at h
                      exact h))
                  have r0 := cell_regrown f0; have r1 := cell_regrown f1; have r2 := cell_regrown f2; have r3 := cell_regrown f3
                  have t0 := cell_regrown y0; have t1 := cell_regrown y1
                  have G5 := Lib.hid g5; have HKQ := Lib.hid hkq; have P1 := Lib.hid p1
                  clear g1 g2 g3 g4 g5 p0 p1 hsv3 hnext3 kc hks hbz hbw hgz hgw hnb hncs2 HT3 hkq y0 y1 f0 f1 f2
                  cases kq with
                  | true =>
                    have HF4 := Lib.hid (show flt t false false 0 [] = 3 by
                      rw [HF3.out, G5.out, if_pos (show keyB 5 key = false by have := HKQ.out; simpa using this)]; rfl)
                    go_wp2_with fail
                    refine wp_region_quiet_below (by kernel_rfl) (by kernel_rfl) ?_
                    repeat (quiet_step (first | with_reducible exact D1.out _ _))
                    refine wpQuiet_nil ?_
                    intro _ hw'
                    obtain ⟨⟨dq, osq⟩, hw''⟩ := hw'
                    subst hw''
                    go_wp2_with fail
                    go_ret
                    exact ⟨by rw [HF4.out] <;> rfl, HBw3.out.trans ((below_regrown wr dq osq).mono HBw3.out.size)⟩
                  | false =>
                    have hkt : ¬ keyB 5 key = false := by have := HKQ.out; simp at this; rw [this]; decide
                    have HKT := Lib.hid hkt; clear hkt
                    go_wp2_with fail
                    refine wp_region_quiet_below (by kernel_rfl) (by kernel_rfl) ?_
                    repeat (quiet_step (first | with_reducible exact D1.out _ _))
                    refine wpQuiet_nil ?_
                    intro _ hw'
                    obtain ⟨⟨dq, osq⟩, hw''⟩ := hw'
                    subst hw''
                    have hbq := below_regrown wr dq osq
                    have s0 := r0 dq osq; have s1 := r1 dq osq; have s2 := r2 dq osq; have s3 := r3 dq osq; have z0 := t0 dq osq; have z1 := t1 dq osq
                    have HO3 := Lib.hid (ownsRow_below HO.out hbq)
                    have HB4 := Lib.hid (HB3.out.trans (hbq.mono HB3.out.size))
                    have HBw4 := Lib.hid (HBw3.out.trans (hbq.mono HBw3.out.size))
                    have hs4 : W2.heap.size ≤ (grow (redrawn wr dq) osq).heap.size := by have := hbq.size; omega
                    clear r0 r1 r2 r3 t0 t1 hbq D1
                    simp only []
                    generalize grow (redrawn wr dq) osq = W3 at s0 s1 s2 s3 z0 z1 HO3 HB4 HBw4 hs4 ⊢
                    go_wp2_with fail
                    refine (in_own HO3.out ⟨key.toArray⟩ (by omega)).mono ?_
                    rintro e W3' ⟨rfl, rfl⟩
                    cases hin2 : seen.contains key with
                    | true =>
                      have HF4 := Lib.hid (show flt t false false 0 [] = 5 by
                        rw [HF3.out, G5.out, if_neg HKT.out, if_pos hin2]; rfl)
                      clear hin2
                      go_wp2_with fail
                      go_ret
                      exact ⟨by rw [HF4.out] <;> rfl, HBw4.out⟩
                    | false =>
                      have HF4 := Lib.hid (show flt cs false false 5 [] = if flt body false false 0 [] ≠ 0 then flt body false false 0 [] else flt nx3 false false 5 (seen ++ [key]) by
                        rw [G5.out, if_neg HKT.out, if_neg (by rw [hin2]; decide)])
                      clear hin2
                      have Z1 := Lib.hid z1; have S0 := Lib.hid s0; have S1 := Lib.hid s1; have S2 := Lib.hid s2; have S3 := Lib.hid s3
                      have HOL := Lib.hid HO3.out.lt
                      go_wp2_with (at_builtin; refine wpList_append_own _ rfl _ _ 93 rfl W2.heap.size 9 i0 (.string ⟨#[]⟩) 1 16 Tryz.underlying93 hi hz0 hz1 hz2 rfl (by decide) _ _ _ rfl (HO3.out.alloc _) ⟨W3'.heap.size, 0, none⟩ 1 1 [.string ⟨key.toArray⟩] rfl rfl (cell_one_new _ _ _) (fun x hx => by simp at hx; subst hx; rfl) (by unfold maxLen; omega) (by omega) (by simp; omega) ?_; intro v' w3 hown3 hgrow3 _)
                      all_goals
                        have hne3 : ∀ bq, bq < W2.heap.size → u7.ownBlock ≠ some bq := fun bq hq hh => by have := (HOL.out _ hh).1; omega
                        have m0 := grown_cell hgrow3 (keepCells ((Below.refl W3'.heap.size W3').alloc (Nat.le_refl _) (.cells #[.string ⟨key.toArray⟩] 9)) _ _ _ S0.out) (hne3 _ hcbl)
                        have m3 := grown_cell hgrow3 (keepCells ((Below.refl W3'.heap.size W3').alloc (Nat.le_refl _) (.cells #[.string ⟨key.toArray⟩] 9)) _ _ _ S3.out) (hne3 _ hcbl)
                        have m1 := grown_cell hgrow3 (keepCells ((Below.refl W3'.heap.size W3').alloc (Nat.le_refl _) (.cells #[.string ⟨key.toArray⟩] 9)) _ _ _ Z1.out) (hne3 _ (by have := HB2.out.size; omega))
                        have HB5 := Lib.hid (step_below HB4.out hs4 hgrow3 HO3.out (Nat.le_refl _))
                        have HBw5 := Lib.hid (step_below HBw4.out (by have := HB2.out.size; omega) hgrow3 HO3.out (by have := HB2.out.size; omega))
                        have HO5 := Lib.hid hown3
                        have hs5 : W3'.heap.size + 1 ≤ w3.heap.size := step_size hgrow3
                        obtain ⟨fq, hfq⟩ : ∃ fq, flt body false false 0 [] = fq := ⟨_, rfl⟩
                        have D2 := Lib.hid (show ∀ dr os, Calls Tryz.prog 28 #[.slice va vn vcap, .bool false] (grow (redrawn w3 dr) os) (fun e w' => e = .returned (.int .i64 fq) ∧ ∃ p : Regrown, w' = grow (redrawn w3 p.d) p.os) from
                          fun dr os => Calls.regrown_of (by
                            have h := HIC.out (grow (redrawn w3 dr) os) (HBw5.out.trans ((below_regrown w3 dr os).mono HBw5.out.size))
                            rw [hfq] at h; exact h))
                        have r0 := cell_regrown m0; have r3 := cell_regrown m3; have r1 := cell_regrown m1
                        rw [hfq] at HF4
                        clear m0 m1 m3 z0 z1 s0 s1 s2 s3 hown3 hgrow3 hfq hne3
                        refine wp_region_quiet_below (by kernel_rfl) (by kernel_rfl) ?_
                        repeat (quiet_step (first | with_reducible exact D2.out _ _))
                        refine wpQuiet_nil ?_
                        intro _ hw'
                        obtain ⟨⟨dq, osq⟩, hw''⟩ := hw'
                        subst hw''
                        have hbq := below_regrown w3 dq osq
                        have HO6 := Lib.hid (ownsRow_below HO5.out hbq)
                        have HB6 := Lib.hid (HB5.out.trans (hbq.mono (by omega)))
                        have HBw6 := Lib.hid (HBw5.out.trans (hbq.mono HBw5.out.size))
                        clear r0 r1 r3 hbq D2
                        simp only []
                        generalize grow (redrawn w3 dq) osq = W5 at HO6 HB6 HBw6 ⊢
                        by_cases he0 : fq = 0
                        · have HF5 := Lib.hid (show flt cs false false 5 [] = flt nx3 false false 5 (seen ++ [key]) by rw [HF4.out, if_neg (fun h => h he0)])
                          subst he0
                          go_wp2_with fail
                          go_roundw
                          case rel =>
                            refine ⟨j + 1, nx3, seen ++ [key], by omega, by go_num, by simp; omega, ?_, ⟨HNX3.out.1, HNX3.out.2.1, HNX3.out.2.2.1, HNX3.out.2.2.2, HF5.out⟩, HB6⟩
                            have h := HO6.out
                            have e1 : (seen ++ [key]).length = seen.length + 1 := by simp
                            have e2 : keysV (seen ++ [key]) = keysV seen ++ [.string ⟨key.toArray⟩] := by simp [keysV]
                            rw [e1, e2]; exact h
                          case measure => simp [RowKit.intOf]; omega
                        · have HF5 := Lib.hid (show flt t false false 0 [] = fq by rw [HF3.out, HF4.out, if_pos he0, if_pos he0])
                          have hfb : (fq != 0) = true := by simpa using he0
                          go_wp2_with fail
                          go_ret
                          exact ⟨by rw [HF5.out] <;> rfl, HBw6.out⟩
                · have hje : j = n3 := by omega
                  subst hje
                  obtain ⟨g1, g2, g3, g4, g5⟩ := HT3.out
                  have ht3 := casesFrom_end g1
                  subst ht3
                  rw [flt_nilC (by decide)] at g5
                  have G5 := Lib.hid g5
                  clear g1 g2 g3 g4 g5 HT3
                  go_wp2_with fail
                  refine (in_own HO.out ⟨otherK.toArray⟩ (by omega)).mono ?_
                  rintro e W3 ⟨rfl, rfl⟩
                  cases hin2 : seen.contains otherK with
                  | true =>
                    have HF5 := Lib.hid (show flt t false false 0 [] = flt nx false ((5 : Int) == 1) 0 [] by
                      rw [HF3.out, show flt cs false false 5 [] = 0 by rw [G5.out, if_pos hin2], if_neg (by decide)])
                    clear hin2
                    go_wp2_with fail
                    go_roundw
                    case rel => exact ⟨i + 1, nx, ((5 : Int) == 1), by omega, by go_num, ⟨HNX.out.1, HNX.out.2.1, HNX.out.2.2.1, HNX.out.2.2.2.1, HF5.out, HNX.out.2.2.2.2⟩, HBw3⟩
                    case measure => simp [RowKit.intOf]; omega
                  | false =>
                    have HF5 := Lib.hid (show flt t false false 0 [] = 2 by
                      rw [HF3.out, show flt cs false false 5 [] = 2 by rw [G5.out, if_neg (by rw [hin2]; decide)], if_pos (by decide)])
                    clear hin2
                    go_wp2_with fail
                    go_ret
                    exact ⟨by rw [HF5.out] <;> rfl, HBw3.out⟩
          · subst hk
            have HF := Lib.hid (show flt t false false 0 [] = 3 by rw [HFL.out, if_pos (by rfl)])
            go_wp2_with fail
            go_ret
            exact ⟨by rw [HF.out] <;> rfl, HB1.out⟩
    · have hie : i = n := by omega
      subst hie
      obtain ⟨hf1, hn1, hs1, hw1, hfl, hpw⟩ := HT.out
      have ht0 := nodesFrom_end hf1
      subst ht0
      have HFL := Lib.hid (show flt t false false 0 [] = 0 by rw [hfl]; rfl)
      clear hf1 hn1 hs1 hw1 hfl hpw HT
      go_wp2_with fail
      go_ret
      exact ⟨by rw [HFL.out] <;> rfl, HB.out⟩


set_option maxHeartbeats 8000000 in
set_option maxRecDepth 100000 in
theorem fault_in (N : Nat) (IH : FaultIH N) (t : T) (v : Value) (w : World) (hz : sz t ≤ N) (hn : isN t = true) (hw : wt t ≤ 2000000) (hs : SV w v t) :
    Calls Tryz.prog 28 #[v, .bool true] w fun e w' => e = .returned (.int .i64 (flt t true false 0 [])) ∧ Below w.heap.size w w' := by
  obtain ⟨i0, hi, hz0, hz1, hz2⟩ := info_parts infoStr
  obtain ⟨a, n, c, rfl, hnl, hfr⟩ := nodesFrom_start hs
  have hlw := len_wt t
  have hn2 : n ≤ 2000000 := by omega
  have HIH := Lib.hid IH; have HN := Lib.hid hn; have HF := Lib.hid hfr; have HZ := Lib.hid hz; have HW := Lib.hid hw
  clear IH hn hfr hz hw hs hlw hnl
  go_enter Tryz.func28, Tryz.ntmps28
  go_wp2_with fail
  go_loopw [5] (fun i wr => ∃ (i' : Nat) (t' : T) (pw : Bool), i' ≤ n ∧ i = .int .i64 i' ∧ Hid (NodesFrom w a n i' t' ∧ isN t' = true ∧ sz t' ≤ sz t ∧ wt t' ≤ wt t ∧ flt t true false 0 [] = flt t' true pw 0 [] ∧ PwA w a i' pw) ∧ Hid (Below w.heap.size w wr)) (fun i _ => n - (RowKit.intOf i).toNat)
  case atStart => exact ⟨0, t, false, by omega, rfl, ⟨HF.out, HN.out, Nat.le_refl _, Nat.le_refl _, rfl, .inl ⟨rfl, rfl⟩⟩, Below.refl _ _⟩
  case round =>
    obtain ⟨i, t', pw, hin, rfl, HT, HB⟩ := hrel
    by_cases hlt : i < n
    · obtain ⟨hf1, hn1, hs1, hw1, hfl, hpw⟩ := HT.out
      obtain ⟨k, x, f, cs, nx, b, o, v, rfl, rfl, q0, q1, q2, q3, hsv, hnext⟩ := nodesFrom_next hf1 hlt hn1
      have kc := keepCells HB.out
      have k0 := kc _ _ _ q0; have k1 := kc _ _ _ q1; have k2 := kc _ _ _ q2; have k3 := kc _ _ _ q3
      obtain ⟨hncs, hnnx⟩ := isN_node hn1
      obtain ⟨a3, n3, c3, rfl, hl3, hfr3⟩ := casesFrom_start hsv
      have hxs : (⟨x.toArray⟩ : ByteArray).size ≤ 2000000 := by
        have h1 := HW.out; have h2 := Lib.size_eq (⟨x.toArray⟩ : ByteArray); simp only [wt] at hw1; simp only at h2; omega
      have hcsz : sz cs < N := by have := HZ.out; simp only [sz] at hs1; omega
      have hcsw : wt cs ≤ 2000000 := by have := HW.out; simp only [wt] at hw1; omega
      have hn3 : n3 ≤ 2000000 := by have := len_wt cs; omega
      have hnz : sz nx ≤ sz t := by simp only [sz] at hs1; omega
      have hnw : wt nx ≤ wt t := by simp only [wt] at hw1; omega
      rw [flt_node] at hfl
      have HNX : Hid (NodesFrom w (some ⟨b, o, none⟩) n (i + 1) nx ∧ isN nx = true ∧ sz nx ≤ sz t ∧ wt nx ≤ wt t ∧ PwA w (some ⟨b, o, none⟩) (i + 1) (k == 1)) := ⟨hnext, hnnx, hnz, hnw, .inr ⟨b, o, i, k, rfl, rfl, q0, rfl⟩⟩
      have HFL := Lib.hid hfl; have HCF := Lib.hid hfr3; have HNC := Lib.hid hncs; have HCZ := Lib.hid hcsz; have HCW := Lib.hid hcsw
      clear hf1 hn1 hs1 hw1 hfl q0 q1 q2 q3 hsv hnext kc hncs hnnx hl3 hfr3 HT hcsz hcsw hnz hnw
      by_cases hlo : k < 1
      · have HF3 := Lib.hid (show flt t true false 0 [] = 3 by
          rw [HFL.out, if_pos (by
            unfold fine
            rw [if_neg (by omega), if_neg (by omega), show (k == 6) = false from beq_eq_false_iff_ne.2 (by omega)]; rfl)])
        go_wp2_with fail
        go_ret
        exact ⟨by rw [HF3.out] <;> rfl, HB.out.alloc HB.out.size _⟩
      · by_cases hhi : 6 < k
        · have HF3 := Lib.hid (show flt t true false 0 [] = 3 by
            rw [HFL.out, if_pos (by
              unfold fine
              rw [if_neg (by omega), if_neg (by omega), show (k == 6) = false from beq_eq_false_iff_ne.2 (by omega)]; rfl)])
          go_wp2_with fail
          go_ret
          exact ⟨by rw [HF3.out] <;> rfl, HB.out.alloc HB.out.size _⟩
        · go_upto_region 5 with fail
          obtain ⟨cb, hcb⟩ : ∃ cb, cb = wr.heap.size := ⟨_, rfl⟩
          have hb1 : Below w.heap.size w (wr.alloc (.cells #[.int .i64 k, .string ⟨x.toArray⟩, .int .i64 f, .slice a3 n3 c3] 35)) := HB.out.alloc HB.out.size _
          have j0 : (wr.alloc (.cells #[.int .i64 k, .string ⟨x.toArray⟩, .int .i64 f, .slice a3 n3 c3] 35)).cell? ⟨cb, 0, none⟩ = some (.int .i64 k) := by rw [hcb]; simp
          have j1 : (wr.alloc (.cells #[.int .i64 k, .string ⟨x.toArray⟩, .int .i64 f, .slice a3 n3 c3] 35)).cell? ⟨cb, 1, none⟩ = some (.string ⟨x.toArray⟩) := by rw [hcb]; simp
          have j2 : (wr.alloc (.cells #[.int .i64 k, .string ⟨x.toArray⟩, .int .i64 f, .slice a3 n3 c3] 35)).cell? ⟨cb, 2, none⟩ = some (.int .i64 f) := by rw [hcb]; simp
          have j3 : (wr.alloc (.cells #[.int .i64 k, .string ⟨x.toArray⟩, .int .i64 f, .slice a3 n3 c3] 35)).cell? ⟨cb, 3, none⟩ = some (.slice a3 n3 c3) := by rw [hcb]; simp
          have hcs1 : (wr.alloc (.cells #[.int .i64 k, .string ⟨x.toArray⟩, .int .i64 f, .slice a3 n3 c3] 35)).heap.size = cb + 1 := by rw [hcb]; simp
          rw [← hcb]
          generalize wr.alloc (.cells #[.int .i64 k, .string ⟨x.toArray⟩, .int .i64 f, .slice a3 n3 c3] 35) = W1 at hb1 j0 j1 j2 j3 hcs1 ⊢
          have HB1 := Lib.hid hb1
          clear hb1 k0 k1 k2 k3 hcb
          have hk : k = 1 ∨ k = 2 ∨ k = 3 ∨ k = 4 ∨ k = 5 ∨ k = 6 := by omega
          clear hlo hhi
          rcases hk with hk | hk | hk | hk | hk | hk
          · subst hk
            by_cases hx : x = []
            · have he : x.isEmpty = true := by rw [hx]; rfl
              have HF := Lib.hid (show flt t true false 0 [] = 3 by rw [HFL.out, if_pos (by
                simp [fine, he])])
              clear HFL hpw
              go_wp2_with fail
              go_ret
              exact ⟨by rw [HF.out] <;> rfl, HB1.out⟩
            · have he : x.isEmpty = false := by
                cases x with
                | nil => exact absurd rfl hx
                | cons _ _ => rfl
              have hfe : fine 1 x true pw = !pw := by
                simp [fine, he]
              rw [hfe] at HFL
              clear hfe
              rcases hpw with ⟨rfl, rfl⟩ | ⟨b', o', i', kp, ha, rfl, hc, rfl⟩
              · have HF2 := Lib.hid (show flt t true false 0 [] = flt nx true ((1 : Int) == 1) 0 [] by rw [HFL.out, if_neg (by decide), if_neg (by omega), if_neg (fun h => absurd h.1 (by decide))])
                clear HFL
                go_wp2_with fail
                go_roundw
                case rel => exact ⟨0 + 1, nx, ((1 : Int) == 1), by omega, by go_num, ⟨HNX.out.1, HNX.out.2.1, HNX.out.2.2.1, HNX.out.2.2.2.1, HF2.out, HNX.out.2.2.2.2⟩, HB1⟩
                case measure => simp [RowKit.intOf]; omega
              · cases ha
                have hcc := keepCells HB1.out _ _ _ hc
                by_cases hkp : kp = 1
                · subst hkp
                  have HF := Lib.hid (show flt t true false 0 [] = 3 by rw [HFL.out, if_pos (by rfl)])
                  clear HFL
                  go_wp2_with fail
                  go_ret
                  exact ⟨by rw [HF.out] <;> rfl, HB1.out⟩
                · have hkb : (kp == 1) = false := beq_eq_false_iff_ne.2 hkp
                  have HF2 := Lib.hid (show flt t true false 0 [] = flt nx true ((1 : Int) == 1) 0 [] by rw [HFL.out, if_neg (by rw [hkb]; decide), if_neg (by omega), if_neg (fun h => absurd h.1 (by decide))])
                  clear HFL
                  go_wp2_with fail
                  go_roundw
                  case rel => exact ⟨i' + 1 + 1, nx, ((1 : Int) == 1), by omega, by go_num, ⟨HNX.out.1, HNX.out.2.1, HNX.out.2.2.1, HNX.out.2.2.2.1, HF2.out, HNX.out.2.2.2.2⟩, HB1⟩
                  case measure => simp [RowKit.intOf]; omega
          · subst hk
            have HN := Lib.hid (fun W => rname_any ⟨x.toArray⟩ W hxs)
            cases hnb : nameB x with
            | false =>
              have HF := Lib.hid (show flt t true false 0 [] = 3 by rw [HFL.out, if_pos (show fine 2 x true pw = false from hnb)])
              rw [show nameB (⟨x.toArray⟩ : ByteArray).data.toList = false from hnb] at HN
              clear hnb
              go_wp2_with fail
              refine (HN.out _).mono ?_
              rintro e W2 ⟨rfl, hb⟩
              have HB2 := Lib.hid (HB1.out.trans (hb.mono HB1.out.size)); clear hb
              go_wp2_with fail
              go_ret
              exact ⟨by rw [HF.out] <;> rfl, HB2.out⟩
            | true =>
              have HFL2 := Lib.hid (show flt t true false 0 [] = if (2 : Int) = 4 ∧ (f < 0 ∨ f > 9) then 1 else if hasC 2 = true ∧ flt cs (true || (2 : Int) == 4) false 2 [] ≠ 0 then flt cs (true || (2 : Int) == 4) false 2 [] else flt nx true ((2 : Int) == 1) 0 [] by
                rw [HFL.out, if_neg (by rw [show fine 2 x true pw = true from hnb]; decide)])
              rw [show nameB (⟨x.toArray⟩ : ByteArray).data.toList = true from hnb] at HN
              clear hnb HFL
              go_wp2_with fail
              refine (HN.out _).mono ?_
              rintro e W2 ⟨rfl, hb⟩
              have hcbl : cb < W2.heap.size := by have := hb.size; omega
              have e0 := (hb.cell (p := ⟨cb, 0, none⟩) (by show cb < _; omega)).trans j0
              have e1 := (hb.cell (p := ⟨cb, 1, none⟩) (by show cb < _; omega)).trans j1
              have e2 := (hb.cell (p := ⟨cb, 2, none⟩) (by show cb < _; omega)).trans j2
              have e3 := (hb.cell (p := ⟨cb, 3, none⟩) (by show cb < _; omega)).trans j3
              have HB2 := Lib.hid (HB1.out.trans (hb.mono HB1.out.size)); clear hb j0 j1 j2 j3
              have HF2 := Lib.hid (show flt t true false 0 [] = flt nx true ((2 : Int) == 1) 0 [] by rw [HFL2.out, if_neg (fun h => absurd h.1 (by decide)), if_neg (fun h => absurd h.1 (by decide))])
              clear HFL2
              go_wp2_with fail
              go_roundw
              case rel => exact ⟨i + 1, nx, ((2 : Int) == 1), by omega, by go_num, ⟨HNX.out.1, HNX.out.2.1, HNX.out.2.2.1, HNX.out.2.2.2.1, HF2.out, HNX.out.2.2.2.2⟩, HB2⟩
              case measure => simp [RowKit.intOf]; omega
          · subst hk
            have HN := Lib.hid (fun W => rname_any ⟨x.toArray⟩ W hxs)
            cases hnb : nameB x with
            | false =>
              have HF := Lib.hid (show flt t true false 0 [] = 3 by rw [HFL.out, if_pos (show fine 3 x true pw = false from hnb)])
              rw [show nameB (⟨x.toArray⟩ : ByteArray).data.toList = false from hnb] at HN
              clear hnb
              go_wp2_with fail
              refine (HN.out _).mono ?_
              rintro e W2 ⟨rfl, hb⟩
              have HB2 := Lib.hid (HB1.out.trans (hb.mono HB1.out.size)); clear hb
              go_wp2_with fail
              go_ret
              exact ⟨by rw [HF.out] <;> rfl, HB2.out⟩
            | true =>
              have HFL2 := Lib.hid (show flt t true false 0 [] = if (3 : Int) = 4 ∧ (f < 0 ∨ f > 9) then 1 else if hasC 3 = true ∧ flt cs (true || (3 : Int) == 4) false 3 [] ≠ 0 then flt cs (true || (3 : Int) == 4) false 3 [] else flt nx true ((3 : Int) == 1) 0 [] by
                rw [HFL.out, if_neg (by rw [show fine 3 x true pw = true from hnb]; decide)])
              rw [show nameB (⟨x.toArray⟩ : ByteArray).data.toList = true from hnb] at HN
              clear hnb HFL
              go_wp2_with fail
              refine (HN.out _).mono ?_
              rintro e W2 ⟨rfl, hb⟩
              have hcbl : cb < W2.heap.size := by have := hb.size; omega
              have e0 := (hb.cell (p := ⟨cb, 0, none⟩) (by show cb < _; omega)).trans j0
              have e1 := (hb.cell (p := ⟨cb, 1, none⟩) (by show cb < _; omega)).trans j1
              have e2 := (hb.cell (p := ⟨cb, 2, none⟩) (by show cb < _; omega)).trans j2
              have e3 := (hb.cell (p := ⟨cb, 3, none⟩) (by show cb < _; omega)).trans j3
              have HB2 := Lib.hid (HB1.out.trans (hb.mono HB1.out.size)); clear hb j0 j1 j2 j3
              have HF2 := Lib.hid (show flt t true false 0 [] = flt nx true ((3 : Int) == 1) 0 [] by rw [HFL2.out, if_neg (fun h => absurd h.1 (by decide)), if_neg (fun h => absurd h.1 (by decide))])
              clear HFL2
              go_wp2_with fail
              go_roundw
              case rel => exact ⟨i + 1, nx, ((3 : Int) == 1), by omega, by go_num, ⟨HNX.out.1, HNX.out.2.1, HNX.out.2.2.1, HNX.out.2.2.2.1, HF2.out, HNX.out.2.2.2.2⟩, HB2⟩
              case measure => simp [RowKit.intOf]; omega
          · subst hk
            have HN := Lib.hid (fun W => rname_any ⟨x.toArray⟩ W hxs)
            cases hnb : nameB x with
            | false =>
              have HF := Lib.hid (show flt t true false 0 [] = 3 by rw [HFL.out, if_pos (show fine 4 x true pw = false from hnb)])
              rw [show nameB (⟨x.toArray⟩ : ByteArray).data.toList = false from hnb] at HN
              clear hnb
              go_wp2_with fail
              refine (HN.out _).mono ?_
              rintro e W2 ⟨rfl, hb⟩
              have HB2 := Lib.hid (HB1.out.trans (hb.mono HB1.out.size)); clear hb
              go_wp2_with fail
              go_ret
              exact ⟨by rw [HF.out] <;> rfl, HB2.out⟩
            | true =>
              have HFL2 := Lib.hid (show flt t true false 0 [] = if (4 : Int) = 4 ∧ (f < 0 ∨ f > 9) then 1 else if hasC 4 = true ∧ flt cs (true || (4 : Int) == 4) false 4 [] ≠ 0 then flt cs (true || (4 : Int) == 4) false 4 [] else flt nx true ((4 : Int) == 1) 0 [] by
                rw [HFL.out, if_neg (by rw [show fine 4 x true pw = true from hnb]; decide)])
              rw [show nameB (⟨x.toArray⟩ : ByteArray).data.toList = true from hnb] at HN
              clear hnb HFL
              go_wp2_with fail
              refine (HN.out _).mono ?_
              rintro e W2 ⟨rfl, hb⟩
              have hcbl : cb < W2.heap.size := by have := hb.size; omega
              have e0 := (hb.cell (p := ⟨cb, 0, none⟩) (by show cb < _; omega)).trans j0
              have e1 := (hb.cell (p := ⟨cb, 1, none⟩) (by show cb < _; omega)).trans j1
              have e2 := (hb.cell (p := ⟨cb, 2, none⟩) (by show cb < _; omega)).trans j2
              have e3 := (hb.cell (p := ⟨cb, 3, none⟩) (by show cb < _; omega)).trans j3
              have HB2 := Lib.hid (HB1.out.trans (hb.mono HB1.out.size)); clear hb j0 j1 j2 j3
              by_cases hf0 : f < 0
              · have HF := Lib.hid (show flt t true false 0 [] = 1 by rw [HFL2.out, if_pos ⟨by first | trivial | rfl, .inl hf0⟩])
                go_wp2_with fail
                go_ret
                exact ⟨by rw [HF.out] <;> rfl, HB2.out⟩
              · by_cases hf9 : 9 < f
                · have HF := Lib.hid (show flt t true false 0 [] = 1 by rw [HFL2.out, if_pos ⟨by first | trivial | rfl, .inr hf9⟩])
                  go_wp2_with fail
                  go_ret
                  exact ⟨by rw [HF.out] <;> rfl, HB2.out⟩
                · have HF2 := Lib.hid (show flt t true false 0 [] = if hasC 4 = true ∧ flt cs true false 4 [] ≠ 0 then flt cs true false 4 [] else flt nx true ((4 : Int) == 1) 0 [] by rw [HFL2.out, if_neg (by omega)]; rfl)
                  clear HFL2
                  have HF3 : Hid (flt t true false 0 [] = if flt cs true false 4 [] ≠ 0 then flt cs true false 4 [] else flt nx true ((4 : Int) == 1) 0 []) := by
                    show _ = _
                    rw [HF2.out]
                    by_cases h : flt cs true false 4 [] = 0
                    · rw [if_neg (fun hh => hh.2 h), if_neg (fun hh => hh h)]
                    · rw [if_pos ⟨by first | trivial | rfl, h⟩, if_pos h]
                  clear HF2
                  go_wp2_with fail
                  go_loopw [7, 8] (fun vs j wr2 => ∃ (j' : Nat) (t3 : T) (seen : List (List UInt8)), j' ≤ n3 ∧ j = .int .i64 j' ∧ seen.length = j' ∧ Hid (wr2.ownsRow W2.heap.size 9 1 vs seen.length (keysV seen)) ∧ Hid (CasesFrom w a3 n3 j' t3 ∧ isN.isC t3 = true ∧ sz t3 ≤ sz cs ∧ wt t3 ≤ wt cs ∧ flt cs true false 4 [] = flt t3 true false 4 seen) ∧ Hid (Below W2.heap.size W2 wr2)) (fun _ j _ => n3 - (RowKit.intOf j).toNat)
                  case atStart => exact ⟨0, cs, [], by omega, rfl, rfl, World.ownsRow_nil _ _ _ _, ⟨HCF.out, HNC.out, Nat.le_refl _, Nat.le_refl _, rfl⟩, Below.refl _ _⟩
                  case round =>
                    obtain ⟨j, t3, seen, hjn, rfl, hsl, HO, HT3, HB3⟩ := hrel
                    have HBw3 : Hid (Below w.heap.size w wr) := HB2.out.trans (HB3.out.mono HB2.out.size)
                    have f0 := (HB3.out.cell (p := ⟨cb, 0, none⟩) hcbl).trans e0
                    have f1 := (HB3.out.cell (p := ⟨cb, 1, none⟩) hcbl).trans e1
                    have f2 := (HB3.out.cell (p := ⟨cb, 2, none⟩) hcbl).trans e2
                    have f3 := (HB3.out.cell (p := ⟨cb, 3, none⟩) hcbl).trans e3
                    have hs3 := HB3.out.size
                    by_cases hlt2 : j < n3
                    · obtain ⟨g1, g2, g3, g4, g5⟩ := HT3.out
                      obtain ⟨key, body, nx3, b2, o2, v3, rfl, rfl, p0, p1, hsv3, hnext3⟩ := casesFrom_next g1 hlt2 g2
                      obtain ⟨va, vn, vcap, rfl⟩ : ∃ a n c, v3 = .slice a n c := by
                        rcases hsv3 with ⟨⟨_, h⟩, _⟩ | ⟨b', o', n', c', h, _⟩
                        · exact ⟨_, _, _, h⟩
                        · exact ⟨_, _, _, h⟩
                      obtain ⟨hnb, hncs2⟩ := isC_case g2
                      rw [flt_case] at g5
                      have kc := keepCells HBw3.out
                      have y0 := kc _ _ _ p0; have y1 := kc _ _ _ p1
                      have hb2w : b2 < w.heap.size := cellLt p0
                      have hks : (⟨key.toArray⟩ : ByteArray).size ≤ 2000000 := by
                        have h1 := HCW.out; have h2 := Lib.size_eq (⟨key.toArray⟩ : ByteArray); simp only [wt] at g4; simp only at h2; omega
                      have hbz : sz body < N := by have h1 := HCZ.out; simp only [sz] at g3; omega
                      have hbw : wt body ≤ 2000000 := by have h1 := HCW.out; simp only [wt] at g4; omega
                      have hgz : sz nx3 ≤ sz cs := by simp only [sz] at g3; omega
                      have hgw : wt nx3 ≤ wt cs := by simp only [wt] at g4; omega
                      have HIC := Lib.hid (fun W (hB : Below w.heap.size w W) => HIH.out body (.slice va vn vcap) true W hbz hnb hbw (hsv3.below hB))
                      have HNX3 : Hid (CasesFrom w (some ⟨b2, o2, none⟩) n3 (j + 1) nx3 ∧ isN.isC nx3 = true ∧ sz nx3 ≤ sz cs ∧ wt nx3 ≤ wt cs) := ⟨hnext3, hncs2, hgz, hgw⟩
                      obtain ⟨kq, hkq⟩ : ∃ kq, (!keyB 4 key) = kq := ⟨_, rfl⟩
                      have D1 := Lib.hid (show ∀ dr os, Calls Tryz.prog 48 #[.agg #[.int .i64 4, .string ⟨x.toArray⟩, .int .i64 f, .slice (some ⟨b2, o2, none⟩) n3 c3], .string ⟨key.toArray⟩] (grow (redrawn wr dr) os) (fun e w' => e = .returned (.bool kq) ∧ ∃ p : Regrown, w' = grow (redrawn wr p.d) p.os) from
                        fun dr os => Calls.regrown_of (by
                          have h := keyfault_any 4 f ⟨x.toArray⟩ (.slice (some ⟨b2, o2, none⟩) n3 c3) ⟨key.toArray⟩ (grow (redrawn wr dr) os) hks
                          rw [show (!keyB 4 (⟨key.toArray⟩ : ByteArray).data.toList) = kq from hkq] at h
                          exact h))
                      have r0 := cell_regrown f0; have r1 := cell_regrown f1; have r2 := cell_regrown f2; have r3 := cell_regrown f3
                      have t0 := cell_regrown y0; have t1 := cell_regrown y1
                      have G5 := Lib.hid g5; have HKQ := Lib.hid hkq; have P1 := Lib.hid p1
                      clear g1 g2 g3 g4 g5 p0 p1 hsv3 hnext3 kc hks hbz hbw hgz hgw hnb hncs2 HT3 hkq y0 y1 f0 f1 f2
                      cases kq with
                      | true =>
                        have HF4 := Lib.hid (show flt t true false 0 [] = 3 by
                          rw [HF3.out, G5.out, if_pos (show keyB 4 key = false by have := HKQ.out; simpa using this)]; rfl)
                        go_wp2_with fail
                        refine wp_region_quiet_below (by kernel_rfl) (by kernel_rfl) ?_
                        repeat (quiet_step (first | with_reducible exact D1.out _ _))
                        refine wpQuiet_nil ?_
                        intro _ hw'
                        obtain ⟨⟨dq, osq⟩, hw''⟩ := hw'
                        subst hw''
                        go_wp2_with fail
                        go_ret
                        exact ⟨by rw [HF4.out] <;> rfl, HBw3.out.trans ((below_regrown wr dq osq).mono HBw3.out.size)⟩
                      | false =>
                        have hkt : ¬ keyB 4 key = false := by have := HKQ.out; simp at this; rw [this]; decide
                        have HKT := Lib.hid hkt; clear hkt
                        go_wp2_with fail
                        refine wp_region_quiet_below (by kernel_rfl) (by kernel_rfl) ?_
                        repeat (quiet_step (first | with_reducible exact D1.out _ _))
                        refine wpQuiet_nil ?_
                        intro _ hw'
                        obtain ⟨⟨dq, osq⟩, hw''⟩ := hw'
                        subst hw''
                        have hbq := below_regrown wr dq osq
                        have s0 := r0 dq osq; have s1 := r1 dq osq; have s2 := r2 dq osq; have s3 := r3 dq osq; have z0 := t0 dq osq; have z1 := t1 dq osq
                        have HO3 := Lib.hid (ownsRow_below HO.out hbq)
                        have HB4 := Lib.hid (HB3.out.trans (hbq.mono HB3.out.size))
                        have HBw4 := Lib.hid (HBw3.out.trans (hbq.mono HBw3.out.size))
                        have hs4 : W2.heap.size ≤ (grow (redrawn wr dq) osq).heap.size := by have := hbq.size; omega
                        clear r0 r1 r2 r3 t0 t1 hbq D1
                        simp only []
                        generalize grow (redrawn wr dq) osq = W3 at s0 s1 s2 s3 z0 z1 HO3 HB4 HBw4 hs4 ⊢
                        go_wp2_with fail
                        refine (in_own HO3.out ⟨key.toArray⟩ (by omega)).mono ?_
                        rintro e W3' ⟨rfl, rfl⟩
                        cases hin2 : seen.contains key with
                        | true =>
                          have HF4 := Lib.hid (show flt t true false 0 [] = 5 by
                            rw [HF3.out, G5.out, if_neg HKT.out, if_pos hin2]; rfl)
                          clear hin2
                          go_wp2_with fail
                          go_ret
                          exact ⟨by rw [HF4.out] <;> rfl, HBw4.out⟩
                        | false =>
                          have HF4 := Lib.hid (show flt cs true false 4 [] = if flt body true false 0 [] ≠ 0 then flt body true false 0 [] else flt nx3 true false 4 (seen ++ [key]) by
                            rw [G5.out, if_neg HKT.out, if_neg (by rw [hin2]; decide)])
                          clear hin2
                          have Z1 := Lib.hid z1; have S0 := Lib.hid s0; have S1 := Lib.hid s1; have S2 := Lib.hid s2; have S3 := Lib.hid s3
                          have HOL := Lib.hid HO3.out.lt
                          go_wp2_with (at_builtin; refine wpList_append_own _ rfl _ _ 93 rfl W2.heap.size 9 i0 (.string ⟨#[]⟩) 1 16 Tryz.underlying93 hi hz0 hz1 hz2 rfl (by decide) _ _ _ rfl (HO3.out.alloc _) ⟨W3'.heap.size, 0, none⟩ 1 1 [.string ⟨key.toArray⟩] rfl rfl (cell_one_new _ _ _) (fun x hx => by simp at hx; subst hx; rfl) (by unfold maxLen; omega) (by omega) (by simp; omega) ?_; intro v' w3 hown3 hgrow3 _)
                          all_goals
                            have hne3 : ∀ bq, bq < W2.heap.size → u7.ownBlock ≠ some bq := fun bq hq hh => by have := (HOL.out _ hh).1; omega
                            have m0 := grown_cell hgrow3 (keepCells ((Below.refl W3'.heap.size W3').alloc (Nat.le_refl _) (.cells #[.string ⟨key.toArray⟩] 9)) _ _ _ S0.out) (hne3 _ hcbl)
                            have m3 := grown_cell hgrow3 (keepCells ((Below.refl W3'.heap.size W3').alloc (Nat.le_refl _) (.cells #[.string ⟨key.toArray⟩] 9)) _ _ _ S3.out) (hne3 _ hcbl)
                            have m1 := grown_cell hgrow3 (keepCells ((Below.refl W3'.heap.size W3').alloc (Nat.le_refl _) (.cells #[.string ⟨key.toArray⟩] 9)) _ _ _ Z1.out) (hne3 _ (by have := HB2.out.size; omega))
                            have HB5 := Lib.hid (step_below HB4.out hs4 hgrow3 HO3.out (Nat.le_refl _))
                            have HBw5 := Lib.hid (step_below HBw4.out (by have := HB2.out.size; omega) hgrow3 HO3.out (by have := HB2.out.size; omega))
                            have HO5 := Lib.hid hown3
                            have hs5 : W3'.heap.size + 1 ≤ w3.heap.size := step_size hgrow3
                            obtain ⟨fq, hfq⟩ : ∃ fq, flt body true false 0 [] = fq := ⟨_, rfl⟩
                            have D2 := Lib.hid (show ∀ dr os, Calls Tryz.prog 28 #[.slice va vn vcap, .bool true] (grow (redrawn w3 dr) os) (fun e w' => e = .returned (.int .i64 fq) ∧ ∃ p : Regrown, w' = grow (redrawn w3 p.d) p.os) from
                              fun dr os => Calls.regrown_of (by
                                have h := HIC.out (grow (redrawn w3 dr) os) (HBw5.out.trans ((below_regrown w3 dr os).mono HBw5.out.size))
                                rw [hfq] at h; exact h))
                            have r0 := cell_regrown m0; have r3 := cell_regrown m3; have r1 := cell_regrown m1
                            rw [hfq] at HF4
                            clear m0 m1 m3 z0 z1 s0 s1 s2 s3 hown3 hgrow3 hfq hne3
                            refine wp_region_quiet_below (by kernel_rfl) (by kernel_rfl) ?_
                            repeat (quiet_step (first | with_reducible exact D2.out _ _))
                            refine wpQuiet_nil ?_
                            intro _ hw'
                            obtain ⟨⟨dq, osq⟩, hw''⟩ := hw'
                            subst hw''
                            have hbq := below_regrown w3 dq osq
                            have HO6 := Lib.hid (ownsRow_below HO5.out hbq)
                            have HB6 := Lib.hid (HB5.out.trans (hbq.mono (by omega)))
                            have HBw6 := Lib.hid (HBw5.out.trans (hbq.mono HBw5.out.size))
                            clear r0 r1 r3 hbq D2
                            simp only []
                            generalize grow (redrawn w3 dq) osq = W5 at HO6 HB6 HBw6 ⊢
                            by_cases he0 : fq = 0
                            · have HF5 := Lib.hid (show flt cs true false 4 [] = flt nx3 true false 4 (seen ++ [key]) by rw [HF4.out, if_neg (fun h => h he0)])
                              subst he0
                              go_wp2_with fail
                              go_roundw
                              case rel =>
                                refine ⟨j + 1, nx3, seen ++ [key], by omega, by go_num, by simp; omega, ?_, ⟨HNX3.out.1, HNX3.out.2.1, HNX3.out.2.2.1, HNX3.out.2.2.2, HF5.out⟩, HB6⟩
                                have h := HO6.out
                                have e1 : (seen ++ [key]).length = seen.length + 1 := by simp
                                have e2 : keysV (seen ++ [key]) = keysV seen ++ [.string ⟨key.toArray⟩] := by simp [keysV]
                                rw [e1, e2]; exact h
                              case measure => simp [RowKit.intOf]; omega
                            · have HF5 := Lib.hid (show flt t true false 0 [] = fq by rw [HF3.out, HF4.out, if_pos he0, if_pos he0])
                              have hfb : (fq != 0) = true := by simpa using he0
                              go_wp2_with fail
                              go_ret
                              exact ⟨by rw [HF5.out] <;> rfl, HBw6.out⟩
                    · have hje : j = n3 := by omega
                      subst hje
                      obtain ⟨g1, g2, g3, g4, g5⟩ := HT3.out
                      have ht3 := casesFrom_end g1
                      subst ht3
                      rw [flt_nilC (by decide)] at g5
                      have G5 := Lib.hid g5
                      clear g1 g2 g3 g4 g5 HT3
                      go_wp2_with fail
                      refine (in_own HO.out ⟨otherK.toArray⟩ (by omega)).mono ?_
                      rintro e W3 ⟨rfl, rfl⟩
                      cases hin2 : seen.contains otherK with
                      | true =>
                        have HF5 := Lib.hid (show flt t true false 0 [] = flt nx true ((4 : Int) == 1) 0 [] by
                          rw [HF3.out, show flt cs true false 4 [] = 0 by rw [G5.out, if_pos hin2], if_neg (by decide)])
                        clear hin2
                        go_wp2_with fail
                        go_roundw
                        case rel => exact ⟨i + 1, nx, ((4 : Int) == 1), by omega, by go_num, ⟨HNX.out.1, HNX.out.2.1, HNX.out.2.2.1, HNX.out.2.2.2.1, HF5.out, HNX.out.2.2.2.2⟩, HBw3⟩
                        case measure => simp [RowKit.intOf]; omega
                      | false =>
                        have HF5 := Lib.hid (show flt t true false 0 [] = 2 by
                          rw [HF3.out, show flt cs true false 4 [] = 2 by rw [G5.out, if_neg (by rw [hin2]; decide)], if_pos (by decide)])
                        clear hin2
                        go_wp2_with fail
                        go_ret
                        exact ⟨by rw [HF5.out] <;> rfl, HBw3.out⟩
          · subst hk
            have HN := Lib.hid (fun W => rname_any ⟨x.toArray⟩ W hxs)
            cases hnb : nameB x with
            | false =>
              have HF := Lib.hid (show flt t true false 0 [] = 3 by rw [HFL.out, if_pos (show fine 5 x true pw = false from hnb)])
              rw [show nameB (⟨x.toArray⟩ : ByteArray).data.toList = false from hnb] at HN
              clear hnb
              go_wp2_with fail
              refine (HN.out _).mono ?_
              rintro e W2 ⟨rfl, hb⟩
              have HB2 := Lib.hid (HB1.out.trans (hb.mono HB1.out.size)); clear hb
              go_wp2_with fail
              go_ret
              exact ⟨by rw [HF.out] <;> rfl, HB2.out⟩
            | true =>
              have HFL2 := Lib.hid (show flt t true false 0 [] = if (5 : Int) = 4 ∧ (f < 0 ∨ f > 9) then 1 else if hasC 5 = true ∧ flt cs (true || (5 : Int) == 4) false 5 [] ≠ 0 then flt cs (true || (5 : Int) == 4) false 5 [] else flt nx true ((5 : Int) == 1) 0 [] by
                rw [HFL.out, if_neg (by rw [show fine 5 x true pw = true from hnb]; decide)])
              rw [show nameB (⟨x.toArray⟩ : ByteArray).data.toList = true from hnb] at HN
              clear hnb HFL
              go_wp2_with fail
              refine (HN.out _).mono ?_
              rintro e W2 ⟨rfl, hb⟩
              have hcbl : cb < W2.heap.size := by have := hb.size; omega
              have e0 := (hb.cell (p := ⟨cb, 0, none⟩) (by show cb < _; omega)).trans j0
              have e1 := (hb.cell (p := ⟨cb, 1, none⟩) (by show cb < _; omega)).trans j1
              have e2 := (hb.cell (p := ⟨cb, 2, none⟩) (by show cb < _; omega)).trans j2
              have e3 := (hb.cell (p := ⟨cb, 3, none⟩) (by show cb < _; omega)).trans j3
              have HB2 := Lib.hid (HB1.out.trans (hb.mono HB1.out.size)); clear hb j0 j1 j2 j3
              have HF2 := Lib.hid (show flt t true false 0 [] = if hasC 5 = true ∧ flt cs true false 5 [] ≠ 0 then flt cs true false 5 [] else flt nx true ((5 : Int) == 1) 0 [] by rw [HFL2.out, if_neg (by omega)]; rfl)
              clear HFL2

              have HF3 : Hid (flt t true false 0 [] = if flt cs true false 5 [] ≠ 0 then flt cs true false 5 [] else flt nx true ((5 : Int) == 1) 0 []) := by
                show _ = _
                rw [HF2.out]
                by_cases h : flt cs true false 5 [] = 0
                · rw [if_neg (fun hh => hh.2 h), if_neg (fun hh => hh h)]
                · rw [if_pos ⟨by first | trivial | rfl, h⟩, if_pos h]
              clear HF2
              go_wp2_with fail
              go_loopw [7, 8] (fun vs j wr2 => ∃ (j' : Nat) (t3 : T) (seen : List (List UInt8)), j' ≤ n3 ∧ j = .int .i64 j' ∧ seen.length = j' ∧ Hid (wr2.ownsRow W2.heap.size 9 1 vs seen.length (keysV seen)) ∧ Hid (CasesFrom w a3 n3 j' t3 ∧ isN.isC t3 = true ∧ sz t3 ≤ sz cs ∧ wt t3 ≤ wt cs ∧ flt cs true false 5 [] = flt t3 true false 5 seen) ∧ Hid (Below W2.heap.size W2 wr2)) (fun _ j _ => n3 - (RowKit.intOf j).toNat)
              case atStart => exact ⟨0, cs, [], by omega, rfl, rfl, World.ownsRow_nil _ _ _ _, ⟨HCF.out, HNC.out, Nat.le_refl _, Nat.le_refl _, rfl⟩, Below.refl _ _⟩
              case round =>
                obtain ⟨j, t3, seen, hjn, rfl, hsl, HO, HT3, HB3⟩ := hrel
                have HBw3 : Hid (Below w.heap.size w wr) := HB2.out.trans (HB3.out.mono HB2.out.size)
                have f0 := (HB3.out.cell (p := ⟨cb, 0, none⟩) hcbl).trans e0
                have f1 := (HB3.out.cell (p := ⟨cb, 1, none⟩) hcbl).trans e1
                have f2 := (HB3.out.cell (p := ⟨cb, 2, none⟩) hcbl).trans e2
                have f3 := (HB3.out.cell (p := ⟨cb, 3, none⟩) hcbl).trans e3
                have hs3 := HB3.out.size
                by_cases hlt2 : j < n3
                · obtain ⟨g1, g2, g3, g4, g5⟩ := HT3.out
                  obtain ⟨key, body, nx3, b2, o2, v3, rfl, rfl, p0, p1, hsv3, hnext3⟩ := casesFrom_next g1 hlt2 g2
                  obtain ⟨va, vn, vcap, rfl⟩ : ∃ a n c, v3 = .slice a n c := by
                    rcases hsv3 with ⟨⟨_, h⟩, _⟩ | ⟨b', o', n', c', h, _⟩
                    · exact ⟨_, _, _, h⟩
                    · exact ⟨_, _, _, h⟩
                  obtain ⟨hnb, hncs2⟩ := isC_case g2
                  rw [flt_case] at g5
                  have kc := keepCells HBw3.out
                  have y0 := kc _ _ _ p0; have y1 := kc _ _ _ p1
                  have hb2w : b2 < w.heap.size := cellLt p0
                  have hks : (⟨key.toArray⟩ : ByteArray).size ≤ 2000000 := by
                    have h1 := HCW.out; have h2 := Lib.size_eq (⟨key.toArray⟩ : ByteArray); simp only [wt] at g4; simp only at h2; omega
                  have hbz : sz body < N := by have h1 := HCZ.out; simp only [sz] at g3; omega
                  have hbw : wt body ≤ 2000000 := by have h1 := HCW.out; simp only [wt] at g4; omega
                  have hgz : sz nx3 ≤ sz cs := by simp only [sz] at g3; omega
                  have hgw : wt nx3 ≤ wt cs := by simp only [wt] at g4; omega
                  have HIC := Lib.hid (fun W (hB : Below w.heap.size w W) => HIH.out body (.slice va vn vcap) true W hbz hnb hbw (hsv3.below hB))
                  have HNX3 : Hid (CasesFrom w (some ⟨b2, o2, none⟩) n3 (j + 1) nx3 ∧ isN.isC nx3 = true ∧ sz nx3 ≤ sz cs ∧ wt nx3 ≤ wt cs) := ⟨hnext3, hncs2, hgz, hgw⟩
                  obtain ⟨kq, hkq⟩ : ∃ kq, (!keyB 5 key) = kq := ⟨_, rfl⟩
                  have D1 := Lib.hid (show ∀ dr os, Calls Tryz.prog 48 #[.agg #[.int .i64 5, .string ⟨x.toArray⟩, .int .i64 f, .slice (some ⟨b2, o2, none⟩) n3 c3], .string ⟨key.toArray⟩] (grow (redrawn wr dr) os) (fun e w' => e = .returned (.bool kq) ∧ ∃ p : Regrown, w' = grow (redrawn wr p.d) p.os) from
                    fun dr os => Calls.regrown_of (by
                      have h := keyfault_any 5 f ⟨x.toArray⟩ (.slice (some ⟨b2, o2, none⟩) n3 c3) ⟨key.toArray⟩ (grow (redrawn wr dr) os) hks
                      rw [show (!keyB 5 (⟨key.toArray⟩ : ByteArray).data.toList) = kq from hkq] at h
                      exact h))
                  have r0 := cell_regrown f0; have r1 := cell_regrown f1; have r2 := cell_regrown f2; have r3 := cell_regrown f3
                  have t0 := cell_regrown y0; have t1 := cell_regrown y1
                  have G5 := Lib.hid g5; have HKQ := Lib.hid hkq; have P1 := Lib.hid p1
                  clear g1 g2 g3 g4 g5 p0 p1 hsv3 hnext3 kc hks hbz hbw hgz hgw hnb hncs2 HT3 hkq y0 y1 f0 f1 f2
                  cases kq with
                  | true =>
                    have HF4 := Lib.hid (show flt t true false 0 [] = 3 by
                      rw [HF3.out, G5.out, if_pos (show keyB 5 key = false by have := HKQ.out; simpa using this)]; rfl)
                    go_wp2_with fail
                    refine wp_region_quiet_below (by kernel_rfl) (by kernel_rfl) ?_
                    repeat (quiet_step (first | with_reducible exact D1.out _ _))
                    refine wpQuiet_nil ?_
                    intro _ hw'
                    obtain ⟨⟨dq, osq⟩, hw''⟩ := hw'
                    subst hw''
                    go_wp2_with fail
                    go_ret
                    exact ⟨by rw [HF4.out] <;> rfl, HBw3.out.trans ((below_regrown wr dq osq).mono HBw3.out.size)⟩
                  | false =>
                    have hkt : ¬ keyB 5 key = false := by have := HKQ.out; simp at this; rw [this]; decide
                    have HKT := Lib.hid hkt; clear hkt
                    go_wp2_with fail
                    refine wp_region_quiet_below (by kernel_rfl) (by kernel_rfl) ?_
                    repeat (quiet_step (first | with_reducible exact D1.out _ _))
                    refine wpQuiet_nil ?_
                    intro _ hw'
                    obtain ⟨⟨dq, osq⟩, hw''⟩ := hw'
                    subst hw''
                    have hbq := below_regrown wr dq osq
                    have s0 := r0 dq osq; have s1 := r1 dq osq; have s2 := r2 dq osq; have s3 := r3 dq osq; have z0 := t0 dq osq; have z1 := t1 dq osq
                    have HO3 := Lib.hid (ownsRow_below HO.out hbq)
                    have HB4 := Lib.hid (HB3.out.trans (hbq.mono HB3.out.size))
                    have HBw4 := Lib.hid (HBw3.out.trans (hbq.mono HBw3.out.size))
                    have hs4 : W2.heap.size ≤ (grow (redrawn wr dq) osq).heap.size := by have := hbq.size; omega
                    clear r0 r1 r2 r3 t0 t1 hbq D1
                    simp only []
                    generalize grow (redrawn wr dq) osq = W3 at s0 s1 s2 s3 z0 z1 HO3 HB4 HBw4 hs4 ⊢
                    go_wp2_with fail
                    refine (in_own HO3.out ⟨key.toArray⟩ (by omega)).mono ?_
                    rintro e W3' ⟨rfl, rfl⟩
                    cases hin2 : seen.contains key with
                    | true =>
                      have HF4 := Lib.hid (show flt t true false 0 [] = 5 by
                        rw [HF3.out, G5.out, if_neg HKT.out, if_pos hin2]; rfl)
                      clear hin2
                      go_wp2_with fail
                      go_ret
                      exact ⟨by rw [HF4.out] <;> rfl, HBw4.out⟩
                    | false =>
                      have HF4 := Lib.hid (show flt cs true false 5 [] = if flt body true false 0 [] ≠ 0 then flt body true false 0 [] else flt nx3 true false 5 (seen ++ [key]) by
                        rw [G5.out, if_neg HKT.out, if_neg (by rw [hin2]; decide)])
                      clear hin2
                      have Z1 := Lib.hid z1; have S0 := Lib.hid s0; have S1 := Lib.hid s1; have S2 := Lib.hid s2; have S3 := Lib.hid s3
                      have HOL := Lib.hid HO3.out.lt
                      go_wp2_with (at_builtin; refine wpList_append_own _ rfl _ _ 93 rfl W2.heap.size 9 i0 (.string ⟨#[]⟩) 1 16 Tryz.underlying93 hi hz0 hz1 hz2 rfl (by decide) _ _ _ rfl (HO3.out.alloc _) ⟨W3'.heap.size, 0, none⟩ 1 1 [.string ⟨key.toArray⟩] rfl rfl (cell_one_new _ _ _) (fun x hx => by simp at hx; subst hx; rfl) (by unfold maxLen; omega) (by omega) (by simp; omega) ?_; intro v' w3 hown3 hgrow3 _)
                      all_goals
                        have hne3 : ∀ bq, bq < W2.heap.size → u7.ownBlock ≠ some bq := fun bq hq hh => by have := (HOL.out _ hh).1; omega
                        have m0 := grown_cell hgrow3 (keepCells ((Below.refl W3'.heap.size W3').alloc (Nat.le_refl _) (.cells #[.string ⟨key.toArray⟩] 9)) _ _ _ S0.out) (hne3 _ hcbl)
                        have m3 := grown_cell hgrow3 (keepCells ((Below.refl W3'.heap.size W3').alloc (Nat.le_refl _) (.cells #[.string ⟨key.toArray⟩] 9)) _ _ _ S3.out) (hne3 _ hcbl)
                        have m1 := grown_cell hgrow3 (keepCells ((Below.refl W3'.heap.size W3').alloc (Nat.le_refl _) (.cells #[.string ⟨key.toArray⟩] 9)) _ _ _ Z1.out) (hne3 _ (by have := HB2.out.size; omega))
                        have HB5 := Lib.hid (step_below HB4.out hs4 hgrow3 HO3.out (Nat.le_refl _))
                        have HBw5 := Lib.hid (step_below HBw4.out (by have := HB2.out.size; omega) hgrow3 HO3.out (by have := HB2.out.size; omega))
                        have HO5 := Lib.hid hown3
                        have hs5 : W3'.heap.size + 1 ≤ w3.heap.size := step_size hgrow3
                        obtain ⟨fq, hfq⟩ : ∃ fq, flt body true false 0 [] = fq := ⟨_, rfl⟩
                        have D2 := Lib.hid (show ∀ dr os, Calls Tryz.prog 28 #[.slice va vn vcap, .bool true] (grow (redrawn w3 dr) os) (fun e w' => e = .returned (.int .i64 fq) ∧ ∃ p : Regrown, w' = grow (redrawn w3 p.d) p.os) from
                          fun dr os => Calls.regrown_of (by
                            have h := HIC.out (grow (redrawn w3 dr) os) (HBw5.out.trans ((below_regrown w3 dr os).mono HBw5.out.size))
                            rw [hfq] at h; exact h))
                        have r0 := cell_regrown m0; have r3 := cell_regrown m3; have r1 := cell_regrown m1
                        rw [hfq] at HF4
                        clear m0 m1 m3 z0 z1 s0 s1 s2 s3 hown3 hgrow3 hfq hne3
                        refine wp_region_quiet_below (by kernel_rfl) (by kernel_rfl) ?_
                        repeat (quiet_step (first | with_reducible exact D2.out _ _))
                        refine wpQuiet_nil ?_
                        intro _ hw'
                        obtain ⟨⟨dq, osq⟩, hw''⟩ := hw'
                        subst hw''
                        have hbq := below_regrown w3 dq osq
                        have HO6 := Lib.hid (ownsRow_below HO5.out hbq)
                        have HB6 := Lib.hid (HB5.out.trans (hbq.mono (by omega)))
                        have HBw6 := Lib.hid (HBw5.out.trans (hbq.mono HBw5.out.size))
                        clear r0 r1 r3 hbq D2
                        simp only []
                        generalize grow (redrawn w3 dq) osq = W5 at HO6 HB6 HBw6 ⊢
                        by_cases he0 : fq = 0
                        · have HF5 := Lib.hid (show flt cs true false 5 [] = flt nx3 true false 5 (seen ++ [key]) by rw [HF4.out, if_neg (fun h => h he0)])
                          subst he0
                          go_wp2_with fail
                          go_roundw
                          case rel =>
                            refine ⟨j + 1, nx3, seen ++ [key], by omega, by go_num, by simp; omega, ?_, ⟨HNX3.out.1, HNX3.out.2.1, HNX3.out.2.2.1, HNX3.out.2.2.2, HF5.out⟩, HB6⟩
                            have h := HO6.out
                            have e1 : (seen ++ [key]).length = seen.length + 1 := by simp
                            have e2 : keysV (seen ++ [key]) = keysV seen ++ [.string ⟨key.toArray⟩] := by simp [keysV]
                            rw [e1, e2]; exact h
                          case measure => simp [RowKit.intOf]; omega
                        · have HF5 := Lib.hid (show flt t true false 0 [] = fq by rw [HF3.out, HF4.out, if_pos he0, if_pos he0])
                          have hfb : (fq != 0) = true := by simpa using he0
                          go_wp2_with fail
                          go_ret
                          exact ⟨by rw [HF5.out] <;> rfl, HBw6.out⟩
                · have hje : j = n3 := by omega
                  subst hje
                  obtain ⟨g1, g2, g3, g4, g5⟩ := HT3.out
                  have ht3 := casesFrom_end g1
                  subst ht3
                  rw [flt_nilC (by decide)] at g5
                  have G5 := Lib.hid g5
                  clear g1 g2 g3 g4 g5 HT3
                  go_wp2_with fail
                  refine (in_own HO.out ⟨otherK.toArray⟩ (by omega)).mono ?_
                  rintro e W3 ⟨rfl, rfl⟩
                  cases hin2 : seen.contains otherK with
                  | true =>
                    have HF5 := Lib.hid (show flt t true false 0 [] = flt nx true ((5 : Int) == 1) 0 [] by
                      rw [HF3.out, show flt cs true false 5 [] = 0 by rw [G5.out, if_pos hin2], if_neg (by decide)])
                    clear hin2
                    go_wp2_with fail
                    go_roundw
                    case rel => exact ⟨i + 1, nx, ((5 : Int) == 1), by omega, by go_num, ⟨HNX.out.1, HNX.out.2.1, HNX.out.2.2.1, HNX.out.2.2.2.1, HF5.out, HNX.out.2.2.2.2⟩, HBw3⟩
                    case measure => simp [RowKit.intOf]; omega
                  | false =>
                    have HF5 := Lib.hid (show flt t true false 0 [] = 2 by
                      rw [HF3.out, show flt cs true false 5 [] = 2 by rw [G5.out, if_neg (by rw [hin2]; decide)], if_pos (by decide)])
                    clear hin2
                    go_wp2_with fail
                    go_ret
                    exact ⟨by rw [HF5.out] <;> rfl, HBw3.out⟩
          · subst hk
            have HF2 := Lib.hid (show flt t true false 0 [] = flt nx true ((6 : Int) == 1) 0 [] by rw [HFL.out, if_neg (by rw [show fine 6 x true pw = true from rfl]; decide), if_neg (by omega), if_neg (fun h => absurd h.1 (by decide))])
            clear HFL
            go_wp2_with fail
            go_roundw
            case rel => exact ⟨i + 1, nx, ((6 : Int) == 1), by omega, by go_num, ⟨HNX.out.1, HNX.out.2.1, HNX.out.2.2.1, HNX.out.2.2.2.1, HF2.out, HNX.out.2.2.2.2⟩, HB1⟩
            case measure => simp [RowKit.intOf]; omega
    · have hie : i = n := by omega
      subst hie
      obtain ⟨hf1, hn1, hs1, hw1, hfl, hpw⟩ := HT.out
      have ht0 := nodesFrom_end hf1
      subst ht0
      have HFL := Lib.hid (show flt t true false 0 [] = 0 by rw [hfl]; rfl)
      clear hf1 hn1 hs1 hw1 hfl hpw HT
      go_wp2_with fail
      go_ret
      exact ⟨by rw [HFL.out] <;> rfl, HB.out⟩


theorem fault_any : ∀ N, FaultIH N
  | 0 => fun _ _ _ _ hz => absurd hz (Nat.not_lt_zero _)
  | N + 1 => fun t v mark w hz hn hw hs => by
    cases mark with
    | false => exact fault_no N (fault_any N) t v w (by omega) hn hw hs
    | true => exact fault_in N (fault_any N) t v w (by omega) hn hw hs

set_option maxHeartbeats 1000000 in
set_option maxRecDepth 100000 in
/-- MsgFault -/
theorem mfault_any (t : T) (v : Value) (w : World) (hn : isN t = true) (hw : wt t ≤ 2000000) (hs : SV w v t) :
    Calls Tryz.prog 13 #[v] w fun e w' => e = .returned (.int .i64 (fault t)) ∧ Below w.heap.size w w' := by
  obtain ⟨a3, n3, c3', rfl⟩ : ∃ a n' c', v = .slice a n' c' := by
    rcases hs with ⟨⟨_, h⟩, _⟩ | ⟨b', o', n', c', h, _⟩
    · exact ⟨_, _, _, h⟩
    · exact ⟨_, _, _, h⟩
  have H1 := Lib.hid (fun W (hB : Below w.heap.size w W) => large_any (sz t + 1) t (.slice a3 n3 c3') 0 W (Nat.lt_succ_self _) hn hw (by omega) (hs.below hB))
  have H2 := Lib.hid (fun W (hB : Below w.heap.size w W) => fault_any (sz t + 1) t (.slice a3 n3 c3') false W (Nat.lt_succ_self _) hn hw (hs.below hB))
  clear hn hw hs
  go_enter Tryz.func13, Tryz.ntmps13
  go_wp2_with fail
  refine (H1.out _ (Below.refl _ _)).mono ?_
  rintro e w2 ⟨⟨nn, rfl, _, _⟩, hb⟩
  have HB := Lib.hid hb; clear hb
  cases hbg : big t 0 with
  | true =>
    have HF := Lib.hid (show fault t = 4 by unfold fault; rw [if_pos hbg])
    clear hbg
    go_wp2_with fail
    go_ret
    exact ⟨by rw [HF.out] <;> rfl, HB.out⟩
  | false =>
    have HF := Lib.hid (show fault t = flt t false false 0 [] by unfold fault; rw [if_neg (by rw [hbg]; decide)])
    clear hbg
    go_wp2_with fail
    refine (H2.out _ HB.out).mono ?_
    rintro e w3 ⟨rfl, hb3⟩
    have HB3 := Lib.hid (HB.out.trans (hb3.mono HB.out.size)); clear hb3
    go_wp2_with fail
    go_ret
    exact ⟨by rw [HF.out] <;> rfl, HB3.out⟩
end Go.Proofs.YtgkphpjnfigjiaaGreatDoor
