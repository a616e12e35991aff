/-
  msg.size: how many nodes a message has, and whether they are too many or one is too deep.
  Chains of nodes and of cases by places; the reference's CasesOf.
-/
import Derived.Test.YtnefcilopgcdpaaGreatDoorBase
import Derived.Laws.EntriesVeiled
namespace Go.Proofs.YtnefcilopgcdpaaGreatDoor
open Go.RowKit Ms

/-- what is told of a size: the number only where it is no fault -/
def SizeOut (t : T) (d : Nat) (w : World) (e : Ending) (w' : World) : Prop := (∃ n : Nat, e = .returned (.tuple #[.int .i64 n, .bool (big t d)]) ∧ n ≤ cnt t ∧ (big t d = false → n = cnt t)) ∧ Below w.heap.size w w'

theorem big_nil (d : Nat) : big .nil d = false := by simp [big, deepB, cnt]
theorem big_deep {t : T} {d : Nat} (hn : isN t = true) (h : len t ≠ 0) (hd : 6 ≤ d) : big t d = true := by
  cases t with
  | nil => exact absurd rfl h
  | node k x f cs nx => simp [big, deepB, hd]
  | case _ _ _ => cases hn

theorem isN_node {k f : Int} {x : List UInt8} {cs nx : T} (h : isN (.node k x f cs nx) = true) : isN.isC cs = true ∧ isN nx = true := by simpa [isN] using h
theorem isC_case {key : List UInt8} {body nx : T} (h : isN.isC (.case key body nx) = true) : isN body = true ∧ isN.isC nx = true := by simpa [isN.isC] using h
theorem cnt_node (k f : Int) (x : List UInt8) (cs nx : T) : cnt (.node k x f cs nx) = 1 + (if hasC k = true then cnt cs else 0) + cnt nx := rfl
theorem deep_node5 {k f : Int} {x : List UInt8} {cs nx : T} {d : Nat} (h : d ≤ 5) : deepB (.node k x f cs nx) d = ((hasC k && deepB cs d) || deepB nx d) := by
  have : decide (6 ≤ d) = false := decide_eq_false (by omega)
  simp only [deepB, this, Bool.false_or]
theorem big_of_deep {t : T} {d : Nat} (h : deepB t d = true) : big t d = true := by unfold big; rw [h]; rfl
theorem big_of_cnt {t : T} {d : Nat} (h : 60 < cnt t) : big t d = true := by unfold big; rw [decide_eq_true h, Bool.or_true]

set_option maxHeartbeats 1000000 in
set_option maxRecDepth 100000 in
theorem size_nil (v : Value) (d : Nat) (w : World) (hd : d ≤ 6) (hv : ∃ a c, v = .slice a 0 c) :
    Calls Tryz.prog 23 #[v, .int .i64 d] w (SizeOut .nil d w) := by
  have hb := big_nil d
  have HBg := Lib.hid hb
  clear hb
  by_cases h6 : 6 ≤ d
  all_goals
    obtain ⟨a, c, rfl⟩ := hv
    all_goals
      go_enter Tryz.func23, Tryz.ntmps23
      go_wp2_with fail
      go_loop [6, 24] (fun m i => m = .int .i64 0 ∧ i = .int .i64 0) (fun _ _ => 0)
      case atStart => exact ⟨rfl, rfl⟩
      case round =>
        obtain ⟨rfl, rfl⟩ := hrel
        go_wp2_with fail
        go_ret2
        exact ⟨⟨0, by rw [HBg.out]; rfl, Nat.le_refl _, fun _ => rfl⟩, Below.refl _ _⟩

set_option maxHeartbeats 8000000 in
set_option maxRecDepth 100000 in
theorem size_any (N : Nat) : ∀ (t : T) (v : Value) (d : Nat) (w : World), sz t ≤ N → isN t = true → wt t ≤ 2100000 → d ≤ 6 → SV w v t →
    Calls Tryz.prog 23 #[v, .int .i64 d] w (SizeOut t d w) := by
  induction N with
  | zero =>
    intro t v d w hz hn hw hd hs
    have ht : t = .nil := by
      cases t with
      | nil => rfl
      | node _ _ _ _ _ => simp [sz] at hz
      | case _ _ _ => cases hn
    subst ht
    rcases hs with ⟨⟨a, rfl⟩, _⟩ | ⟨b, o, n, c, rfl, hnc, hr⟩
    · exact size_nil _ _ _ hd ⟨_, _, rfl⟩
    · have hn0 : n = 0 := hr
      subst hn0
      exact size_nil _ _ _ hd ⟨_, _, rfl⟩
  | succ N ih =>
    intro t v d w hz hn hw hd hs
    rcases hs with ⟨⟨a, rfl⟩, rfl⟩ | ⟨b, o, n, c, rfl, hnc, hr⟩
    · exact size_nil _ _ _ hd ⟨_, _, rfl⟩
    · have hlen := Rd.len t b o n hr
      have hlw := len_wt t
      by_cases hn0 : n = 0
      · subst hn0
        have ht : t = .nil := by
          cases t with
          | nil => rfl
          | node _ _ _ _ _ => simp [len] at hlen
          | case _ _ _ => cases hn
        subst ht
        exact size_nil _ _ _ hd ⟨_, _, rfl⟩
      by_cases hd6 : d = 6
      · have hbg : Hid (big t d = true) := big_deep hn (by omega) (by omega)
        subst hd6
        have hp : 0 < n := by omega
        have hpd : decide (0 < n) = true := decide_eq_true hp
        clear hr hlen ih
        go_enter Tryz.func23, Tryz.ntmps23
        go_wp2_with fail
        go_ret2
        exact ⟨⟨0, by rw [hbg.out]; rfl, Nat.zero_le _, fun h => by rw [hbg.out] at h; cases h⟩, Below.refl _ _⟩
      · have hd5 : d ≤ 5 := by omega
        have HR := Lib.hid hr
        have hn1 : n ≤ 2100000 := by omega
        have hcw : cnt t ≤ 2100000 := Nat.le_trans (cnt_wt t) hw
        have Hn := Lib.hid hn; have Hlen := Lib.hid hlen; have IH := Lib.hid ih; have Hlc := Lib.hid (len_cnt t hn)
        clear hr hn hlen ih hlw hd6
        go_enter Tryz.func23, Tryz.ntmps23
        go_wp2_with fail
        go_loopw [6, 24] (fun m i wr => ∃ (i' c' : Nat) (t' : T), i' ≤ n ∧ i = .int .i64 i' ∧ m = .int .i64 c' ∧ c' ≤ 4000000 ∧ Hid (Rd w t' b (o + i' * 4) (n - i') ∧ isN t' = true ∧ sz t' ≤ sz t ∧ wt t' ≤ wt t ∧ c' + cnt t' = cnt t + (n - i') ∧ deepB t d = deepB t' d) ∧ Hid (Below w.heap.size w wr)) (fun _ i _ => n - (RowKit.intOf i).toNat)
        case atStart => exact ⟨0, n, t, by omega, rfl, rfl, by omega, ⟨by simpa using HR.out, Hn.out, Nat.le_refl _, Nat.le_refl _, by omega, rfl⟩, Below.refl _ _⟩
        case round =>
          obtain ⟨i, c1, t1, hi, rfl, rfl, hc1, HT, HB⟩ := hrel
          by_cases hlt : i < n
          · cases t1 with
            | nil =>
              have := HT.out.1
              have h0 : n - i = 0 := this
              omega
            | case _ _ _ => cases HT.out.2.1
            | node k x f cs nx =>
              obtain ⟨hr1, hn2, hz1, hw1, hcc, hdd⟩ := HT.out
              obtain ⟨hncs, hnnx⟩ := isN_node hn2
              obtain ⟨v, m, hm, c0, c1', c2, c3, hv, hrest⟩ := hr1
              have kc := keepCells HB.out
              have k0 := kc _ _ _ c0; have k1 := kc _ _ _ c1'; have k2 := kc _ _ _ c2; have k3 := kc _ _ _ c3
              have hxs : x.length ≤ 2100000 := by simp only [wt] at hw1; omega
              have hrest' : Rd w nx b (o + (i + 1) * 4) (n - (i + 1)) := by
                rw [show o + (i + 1) * 4 = o + i * 4 + 4 by omega, show n - (i + 1) = m by omega]; exact hrest
              rw [cnt_node] at hcc
              rw [deep_node5 hd5] at hdd
              have hcsz : sz cs < sz t := by simp only [sz] at hz1; omega
              have hcsw : wt cs ≤ 2100000 := by simp only [wt] at hw1; omega
              have hnz : sz nx ≤ sz t := by simp only [sz] at hz1; omega
              have hnw : wt nx ≤ wt t := by simp only [wt] at hw1; omega
              have hlnx : len nx = n - (i + 1) := (Rd.len nx _ _ _ hrest').symm
              have hcnx := len_cnt nx hnnx
              have HRest := Lib.hid hrest'
              have Hcc := Lib.hid hcc; have Hdd := Lib.hid hdd; have Hnx := Lib.hid hnnx; have Hncs := Lib.hid hncs
              have Hnz := Lib.hid hnz; have Hnw := Lib.hid hnw; have Hcsz := Lib.hid hcsz; have Hcsw := Lib.hid hcsw; have Hlnx := Lib.hid hlnx; have Hcnx := Lib.hid hcnx
              clear hn2 hz1 hw1 hcc hdd hncs hnnx c0 c1' c2 c3 hrest hrest' kc hnz hnw hcsz hcsw hlnx hcnx HT hm
              have simple : (hasC k = false ∨ cs = .nil) → Hid (Rd w nx b (o + (i + 1) * 4) (n - (i + 1)) ∧ isN nx = true ∧ sz nx ≤ sz t ∧ wt nx ≤ wt t ∧ c1 + cnt nx = cnt t + (n - (i + 1)) ∧ deepB t d = deepB nx d) := by
                intro h
                have e1 : (if hasC k = true then cnt cs else 0) = 0 := by
                  rcases h with h | h
                  · rw [if_neg (by rw [h]; simp)]
                  · subst h; split <;> rfl
                have e2 : (hasC k && deepB cs d) = false := by
                  rcases h with h | h
                  · rw [h]; rfl
                  · subst h; simp [deepB]
                have h1 := Hcc.out; have h2 := Hdd.out
                rw [e1] at h1
                rw [e2, Bool.false_or] at h2
                exact ⟨HRest.out, Hnx.out, Hnz.out, Hnw.out, by omega, h2⟩
              have Simple := Lib.hid simple
              clear simple
              rcases hv with ⟨⟨a2, rfl⟩, rfl⟩ | ⟨b2, o2, n2, c2, rfl, hnc2, hr2⟩
              · have HNX := Lib.hid (Simple.out (.inr rfl))
                have hk : ∃ a3, ∀ W, Calls Tryz.prog 25 #[.agg #[.int .i64 k, .string ⟨x.toArray⟩, .int .i64 f, .slice a2 0 0]] W fun e w' => e = .returned (.slice a3 0 0) ∧ Below W.heap.size W w' := by
                  by_cases hC : hasC k = true
                  · exact ⟨a2, fun W => by have := cases_any k f ⟨x.toArray⟩ (.slice a2 0 0) W; rw [if_pos hC] at this; exact this⟩
                  · exact ⟨none, fun W => by have := cases_any k f ⟨x.toArray⟩ (.slice a2 0 0) W; rw [if_neg hC] at this; exact this⟩
                obtain ⟨a3, hk⟩ := hk
                have HK := Lib.hid hk; clear hk
                go_wp2_with fail
                refine (HK.out _).mono ?_
                rintro e w3 ⟨rfl, hb3⟩
                have HB3 := Lib.hid ((HB.out.alloc HB.out.size (.cells #[.int .i64 k, .string ⟨x.toArray⟩, .int .i64 f, .slice a2 0 0] 60)).trans (hb3.mono (HB.out.alloc HB.out.size _).size))
                clear hb3 k0 k1 k2 k3
                go_wp2_with fail
                go_loop [6, 31] (fun m j => m = .int .i64 c1 ∧ j = .int .i64 0) (fun _ _ => 0)
                case atStart => exact ⟨rfl, rfl⟩
                case round =>
                  obtain ⟨rfl, rfl⟩ := hrel
                  go_wp2_with fail
                  go_roundw
                  case rel => exact ⟨i + 1, c1, nx, by omega, by go_num, rfl, hc1, HNX, HB3⟩
                  case measure => simp [RowKit.intOf]; omega
              · cases hC : hasC k with
                | false =>
                  have HNX := Lib.hid (Simple.out (.inl hC))
                  have hk : ∀ W, Calls Tryz.prog 25 #[.agg #[.int .i64 k, .string ⟨x.toArray⟩, .int .i64 f, .slice (some ⟨b2, o2, none⟩) n2 c2]] W fun e w' => e = .returned (.slice none 0 0) ∧ Below W.heap.size W w' := fun W => by
                    have := cases_any k f ⟨x.toArray⟩ (.slice (some ⟨b2, o2, none⟩) n2 c2) W
                    rw [hC] at this; exact this
                  have HK := Lib.hid hk; clear hk hr2
                  have HCk := Lib.hid hC; clear hC
                  go_wp2_with fail
                  refine (HK.out _).mono ?_
                  rintro e w3 ⟨rfl, hb3⟩
                  have HB3 := Lib.hid ((HB.out.alloc HB.out.size (.cells #[.int .i64 k, .string ⟨x.toArray⟩, .int .i64 f, .slice (some ⟨b2, o2, none⟩) n2 c2] 60)).trans (hb3.mono (HB.out.alloc HB.out.size _).size))
                  clear hb3 k0 k1 k2 k3
                  go_wp2_with fail
                  go_loop [6, 31] (fun m j => m = .int .i64 c1 ∧ j = .int .i64 0) (fun _ _ => 0)
                  case atStart => exact ⟨rfl, rfl⟩
                  case round =>
                    obtain ⟨rfl, rfl⟩ := hrel
                    go_wp2_with fail
                    go_roundw
                    case rel => exact ⟨i + 1, c1, nx, by omega, by go_num, rfl, hc1, HNX, HB3⟩
                    case measure => simp [RowKit.intOf]; omega
                | true =>
                  have hk : ∀ W, Calls Tryz.prog 25 #[.agg #[.int .i64 k, .string ⟨x.toArray⟩, .int .i64 f, .slice (some ⟨b2, o2, none⟩) n2 c2]] W fun e w' => e = .returned (.slice (some ⟨b2, o2, none⟩) n2 c2) ∧ Below W.heap.size W w' := fun W => by
                    have := cases_any k f ⟨x.toArray⟩ (.slice (some ⟨b2, o2, none⟩) n2 c2) W
                    rw [hC] at this; exact this
                  have hl2 := Rd.len cs b2 o2 n2 hr2
                  have hl3 := len_wt cs
                  have hn2b : n2 ≤ 2100000 := by have := Hcsw.out; omega
                  have HR2 := Lib.hid hr2
                  have hcc := Hcc.out; have hdd := Hdd.out
                  rw [hC, if_pos rfl] at hcc
                  rw [hC, Bool.true_and] at hdd
                  have HK := Lib.hid hk; have HCk := Lib.hid hC; have Hcc2 := Lib.hid hcc; have Hdd2 := Lib.hid hdd
                  clear hk hr2 hl2 hl3 hcc hdd hC Hcc Hdd Simple
                  go_wp2_with fail
                  refine (HK.out _).mono ?_
                  rintro e w3 ⟨rfl, hb3⟩
                  have HB3 := Lib.hid ((HB.out.alloc HB.out.size (.cells #[.int .i64 k, .string ⟨x.toArray⟩, .int .i64 f, .slice (some ⟨b2, o2, none⟩) n2 c2] 60)).trans (hb3.mono (HB.out.alloc HB.out.size _).size))
                  clear hb3 k0 k1 k2 k3
                  go_wp2_with fail
                  go_loopw [6, 31] (fun m j wr => ∃ (j' c' : Nat) (t' : T), j' ≤ n2 ∧ j = .int .i64 j' ∧ m = .int .i64 c' ∧ c' ≤ 4000000 ∧ Hid (Rd w t' b2 (o2 + j' * 2) (n2 - j') ∧ isN.isC t' = true ∧ sz t' ≤ sz cs ∧ wt t' ≤ wt cs ∧ c' + cnt t' + cnt nx = cnt t + (n - (i + 1)) ∧ deepB t d = (deepB t' d || deepB nx d)) ∧ Hid (Below w.heap.size w wr)) (fun _ j _ => n2 - (RowKit.intOf j).toNat)
                  case atStart => exact ⟨0, c1, cs, by omega, rfl, rfl, hc1, ⟨by simpa using HR2.out, Hncs.out, Nat.le_refl _, Nat.le_refl _, by have := Hcc2.out; omega, Hdd2.out⟩, HB3⟩
                  case round =>
                    obtain ⟨j, c3, t3, hj, rfl, rfl, hc3, HT3, HB4⟩ := hrel
                    by_cases hlt2 : j < n2
                    · cases t3 with
                      | nil =>
                        have h0 : n2 - j = 0 := HT3.out.1
                        omega
                      | node _ _ _ _ _ => cases HT3.out.2.1
                      | case key body cs2 =>
                        obtain ⟨hr3, hn3, hz3, hw3, hcc3, hdd3⟩ := HT3.out
                        obtain ⟨hnb, hncs2⟩ := isC_case hn3
                        obtain ⟨v3, m3, hm3, q0, q1, hv3, hrest3⟩ := hr3
                        have kc := keepCells HB4.out
                        have k0 := kc _ _ _ q0; have k1 := kc _ _ _ q1
                        have hks : key.length ≤ 2100000 := by have := Hcsw.out; simp only [wt] at hw3; omega
                        have hrest3' : Rd w cs2 b2 (o2 + (j + 1) * 2) (n2 - (j + 1)) := by
                          rw [show o2 + (j + 1) * 2 = o2 + j * 2 + 2 by omega, show n2 - (j + 1) = m3 by omega]; exact hrest3
                        have hbz : sz body ≤ N := by have := Hcsz.out; simp only [sz] at hz3; omega
                        have hbw : wt body ≤ 2100000 := by have := Hcsw.out; simp only [wt] at hw3; omega
                        have hcb : cnt (.case key body cs2) = cnt body + cnt cs2 := rfl
                        have hdb : deepB (.case key body cs2) d = (deepB body (d + 1) || deepB cs2 d) := rfl
                        rw [hcb] at hcc3
                        rw [hdb] at hdd3
                        have hz4 : sz cs2 ≤ sz cs := by simp only [sz] at hz3; omega
                        have hw4 : wt cs2 ≤ wt cs := by simp only [wt] at hw3; omega
                        have hic := fun W (hB : Below w.heap.size w W) => IH.out body v3 (d + 1) W hbz hnb hbw (by omega) (SV.below (show SV w v3 body from hv3) hB)
                        have HIC := Lib.hid hic; have HRest3 := Lib.hid hrest3'; have Hcc3 := Lib.hid hcc3; have Hdd3 := Lib.hid hdd3; have Hz4 := Lib.hid hz4; have Hw4 := Lib.hid hw4; have Hncs2 := Lib.hid hncs2
                        have Hlb := Lib.hid (cnt_wt body)
                        have hcbb : cnt body ≤ 2100000 := Nat.le_trans (cnt_wt body) hbw
                        have hv4 : (∃ a, v3 = .slice a 0 0) ∨ ∃ a n' c', v3 = .slice a n' c' := by
                          rcases hv3 with ⟨h, _⟩ | ⟨b', o', n', c', h, _⟩
                          · exact .inl h
                          · exact .inr ⟨_, _, _, h⟩
                        have hv5 : ∃ a n' c', v3 = .slice a n' c' := by
                          rcases hv4 with h | h
                          · obtain ⟨a, h⟩ := h; exact ⟨_, _, _, h⟩
                          · exact h
                        obtain ⟨a3, n3, c3', rfl⟩ := hv5
                        clear hn3 hz3 hw3 hcc3 hdd3 hnb hncs2 hv3 hv4 hrest3 hrest3' hic kc q0 q1 hbz hbw hcb hdb hz4 hw4 hm3 HT3
                        go_wp2_with fail
                        have HB5 := Lib.hid (HB4.out.alloc HB4.out.size (.cells #[.string ⟨key.toArray⟩, .slice a3 n3 c3'] 62))
                        refine (HIC.out _ HB5.out).mono ?_
                        rintro e w6 ⟨⟨nn, rfl, hle, heq⟩, hb6⟩
                        have HB6 := Lib.hid (HB5.out.trans (hb6.mono HB5.out.size))
                        have hnn : nn ≤ 2100000 := by omega
                        have Hle := Lib.hid hle
                        clear hb6 k0 k1
                        cases hbg : big body (d + 1) with
                        | true =>
                          have hbt : big t d = true := by
                            unfold big at hbg
                            rw [Bool.or_eq_true] at hbg
                            have h1 := Hdd3.out; have h2 := Hcc3.out
                            rcases hbg with h | h
                            · exact big_of_deep (by rw [h1, h]; rfl)
                            · have h3 := of_decide_eq_true h
                              have h4 := Hcnx.out; have h5 := Hlnx.out
                              have h6 := len_cnt t Hn.out
                              exact big_of_cnt (by omega)
                          have hfin : c3 + nn ≤ cnt t := by
                            have h2 := Hcc3.out; have h4 := Hcnx.out; have h5 := Hlnx.out; have h6 := Hle.out
                            omega
                          have HBT := Lib.hid hbt; have HFin := Lib.hid hfin
                          clear hbg heq hbt hle hfin
                          go_wp2_with fail
                          go_ret2
                          exact ⟨⟨c3 + nn, by rw [HBT.out]; rfl, HFin.out, fun h => by rw [HBT.out] at h; cases h⟩, HB6.out⟩
                        | false =>
                          have hnc : nn = cnt body := heq hbg
                          have hbd : deepB body (d + 1) = false := by
                            unfold big at hbg
                            rw [Bool.or_eq_false_iff] at hbg; exact hbg.1
                          have hfin : c3 + nn ≤ cnt t := by
                            have h2 := Hcc3.out; have h4 := Hcnx.out; have h5 := Hlnx.out; have h6 := Hle.out
                            omega
                          have HNc := Lib.hid hnc; have HBd := Lib.hid hbd; have HFin := Lib.hid hfin
                          clear hbg heq hnc hbd hle
                          by_cases h60 : 60 < c3 + nn
                          · have HBT : Hid (big t d = true) := big_of_cnt (by have := HFin.out; omega)
                            go_wp2_with fail
                            go_ret2
                            exact ⟨⟨c3 + nn, by rw [HBT.out]; rfl, HFin.out, fun h => by rw [HBT.out] at h; cases h⟩, HB6.out⟩
                          · go_wp2_with fail
                            go_roundw
                            case rel => exact ⟨j + 1, c3 + nn, cs2, by omega, by go_num, by go_num, by omega, ⟨HRest3.out, Hncs2.out, Hz4.out, Hw4.out, by have h2 := Hcc3.out; have h3 := HNc.out; omega, by have h2 := Hdd3.out; rw [HBd.out, Bool.false_or] at h2; exact h2⟩, HB6⟩
                            case measure => simp [RowKit.intOf]; omega
                    · have hje : j = n2 := by omega
                      have hcs0 : t3 = .nil := by
                        have h1 := HT3.out.1
                        rw [hje, Nat.sub_self] at h1
                        cases t3 with
                        | nil => rfl
                        | node _ _ _ _ _ => obtain ⟨_, _, h, _⟩ := h1; cases h
                        | case _ _ _ => obtain ⟨_, _, h, _⟩ := h1; cases h
                      subst hcs0
                      obtain ⟨_, _, _, _, hcc3, hdd3⟩ := HT3.out
                      have Hcc3 := Lib.hid hcc3; have Hdd3 := Lib.hid hdd3
                      clear hcc3 hdd3
                      go_wp2_with fail
                      go_roundw
                      case rel => exact ⟨i + 1, c3, nx, by omega, by go_num, rfl, hc3, ⟨HRest.out, Hnx.out, Hnz.out, Hnw.out, by have h := Hcc3.out; simp only [cnt] at h; omega, by have h := Hdd3.out; simpa [deepB] using h⟩, HB4⟩
                      case measure => simp [RowKit.intOf]; omega
          · have hie : i = n := by omega
            have ht0 : t1 = .nil := by
              have h1 := HT.out.1
              rw [hie, Nat.sub_self] at h1
              cases t1 with
              | nil => rfl
              | node _ _ _ _ _ => obtain ⟨_, _, h, _⟩ := h1; cases h
              | case _ _ _ => obtain ⟨_, _, h, _⟩ := h1; cases h
            subst ht0
            obtain ⟨_, _, _, _, hcc, hdd⟩ := HT.out
            have hce : c1 = cnt t := by simp only [cnt] at hcc; omega
            have hdd' : deepB t d = false := by simpa [deepB] using hdd
            have hb : big t d = decide (60 < c1) := by unfold big; rw [hdd', Bool.false_or, hce]
            have HBG := Lib.hid hb; have HCE := Lib.hid hce
            clear hcc hdd hce hdd' hb
            by_cases h60 : 60 < c1
            all_goals
              go_wp2_with fail
              go_ret2
              exact ⟨⟨c1, by rw [HBG.out]; simp [h60]; try omega, by have := HCE.out; omega, fun _ => HCE.out⟩, HB.out⟩
end Go.Proofs.YtnefcilopgcdpaaGreatDoor
namespace Go.Proofs.YtnefcilopgcdpaaGreatDoor
open Go.RowKit Ms

/-- the cases of a slice, from one of them on -/
def CasesFrom (w : World) (a : Option Addr) (n j : Nat) (t : T) : Prop := (n = j ∧ t = .nil) ∨ ∃ b o, a = some ⟨b, o, none⟩ ∧ Rd w t b (o + j * 2) (n - j)
/-- the nodes of a slice, from one of them on -/
def NodesFrom (w : World) (a : Option Addr) (n j : Nat) (t : T) : Prop := (n = j ∧ t = .nil) ∨ ∃ b o, a = some ⟨b, o, none⟩ ∧ Rd w t b (o + j * 4) (n - j)
theorem casesFrom_start {w : World} {v : Value} {t : T} (h : SV w v t) : ∃ a n c, v = .slice a n c ∧ n = len t ∧ CasesFrom w a n 0 t := by
  rcases h with ⟨⟨a, rfl⟩, rfl⟩ | ⟨b, o, n, c, rfl, _, hr⟩
  · exact ⟨a, 0, 0, rfl, rfl, .inl ⟨rfl, rfl⟩⟩
  · exact ⟨_, n, c, rfl, Rd.len t b o n hr, .inr ⟨b, o, rfl, by simpa using hr⟩⟩
theorem nodesFrom_start {w : World} {v : Value} {t : T} (h : SV w v t) : ∃ a n c, v = .slice a n c ∧ n = len t ∧ NodesFrom w a n 0 t := by
  rcases h with ⟨⟨a, rfl⟩, rfl⟩ | ⟨b, o, n, c, rfl, _, hr⟩
  · exact ⟨a, 0, 0, rfl, rfl, .inl ⟨rfl, rfl⟩⟩
  · exact ⟨_, n, c, rfl, Rd.len t b o n hr, .inr ⟨b, o, rfl, by simpa using hr⟩⟩
theorem rd_zero {w : World} {t : T} {b o : Nat} (h : Rd w t b o 0) : t = .nil := by
  cases t with
  | nil => rfl
  | node _ _ _ _ _ => obtain ⟨_, _, h, _⟩ := h; cases h
  | case _ _ _ => obtain ⟨_, _, h, _⟩ := h; cases h
theorem casesFrom_end {w : World} {a : Option Addr} {n : Nat} {t : T} (h : CasesFrom w a n n t) : t = .nil := by
  rcases h with ⟨_, h⟩ | ⟨b, o, _, h⟩
  · exact h
  · rw [Nat.sub_self] at h; exact rd_zero h
theorem nodesFrom_end {w : World} {a : Option Addr} {n : Nat} {t : T} (h : NodesFrom w a n n t) : t = .nil := by
  rcases h with ⟨_, h⟩ | ⟨b, o, _, h⟩
  · exact h
  · rw [Nat.sub_self] at h; exact rd_zero h
theorem casesFrom_next {w : World} {a : Option Addr} {n j : Nat} {t : T} (h : CasesFrom w a n j t) (hj : j < n) (hc : isN.isC t = true) : ∃ key body nx b o v, t = .case key body nx ∧ a = some ⟨b, o, none⟩ ∧
    w.cell? ⟨b, o + j * 2, none⟩ = some (.string ⟨key.toArray⟩) ∧ w.cell? ⟨b, o + j * 2 + 1, none⟩ = some v ∧ SV w v body ∧ CasesFrom w a n (j + 1) nx := by
  rcases h with ⟨h, _⟩ | ⟨b, o, ha, hr⟩
  · omega
  · cases t with
    | nil => have h0 : n - j = 0 := hr; omega
    | node _ _ _ _ _ => cases hc
    | case key body nx =>
      obtain ⟨v, m, hm, q0, q1, hv, hrest⟩ := hr
      exact ⟨key, body, nx, b, o, v, rfl, ha, q0, q1, hv, .inr ⟨b, o, ha, by rw [show o + (j + 1) * 2 = o + j * 2 + 2 by omega, show n - (j + 1) = m by omega]; exact hrest⟩⟩
theorem nodesFrom_next {w : World} {a : Option Addr} {n j : Nat} {t : T} (h : NodesFrom w a n j t) (hj : j < n) (hc : isN t = true) : ∃ k x f cs nx b o v, t = .node k x f cs nx ∧ a = some ⟨b, o, none⟩ ∧
    w.cell? ⟨b, o + j * 4, none⟩ = some (.int .i64 k) ∧ w.cell? ⟨b, o + j * 4 + 1, none⟩ = some (.string ⟨x.toArray⟩) ∧ w.cell? ⟨b, o + j * 4 + 2, none⟩ = some (.int .i64 f) ∧ w.cell? ⟨b, o + j * 4 + 3, none⟩ = some v ∧ SV w v cs ∧ NodesFrom w a n (j + 1) nx := by
  rcases h with ⟨h, _⟩ | ⟨b, o, ha, hr⟩
  · omega
  · cases t with
    | nil => have h0 : n - j = 0 := hr; omega
    | case _ _ _ => cases hc
    | node k x f cs nx =>
      obtain ⟨v, m, hm, q0, q1, q2, q3, hv, hrest⟩ := hr
      exact ⟨k, x, f, cs, nx, b, o, v, rfl, ha, q0, q1, q2, q3, hv, .inr ⟨b, o, ha, by rw [show o + (j + 1) * 4 = o + j * 4 + 4 by omega, show n - (j + 1) = m by omega]; exact hrest⟩⟩
set_option maxRecDepth 100000 in
/-- ref.CasesOf: a node's cases, if its kind has some -/
theorem casesOf_any (k f : Int) (x : ByteArray) (v : Value) (w : World) :
    Calls Tryz.prog 19 #[.agg #[.int .i64 k, .string x, .int .i64 f, v]] w fun e w' => e = .returned (if hasC k = true then v else .slice none 0 0) ∧ Below w.heap.size w w' := by
  have hb : ∃ p q : Bool, (k == 4) = p ∧ (k == 5) = q := ⟨_, _, rfl, rfl⟩
  obtain ⟨p, q, hp, hq⟩ := hb
  have hh : hasC k = (p || q) := by unfold hasC; rw [hp, hq]
  rw [hh]
  clear hh
  cases p <;> cases q
  all_goals
    go_enter Tryz.func19, Tryz.ntmps19
    go_wp2_with fail
    go_ret
    exact ⟨rfl, (Below.refl _ _).alloc (Nat.le_refl _) _⟩
theorem cases_val (k f : Int) (x : List UInt8) (v vc : Value) (hv : vc = if hasC k = true then v else .slice none 0 0) (W : World) :
    Calls Tryz.prog 19 #[.agg #[.int .i64 k, .string ⟨x.toArray⟩, .int .i64 f, v]] W fun e w' => e = .returned vc ∧ Below W.heap.size W w' := by
  subst hv; exact casesOf_any k f ⟨x.toArray⟩ v W
theorem cases_sv {w : World} {k : Int} {v vc : Value} {cs : T} (h : SV w v cs) (hv : vc = if hasC k = true then v else .slice none 0 0) : SV w vc (if hasC k = true then cs else .nil) := by
  subst hv
  split
  · exact h
  · exact .inl ⟨⟨_, rfl⟩, rfl⟩
end Go.Proofs.YtnefcilopgcdpaaGreatDoor
