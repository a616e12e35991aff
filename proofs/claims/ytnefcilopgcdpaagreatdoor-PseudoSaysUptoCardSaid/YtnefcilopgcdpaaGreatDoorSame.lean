/-
  same.Message: are two messages the same?
-/
import Derived.Test.YtnefcilopgcdpaaGreatDoorBase
import Derived.Test.YtnefcilopgcdpaaGreatDoorSize
import Derived.BigQuiet
import Derived.Deep.QuietTactic
namespace Go.Proofs.YtnefcilopgcdpaaGreatDoor
open Go.RowKit Ms

def sameT : T → T → Bool
  | .nil, .nil => true
  | .node k x f cs nx, .node k' x' f' cs' nx' => (k == k') && (x == x') && (f == f') && (len cs == len cs') && sameT cs cs' && sameT nx nx'
  | .case key b nx, .case key' b' nx' => sameT b b' && (key == key') && sameT nx nx'
  | _, _ => false
theorem sameT_refl : ∀ t : T, sameT t t = true
  | .nil => rfl
  | .node k x f cs nx => by simp [sameT, sameT_refl cs, sameT_refl nx]
  | .case key b nx => by simp [sameT, sameT_refl b, sameT_refl nx]
theorem sameT_eq : ∀ t u : T, sameT t u = true → t = u
  | .nil, .nil, _ => rfl
  | .node k x f cs nx, .node k' x' f' cs' nx', h => by
    simp only [sameT, Bool.and_eq_true, beq_iff_eq] at h
    obtain ⟨⟨⟨⟨⟨rfl, rfl⟩, rfl⟩, _⟩, h1⟩, h2⟩ := h
    rw [sameT_eq cs cs' h1, sameT_eq nx nx' h2]
  | .case key b nx, .case key' b' nx', h => by
    simp only [sameT, Bool.and_eq_true, beq_iff_eq] at h
    obtain ⟨⟨h1, rfl⟩, h2⟩ := h
    rw [sameT_eq b b' h1, sameT_eq nx nx' h2]
  | .nil, .node _ _ _ _ _, h => by cases h
  | .nil, .case _ _ _, h => by cases h
  | .node _ _ _ _ _, .nil, h => by cases h
  | .node _ _ _ _ _, .case _ _ _, h => by cases h
  | .case _ _ _, .nil, h => by cases h
  | .case _ _ _, .node _ _ _ _ _, h => by cases h
theorem sameT_d1 {k k2 f f2 : Int} {x x2 : List UInt8} {cs cs2 nx nx2 : T} (h : (k != k2) = true) : sameT (.node k x f cs nx) (.node k2 x2 f2 cs2 nx2) = false := by
  have h1 : (k == k2) = false := by simpa using h
  simp only [sameT, h1, Bool.false_and]
theorem sameT_d2 {k k2 f f2 : Int} {x x2 : List UInt8} {cs cs2 nx nx2 : T} (h : (!(x == x2)) = true) : sameT (.node k x f cs nx) (.node k2 x2 f2 cs2 nx2) = false := by
  have h1 : (x == x2) = false := by simpa using h
  simp only [sameT, h1, Bool.false_and, Bool.and_false]
theorem sameT_d3 {k k2 f f2 : Int} {x x2 : List UInt8} {cs cs2 nx nx2 : T} (h : (f != f2) = true) : sameT (.node k x f cs nx) (.node k2 x2 f2 cs2 nx2) = false := by
  have h1 : (f == f2) = false := by simpa using h
  simp only [sameT, h1, Bool.false_and, Bool.and_false]
theorem sameT_d4 {k k2 f f2 : Int} {x x2 : List UInt8} {cs cs2 nx nx2 : T} (h : ((len cs : Int) != len cs2) = true) : sameT (.node k x f cs nx) (.node k2 x2 f2 cs2 nx2) = false := by
  have h0 : ¬ ((len cs : Int) = len cs2) := by simpa using h
  have h1 : (len cs == len cs2) = false := by simp; omega
  simp only [sameT, h1, Bool.false_and, Bool.and_false]
theorem sameT_go {k k2 f f2 : Int} {x x2 : List UInt8} {cs cs2 nx nx2 : T} (h1 : (k != k2) = false) (h2 : (!(x == x2)) = false) (h3 : (f != f2) = false) (h4 : ((len cs : Int) != len cs2) = false) : len cs = len cs2 ∧ sameT (.node k x f cs nx) (.node k2 x2 f2 cs2 nx2) = (sameT cs cs2 && sameT nx nx2) := by
  have g1 : k = k2 := by simpa using h1
  have g2 : x = x2 := by simpa using h2
  have g3 : f = f2 := by simpa using h3
  have g4 : (len cs : Int) = len cs2 := by simpa using h4
  have g5 : len cs = len cs2 := by omega
  subst g1 g2 g3
  exact ⟨g5, by simp [sameT, g5]⟩
theorem sameT_c1 {b b2 nx nx2 : T} {key key2 : List UInt8} (h : sameT b b2 = false) : sameT (.case key b nx) (.case key2 b2 nx2) = false := by
  simp only [sameT, h, Bool.false_and]
theorem sameT_c2 {b b2 nx nx2 : T} {key key2 : List UInt8} (h : (!(key == key2)) = true) : sameT (.case key b nx) (.case key2 b2 nx2) = false := by
  have h1 : (key == key2) = false := by simpa using h
  simp only [sameT, h1, Bool.false_and, Bool.and_false]
theorem sameT_c3 {b b2 nx nx2 : T} {key key2 : List UInt8} (h : sameT b b2 = true) (h' : (!(key == key2)) = false) : sameT (.case key b nx) (.case key2 b2 nx2) = sameT nx nx2 := by
  have h1 : (key == key2) = true := by simpa using h'
  simp only [sameT, h, h1, Bool.true_and]
theorem SV.same {w W : World} {v : Value} {t : T} (h : SV w v t) (hc : ∀ a, W.cell? a = w.cell? a) : SV W v t := by
  rcases h with h | ⟨b, o, n, c, e1, e2, e3⟩
  · exact .inl h
  · exact .inr ⟨b, o, n, c, e1, e2, Rd.keep (fun b o v h => by rw [hc]; exact h) t _ _ _ e3⟩
theorem drawn1 {w a : World} (h : ∃ m, a = w.drewN m) (p : Nat) : ∃ m, a.drewN p = w.drewN m := by
  obtain ⟨m, rfl⟩ := h; exact ⟨m + p, World.drewN_drewN _ _ _⟩
theorem drawn2 {w a : World} (h : ∃ m, a = w.drewN m) (p q : Nat) : ∃ m, (a.drewN p).drewN q = w.drewN m := drawn1 (drawn1 h p) q
theorem sameT_len {t u : T} (h : len t ≠ len u) : sameT t u = false := by
  cases hs : sameT t u with
  | false => rfl
  | true => exact absurd (by rw [sameT_eq t u hs]) h
theorem SV.parts {w : World} {v : Value} {t : T} (h : SV w v t) : ∃ a n c, v = .slice a n c ∧ n = len t ∧ (0 < n → ∃ b o, a = some ⟨b, o, none⟩ ∧ Rd w t b o n) := by
  rcases h with ⟨⟨a, rfl⟩, rfl⟩ | ⟨b, o, n, c, rfl, _, hr⟩
  · exact ⟨_, _, _, rfl, rfl, fun h => absurd h (Nat.lt_irrefl _)⟩
  · exact ⟨_, _, _, rfl, Rd.len t b o n hr, fun _ => ⟨b, o, rfl, hr⟩⟩

def SameOut (t u : T) (w : World) (e : Ending) (w' : World) : Prop := e = .returned (.bool (sameT t u)) ∧ ∃ m, w' = w.drewN m
def SameIH (N : Nat) : Prop := ∀ (t u : T) (v v' : Value) (w : World), sz t < N → isN t = true → isN u = true → wt t ≤ 2100000 → wt u ≤ 2100000 → SV w v t → SV w v' u →
  Calls Tryz.prog 8 #[v, v'] w (SameOut t u w)

set_option maxHeartbeats 2000000 in
set_option maxRecDepth 100000 in
theorem same_step (N : Nat) (IH : SameIH N) (t u : T) (v v' : Value) (w : World) (hz : sz t ≤ N) (hn : isN t = true) (hn' : isN u = true) (hw : wt t ≤ 2100000) (hw' : wt u ≤ 2100000) (hs : SV w v t) (hs' : SV w v' u) :
    Calls Tryz.prog 8 #[v, v'] w (SameOut t u w) := by
  have hlt := len_wt t
  have hlu := len_wt u
  obtain ⟨a1, n1, c1, rfl, hl1, hp1⟩ := hs.parts
  obtain ⟨a2, n2, c2, rfl, hl2, hp2⟩ := hs'.parts
  by_cases hne : n1 = n2
  · have hb : n1 ≤ 2100000 := by omega
    subst hne
    have IH := Lib.hid IH
    have HP1 := Lib.hid hp1; have HP2 := Lib.hid hp2
    have HN1 := Lib.hid hn; have HN2 := Lib.hid hn'; have HW1 := Lib.hid hw; have HW2 := Lib.hid hw'; have HZ := Lib.hid hz
    have HL1 := Lib.hid hl1; have HL2 := Lib.hid hl2
    clear hp1 hp2 hn hn' hw hw' hz hs hs' hlt hlu hl1 hl2
    go_enter Tryz.func8, Tryz.ntmps8
    go_wp2_with fail
    go_loopw [5] (fun i wr => ∃ (i' : Nat) (t' u' : T), i' ≤ n1 ∧ i = .int .i64 i' ∧ Hid ((i' < n1 → ∃ b o b2 o2, a1 = some ⟨b, o, none⟩ ∧ a2 = some ⟨b2, o2, none⟩ ∧ Rd w t' b (o + i' * 4) (n1 - i') ∧ Rd w u' b2 (o2 + i' * 4) (n1 - i')) ∧ isN t' = true ∧ isN u' = true ∧ wt t' ≤ wt t ∧ wt u' ≤ wt u ∧ sz t' ≤ sz t ∧ len t' = n1 - i' ∧ len u' = n1 - i' ∧ sameT t u = sameT t' u') ∧ Hid (∃ m, wr = w.drewN m)) (fun i _ => n1 - (RowKit.intOf i).toNat)
    case atStart =>
      refine ⟨0, t, u, by omega, rfl, ⟨fun h => ?_, HN1.out, HN2.out, Nat.le_refl _, Nat.le_refl _, Nat.le_refl _, HL1.out.symm, HL2.out.symm, rfl⟩, 0, rfl⟩
      obtain ⟨b, o, e1, r1⟩ := HP1.out h
      obtain ⟨b2, o2, e2, r2⟩ := HP2.out h
      exact ⟨b, o, b2, o2, e1, e2, by simpa using r1, by simpa using r2⟩
    case round =>
      obtain ⟨i, t', u', hin, rfl, HT, HWr⟩ := hrel
      by_cases hlt : i < n1
      · obtain ⟨hr, g1, g2, g3, g4, g5, g6, g7, hsame⟩ := HT.out
        obtain ⟨b, o, b2, o2, rfl, rfl, r1, r2⟩ := hr hlt
        clear hr
        cases t' with
        | nil => simp [len] at g6; omega
        | case _ _ _ => cases g1
        | node k x f cs nx =>
          cases u' with
          | nil => simp [len] at g7; omega
          | case _ _ _ => cases g2
          | node k2 x2 f2 cs2 nx2 =>
            obtain ⟨hncs, hnnx⟩ := isN_node g1
            obtain ⟨hncs2, hnnx2⟩ := isN_node g2
            obtain ⟨cv, m1, hm1, q0, q1, q2, q3, hv, hrest⟩ := r1
            obtain ⟨cv2, m2, hm2, p0, p1, p2, p3, hv2, hrest2⟩ := r2
            obtain ⟨ca, cn, cc, rfl, hcl, hcp⟩ := SV.parts (show SV w cv cs from hv)
            obtain ⟨ca2, cn2, cc2, rfl, hcl2, hcp2⟩ := SV.parts (show SV w cv2 cs2 from hv2)
            have hcb : cn ≤ 2100000 := by have := len_wt cs; have := HW1.out; simp only [wt] at g3; omega
            have hcb2 : cn2 ≤ 2100000 := by have := len_wt cs2; have := HW2.out; simp only [wt] at g4; omega
            have hce : ∀ a, wr.cell? a = w.cell? a := fun a => by obtain ⟨m, hm⟩ := HWr.out; rw [hm]; rfl
            rw [← hce] at q0 q1 q2 q3 p0 p1 p2 p3
            have hnx : Hid ((i + 1 < n1 → ∃ b' o' b2' o2', (some (⟨b, o, none⟩ : Addr)) = some ⟨b', o', none⟩ ∧ (some (⟨b2, o2, none⟩ : Addr)) = some ⟨b2', o2', none⟩ ∧ Rd w nx b' (o' + (i + 1) * 4) (n1 - (i + 1)) ∧ Rd w nx2 b2' (o2' + (i + 1) * 4) (n1 - (i + 1))) ∧ isN nx = true ∧ isN nx2 = true ∧ wt nx ≤ wt t ∧ wt nx2 ≤ wt u ∧ sz nx ≤ sz t ∧ len nx = n1 - (i + 1) ∧ len nx2 = n1 - (i + 1)) := by
              refine ⟨fun _ => ⟨b, o, b2, o2, rfl, rfl, ?_, ?_⟩, hnnx, hnnx2, ?_, ?_, ?_, ?_, ?_⟩
              · rw [show o + (i + 1) * 4 = o + i * 4 + 4 by omega, show n1 - (i + 1) = m1 by omega]; exact hrest
              · rw [show o2 + (i + 1) * 4 = o2 + i * 4 + 4 by omega, show n1 - (i + 1) = m2 by omega]; exact hrest2
              · simp only [wt] at g3; omega
              · simp only [wt] at g4; omega
              · simp only [sz] at g5; omega
              · simp only [len] at g6; omega
              · simp only [len] at g7; omega
            have hszc : sz cs < N := by have := HZ.out; simp only [sz] at g5; omega
            have hwc : wt cs ≤ 2100000 := by have := HW1.out; simp only [wt] at g3; omega
            have hwc2 : wt cs2 ≤ 2100000 := by have := HW2.out; simp only [wt] at g4; omega
            have HS := Lib.hid hsame
            have HCL := Lib.hid hcl; have HCL2 := Lib.hid hcl2; have HCP := Lib.hid hcp; have HCP2 := Lib.hid hcp2
            have HNC := Lib.hid hncs; have HNC2 := Lib.hid hncs2; have HSZ := Lib.hid hszc; have HWC := Lib.hid hwc; have HWC2 := Lib.hid hwc2
            clear hsame hcl hcl2 hcp hcp2 hncs hncs2 hnnx hnnx2 hrest hrest2 hv hv2 g1 g2 g3 g4 g5 g6 g7 hm1 hm2 hszc hwc hwc2 hce HT HP1 HP2
            cases e1 : (k != k2) with
            | true =>
              have HF := Lib.hid (show sameT t u = false by rw [HS.out]; exact sameT_d1 e1)
              clear HS
              go_wp2_with fail
              go_quiet (fail)
              go_wp2_with fail
              go_ret
              exact ⟨by rw [HF.out] <;> rfl, drawn1 HWr.out _⟩
            | false =>
              cases e2 : (!(x == x2)) with
              | true =>
                have HF := Lib.hid (show sameT t u = false by rw [HS.out]; exact sameT_d2 e2)
                clear HS
                go_wp2_with fail
                go_quiet (fail)
                go_wp2_with fail
                go_ret
                exact ⟨by rw [HF.out] <;> rfl, drawn1 HWr.out _⟩
              | false =>
                cases e3 : (f != f2) with
                | true =>
                  have HF := Lib.hid (show sameT t u = false by rw [HS.out]; exact sameT_d3 e3)
                  clear HS
                  go_wp2_with fail
                  go_quiet (fail)
                  go_wp2_with fail
                  go_ret
                  exact ⟨by rw [HF.out] <;> rfl, drawn1 HWr.out _⟩
                | false =>
                  cases e4 : ((cn : Int) != cn2) with
                  | true =>
                    have HF := Lib.hid (show sameT t u = false by rw [HS.out]; exact sameT_d4 (by rw [← HCL.out, ← HCL2.out]; exact e4))
                    clear HS
                    go_wp2_with fail
                    go_quiet (fail)
                    go_wp2_with fail
                    go_ret
                    exact ⟨by rw [HF.out] <;> rfl, drawn1 HWr.out _⟩
                  | false =>
                    obtain ⟨hcl, hgo⟩ := sameT_go (cs := cs) (cs2 := cs2) (nx := nx) (nx2 := nx2) e1 e2 e3 (by rw [← HCL.out, ← HCL2.out]; exact e4)
                    have HS2 := Lib.hid (show sameT t u = (sameT cs cs2 && sameT nx nx2) by rw [HS.out]; exact hgo)
                    have hcn : cn = cn2 := by rw [HCL.out, HCL2.out]; exact hcl
                    clear hcl hgo HS
                    go_wp2_with fail
                    go_quiet (fail)
                    clear e1 e2 e3 e4
                    subst hcn
                    go_wp2_with fail
                    obtain ⟨wq, hwq⟩ : ∃ wq, wq = wr.drewN nq := ⟨_, rfl⟩
                    have HWq : Hid (∃ m, wq = w.drewN m) := by obtain ⟨m, hm⟩ := HWr.out; exact ⟨m + nq, by rw [hwq, hm]; exact World.drewN_drewN _ _ _⟩
                    have hqe : ∀ a, wq.cell? a = wr.cell? a := fun a => by rw [hwq]; rfl
                    have hwe : ∀ a, wr.cell? a = w.cell? a := fun a => by obtain ⟨m, hm⟩ := HWr.out; rw [hm]; rfl
                    rw [hwe] at q3 p3
                    rw [← hwq]
                    clear q0 q1 q2 p0 p1 p2 hwq hqe hwe HWr
                    go_loopw [6] (fun kv w2 => ∃ (j : Nat) (d d2 : T), j ≤ cn ∧ kv = .int .i64 j ∧ Hid ((j < cn → ∃ cb co cb2 co2, ca = some ⟨cb, co, none⟩ ∧ ca2 = some ⟨cb2, co2, none⟩ ∧ Rd w d cb (co + j * 2) (cn - j) ∧ Rd w d2 cb2 (co2 + j * 2) (cn - j)) ∧ isN.isC d = true ∧ isN.isC d2 = true ∧ wt d ≤ wt cs ∧ wt d2 ≤ wt cs2 ∧ sz d ≤ sz cs ∧ len d = cn - j ∧ len d2 = cn - j ∧ sameT cs cs2 = sameT d d2) ∧ Hid (∃ m, w2 = w.drewN m)) (fun kv _ => cn - (RowKit.intOf kv).toNat)
                    case atStart =>
                      refine ⟨0, cs, cs2, by omega, rfl, ⟨fun h => ?_, HNC.out, HNC2.out, Nat.le_refl _, Nat.le_refl _, Nat.le_refl _, HCL.out.symm, HCL2.out.symm, rfl⟩, HWq⟩
                      obtain ⟨b, o, e1, r1⟩ := HCP.out h
                      obtain ⟨b2, o2, e2, r2⟩ := HCP2.out h
                      exact ⟨b, o, b2, o2, e1, e2, by simpa using r1, by simpa using r2⟩
                    case round =>
                      obtain ⟨j, d, d2, hjn, rfl, HT2, HW2q⟩ := hrel
                      have hwe : ∀ a, wr.cell? a = w.cell? a := fun a => by obtain ⟨m, hm⟩ := HW2q.out; rw [hm]; rfl
                      rw [← hwe] at q3 p3
                      by_cases hlj : j < cn
                      · obtain ⟨hr, g1, g2, g3, g4, g5, g6, g7, hsame⟩ := HT2.out
                        obtain ⟨cb, co, cb2, co2, rfl, rfl, r1, r2⟩ := hr hlj
                        clear hr
                        cases d with
                        | nil => simp [len] at g6; omega
                        | node _ _ _ _ _ => cases g1
                        | case key bd dn =>
                          cases d2 with
                          | nil => simp [len] at g7; omega
                          | node _ _ _ _ _ => cases g2
                          | case key2 bd2 dn2 =>
                            obtain ⟨hnb, hnnx⟩ := isC_case g1
                            obtain ⟨hnb2, hnnx2⟩ := isC_case g2
                            obtain ⟨bv, m3, hm3, s0, s1, hbv, hrest⟩ := r1
                            obtain ⟨bv2, m4, hm4, t0, t1, hbv2, hrest2⟩ := r2
                            have hsv : SV w bv bd := hbv
                            have hsv2 : SV w bv2 bd2 := hbv2
                            obtain ⟨ba, bn, bc, rfl, hbn, hbp⟩ := hsv.parts
                            obtain ⟨ba2, bn2, bc2, rfl, hbn2, hbp2⟩ := hsv2.parts
                            clear hbn hbp hbn2 hbp2
                            rw [← hwe] at s0 s1 t0 t1
                            have hnx : Hid ((j + 1 < cn → ∃ b' o' b2' o2', (some (⟨cb, co, none⟩ : Addr)) = some ⟨b', o', none⟩ ∧ (some (⟨cb2, co2, none⟩ : Addr)) = some ⟨b2', o2', none⟩ ∧ Rd w dn b' (o' + (j + 1) * 2) (cn - (j + 1)) ∧ Rd w dn2 b2' (o2' + (j + 1) * 2) (cn - (j + 1))) ∧ isN.isC dn = true ∧ isN.isC dn2 = true ∧ wt dn ≤ wt cs ∧ wt dn2 ≤ wt cs2 ∧ sz dn ≤ sz cs ∧ len dn = cn - (j + 1) ∧ len dn2 = cn - (j + 1)) := by
                              refine ⟨fun _ => ⟨cb, co, cb2, co2, rfl, rfl, ?_, ?_⟩, hnnx, hnnx2, ?_, ?_, ?_, ?_, ?_⟩
                              · rw [show co + (j + 1) * 2 = co + j * 2 + 2 by omega, show cn - (j + 1) = m3 by omega]; exact hrest
                              · rw [show co2 + (j + 1) * 2 = co2 + j * 2 + 2 by omega, show cn - (j + 1) = m4 by omega]; exact hrest2
                              · simp only [wt] at g3; omega
                              · simp only [wt] at g4; omega
                              · simp only [sz] at g5; omega
                              · simp only [len] at g6; omega
                              · simp only [len] at g7; omega
                            have HIC := Lib.hid (fun (W : World) (hW : ∀ a, W.cell? a = w.cell? a) => IH.out bd bd2 (.slice ba bn bc) (.slice ba2 bn2 bc2) W (by have := HSZ.out; simp only [sz] at g5; omega) hnb hnb2 (by have := HWC.out; simp only [wt] at g3; omega) (by have := HWC2.out; simp only [wt] at g4; omega) (hsv.same hW) (hsv2.same hW))
                            have hwd : Hid (∀ n a, (wr.drewN n).cell? a = w.cell? a) := Lib.hid (fun n a => (show (wr.drewN n).cell? a = wr.cell? a from rfl).trans (hwe a))
                            have HS3 := Lib.hid hsame
                            clear hsame hsv hsv2 hbv hbv2 hnb hnb2 hnnx hnnx2 hrest hrest2 g1 g2 g3 g4 g5 g6 g7 hm3 hm4 hwe HT2
                            cases hsb : sameT bd bd2 with
                            | false =>
                              have HF := Lib.hid (show sameT t u = false by rw [HS2.out, HS3.out, sameT_c1 hsb]; rfl)
                              have HIQ : Hid (∀ (W : World), (∀ a, W.cell? a = w.cell? a) → Calls Tryz.prog 8 #[.slice ba bn bc, .slice ba2 bn2 bc2] W fun e w' => e = .returned (.bool false) ∧ ∃ m, w' = W.drewN m) := Lib.hid (fun W hW => by have h := HIC.out W hW; unfold SameOut at h; rw [hsb] at h; exact h)
                              clear hsb HIC
                              go_wp2_with fail
                              go_quiet ((go_at_call 8; exact Calls.quiet_of (HIQ.out _ (hwd.out _))))
                              go_wp2_with fail
                              go_quiet (fail)
                              go_wp2_with fail
                              go_ret
                              exact ⟨by rw [HF.out] <;> rfl, by first | exact drawn2 HW2q.out _ _ | exact drawn1 HW2q.out _⟩
                            | true =>
                              have HIQ : Hid (∀ (W : World), (∀ a, W.cell? a = w.cell? a) → Calls Tryz.prog 8 #[.slice ba bn bc, .slice ba2 bn2 bc2] W fun e w' => e = .returned (.bool true) ∧ ∃ m, w' = W.drewN m) := Lib.hid (fun W hW => by have h := HIC.out W hW; unfold SameOut at h; rw [hsb] at h; exact h)
                              have HSB := Lib.hid hsb
                              clear hsb HIC
                              cases e5 : (!(key == key2)) with
                              | true =>
                                have HF := Lib.hid (show sameT t u = false by rw [HS2.out, HS3.out, sameT_c2 e5]; rfl)
                                go_wp2_with fail
                                go_quiet ((go_at_call 8; exact Calls.quiet_of (HIQ.out _ (hwd.out _))))
                                go_wp2_with fail
                                go_quiet (fail)
                                go_wp2_with fail
                                go_ret
                                exact ⟨by rw [HF.out] <;> rfl, by first | exact drawn2 HW2q.out _ _ | exact drawn1 HW2q.out _⟩
                              | false =>
                                have HS4 := Lib.hid (show sameT cs cs2 = sameT dn dn2 by rw [HS3.out]; exact sameT_c3 HSB.out e5)
                                go_wp2_with fail
                                go_quiet ((go_at_call 8; exact Calls.quiet_of (HIQ.out _ (hwd.out _))))
                                go_wp2_with fail
                                go_quiet (fail)
                                go_wp2_with fail
                                go_roundw
                                case rel =>
                                  obtain ⟨h1, h2, h3, h4, h5, h6, h7, h8⟩ := hnx.out
                                  exact ⟨j + 1, dn, dn2, by omega, by go_num, ⟨h1, h2, h3, h4, h5, h6, h7, h8, HS4.out⟩, by first | exact drawn2 HW2q.out _ _ | exact drawn1 HW2q.out _⟩
                                case measure => simp [RowKit.intOf]; omega
                      · have hje : j = cn := by omega
                        have hcc : sameT cs cs2 = true := by
                          obtain ⟨_, h2, h3, _, _, _, h7, h8, h9⟩ := HT2.out
                          rw [h9]
                          rw [hje, Nat.sub_self] at h7 h8
                          cases d with
                          | nil =>
                            cases d2 with
                            | nil => rfl
                            | node _ _ _ _ _ => simp [len] at h8
                            | case _ _ _ => simp [len] at h8
                          | node _ _ _ _ _ => simp [len] at h7
                          | case _ _ _ => simp [len] at h7
                        have HS3 := Lib.hid (show sameT t u = sameT nx nx2 by rw [HS2.out, hcc]; rfl)
                        have HJE := Lib.hid hje
                        clear hcc hje HT2 hwe
                        go_wp2_with fail
                        go_roundw
                        case rel =>
                          obtain ⟨h1, h2, h3, h4, h5, h6, h7, h8⟩ := hnx.out
                          exact ⟨i + 1, nx, nx2, by omega, by go_num, ⟨h1, h2, h3, h4, h5, h6, h7, h8, HS3.out⟩, HW2q⟩
                        case measure => simp [RowKit.intOf]; omega
      · have hie : i = n1 := by omega
        have hfin : sameT t u = true := by
          obtain ⟨_, _, _, _, _, _, h7, h8, h9⟩ := HT.out
          rw [h9]
          rw [hie, Nat.sub_self] at h7 h8
          cases t' with
          | nil =>
            cases u' with
            | nil => rfl
            | node _ _ _ _ _ => simp [len] at h8
            | case _ _ _ => simp [len] at h8
          | node _ _ _ _ _ => simp [len] at h7
          | case _ _ _ => simp [len] at h7
        have HF := Lib.hid hfin
        clear hfin hie
        go_wp2_with fail
        go_ret
        exact ⟨by rw [HF.out] <;> rfl, HWr.out⟩
  · have hfin := sameT_len (show len t ≠ len u by omega)
    have HF := Lib.hid hfin
    have hne2 : ¬ (n1 : Int) = n2 := by omega
    clear hfin hs hs' hp1 hp2 hl1 hl2 hlt hlu
    go_enter Tryz.func8, Tryz.ntmps8
    go_wp2_with fail
    go_ret
    exact ⟨by rw [HF.out] <;> rfl, 0, rfl⟩
theorem same_any : ∀ N : Nat, SameIH N
  | 0 => fun t u v v' w hz => absurd hz (Nat.not_lt_zero _)
  | N + 1 => fun t u v v' w hz hn hn' hw hw' hs hs' => same_step N (same_any N) t u v v' w (by omega) hn hn' hw hw' hs hs'
/-- same.Message -/
theorem same_of (t u : T) (v v' : Value) (w : World) (hn : isN t = true) (hn' : isN u = true) (hw : wt t ≤ 2100000) (hw' : wt u ≤ 2100000) (hs : SV w v t) (hs' : SV w v' u) :
    Calls Tryz.prog 8 #[v, v'] w fun e w' => e = .returned (.bool (sameT t u)) ∧ Below w.heap.size w w' :=
  (same_any (sz t + 1) t u v v' w (Nat.lt_succ_self _) hn hn' hw hw' hs hs').mono fun _ _ h => ⟨h.1, by obtain ⟨m, rfl⟩ := h.2; exact below0N _ _ _⟩

end Go.Proofs.YtnefcilopgcdpaaGreatDoor
