/-
  ref.Clean: a message without what its text does not keep.
-/
import Derived.Test.YtnefcilopgcdpaaGreatDoorGrow
import Derived.Test.YtnefcilopgcdpaaGreatDoorSize
import Derived.Test.YtnefcilopgcdpaaGreatDoorBase
import Derived.Deep.RegionHeld3
import Derived.Deep.AppendLies
namespace Go.Proofs.YtnefcilopgcdpaaGreatDoor
open Go.RowKit Ms

def CleanOut (t : T) (w : World) (e : Ending) (w' : World) : Prop := (∃ v, e = .returned v ∧ SVP (fun b => w.heap.size ≤ b) w' v (clean t)) ∧ Below w.heap.size w w'
def CleanIH (N : Nat) : Prop := ∀ (t : T) (v : Value) (w : World), sz t < N → isN t = true → wt t ≤ 2100000 → 0 < w.heap.size → SV w v t → Calls Tryz.prog 9 #[v] w (CleanOut t w)
/-- what the inner rounds keep: the node's own block, the cases so far -/
def Inner (w wi : World) (cb : Nat) (k f' : Int) (x' : List UInt8) (a2 : Option Addr) (n2 : Nat) (cs' : T) (j : Nat) (wr2 : World) : Prop :=
  ∃ (t3 acc2 : T) (out2 : Value) (xs2 : List Value), (CasesFrom w a2 n2 j t3 ∧ isN.isC t3 = true ∧ sz t3 ≤ sz cs' ∧ wt t3 ≤ wt cs' ∧ app acc2 (clean t3) = clean cs' ∧ len acc2 = j) ∧
    wr2.heap[cb]? = some (.cells #[.int .i64 k, .string ⟨x'.toArray⟩, .int .i64 f', out2] 60) ∧ Acc wi cb 62 2 out2 acc2 xs2 wr2.heap.size wr2
set_option maxHeartbeats 4000000 in
set_option maxRecDepth 100000 in
theorem clean_step (N : Nat) (IH : CleanIH N) (t : T) (v : Value) (w : World) (hz : sz t ≤ N) (hn : isN t = true) (hw : wt t ≤ 2100000) (h0 : 0 < w.heap.size) (hs : SV w v t) :
    Calls Tryz.prog 9 #[v] w (CleanOut t w) := by
  obtain ⟨i0, hi, hz0, hz1, hz2⟩ := info_parts infoNode
  obtain ⟨i1, ci, cz0, cz1, cz2⟩ := info_parts infoCase
  obtain ⟨a, n, c, rfl, hnl, hfr⟩ := nodesFrom_start hs
  have hlw := len_wt t
  have hn2 : n ≤ 2100000 := by omega
  have HIH := Lib.hid IH; have HN := Lib.hid hn; have HF := Lib.hid hfr; have H0 := Lib.hid h0; have HZ := Lib.hid hz; have HW := Lib.hid hw
  clear IH hn hfr h0 hz hw hs hlw hnl
  go_enter Tryz.func9, Tryz.ntmps9
  go_wp2_with fail
  go_loopw [3, 4] (fun out i wr => ∃ (i' : Nat) (t' acc : T) (xs : List Value), i' ≤ n ∧ i = .int .i64 i' ∧ Hid (NodesFrom w a n i' t' ∧ isN t' = true ∧ sz t' ≤ sz t ∧ wt t' ≤ wt t ∧ app acc (clean t') = clean t ∧ len acc = i') ∧ Hid (Acc w 0 60 4 out acc xs wr.heap.size wr) ∧ Hid (Below w.heap.size w wr)) (fun _ i _ => n - (RowKit.intOf i).toNat)
  case atStart => exact ⟨0, t, .nil, [], by omega, rfl, ⟨HF.out, HN.out, Nat.le_refl _, Nat.le_refl _, rfl, rfl⟩, Acc.start _ _ H0.out, Below.refl _ _⟩
  case round =>
    obtain ⟨i, t', acc, xs, hin, rfl, HT, HAc, HB⟩ := hrel
    by_cases hlt : i < n
    · obtain ⟨hf1, hn1, hs1, hw1, happ, hla⟩ := HT.out
      obtain ⟨k, x, f, cs, nx, b, o, v, rfl, rfl, q0, q1, q2, q3, hsv, hnext⟩ := nodesFrom_next hf1 hlt hn1
      have kc := keepCells HB.out
      have k0 := kc _ _ _ q0; have k1 := kc _ _ _ q1; have k2 := kc _ _ _ q2; have k3 := kc _ _ _ q3
      obtain ⟨hncs, hnnx⟩ := isN_node hn1
      obtain ⟨x', hx'⟩ : ∃ x' : List UInt8, x' = if k = 6 then [] else x := ⟨_, rfl⟩
      obtain ⟨f', hf'⟩ : ∃ f' : Int, f' = if k = 4 then f else 0 := ⟨_, rfl⟩
      obtain ⟨cs', hcs'⟩ : ∃ cs' : T, cs' = if hasC k = true then cs else .nil := ⟨_, rfl⟩
      obtain ⟨vc, hvc⟩ : ∃ vc, vc = if hasC k = true then v else .slice none 0 0 := ⟨_, rfl⟩
      have hCa := Lib.hid (cases_val k f x v vc hvc)
      have hS2 := cases_sv hsv hvc
      rw [← hcs'] at hS2
      obtain ⟨a2, n2, c2, rfl, hl2, hfr2⟩ := casesFrom_start hS2
      have hcl : app (app acc (.node k x' f' (clean cs') .nil)) (clean nx) = clean t := by
        have e : clean cs' = if hasC k = true then clean cs else .nil := by rw [hcs']; split <;> rfl
        rw [app_assoc, ← happ, show clean (.node k x f cs nx) = .node k (if k = 6 then [] else x) (if k = 4 then f else 0) (if hasC k = true then clean cs else .nil) (clean nx) from rfl, ← hx', ← hf', ← e]; rfl
      have HCL := Lib.hid hcl
      have HNX := Lib.hid hnext; have HNN := Lib.hid hnnx; have HNC := Lib.hid hncs; have HAP := Lib.hid happ; have HF2 := Lib.hid hfr2; have HL2 := Lib.hid hl2
      have HSZ := Lib.hid hs1; have HWT := Lib.hid hw1; have HLA := Lib.hid hla
      have ka := keepCells ((Below.refl wr.heap.size wr).alloc (Nat.le_refl _) (.cells #[.int .i64 0, .string ⟨#[]⟩, .int .i64 0, .slice none 0 0] 60))
      have a0 := ka _ _ _ k0; have a1 := ka _ _ _ k1
      clear hcl hf1 hn1 hs1 hw1 happ hla q0 q1 q2 q3 hsv hnext kc hncs hnnx hvc hS2 hl2 hfr2 HT ka
      have hk : k = 6 ∨ k = 4 ∨ ((k == 6) = false ∧ (k == 4) = false) := by
        by_cases h6 : k = 6
        · exact .inl h6
        · by_cases h4 : k = 4
          · exact .inr (.inl h4)
          · exact .inr (.inr ⟨beq_false_of_ne h6, beq_false_of_ne h4⟩)
      rcases hk with rfl | rfl | ⟨h6, h4⟩
      · go_wp2_with fail
        go_region
        have hbk := Go.heap_alloc_new wr (.cells #[.int .i64 6, .string ⟨x.toArray⟩, .int .i64 0, .slice none 0 0] 60)
        have hB1 : Below wr.heap.size wr (wr.alloc (.cells #[.int .i64 6, .string ⟨x.toArray⟩, .int .i64 0, .slice none 0 0] 60)).drew := ((Below.refl wr.heap.size wr).alloc (Nat.le_refl _) (.cells #[.int .i64 6, .string ⟨x.toArray⟩, .int .i64 0, .slice none 0 0] 60)).trans (Below.refl wr.heap.size _).drew
        have hsz : (wr.alloc (.cells #[.int .i64 6, .string ⟨x.toArray⟩, .int .i64 0, .slice none 0 0] 60)).drew.heap.size = wr.heap.size + 1 := by simp
        have hbk : (wr.alloc (.cells #[.int .i64 6, .string ⟨x.toArray⟩, .int .i64 0, .slice none 0 0] 60)).drew.heap[wr.heap.size]? = some (.cells #[.int .i64 6, .string ⟨x.toArray⟩, .int .i64 0, .slice none 0 0] 60) := hbk
        generalize (wr.alloc (.cells #[.int .i64 6, .string ⟨x.toArray⟩, .int .i64 0, .slice none 0 0] 60)).drew = wb at *
        clear a0 a1
        have kb := keepCells hB1
        have b0 := kb _ _ _ k0; have b1 := kb _ _ _ k1; have b2' := kb _ _ _ k2; have b3 := kb _ _ _ k3
        have hlt0 := cellLt k0
        obtain ⟨cb, hcb⟩ : ∃ cb, cb = wr.heap.size := ⟨_, rfl⟩
        have HA1 := Lib.hid (HAc.out.below hB1)
        have HB1 := Lib.hid (HB.out.trans (hB1.mono HB.out.size))
        rw [← hcb] at hbk hsz HA1 hlt0 ⊢
        have hwcb : w.heap.size ≤ cb := by have := HB.out.size; omega
        clear kb k0 k1 k2 k3 hB1 hcb HAc HB
        have hne : b ≠ cb := by omega
        have hne' : cb ≠ b := by omega
        have z0 : wb.cell? ⟨cb, 0, none⟩ = some (.int .i64 6) := by simp [World.cell?, hbk]
        have z1 : wb.cell? ⟨cb, 1, none⟩ = some (.string ⟨x.toArray⟩) := by simp [World.cell?, hbk]
        have z2 : wb.cell? ⟨cb, 2, none⟩ = some (.int .i64 0) := by simp [World.cell?, hbk]
        have fz1 : wb.frozen? ⟨cb, 1, none⟩ = false := by simp [World.frozen?, hbk]
        have fz2 : wb.frozen? ⟨cb, 2, none⟩ = false := by simp [World.frozen?, hbk]
        have hbk2 := Joins.block_setCell (i := 1) hbk (.string ⟨#[]⟩)
        have y0 : (wb.setCell ⟨cb, 1, none⟩ (.string ⟨#[]⟩)).cell? ⟨cb, 0, none⟩ = some (.int .i64 6) := block_cell hbk2 rfl
        have u0 := far_cell hne ((.string ⟨#[]⟩)) 1 b0; have u1 := far_cell hne ((.string ⟨#[]⟩)) 1 b1; have u2 := far_cell hne ((.string ⟨#[]⟩)) 1 b2'; have u3' := far_cell hne ((.string ⟨#[]⟩)) 1 b3
        have HA2 := Lib.hid (HA1.out.set (i := 1) (.string ⟨#[]⟩) (.inr (Nat.le_refl _)))
        have HB2 := Lib.hid (below_grown HB1.out (keeps_set wb cb 1 (.string ⟨#[]⟩)) (fun k hk => by cases hk; exact hwcb) HB1.out.size)
        clear b0 b1 b2' b3
        go_upto_region 10 with fail
        have hbkc : (wb.setCell ⟨cb, 1, none⟩ (.string ⟨#[]⟩)).heap[cb]? = some (.cells #[.int .i64 6, .string ⟨x'.toArray⟩, .int .i64 f', .slice none 0 0] 60) := by rw [hx', hf']; exact hbk2
        have hszc : (wb.setCell ⟨cb, 1, none⟩ (.string ⟨#[]⟩)).heap.size = cb + 1 := by rw [← hsz]; exact size_setCell _ _ _
        clear z0 z1 z2 fz1 fz2 y0 hbk hbk2 hsz HA1 HB1
        generalize wb.setCell ⟨cb, 1, none⟩ (.string ⟨#[]⟩) = wc at *
        clear hbk
        have hcs2 : isN.isC cs' = true ∧ sz cs' ≤ sz cs ∧ wt cs' ≤ wt cs := by
          rw [hcs']; split
          · exact ⟨HNC.out, Nat.le_refl _, Nat.le_refl _⟩
          · exact ⟨rfl, by simp [sz], by cases cs <;> simp [wt] <;> omega⟩
        have hl2 : n2 ≤ 2100000 := by have h1 := HL2.out; have h2 := len_wt cs'; have h3 := HWT.out; have h4 := HW.out; simp only [wt] at h3; omega
        have HC2 := Lib.hid hcs2; have HX' := Lib.hid hx'; have HF' := Lib.hid hf'; have HCS := Lib.hid hcs'
        clear hcs2 hx' hf' hcs'
        go_wp2_with fail
        refine (hCa.out _).mono ?_
        rintro e wi ⟨rfl, hbi⟩
        have hbki : wi.heap[cb]? = _ := (hbi.block cb (by omega)).trans hbkc
        have hszi : cb + 1 ≤ wi.heap.size := by have := hbi.size; omega
        have HAi := Lib.hid (HA2.out.below hbi)
        have HBi := Lib.hid (HB2.out.trans (hbi.mono HB2.out.size))
        clear hbi hbkc hszc HA2 HB2 u0 u1 u2 u3'
        go_wp2_with fail
        go_loopw [7] (fun j wr2 => ∃ j' : Nat, j' ≤ n2 ∧ j = .int .i64 j' ∧ Hid (Inner w wi cb 6 f' x' a2 n2 cs' j' wr2)) (fun j _ => n2 - (RowKit.intOf j).toNat)
        case atStart => exact ⟨0, by omega, rfl, ⟨cs', .nil, .slice none 0 0, [], ⟨HF2.out, HC2.out.1, Nat.le_refl _, Nat.le_refl _, rfl, rfl⟩, hbki, Acc.start _ _ (by omega)⟩⟩
        case round =>
          obtain ⟨j, hj, rfl, HI⟩ := hrel
          obtain ⟨t3, acc2, out2, xs2, hT3, hbk2, hac2⟩ := HI.out
          clear HI
          by_cases hlt2 : j < n2
          · obtain ⟨g1, g2, g3, g4, g5, g6⟩ := hT3
            obtain ⟨key, body, nx3, b2, o2, v3, rfl, ha2, q0, q1, hsv3, hnext3⟩ := casesFrom_next g1 hlt2 g2
            obtain ⟨va, vn, vcap, rfl⟩ := hsv3.form
            subst ha2
            have hcw : cb < wr.heap.size := by have h1 := hac2.1; have h2 := hac2.2.1; have h3 := hac2.2.2.1; omega
            have hBr : Below w.heap.size w wr := below_grown HBi.out hac2.2.2.2.1 (fun k hk => by have := Option.some.inj hk; omega) HBi.out.size
            have hBd : Below w.heap.size w wr.drew := hBr.trans (Below.refl w.heap.size _).drew
            have kc := keepCells hBr
            have p0 := kc _ _ _ q0; have p1 := kc _ _ _ q1
            have z3 : wr.cell? ⟨cb, 3, none⟩ = some out2 := block_cell hbk2 rfl
            have hb2 : b2 < w.heap.size := cellLt q0
            have g2' := isC_case g2
            have hne3 : b2 ≠ cb := by omega
            have hbz : sz body < N := by have h1 := HZ.out; have h2 := HSZ.out; have h3 := HC2.out.2.1; simp only [sz] at h2 g3; omega
            have hbw : wt body ≤ 2100000 := by have h1 := HW.out; have h2 := HWT.out; have h3 := HC2.out.2.2; simp only [wt] at h2 g4; omega
            have hgz : sz nx3 ≤ sz cs' := by simp only [sz] at g3; omega
            have hgw : wt nx3 ≤ wt cs' := by simp only [wt] at g4; omega
            have hap3 : app (app acc2 (.case key (clean body) .nil)) (clean nx3) = clean cs' := by rw [app_assoc]; exact g5
            have hic := fun W (hB : Below w.heap.size w W) => HIH.out body (.slice va vn vcap) W hbz g2'.1 hbw (Nat.lt_of_lt_of_le H0.out hB.size) (hsv3.below hB)
            have HIC := Lib.hid hic; have HBD := Lib.hid hBd; have HBR := Lib.hid hBr; have HAC := Lib.hid hac2; have HBK := Lib.hid hbk2; have Q0 := Lib.hid q0; have Q1 := Lib.hid q1
            have HNX3 : Hid (CasesFrom w (some ⟨b2, o2, none⟩) n2 (j + 1) nx3 ∧ isN.isC nx3 = true ∧ sz nx3 ≤ sz cs' ∧ wt nx3 ≤ wt cs' ∧ app (app acc2 (.case key (clean body) .nil)) (clean nx3) = clean cs' ∧ len (app acc2 (.case key (clean body) .nil)) = j + 1) := ⟨hnext3, g2'.2, hgz, hgw, hap3, by rw [app_len, g6]; rfl⟩
            have hla2 : len acc2 ≤ 2100000 := by omega
            have hwz : wi.heap.size ≤ wr.heap.size := by have h2 := hac2.2.1; have h3 := hac2.2.2.1; omega
            clear g1 g2 g3 g4 g5 g6 q0 q1 hsv3 hnext3 hBr kc hbz hbw hgz hgw hap3 hic hac2 hbk2 g2' hBd
            go_wp2_with fail
            go_region_law (first | (go_simp; go_at_call 9; refine (HIC.out _ HBD.out).mono ?_; rintro e w3 ⟨⟨vb, rfl, hvb⟩, hb3⟩; obtain ⟨ya, yn, yc, rfl⟩ := hvb.form; have hbk3 : Hid (w3.heap[cb]? = some (.cells #[.int .i64 6, .string ⟨x'.toArray⟩, .int .i64 f', out2] 60)) := Lib.hid ((hb3.block cb (by simpa using hcw)).trans HBK.out); have HB3 := Lib.hid (HBD.out.trans (hb3.mono HBD.out.size)); have y3 : w3.cell? ⟨cb, 3, none⟩ = some out2 := block_cell hbk3.out rfl; have y0 := keepCells HB3.out _ _ _ Q0.out; have y1 := keepCells HB3.out _ _ _ Q1.out; have HAC3 := Lib.hid (HAC.out.below ((Below.refl wr.heap.size wr).drew.trans hb3)); have HV3 := Lib.hid hvb; have hs3 : wr.heap.size ≤ w3.heap.size := hb3.size; have y3' := keepCells ((Below.refl w3.heap.size w3).alloc (Nat.le_refl _) (.cells #[.string ⟨key.toArray⟩, .slice ya yn yc] 62)) _ _ _ y3; clear hvb hb3) | (refine step_append_lies _ (by rfl) _ _ _ (by rfl) wi.heap.size 62 i1 _ 2 40 Tryz.underlying58 ci cz0 cz1 cz2 rfl (by decide) out2 (len acc2) xs2 (by rfl) (HAC3.out.2.2.2.2.1.alloc _) ⟨w3.heap.size, 0, none⟩ 1 1 [.string ⟨key.toArray⟩, .slice ya yn yc] (by rfl) (by rfl) (World.news_of_block (Go.heap_alloc_new w3 _)) (by simp [Value.oneCell']) (by decide) (by unfold maxLen; omega) (by omega) (by simp; omega) (w3.heap.size + 1) (by simp) ?_; intro g cap w8 hown8 hgrow8 hat8 hlt8; have hownr : out2.ownBlock ≠ some cb := (fun e => by have h1 := (HAC3.out.2.2.2.2.1.lt cb e).1; have h2 := HAC3.out.1; omega); have hbk8 : Hid (w8.heap[cb]? = some (.cells #[.int .i64 6, .string ⟨x'.toArray⟩, .int .i64 f', out2] 60)) := Lib.hid ((hgrow8.block cb (by simp; omega) (fun e => hownr e.symm)).trans ((Go.heap_alloc_old w3 _ (by omega)).trans hbk3.out)); have x3 : w8.cell? ⟨cb, 3, none⟩ = some out2 := block_cell hbk8.out rfl; have HB8 := Lib.hid (below_grown (HB3.out.alloc HB3.out.size _) hgrow8 (fun k hk => by have h1 := (HAC3.out.2.2.2.2.1.lt k hk).1; have h2 := HAC3.out.1; omega) (by simp; have := HB3.out.size; omega)); have x0 := keepCells HB8.out _ _ _ Q0.out; have x1 := keepCells HB8.out _ _ _ Q1.out; have fz8 : w8.frozen? ⟨cb, 3, none⟩ = false := (by simp [World.frozen?, hbk8.out])))
            all_goals
              have hbk9 := Joins.block_setCell (i := 3) hbk8.out (.slice (some ⟨g, 0, none⟩) (len acc2 + 1) cap)
              have hat9 : out2.ownBlock = some g ∨ g = (w3.alloc (.cells #[.string ⟨key.toArray⟩, .slice ya yn yc] 62)).heap.size := hat8.imp id (fun h => h.trans (by simp))
              have HAC8 := HAC3.out.more (el := .case key (clean body) .nil) (M := wr.heap.size) (by omega) HV3.out (by rw [app_len]; rfl) (fun _ _ h1 h2 => RdX.case h1 acc2 xs2 h2) hown8 hgrow8 hat9
              have HAC9 := Lib.hid (HAC8.set (i := 3) (.slice (some ⟨g, 0, none⟩) (len acc2 + 1) cap) (.inl rfl)).raise
              have HBK9 : Hid ((w8.setCell ⟨cb, 3, none⟩ (.slice (some ⟨g, 0, none⟩) (len acc2 + 1) cap)).heap[cb]? = some (.cells #[.int .i64 6, .string ⟨x'.toArray⟩, .int .i64 f', .slice (some ⟨g, 0, none⟩) (len acc2 + 1) cap] 60)) := Lib.hid hbk9
              clear hbk9 hat9 HAC8 hown8 hgrow8 hat8 hlt8 hownr hbk8 x3 x0 x1 fz8 y3 y0 y1 y3' hbk3 p0 p1 z3 HB8 HB3
              generalize w8.setCell ⟨cb, 3, none⟩ (.slice (some ⟨g, 0, none⟩) (len acc2 + 1) cap) = w9 at *
              go_wp2_with fail
              go_roundw
              case rel => exact ⟨j + 1, by omega, by go_num, ⟨nx3, _, _, _, HNX3.out, HBK9.out, HAC9.out⟩⟩
              case measure => simp [RowKit.intOf]; omega
          · have hje : j = n2 := by omega
            subst hje
            obtain ⟨g1, g2, g3, g4, g5, g6⟩ := hT3
            have ht3 := casesFrom_end g1
            subst ht3
            have hac : acc2 = clean cs' := by rw [show clean T.nil = .nil from rfl, app_nil] at g5; exact g5
            have hBr : Below w.heap.size w wr := below_grown HBi.out hac2.2.2.2.1 (fun k hk => by have := Option.some.inj hk; omega) HBi.out.size
            have hv := hac2.done
            rw [hac] at hv
            obtain ⟨oa, on, oc, rfl⟩ := hv.form
            have hAo := HAi.out.step hac2.2.2.2.1 (.inr (Nat.le_refl _))
            have z0 : wr.cell? ⟨cb, 0, none⟩ = some (.int .i64 6) := block_cell hbk2 rfl
            have z1 : wr.cell? ⟨cb, 1, none⟩ = some (.string ⟨x'.toArray⟩) := block_cell hbk2 rfl
            have z2 : wr.cell? ⟨cb, 2, none⟩ = some (.int .i64 f') := block_cell hbk2 rfl
            have z3 : wr.cell? ⟨cb, 3, none⟩ = some (.slice oa on oc) := block_cell hbk2 rfl
            have HAo := Lib.hid hAo; have HV := Lib.hid hv; have HBr := Lib.hid hBr
            have hla3 : len acc ≤ 2100000 := by have := HLA.out; omega
            have hww : w.heap.size ≤ wr.heap.size := hBr.size
            clear g1 g2 g3 g4 g5 g6 hac hAo hv hBr hac2 hbk2 HAi HBi
            go_wp2_with (at_builtin; go_loud (refine wpList_append_lies _ rfl _ _ 22 rfl w.heap.size 60 i0 (.agg #[.int .i64 0, .string ⟨#[]⟩, .int .i64 0, .slice none 0 0]) 4 56 Tryz.underlying22 hi hz0 hz1 hz2 rfl (by decide) _ (len acc) xs rfl (HAo.out.2.2.2.2.1.alloc _) ⟨wr.heap.size, 0, none⟩ 1 1 [.int .i64 6, .string ⟨x'.toArray⟩, .int .i64 f', .slice oa on oc] rfl rfl (World.news_of_block (Go.heap_alloc_new _ _)) (fun x hx => by simp at hx; rcases hx with rfl | rfl | rfl | rfl <;> rfl) (by decide) (by unfold maxLen; omega) (by omega) (by simp; omega) _ rfl ?_; intro g cap w8 hown8 hgrow8 hat8 hlt8))
            all_goals
              have HAcn := Lib.hid (HAo.out.more (el := .node 6 x' f' (clean cs') .nil) (M := wi.heap.size) (by omega) HV.out (by rw [app_len]; rfl) (fun _ _ h1 h2 => RdX.node h1 acc xs h2) hown8 hgrow8 hat8)
              have hBn := Lib.hid (below_grown (HBr.out.alloc HBr.out.size _) hgrow8 (fun k hk => (HAo.out.2.2.2.2.1.lt k hk).1) (by simp; omega))
              have HNN4 : Hid (NodesFrom w (some ⟨b, o, none⟩) n (i + 1) nx ∧ isN nx = true ∧ sz nx ≤ sz t ∧ wt nx ≤ wt t ∧ app (app acc (.node 6 x' f' (clean cs') .nil)) (clean nx) = clean t ∧ len (app acc (.node 6 x' f' (clean cs') .nil)) = i + 1) :=
                ⟨HNX.out, HNN.out, by have := HSZ.out; simp only [sz] at this; omega, by have := HWT.out; simp only [wt] at this; omega, HCL.out, by rw [app_len, HLA.out]; rfl⟩
              go_roundw
              case rel => exact ⟨i + 1, nx, _, _, by omega, by go_num, HNN4.out, HAcn.out, hBn.out⟩
              case measure => simp [RowKit.intOf]; omega
      · go_wp2_with fail
        go_region
        have hbk := Go.heap_alloc_new wr (.cells #[.int .i64 4, .string ⟨x.toArray⟩, .int .i64 0, .slice none 0 0] 60)
        have hB1 : Below wr.heap.size wr (wr.alloc (.cells #[.int .i64 4, .string ⟨x.toArray⟩, .int .i64 0, .slice none 0 0] 60)).drew := ((Below.refl wr.heap.size wr).alloc (Nat.le_refl _) (.cells #[.int .i64 4, .string ⟨x.toArray⟩, .int .i64 0, .slice none 0 0] 60)).trans (Below.refl wr.heap.size _).drew
        have hsz : (wr.alloc (.cells #[.int .i64 4, .string ⟨x.toArray⟩, .int .i64 0, .slice none 0 0] 60)).drew.heap.size = wr.heap.size + 1 := by simp
        have hbk : (wr.alloc (.cells #[.int .i64 4, .string ⟨x.toArray⟩, .int .i64 0, .slice none 0 0] 60)).drew.heap[wr.heap.size]? = some (.cells #[.int .i64 4, .string ⟨x.toArray⟩, .int .i64 0, .slice none 0 0] 60) := hbk
        generalize (wr.alloc (.cells #[.int .i64 4, .string ⟨x.toArray⟩, .int .i64 0, .slice none 0 0] 60)).drew = wb at *
        clear a0 a1
        have kb := keepCells hB1
        have b0 := kb _ _ _ k0; have b1 := kb _ _ _ k1; have b2' := kb _ _ _ k2; have b3 := kb _ _ _ k3
        have hlt0 := cellLt k0
        obtain ⟨cb, hcb⟩ : ∃ cb, cb = wr.heap.size := ⟨_, rfl⟩
        have HA1 := Lib.hid (HAc.out.below hB1)
        have HB1 := Lib.hid (HB.out.trans (hB1.mono HB.out.size))
        rw [← hcb] at hbk hsz HA1 hlt0 ⊢
        have hwcb : w.heap.size ≤ cb := by have := HB.out.size; omega
        clear kb k0 k1 k2 k3 hB1 hcb HAc HB
        have hne : b ≠ cb := by omega
        have hne' : cb ≠ b := by omega
        have z0 : wb.cell? ⟨cb, 0, none⟩ = some (.int .i64 4) := by simp [World.cell?, hbk]
        have z1 : wb.cell? ⟨cb, 1, none⟩ = some (.string ⟨x.toArray⟩) := by simp [World.cell?, hbk]
        have z2 : wb.cell? ⟨cb, 2, none⟩ = some (.int .i64 0) := by simp [World.cell?, hbk]
        have fz1 : wb.frozen? ⟨cb, 1, none⟩ = false := by simp [World.frozen?, hbk]
        have fz2 : wb.frozen? ⟨cb, 2, none⟩ = false := by simp [World.frozen?, hbk]
        have hbk2 := Joins.block_setCell (i := 2) hbk (.int .i64 f)
        have y0 : (wb.setCell ⟨cb, 2, none⟩ (.int .i64 f)).cell? ⟨cb, 0, none⟩ = some (.int .i64 4) := block_cell hbk2 rfl
        have u0 := far_cell hne ((.int .i64 f)) 2 b0; have u1 := far_cell hne ((.int .i64 f)) 2 b1; have u2 := far_cell hne ((.int .i64 f)) 2 b2'; have u3' := far_cell hne ((.int .i64 f)) 2 b3
        have HA2 := Lib.hid (HA1.out.set (i := 2) (.int .i64 f) (.inr (Nat.le_refl _)))
        have HB2 := Lib.hid (below_grown HB1.out (keeps_set wb cb 2 (.int .i64 f)) (fun k hk => by cases hk; exact hwcb) HB1.out.size)
        go_upto_region 10 with fail
        have hbkc : (wb.setCell ⟨cb, 2, none⟩ (.int .i64 f)).heap[cb]? = some (.cells #[.int .i64 4, .string ⟨x'.toArray⟩, .int .i64 f', .slice none 0 0] 60) := by rw [hx', hf']; exact hbk2
        have hszc : (wb.setCell ⟨cb, 2, none⟩ (.int .i64 f)).heap.size = cb + 1 := by rw [← hsz]; exact size_setCell _ _ _
        clear b0 b1 b2' b3 z0 z1 z2 fz1 fz2 y0 hbk hbk2 hsz HA1 HB1
        generalize wb.setCell ⟨cb, 2, none⟩ (.int .i64 f) = wc at *
        clear hbk
        have hcs2 : isN.isC cs' = true ∧ sz cs' ≤ sz cs ∧ wt cs' ≤ wt cs := by
          rw [hcs']; split
          · exact ⟨HNC.out, Nat.le_refl _, Nat.le_refl _⟩
          · exact ⟨rfl, by simp [sz], by cases cs <;> simp [wt] <;> omega⟩
        have hl2 : n2 ≤ 2100000 := by have h1 := HL2.out; have h2 := len_wt cs'; have h3 := HWT.out; have h4 := HW.out; simp only [wt] at h3; omega
        have HC2 := Lib.hid hcs2; have HX' := Lib.hid hx'; have HF' := Lib.hid hf'; have HCS := Lib.hid hcs'
        clear hcs2 hx' hf' hcs'
        go_wp2_with fail
        refine (hCa.out _).mono ?_
        rintro e wi ⟨rfl, hbi⟩
        have hbki : wi.heap[cb]? = _ := (hbi.block cb (by omega)).trans hbkc
        have hszi : cb + 1 ≤ wi.heap.size := by have := hbi.size; omega
        have HAi := Lib.hid (HA2.out.below hbi)
        have HBi := Lib.hid (HB2.out.trans (hbi.mono HB2.out.size))
        clear hbi hbkc hszc HA2 HB2 u0 u1 u2 u3'
        go_wp2_with fail
        go_loopw [7] (fun j wr2 => ∃ j' : Nat, j' ≤ n2 ∧ j = .int .i64 j' ∧ Hid (Inner w wi cb 4 f' x' a2 n2 cs' j' wr2)) (fun j _ => n2 - (RowKit.intOf j).toNat)
        case atStart => exact ⟨0, by omega, rfl, ⟨cs', .nil, .slice none 0 0, [], ⟨HF2.out, HC2.out.1, Nat.le_refl _, Nat.le_refl _, rfl, rfl⟩, hbki, Acc.start _ _ (by omega)⟩⟩
        case round =>
          obtain ⟨j, hj, rfl, HI⟩ := hrel
          obtain ⟨t3, acc2, out2, xs2, hT3, hbk2, hac2⟩ := HI.out
          clear HI
          by_cases hlt2 : j < n2
          · obtain ⟨g1, g2, g3, g4, g5, g6⟩ := hT3
            obtain ⟨key, body, nx3, b2, o2, v3, rfl, ha2, q0, q1, hsv3, hnext3⟩ := casesFrom_next g1 hlt2 g2
            obtain ⟨va, vn, vcap, rfl⟩ := hsv3.form
            subst ha2
            have hcw : cb < wr.heap.size := by have h1 := hac2.1; have h2 := hac2.2.1; have h3 := hac2.2.2.1; omega
            have hBr : Below w.heap.size w wr := below_grown HBi.out hac2.2.2.2.1 (fun k hk => by have := Option.some.inj hk; omega) HBi.out.size
            have hBd : Below w.heap.size w wr.drew := hBr.trans (Below.refl w.heap.size _).drew
            have kc := keepCells hBr
            have p0 := kc _ _ _ q0; have p1 := kc _ _ _ q1
            have z3 : wr.cell? ⟨cb, 3, none⟩ = some out2 := block_cell hbk2 rfl
            have hb2 : b2 < w.heap.size := cellLt q0
            have g2' := isC_case g2
            have hne3 : b2 ≠ cb := by omega
            have hbz : sz body < N := by have h1 := HZ.out; have h2 := HSZ.out; have h3 := HC2.out.2.1; simp only [sz] at h2 g3; omega
            have hbw : wt body ≤ 2100000 := by have h1 := HW.out; have h2 := HWT.out; have h3 := HC2.out.2.2; simp only [wt] at h2 g4; omega
            have hgz : sz nx3 ≤ sz cs' := by simp only [sz] at g3; omega
            have hgw : wt nx3 ≤ wt cs' := by simp only [wt] at g4; omega
            have hap3 : app (app acc2 (.case key (clean body) .nil)) (clean nx3) = clean cs' := by rw [app_assoc]; exact g5
            have hic := fun W (hB : Below w.heap.size w W) => HIH.out body (.slice va vn vcap) W hbz g2'.1 hbw (Nat.lt_of_lt_of_le H0.out hB.size) (hsv3.below hB)
            have HIC := Lib.hid hic; have HBD := Lib.hid hBd; have HBR := Lib.hid hBr; have HAC := Lib.hid hac2; have HBK := Lib.hid hbk2; have Q0 := Lib.hid q0; have Q1 := Lib.hid q1
            have HNX3 : Hid (CasesFrom w (some ⟨b2, o2, none⟩) n2 (j + 1) nx3 ∧ isN.isC nx3 = true ∧ sz nx3 ≤ sz cs' ∧ wt nx3 ≤ wt cs' ∧ app (app acc2 (.case key (clean body) .nil)) (clean nx3) = clean cs' ∧ len (app acc2 (.case key (clean body) .nil)) = j + 1) := ⟨hnext3, g2'.2, hgz, hgw, hap3, by rw [app_len, g6]; rfl⟩
            have hla2 : len acc2 ≤ 2100000 := by omega
            have hwz : wi.heap.size ≤ wr.heap.size := by have h2 := hac2.2.1; have h3 := hac2.2.2.1; omega
            clear g1 g2 g3 g4 g5 g6 q0 q1 hsv3 hnext3 hBr kc hbz hbw hgz hgw hap3 hic hac2 hbk2 g2' hBd
            go_wp2_with fail
            go_region_law (first | (go_simp; go_at_call 9; refine (HIC.out _ HBD.out).mono ?_; rintro e w3 ⟨⟨vb, rfl, hvb⟩, hb3⟩; obtain ⟨ya, yn, yc, rfl⟩ := hvb.form; have hbk3 : Hid (w3.heap[cb]? = some (.cells #[.int .i64 4, .string ⟨x'.toArray⟩, .int .i64 f', out2] 60)) := Lib.hid ((hb3.block cb (by simpa using hcw)).trans HBK.out); have HB3 := Lib.hid (HBD.out.trans (hb3.mono HBD.out.size)); have y3 : w3.cell? ⟨cb, 3, none⟩ = some out2 := block_cell hbk3.out rfl; have y0 := keepCells HB3.out _ _ _ Q0.out; have y1 := keepCells HB3.out _ _ _ Q1.out; have HAC3 := Lib.hid (HAC.out.below ((Below.refl wr.heap.size wr).drew.trans hb3)); have HV3 := Lib.hid hvb; have hs3 : wr.heap.size ≤ w3.heap.size := hb3.size; have y3' := keepCells ((Below.refl w3.heap.size w3).alloc (Nat.le_refl _) (.cells #[.string ⟨key.toArray⟩, .slice ya yn yc] 62)) _ _ _ y3; clear hvb hb3) | (refine step_append_lies _ (by rfl) _ _ _ (by rfl) wi.heap.size 62 i1 _ 2 40 Tryz.underlying58 ci cz0 cz1 cz2 rfl (by decide) out2 (len acc2) xs2 (by rfl) (HAC3.out.2.2.2.2.1.alloc _) ⟨w3.heap.size, 0, none⟩ 1 1 [.string ⟨key.toArray⟩, .slice ya yn yc] (by rfl) (by rfl) (World.news_of_block (Go.heap_alloc_new w3 _)) (by simp [Value.oneCell']) (by decide) (by unfold maxLen; omega) (by omega) (by simp; omega) (w3.heap.size + 1) (by simp) ?_; intro g cap w8 hown8 hgrow8 hat8 hlt8; have hownr : out2.ownBlock ≠ some cb := (fun e => by have h1 := (HAC3.out.2.2.2.2.1.lt cb e).1; have h2 := HAC3.out.1; omega); have hbk8 : Hid (w8.heap[cb]? = some (.cells #[.int .i64 4, .string ⟨x'.toArray⟩, .int .i64 f', out2] 60)) := Lib.hid ((hgrow8.block cb (by simp; omega) (fun e => hownr e.symm)).trans ((Go.heap_alloc_old w3 _ (by omega)).trans hbk3.out)); have x3 : w8.cell? ⟨cb, 3, none⟩ = some out2 := block_cell hbk8.out rfl; have HB8 := Lib.hid (below_grown (HB3.out.alloc HB3.out.size _) hgrow8 (fun k hk => by have h1 := (HAC3.out.2.2.2.2.1.lt k hk).1; have h2 := HAC3.out.1; omega) (by simp; have := HB3.out.size; omega)); have x0 := keepCells HB8.out _ _ _ Q0.out; have x1 := keepCells HB8.out _ _ _ Q1.out; have fz8 : w8.frozen? ⟨cb, 3, none⟩ = false := (by simp [World.frozen?, hbk8.out])))
            all_goals
              have hbk9 := Joins.block_setCell (i := 3) hbk8.out (.slice (some ⟨g, 0, none⟩) (len acc2 + 1) cap)
              have hat9 : out2.ownBlock = some g ∨ g = (w3.alloc (.cells #[.string ⟨key.toArray⟩, .slice ya yn yc] 62)).heap.size := hat8.imp id (fun h => h.trans (by simp))
              have HAC8 := HAC3.out.more (el := .case key (clean body) .nil) (M := wr.heap.size) (by omega) HV3.out (by rw [app_len]; rfl) (fun _ _ h1 h2 => RdX.case h1 acc2 xs2 h2) hown8 hgrow8 hat9
              have HAC9 := Lib.hid (HAC8.set (i := 3) (.slice (some ⟨g, 0, none⟩) (len acc2 + 1) cap) (.inl rfl)).raise
              have HBK9 : Hid ((w8.setCell ⟨cb, 3, none⟩ (.slice (some ⟨g, 0, none⟩) (len acc2 + 1) cap)).heap[cb]? = some (.cells #[.int .i64 4, .string ⟨x'.toArray⟩, .int .i64 f', .slice (some ⟨g, 0, none⟩) (len acc2 + 1) cap] 60)) := Lib.hid hbk9
              clear hbk9 hat9 HAC8 hown8 hgrow8 hat8 hlt8 hownr hbk8 x3 x0 x1 fz8 y3 y0 y1 y3' hbk3 p0 p1 z3 HB8 HB3
              generalize w8.setCell ⟨cb, 3, none⟩ (.slice (some ⟨g, 0, none⟩) (len acc2 + 1) cap) = w9 at *
              go_wp2_with fail
              go_roundw
              case rel => exact ⟨j + 1, by omega, by go_num, ⟨nx3, _, _, _, HNX3.out, HBK9.out, HAC9.out⟩⟩
              case measure => simp [RowKit.intOf]; omega
          · have hje : j = n2 := by omega
            subst hje
            obtain ⟨g1, g2, g3, g4, g5, g6⟩ := hT3
            have ht3 := casesFrom_end g1
            subst ht3
            have hac : acc2 = clean cs' := by rw [show clean T.nil = .nil from rfl, app_nil] at g5; exact g5
            have hBr : Below w.heap.size w wr := below_grown HBi.out hac2.2.2.2.1 (fun k hk => by have := Option.some.inj hk; omega) HBi.out.size
            have hv := hac2.done
            rw [hac] at hv
            obtain ⟨oa, on, oc, rfl⟩ := hv.form
            have hAo := HAi.out.step hac2.2.2.2.1 (.inr (Nat.le_refl _))
            have z0 : wr.cell? ⟨cb, 0, none⟩ = some (.int .i64 4) := block_cell hbk2 rfl
            have z1 : wr.cell? ⟨cb, 1, none⟩ = some (.string ⟨x'.toArray⟩) := block_cell hbk2 rfl
            have z2 : wr.cell? ⟨cb, 2, none⟩ = some (.int .i64 f') := block_cell hbk2 rfl
            have z3 : wr.cell? ⟨cb, 3, none⟩ = some (.slice oa on oc) := block_cell hbk2 rfl
            have HAo := Lib.hid hAo; have HV := Lib.hid hv; have HBr := Lib.hid hBr
            have hla3 : len acc ≤ 2100000 := by have := HLA.out; omega
            have hww : w.heap.size ≤ wr.heap.size := hBr.size
            clear g1 g2 g3 g4 g5 g6 hac hAo hv hBr hac2 hbk2 HAi HBi
            go_wp2_with (at_builtin; go_loud (refine wpList_append_lies _ rfl _ _ 22 rfl w.heap.size 60 i0 (.agg #[.int .i64 0, .string ⟨#[]⟩, .int .i64 0, .slice none 0 0]) 4 56 Tryz.underlying22 hi hz0 hz1 hz2 rfl (by decide) _ (len acc) xs rfl (HAo.out.2.2.2.2.1.alloc _) ⟨wr.heap.size, 0, none⟩ 1 1 [.int .i64 4, .string ⟨x'.toArray⟩, .int .i64 f', .slice oa on oc] rfl rfl (World.news_of_block (Go.heap_alloc_new _ _)) (fun x hx => by simp at hx; rcases hx with rfl | rfl | rfl | rfl <;> rfl) (by decide) (by unfold maxLen; omega) (by omega) (by simp; omega) _ rfl ?_; intro g cap w8 hown8 hgrow8 hat8 hlt8))
            all_goals
              have HAcn := Lib.hid (HAo.out.more (el := .node 4 x' f' (clean cs') .nil) (M := wi.heap.size) (by omega) HV.out (by rw [app_len]; rfl) (fun _ _ h1 h2 => RdX.node h1 acc xs h2) hown8 hgrow8 hat8)
              have hBn := Lib.hid (below_grown (HBr.out.alloc HBr.out.size _) hgrow8 (fun k hk => (HAo.out.2.2.2.2.1.lt k hk).1) (by simp; omega))
              have HNN4 : Hid (NodesFrom w (some ⟨b, o, none⟩) n (i + 1) nx ∧ isN nx = true ∧ sz nx ≤ sz t ∧ wt nx ≤ wt t ∧ app (app acc (.node 4 x' f' (clean cs') .nil)) (clean nx) = clean t ∧ len (app acc (.node 4 x' f' (clean cs') .nil)) = i + 1) :=
                ⟨HNX.out, HNN.out, by have := HSZ.out; simp only [sz] at this; omega, by have := HWT.out; simp only [wt] at this; omega, HCL.out, by rw [app_len, HLA.out]; rfl⟩
              go_roundw
              case rel => exact ⟨i + 1, nx, _, _, by omega, by go_num, HNN4.out, HAcn.out, hBn.out⟩
              case measure => simp [RowKit.intOf]; omega
      · go_wp2_with fail
        go_region
        have hbk := Go.heap_alloc_new wr (.cells #[.int .i64 k, .string ⟨x.toArray⟩, .int .i64 0, .slice none 0 0] 60)
        have hB1 : Below wr.heap.size wr (wr.alloc (.cells #[.int .i64 k, .string ⟨x.toArray⟩, .int .i64 0, .slice none 0 0] 60)).drew := ((Below.refl wr.heap.size wr).alloc (Nat.le_refl _) (.cells #[.int .i64 k, .string ⟨x.toArray⟩, .int .i64 0, .slice none 0 0] 60)).trans (Below.refl wr.heap.size _).drew
        have hsz : (wr.alloc (.cells #[.int .i64 k, .string ⟨x.toArray⟩, .int .i64 0, .slice none 0 0] 60)).drew.heap.size = wr.heap.size + 1 := by simp
        have hbk : (wr.alloc (.cells #[.int .i64 k, .string ⟨x.toArray⟩, .int .i64 0, .slice none 0 0] 60)).drew.heap[wr.heap.size]? = some (.cells #[.int .i64 k, .string ⟨x.toArray⟩, .int .i64 0, .slice none 0 0] 60) := hbk
        generalize (wr.alloc (.cells #[.int .i64 k, .string ⟨x.toArray⟩, .int .i64 0, .slice none 0 0] 60)).drew = wb at *
        clear a0 a1
        have kb := keepCells hB1
        have b0 := kb _ _ _ k0; have b1 := kb _ _ _ k1; have b2' := kb _ _ _ k2; have b3 := kb _ _ _ k3
        have hlt0 := cellLt k0
        obtain ⟨cb, hcb⟩ : ∃ cb, cb = wr.heap.size := ⟨_, rfl⟩
        have HA1 := Lib.hid (HAc.out.below hB1)
        have HB1 := Lib.hid (HB.out.trans (hB1.mono HB.out.size))
        rw [← hcb] at hbk hsz HA1 hlt0 ⊢
        have hwcb : w.heap.size ≤ cb := by have := HB.out.size; omega
        clear kb k0 k1 k2 k3 hB1 hcb HAc HB
        have hne : b ≠ cb := by omega
        have hne' : cb ≠ b := by omega
        have z0 : wb.cell? ⟨cb, 0, none⟩ = some (.int .i64 k) := by simp [World.cell?, hbk]
        have z1 : wb.cell? ⟨cb, 1, none⟩ = some (.string ⟨x.toArray⟩) := by simp [World.cell?, hbk]
        have z2 : wb.cell? ⟨cb, 2, none⟩ = some (.int .i64 0) := by simp [World.cell?, hbk]
        have fz1 : wb.frozen? ⟨cb, 1, none⟩ = false := by simp [World.frozen?, hbk]
        have fz2 : wb.frozen? ⟨cb, 2, none⟩ = false := by simp [World.frozen?, hbk]
        go_upto_region 10 with fail
        have hbkc : wb.heap[cb]? = some (.cells #[.int .i64 k, .string ⟨x'.toArray⟩, .int .i64 f', .slice none 0 0] 60) := by rw [hx', hf', if_neg (by simpa using h6), if_neg (by simpa using h4)]; exact hbk
        have hszc := hsz
        have u0 := b0; have u1 := b1; have u2 := b2'; have u3' := b3
        have HA2 := HA1; have HB2 := HB1
        clear b0 b1 b2' b3 z0 z1 z2 fz1 fz2 hbk hsz HA1 HB1
        generalize wb = wc at *
        clear hbk
        have hcs2 : isN.isC cs' = true ∧ sz cs' ≤ sz cs ∧ wt cs' ≤ wt cs := by
          rw [hcs']; split
          · exact ⟨HNC.out, Nat.le_refl _, Nat.le_refl _⟩
          · exact ⟨rfl, by simp [sz], by cases cs <;> simp [wt] <;> omega⟩
        have hl2 : n2 ≤ 2100000 := by have h1 := HL2.out; have h2 := len_wt cs'; have h3 := HWT.out; have h4 := HW.out; simp only [wt] at h3; omega
        have HC2 := Lib.hid hcs2; have HX' := Lib.hid hx'; have HF' := Lib.hid hf'; have HCS := Lib.hid hcs'
        clear hcs2 hx' hf' hcs'
        go_wp2_with fail
        refine (hCa.out _).mono ?_
        rintro e wi ⟨rfl, hbi⟩
        have hbki : wi.heap[cb]? = _ := (hbi.block cb (by omega)).trans hbkc
        have hszi : cb + 1 ≤ wi.heap.size := by have := hbi.size; omega
        have HAi := Lib.hid (HA2.out.below hbi)
        have HBi := Lib.hid (HB2.out.trans (hbi.mono HB2.out.size))
        clear hbi hbkc hszc HA2 HB2 u0 u1 u2 u3'
        go_wp2_with fail
        go_loopw [7] (fun j wr2 => ∃ j' : Nat, j' ≤ n2 ∧ j = .int .i64 j' ∧ Hid (Inner w wi cb k f' x' a2 n2 cs' j' wr2)) (fun j _ => n2 - (RowKit.intOf j).toNat)
        case atStart => exact ⟨0, by omega, rfl, ⟨cs', .nil, .slice none 0 0, [], ⟨HF2.out, HC2.out.1, Nat.le_refl _, Nat.le_refl _, rfl, rfl⟩, hbki, Acc.start _ _ (by omega)⟩⟩
        case round =>
          obtain ⟨j, hj, rfl, HI⟩ := hrel
          obtain ⟨t3, acc2, out2, xs2, hT3, hbk2, hac2⟩ := HI.out
          clear HI
          by_cases hlt2 : j < n2
          · obtain ⟨g1, g2, g3, g4, g5, g6⟩ := hT3
            obtain ⟨key, body, nx3, b2, o2, v3, rfl, ha2, q0, q1, hsv3, hnext3⟩ := casesFrom_next g1 hlt2 g2
            obtain ⟨va, vn, vcap, rfl⟩ := hsv3.form
            subst ha2
            have hcw : cb < wr.heap.size := by have h1 := hac2.1; have h2 := hac2.2.1; have h3 := hac2.2.2.1; omega
            have hBr : Below w.heap.size w wr := below_grown HBi.out hac2.2.2.2.1 (fun k hk => by have := Option.some.inj hk; omega) HBi.out.size
            have hBd : Below w.heap.size w wr.drew := hBr.trans (Below.refl w.heap.size _).drew
            have kc := keepCells hBr
            have p0 := kc _ _ _ q0; have p1 := kc _ _ _ q1
            have z3 : wr.cell? ⟨cb, 3, none⟩ = some out2 := block_cell hbk2 rfl
            have hb2 : b2 < w.heap.size := cellLt q0
            have g2' := isC_case g2
            have hne3 : b2 ≠ cb := by omega
            have hbz : sz body < N := by have h1 := HZ.out; have h2 := HSZ.out; have h3 := HC2.out.2.1; simp only [sz] at h2 g3; omega
            have hbw : wt body ≤ 2100000 := by have h1 := HW.out; have h2 := HWT.out; have h3 := HC2.out.2.2; simp only [wt] at h2 g4; omega
            have hgz : sz nx3 ≤ sz cs' := by simp only [sz] at g3; omega
            have hgw : wt nx3 ≤ wt cs' := by simp only [wt] at g4; omega
            have hap3 : app (app acc2 (.case key (clean body) .nil)) (clean nx3) = clean cs' := by rw [app_assoc]; exact g5
            have hic := fun W (hB : Below w.heap.size w W) => HIH.out body (.slice va vn vcap) W hbz g2'.1 hbw (Nat.lt_of_lt_of_le H0.out hB.size) (hsv3.below hB)
            have HIC := Lib.hid hic; have HBD := Lib.hid hBd; have HBR := Lib.hid hBr; have HAC := Lib.hid hac2; have HBK := Lib.hid hbk2; have Q0 := Lib.hid q0; have Q1 := Lib.hid q1
            have HNX3 : Hid (CasesFrom w (some ⟨b2, o2, none⟩) n2 (j + 1) nx3 ∧ isN.isC nx3 = true ∧ sz nx3 ≤ sz cs' ∧ wt nx3 ≤ wt cs' ∧ app (app acc2 (.case key (clean body) .nil)) (clean nx3) = clean cs' ∧ len (app acc2 (.case key (clean body) .nil)) = j + 1) := ⟨hnext3, g2'.2, hgz, hgw, hap3, by rw [app_len, g6]; rfl⟩
            have hla2 : len acc2 ≤ 2100000 := by omega
            have hwz : wi.heap.size ≤ wr.heap.size := by have h2 := hac2.2.1; have h3 := hac2.2.2.1; omega
            clear g1 g2 g3 g4 g5 g6 q0 q1 hsv3 hnext3 hBr kc hbz hbw hgz hgw hap3 hic hac2 hbk2 g2' hBd
            go_wp2_with fail
            go_region_law (first | (go_simp; go_at_call 9; refine (HIC.out _ HBD.out).mono ?_; rintro e w3 ⟨⟨vb, rfl, hvb⟩, hb3⟩; obtain ⟨ya, yn, yc, rfl⟩ := hvb.form; have hbk3 : Hid (w3.heap[cb]? = some (.cells #[.int .i64 k, .string ⟨x'.toArray⟩, .int .i64 f', out2] 60)) := Lib.hid ((hb3.block cb (by simpa using hcw)).trans HBK.out); have HB3 := Lib.hid (HBD.out.trans (hb3.mono HBD.out.size)); have y3 : w3.cell? ⟨cb, 3, none⟩ = some out2 := block_cell hbk3.out rfl; have y0 := keepCells HB3.out _ _ _ Q0.out; have y1 := keepCells HB3.out _ _ _ Q1.out; have HAC3 := Lib.hid (HAC.out.below ((Below.refl wr.heap.size wr).drew.trans hb3)); have HV3 := Lib.hid hvb; have hs3 : wr.heap.size ≤ w3.heap.size := hb3.size; have y3' := keepCells ((Below.refl w3.heap.size w3).alloc (Nat.le_refl _) (.cells #[.string ⟨key.toArray⟩, .slice ya yn yc] 62)) _ _ _ y3; clear hvb hb3) | (refine step_append_lies _ (by rfl) _ _ _ (by rfl) wi.heap.size 62 i1 _ 2 40 Tryz.underlying58 ci cz0 cz1 cz2 rfl (by decide) out2 (len acc2) xs2 (by rfl) (HAC3.out.2.2.2.2.1.alloc _) ⟨w3.heap.size, 0, none⟩ 1 1 [.string ⟨key.toArray⟩, .slice ya yn yc] (by rfl) (by rfl) (World.news_of_block (Go.heap_alloc_new w3 _)) (by simp [Value.oneCell']) (by decide) (by unfold maxLen; omega) (by omega) (by simp; omega) (w3.heap.size + 1) (by simp) ?_; intro g cap w8 hown8 hgrow8 hat8 hlt8; have hownr : out2.ownBlock ≠ some cb := (fun e => by have h1 := (HAC3.out.2.2.2.2.1.lt cb e).1; have h2 := HAC3.out.1; omega); have hbk8 : Hid (w8.heap[cb]? = some (.cells #[.int .i64 k, .string ⟨x'.toArray⟩, .int .i64 f', out2] 60)) := Lib.hid ((hgrow8.block cb (by simp; omega) (fun e => hownr e.symm)).trans ((Go.heap_alloc_old w3 _ (by omega)).trans hbk3.out)); have x3 : w8.cell? ⟨cb, 3, none⟩ = some out2 := block_cell hbk8.out rfl; have HB8 := Lib.hid (below_grown (HB3.out.alloc HB3.out.size _) hgrow8 (fun k hk => by have h1 := (HAC3.out.2.2.2.2.1.lt k hk).1; have h2 := HAC3.out.1; omega) (by simp; have := HB3.out.size; omega)); have x0 := keepCells HB8.out _ _ _ Q0.out; have x1 := keepCells HB8.out _ _ _ Q1.out; have fz8 : w8.frozen? ⟨cb, 3, none⟩ = false := (by simp [World.frozen?, hbk8.out])))
            all_goals
              have hbk9 := Joins.block_setCell (i := 3) hbk8.out (.slice (some ⟨g, 0, none⟩) (len acc2 + 1) cap)
              have hat9 : out2.ownBlock = some g ∨ g = (w3.alloc (.cells #[.string ⟨key.toArray⟩, .slice ya yn yc] 62)).heap.size := hat8.imp id (fun h => h.trans (by simp))
              have HAC8 := HAC3.out.more (el := .case key (clean body) .nil) (M := wr.heap.size) (by omega) HV3.out (by rw [app_len]; rfl) (fun _ _ h1 h2 => RdX.case h1 acc2 xs2 h2) hown8 hgrow8 hat9
              have HAC9 := Lib.hid (HAC8.set (i := 3) (.slice (some ⟨g, 0, none⟩) (len acc2 + 1) cap) (.inl rfl)).raise
              have HBK9 : Hid ((w8.setCell ⟨cb, 3, none⟩ (.slice (some ⟨g, 0, none⟩) (len acc2 + 1) cap)).heap[cb]? = some (.cells #[.int .i64 k, .string ⟨x'.toArray⟩, .int .i64 f', .slice (some ⟨g, 0, none⟩) (len acc2 + 1) cap] 60)) := Lib.hid hbk9
              clear hbk9 hat9 HAC8 hown8 hgrow8 hat8 hlt8 hownr hbk8 x3 x0 x1 fz8 y3 y0 y1 y3' hbk3 p0 p1 z3 HB8 HB3
              generalize w8.setCell ⟨cb, 3, none⟩ (.slice (some ⟨g, 0, none⟩) (len acc2 + 1) cap) = w9 at *
              go_wp2_with fail
              go_roundw
              case rel => exact ⟨j + 1, by omega, by go_num, ⟨nx3, _, _, _, HNX3.out, HBK9.out, HAC9.out⟩⟩
              case measure => simp [RowKit.intOf]; omega
          · have hje : j = n2 := by omega
            subst hje
            obtain ⟨g1, g2, g3, g4, g5, g6⟩ := hT3
            have ht3 := casesFrom_end g1
            subst ht3
            have hac : acc2 = clean cs' := by rw [show clean T.nil = .nil from rfl, app_nil] at g5; exact g5
            have hBr : Below w.heap.size w wr := below_grown HBi.out hac2.2.2.2.1 (fun k hk => by have := Option.some.inj hk; omega) HBi.out.size
            have hv := hac2.done
            rw [hac] at hv
            obtain ⟨oa, on, oc, rfl⟩ := hv.form
            have hAo := HAi.out.step hac2.2.2.2.1 (.inr (Nat.le_refl _))
            have z0 : wr.cell? ⟨cb, 0, none⟩ = some (.int .i64 k) := block_cell hbk2 rfl
            have z1 : wr.cell? ⟨cb, 1, none⟩ = some (.string ⟨x'.toArray⟩) := block_cell hbk2 rfl
            have z2 : wr.cell? ⟨cb, 2, none⟩ = some (.int .i64 f') := block_cell hbk2 rfl
            have z3 : wr.cell? ⟨cb, 3, none⟩ = some (.slice oa on oc) := block_cell hbk2 rfl
            have HAo := Lib.hid hAo; have HV := Lib.hid hv; have HBr := Lib.hid hBr
            have hla3 : len acc ≤ 2100000 := by have := HLA.out; omega
            have hww : w.heap.size ≤ wr.heap.size := hBr.size
            clear g1 g2 g3 g4 g5 g6 hac hAo hv hBr hac2 hbk2 HAi HBi
            go_wp2_with (at_builtin; go_loud (refine wpList_append_lies _ rfl _ _ 22 rfl w.heap.size 60 i0 (.agg #[.int .i64 0, .string ⟨#[]⟩, .int .i64 0, .slice none 0 0]) 4 56 Tryz.underlying22 hi hz0 hz1 hz2 rfl (by decide) _ (len acc) xs rfl (HAo.out.2.2.2.2.1.alloc _) ⟨wr.heap.size, 0, none⟩ 1 1 [.int .i64 k, .string ⟨x'.toArray⟩, .int .i64 f', .slice oa on oc] rfl rfl (World.news_of_block (Go.heap_alloc_new _ _)) (fun x hx => by simp at hx; rcases hx with rfl | rfl | rfl | rfl <;> rfl) (by decide) (by unfold maxLen; omega) (by omega) (by simp; omega) _ rfl ?_; intro g cap w8 hown8 hgrow8 hat8 hlt8))
            all_goals
              have HAcn := Lib.hid (HAo.out.more (el := .node k x' f' (clean cs') .nil) (M := wi.heap.size) (by omega) HV.out (by rw [app_len]; rfl) (fun _ _ h1 h2 => RdX.node h1 acc xs h2) hown8 hgrow8 hat8)
              have hBn := Lib.hid (below_grown (HBr.out.alloc HBr.out.size _) hgrow8 (fun k hk => (HAo.out.2.2.2.2.1.lt k hk).1) (by simp; omega))
              have HNN4 : Hid (NodesFrom w (some ⟨b, o, none⟩) n (i + 1) nx ∧ isN nx = true ∧ sz nx ≤ sz t ∧ wt nx ≤ wt t ∧ app (app acc (.node k x' f' (clean cs') .nil)) (clean nx) = clean t ∧ len (app acc (.node k x' f' (clean cs') .nil)) = i + 1) :=
                ⟨HNX.out, HNN.out, by have := HSZ.out; simp only [sz] at this; omega, by have := HWT.out; simp only [wt] at this; omega, HCL.out, by rw [app_len, HLA.out]; rfl⟩
              go_roundw
              case rel => exact ⟨i + 1, nx, _, _, by omega, by go_num, HNN4.out, HAcn.out, hBn.out⟩
              case measure => simp [RowKit.intOf]; omega
    · have hie : i = n := by omega
      subst hie
      have ht0 := nodesFrom_end HT.out.1
      subst ht0
      have happ : acc = clean t := by have := HT.out.2.2.2.2.1; rw [show clean T.nil = .nil from rfl, app_nil] at this; exact this
      have HAP := Lib.hid happ
      clear happ
      go_wp2_with fail
      go_ret
      exact ⟨⟨_, rfl, by rw [← HAP.out]; exact HAc.out.done⟩, HB.out⟩
theorem clean_any : ∀ N, CleanIH N
  | 0 => fun _ _ _ hz => absurd hz (Nat.not_lt_zero _)
  | N + 1 => fun t v w hz hn hw h0 hs => clean_step N (clean_any N) t v w (by omega) hn hw h0 hs
theorem mw_pos {w : World} (h : MW w) : 0 < w.heap.size := by
  obtain ⟨_, _, _, hk, _⟩ := h.kinds
  exact Nat.lt_of_le_of_lt (Nat.zero_le _) (cellLt hk)
end Go.Proofs.YtnefcilopgcdpaaGreatDoor
