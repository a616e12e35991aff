/-
  The reader of messages: a message, by induction on how long its text is.
-/
import Derived.Test.YtgkphpjnfigjiaaGreatDoorRarg
import Derived.Test.YtgkphpjnfigjiaaGreatDoorBare
import Derived.Defers
namespace Go.Proofs.YtgkphpjnfigjiaaGreatDoor
open Go.RowKit Ms

set_option maxRecDepth 100000 in
/-- the deferred closure: one less deep -/
theorem less_deferred (rb bb : Nat) (s : List UInt8) (d : Int) (u : FrameMode) (w : World) (hA : At w rb s d) (hb : w.cell? ⟨bb, 0, none⟩ = some (.pointer (some ⟨rb, 0, none⟩))) :
    CallsD Tryz.prog 41 #[.pointer (some ⟨bb, 0, none⟩)] u w fun e u' w' => u' = u ∧ (e = .returned (.tuple #[]) ∧ w.grownBy w' (some rb) ∧ ∃ d', At w' rb s d' ∧ (1 ≤ d → d ≤ 100 → d' = d - 1)) := by
  have HA := Lib.hid hA
  have c1 := hA.c1; have fz := hA.fz 1
  clear hA
  go_enter_d Tryz.func41, Tryz.ntmps41
  go_wp2
  go_end0
  refine ⟨rfl, keeps_set _ _ _ _, wrap64 (d - 1), HA.out.set1, fun h1 h2 => ?_⟩
  unfold wrap64; omega


/-! ### the walk -/
set_option maxHeartbeats 4000000 in
set_option maxRecDepth 100000 in
theorem rmsg_false (n : Nat) (IH : MsgIH n) (hn : n ≤ 100000) (s : List UInt8) (deep : Nat) (rb : Nat) (w : World) (hs : s.length ≤ n) (hd : deep ≤ 7) (hA : At w rb s deep) :
    Calls Tryz.prog 24 #[.pointer (some ⟨rb, 0, none⟩), .bool false] w (MsgOut deep false s rb w) := by
  obtain ⟨i0, hi, hz0, hz1, hz2⟩ := info_parts infoNode
  have hmf : ∀ (fn : Fn) (first cap : Array Value) (w : World), (Instr.makeFunc fn first cap).run Tryz.prog w = .ok (.func fn first cap) w := fun _ _ _ _ => rfl
  obtain ⟨bb, hbb⟩ : ∃ bb, bb = w.heap.size := ⟨_, rfl⟩
  have hrl := hA.lt
  have c1 := hA.c1; have fz := hA.fz 1
  have hwr : wrap64 ((deep : Int) + 1) = deep + 1 := by unfold wrap64; omega
  have HA := Lib.hid ((hA.set1 (d' := (deep : Int) + 1)).below ((Below.refl _ (w.setCell ⟨rb, 1, none⟩ (.int .i64 ((deep : Int) + 1)))).alloc (Nat.le_refl _) (.cells #[.pointer (some ⟨rb, 0, none⟩)] 54)))
  have HG1 := Lib.hid (keeps_below (keeps_set w rb 1 (.int .i64 ((deep : Int) + 1))) ((Below.refl _ (w.setCell ⟨rb, 1, none⟩ (.int .i64 ((deep : Int) + 1)))).alloc (Nat.le_refl _) (.cells #[.pointer (some ⟨rb, 0, none⟩)] 54)))
  have hbk : ((w.setCell ⟨rb, 1, none⟩ (.int .i64 ((deep : Int) + 1))).alloc (.cells #[.pointer (some ⟨rb, 0, none⟩)] 54)).heap[bb]? = some (.cells #[.pointer (some ⟨rb, 0, none⟩)] 54) := by
    have h := Go.heap_alloc_new (w.setCell ⟨rb, 1, none⟩ (.int .i64 ((deep : Int) + 1))) (.cells #[.pointer (some ⟨rb, 0, none⟩)] 54)
    rw [World.size_setCell] at h
    rw [hbb]; exact h
  have hs1 : ((w.setCell ⟨rb, 1, none⟩ (.int .i64 ((deep : Int) + 1))).alloc (.cells #[.pointer (some ⟨rb, 0, none⟩)] 54)).heap.size = bb + 1 := by rw [hbb]; simp
  have HBB := Lib.hid hbb
  have IH := Lib.hid IH
  have hrbb : rb < bb := by omega
  clear hbb hA
  go_enter_defers Tryz.func24, Tryz.ntmps24
  by_cases hd7 : deep = 7
  · subst hd7
    go_wp2_with fail
    refine ⟨HG1.out, ?_⟩
    rw [if_neg (by decide)]
    exact ⟨rfl, _, _, HA.out⟩
  · have hlt : ¬ (7 : Int) < deep + 1 := by omega
    have hd6 : deep ≤ 6 := by omega
    go_wp2_with fail
    rw [← HBB.out]
    clear hlt hd7 c1 fz hwr hd hrl
    generalize ((w.setCell ⟨rb, 1, none⟩ (.int .i64 ((deep : Int) + 1))).alloc (.cells #[.pointer (some ⟨rb, 0, none⟩)] 54)) = w1 at *
    have hbk1 := hbk
    clear hbk
    go_loopw [5] (fun out wr => ∃ (s' : List UInt8) (acc : T) (xs : List Value), Hid (At wr rb s' (deep + 1)) ∧ Hid (Acc w1 rb 35 4 out acc xs wr.heap.size wr) ∧ Hid (NN deep false s = mapA acc (NN deep false s')) ∧ len acc + s'.length ≤ s.length) (fun _ wr => left rb wr)
    case atStart => exact ⟨s, .nil, [], HA, Acc.start _ _ HA.out.lt, (mapA_nil _).symm, by simp [len]⟩
    case round =>
      obtain ⟨s', acc, xs, HR, HAc, HE, hl⟩ := hrel
      have hbr : wr.heap[bb]? = _ := block_on hbk1 HAc.out.2.2.2.1 (by omega)
      have k0 : wr.cell? ⟨bb, 0, none⟩ = some (.pointer (some ⟨rb, 0, none⟩)) := by simp [World.cell?, hbr]
      have r0 := HR.out.c0
      have hsl : (⟨s'.toArray⟩ : ByteArray).size = s'.length := sizeOf_mk s'
      have hlr := left_at HR.out
      have HBa := Lib.hid (bare_any ⟨s'.toArray⟩ false wr (by omega))
      clear hbk1 HA
      go_wp2_with fail
      refine HBa.out.mono ?_
      rintro e w2 ⟨rfl, hb2⟩
      have HA := Lib.hid (HR.out.below hb2)
      have HAc2 := Lib.hid (HAc.out.below hb2)
      have hbk : w2.heap[bb]? = _ := (hb2.block bb (by have := cellLt k0; omega)).trans hbr
      have k2 : w2.cell? ⟨bb, 0, none⟩ = some (.pointer (some ⟨rb, 0, none⟩)) := by simp [World.cell?, hbk]
      have HG := Lib.hid (keeps_more HG1.out HAc2.out.2.2.2.1 (fun k hk => .inl (Option.some.inj hk).symm))
      clear hb2 HBa k0 hbr r0 HAc HR
      have HAc := HAc2
      clear HAc2
      cases hba : Lx.bare false s' with
      | none =>
        have HN := Lib.hid (show NN deep false s = none by rw [HE.out, NN_none hba, mapA_none])
        clear hba
        unfold bareOut
        go_wp2_with fail
        refine leaves_cons (f := 41) (args := #[.pointer (some ⟨bb, 0, none⟩)]) (by simp) (by simp [go_sem]) ?_
        refine (less_deferred rb bb s' _ _ w2 HA.out (show w2.cell? ⟨bb, 0, none⟩ = some (.pointer (some ⟨rb, 0, none⟩)) by simp [World.cell?, hbk])).mono ?_
        rintro e u' wz ⟨rfl, rfl, hg9, d', hA9, _⟩
        refine ⟨keeps_more HG.out hg9 (fun k hk => .inl (Option.some.inj hk).symm), ?_⟩
        rw [if_pos hd6, HN.out]
        exact ⟨rfl, _, _, hA9⟩
      | some p =>
        obtain ⟨t, el⟩ := p
        have hpl := Lx.az_places hba
        have HBa := Lib.hid hba
        have hes : (el : Int) ≤ s'.length := by omega
        have he0 : (0 : Int) ≤ el := by omega
        have r2 := HA.out.c0; have fz2 := HA.out.fz 0
        clear hba
        unfold bareOut
        go_wp2_with fail
        go_region
        have hx : (⟨s'.toArray⟩ : ByteArray).extract el s'.length = ⟨(s'.drop el).toArray⟩ := by
          apply ByteArray.ext
          rw [ByteArray.data_extract]
          simp only [List.extract_toArray, List.extract_eq_take_drop]
          rw [List.take_of_length_le (by simp)]
        rw [hx]
        obtain ⟨r0, hr0⟩ : ∃ r0, r0 = s'.drop el := ⟨_, rfl⟩
        have hl0 : r0.length + el = s'.length := by rw [hr0, List.length_drop]; omega
        rw [← hr0]
        have HR0 := Lib.hid hr0
        have hg0 := keeps_set w2 rb 0 (.string ⟨r0.toArray⟩)
        have hg1 : w2.grownBy (w2.setCell ⟨rb, 0, none⟩ (.string ⟨r0.toArray⟩)).drew (some rb) := ⟨hg0.os, hg0.tape, hg0.output, hg0.size, hg0.block⟩
        have hA1 : At (w2.setCell ⟨rb, 0, none⟩ (.string ⟨r0.toArray⟩)).drew rb r0 (deep + 1) := HA.out.set0
        have hz3 : w2.heap.size ≤ (w2.setCell ⟨rb, 0, none⟩ (.string ⟨r0.toArray⟩)).drew.heap.size := hg1.size
        clear hx hr0 hg0 r2 fz2 k2 hes he0
        generalize (w2.setCell ⟨rb, 0, none⟩ (.string ⟨r0.toArray⟩)).drew = w3 at *
        have HAc' := Lib.hid (HAc.out.step hg1 (.inl rfl))
        have HA' := Lib.hid hA1
        have hbk' := block_on hbk hg1 (by omega)
        have HG' := Lib.hid (keeps_more HG.out hg1 (fun k hk => .inl (Option.some.inj hk).symm))
        clear hg1 hA1 HAc HA hbk HG
        have HAc := HAc'; have HA := HA'; have hbk := hbk'; have HG := HG'
        clear HAc' HA' hbk' HG'
        cases t with
        | nil =>
          have hW : app acc (words [] .nil) = acc := app_nil acc
          have k0 : w3.cell? ⟨bb, 0, none⟩ = some (.pointer (some ⟨rb, 0, none⟩)) := by simp [World.cell?, hbk]
          go_wp2_with fail
          cases h1 : pre [123] r0 with
          | some r1 =>
            have HC := Lib.hid (cut_yes rb r0 [123] r1 _ w3 h1 HA.out)
            have l1 := pre_len h1
            simp only [List.length_cons, List.length_nil] at l1
            have HE3 := Lib.hid (show NN deep false s = mapA (acc) (match argO deep false r1 with
              | none => none
              | some (p, r) => mapA (.node p.1 p.2.1 p.2.2.1 p.2.2.2 .nil) (NN deep false r)) by rw [HE.out, NN_arg HBa.out (by rw [← HR0.out]; exact h1), mapA_mapA, hW]; rfl)
            clear h1 k0
            refine HC.out.mono ?_
            rintro e w5 ⟨rfl, hg1, hA1⟩
            have hs5 : w3.heap.size ≤ w5.heap.size := hg1.size
            have HAc' := Lib.hid (HAc.out.step hg1 (.inl rfl))
            have HA' := Lib.hid hA1
            have hbk' := block_on hbk hg1 (by omega)
            have HG' := Lib.hid (keeps_more HG.out hg1 (fun k hk => .inl (Option.some.inj hk).symm))
            clear hg1 hA1 HAc HA hbk HG
            have HAc := HAc'; have HA := HA'; have hbk := hbk'; have HG := HG'
            clear HAc' HA' hbk' HG'
            have k0 : w5.cell? ⟨bb, 0, none⟩ = some (.pointer (some ⟨rb, 0, none⟩)) := by simp [World.cell?, hbk]
            have HM := Lib.hid (rarg_any n IH.out hn r1 deep false rb w5 (by omega) hd6 HA.out)
            have hLM := HAc.out.2.2.1
            clear HC
            go_wp2_with fail
            clear k0
            refine HM.out.mono ?_
            rintro e w6 ⟨hg1, hm⟩
            have hs6 : w5.heap.size ≤ w6.heap.size := hg1.size
            cases har : argO deep false r1 with
            | none =>
              rw [har] at hm
              obtain ⟨rfl, s9, d9, hA1⟩ := hm
              have HN := Lib.hid (show NN deep false s = none by rw [HE3.out, har]; rfl)
              clear har
              have HAc' := Lib.hid (HAc.out.step hg1 (.inl rfl))
              have HA' := Lib.hid hA1
              have hbk' := block_on hbk hg1 (by omega)
              have HG' := Lib.hid (keeps_more HG.out hg1 (fun k hk => .inl (Option.some.inj hk).symm))
              clear hg1 hA1 HAc HA hbk HG
              have HAc := HAc'; have HA := HA'; have hbk := hbk'; have HG := HG'
              clear HAc' HA' hbk' HG'
              unfold formP
              go_wp2_with fail
              refine leaves_cons (f := 41) (args := #[.pointer (some ⟨bb, 0, none⟩)]) (by simp) (by simp [go_sem]) ?_
              refine (less_deferred rb bb s9 _ _ w6 HA.out (show w6.cell? ⟨bb, 0, none⟩ = some (.pointer (some ⟨rb, 0, none⟩)) by simp [World.cell?, hbk])).mono ?_
              rintro e u' wz ⟨rfl, rfl, hg9, d', hA9, _⟩
              refine ⟨keeps_more HG.out hg9 (fun k hk => .inl (Option.some.inj hk).symm), ?_⟩
              rw [if_pos hd6, HN.out]
              exact ⟨rfl, _, _, hA9⟩
            | some q =>
              obtain ⟨⟨k, x, f, cs⟩, r2⟩ := q
              rw [har] at hm
              obtain ⟨v, rfl, hv, hA1⟩ := hm
              have l2 := argO_len har
              have HN := Lib.hid (show NN deep false s = mapA (app (acc) (.node k x f cs .nil)) (NN deep false r2) by rw [HE3.out, har]; exact mapA_mapA _ _ _)
              clear har HE3 HM
              have HV := Lib.hid hv
              simp only [] at hv hA1
              obtain ⟨va, vn, vc, rfl⟩ := hv.form
              clear hv
              have HAc' := Lib.hid (HAc.out.step hg1 (.inl rfl))
              have HA' := Lib.hid hA1
              have hbk' := block_on hbk hg1 (by omega)
              have HG' := Lib.hid (keeps_more HG.out hg1 (fun k hk => .inl (Option.some.inj hk).symm))
              clear hg1 hA1 HAc HA hbk HG
              have HAc := HAc'; have HA := HA'; have hbk := hbk'; have HG := HG'
              clear HAc' HA' hbk' HG'
              unfold nodeV
              have HO := Lib.hid HAc.out.2.2.2.2.1
              have hLW := HAc.out.2.2.1
              have hlw : w1.heap.size ≤ w6.heap.size := by have h1 := HAc.out.2.1; have h2 := HAc.out.2.2.1; omega
              have hlen : len (acc) ≤ 200000 := by first | omega | (simp only [app_len, len]; omega)
              go_wp2_with (at_builtin; go_loud (refine wpList_append_lies _ rfl _ _ 22 rfl w1.heap.size 35 i0 (.agg #[.int .i64 0, .string ⟨#[]⟩, .int .i64 0, .slice none 0 0]) 4 56 Tryz.underlying22 hi hz0 hz1 hz2 rfl (by decide) _ (len (acc)) (xs) rfl (HO.out.alloc _) ⟨w6.heap.size, 0, none⟩ 1 1 [.int .i64 k, .string ⟨x.toArray⟩, .int .i64 f, .slice va vn vc] rfl rfl (World.news_of_block (Go.heap_alloc_new _ _)) (fun x hx => by simp at hx; rcases hx with rfl | rfl | rfl | rfl <;> rfl) (by decide) (by unfold maxLen; omega) (by omega) (by simp; omega) _ rfl ?_; intro g cap w7 hown8 hgrow8 hat8 hlt8; have hownr : Hid (∀ k, (u5).ownBlock = some k → w1.heap.size ≤ k) := Lib.hid (fun k e => (HO.out.lt k e).1); have hnr : (u5).ownBlock ≠ some rb := (fun e => by have h1 := hownr.out rb e; have h2 := HAc.out.1; omega); have HA' := Lib.hid (HA.out.grown hgrow8 hnr); have HAc' := Lib.hid (HAc.out.more (el := .node k x f cs .nil) (body := cs) (M := w5.heap.size) (by omega) HV.out (by rw [app_len]; rfl) (fun _ _ h1 h2 => RdX.node h1 (acc) (xs) h2) hown8 hgrow8 hat8); have hbk' : w7.heap[bb]? = _ := (hgrow8.block bb (by simp; omega) (fun e => by have := hownr.out bb e.symm; omega)).trans ((Go.heap_alloc_old w6 _ (by omega)).trans hbk); have HG' := Lib.hid (keeps_more HG1.out HAc'.out.2.2.2.1 (fun k hk => .inl (Option.some.inj hk).symm)); clear hown8 hgrow8 hat8 hlt8 hownr hnr HO HAc HA hbk HG; have HAc := HAc'; have HA := HA'; have hbk := hbk'; have HG := HG'; clear HAc' HA' hbk' HG'))
              all_goals
                go_roundw
                case rel =>
                  refine ⟨r2, _, _, HA, HAc.out.raise, HN, ?_⟩
                  simp only [app_len, len]; omega
                case measure =>
                  rw [left_at HA.out, hlr]; omega
          | none =>
            have HC := Lib.hid (cut_no rb r0 [123] _ w3 h1 HA.out)
            have HN := Lib.hid (show NN deep false s = some (acc, r0) by rw [HE.out, NN_end HBa.out (by rw [← HR0.out]; exact h1) (fun h => by cases h), ← HR0.out]; show some (app acc _, r0) = _; rw [hW])
            clear h1 k0
            refine HC.out.mono ?_
            rintro e w5 ⟨rfl, rfl⟩
            clear HC
            go_wp2_with fail
            refine leaves_cons (f := 41) (args := #[.pointer (some ⟨bb, 0, none⟩)]) (by simp) (by simp [go_sem]) ?_
            refine (less_deferred rb bb r0 _ _ w5 HA.out (show w5.cell? ⟨bb, 0, none⟩ = some (.pointer (some ⟨rb, 0, none⟩)) by simp [World.cell?, hbk])).mono ?_
            rintro e u' wz ⟨rfl, rfl, hg9, d', hA9, hd9⟩
            have hd9' := hd9 (by omega) (by omega)
            have hsv := SVP.keep (W' := wz) (fun b hb hp => hg9.block b hb (fun e => by have := Option.some.inj e; omega)) HAc.out.done
            refine ⟨_, results_tmp rfl _ _ _, ?_⟩
            refine ⟨keeps_more HG.out hg9 (fun k hk => .inl (Option.some.inj hk).symm), ?_⟩
            rw [if_pos hd6, HN.out]
            refine ⟨_, rfl, SVP.mono (fun b _ hp => by have := HBB.out; omega) hsv, ?_⟩
            rw [hd9', show (deep : Int) + 1 - 1 = deep by omega] at hA9
            exact hA9
        | cons t0 t1 =>
          have hW : app acc (words (t0 :: t1) .nil) = app acc (.node 1 (t0 :: t1) 0 .nil .nil) := rfl
          have hel : 1 ≤ el := by have := hpl.2; simp at this; omega
          have HO := Lib.hid HAc.out.2.2.2.2.1
          have hLW := HAc.out.2.2.1
          have hlw : w1.heap.size ≤ w3.heap.size := by have h1 := HAc.out.2.1; have h2 := HAc.out.2.2.1; omega
          have hlen : len (acc) ≤ 200000 := by first | omega | (simp only [app_len, len]; omega)
          go_wp2_with (at_builtin; go_loud (refine wpList_append_lies _ rfl _ _ 22 rfl w1.heap.size 35 i0 (.agg #[.int .i64 0, .string ⟨#[]⟩, .int .i64 0, .slice none 0 0]) 4 56 Tryz.underlying22 hi hz0 hz1 hz2 rfl (by decide) _ (len (acc)) (xs) rfl (HO.out.alloc _) ⟨w3.heap.size, 0, none⟩ 1 1 [.int .i64 1, .string ⟨(t0 :: t1).toArray⟩, .int .i64 0, .slice none 0 0] rfl rfl (World.news_of_block (Go.heap_alloc_new _ _)) (fun x hx => by simp at hx; rcases hx with rfl | rfl | rfl | rfl <;> rfl) (by decide) (by unfold maxLen; omega) (by omega) (by simp; omega) _ rfl ?_; intro g cap w4 hown8 hgrow8 hat8 hlt8; have hownr : Hid (∀ k, (u5).ownBlock = some k → w1.heap.size ≤ k) := Lib.hid (fun k e => (HO.out.lt k e).1); have hnr : (u5).ownBlock ≠ some rb := (fun e => by have h1 := hownr.out rb e; have h2 := HAc.out.1; omega); have HA' := Lib.hid (HA.out.grown hgrow8 hnr); have HAc' := Lib.hid (HAc.out.more (el := .node 1 (t0 :: t1) 0 .nil .nil) (body := .nil) (M := w3.heap.size) (by omega) (SVP.nil _ _) (by rw [app_len]; rfl) (fun _ _ h1 h2 => RdX.node h1 (acc) (xs) h2) hown8 hgrow8 hat8); have hbk' : w4.heap[bb]? = _ := (hgrow8.block bb (by simp; omega) (fun e => by have := hownr.out bb e.symm; omega)).trans ((Go.heap_alloc_old w3 _ (by omega)).trans hbk); have HG' := Lib.hid (keeps_more HG1.out HAc'.out.2.2.2.1 (fun k hk => .inl (Option.some.inj hk).symm)); clear hown8 hgrow8 hat8 hlt8 hownr hnr HO HAc HA hbk HG; have HAc := HAc'; have HA := HA'; have hbk := hbk'; have HG := HG'; clear HAc' HA' hbk' HG'; have k0 : w4.cell? ⟨bb, 0, none⟩ = some (.pointer (some ⟨rb, 0, none⟩)) := (by simp [World.cell?, hbk])))
          all_goals
            cases h1 : pre [123] r0 with
            | some r1 =>
              have HC := Lib.hid (cut_yes rb r0 [123] r1 _ w4 h1 HA.out)
              have l1 := pre_len h1
              simp only [List.length_cons, List.length_nil] at l1
              have HE3 := Lib.hid (show NN deep false s = mapA (app acc (.node 1 (t0 :: t1) 0 .nil .nil)) (match argO deep false r1 with
                | none => none
                | some (p, r) => mapA (.node p.1 p.2.1 p.2.2.1 p.2.2.2 .nil) (NN deep false r)) by rw [HE.out, NN_arg HBa.out (by rw [← HR0.out]; exact h1), mapA_mapA, hW]; rfl)
              clear h1 k0
              refine HC.out.mono ?_
              rintro e w5 ⟨rfl, hg1, hA1⟩
              have hs5 : w4.heap.size ≤ w5.heap.size := hg1.size
              have HAc' := Lib.hid (HAc.out.step hg1 (.inl rfl))
              have HA' := Lib.hid hA1
              have hbk' := block_on hbk hg1 (by omega)
              have HG' := Lib.hid (keeps_more HG.out hg1 (fun k hk => .inl (Option.some.inj hk).symm))
              clear hg1 hA1 HAc HA hbk HG
              have HAc := HAc'; have HA := HA'; have hbk := hbk'; have HG := HG'
              clear HAc' HA' hbk' HG'
              have k0 : w5.cell? ⟨bb, 0, none⟩ = some (.pointer (some ⟨rb, 0, none⟩)) := by simp [World.cell?, hbk]
              have HM := Lib.hid (rarg_any n IH.out hn r1 deep false rb w5 (by omega) hd6 HA.out)
              have hLM := HAc.out.2.2.1
              clear HC
              go_wp2_with fail
              clear k0
              refine HM.out.mono ?_
              rintro e w6 ⟨hg1, hm⟩
              have hs6 : w5.heap.size ≤ w6.heap.size := hg1.size
              cases har : argO deep false r1 with
              | none =>
                rw [har] at hm
                obtain ⟨rfl, s9, d9, hA1⟩ := hm
                have HN := Lib.hid (show NN deep false s = none by rw [HE3.out, har]; rfl)
                clear har
                have HAc' := Lib.hid (HAc.out.step hg1 (.inl rfl))
                have HA' := Lib.hid hA1
                have hbk' := block_on hbk hg1 (by omega)
                have HG' := Lib.hid (keeps_more HG.out hg1 (fun k hk => .inl (Option.some.inj hk).symm))
                clear hg1 hA1 HAc HA hbk HG
                have HAc := HAc'; have HA := HA'; have hbk := hbk'; have HG := HG'
                clear HAc' HA' hbk' HG'
                unfold formP
                go_wp2_with fail
                refine leaves_cons (f := 41) (args := #[.pointer (some ⟨bb, 0, none⟩)]) (by simp) (by simp [go_sem]) ?_
                refine (less_deferred rb bb s9 _ _ w6 HA.out (show w6.cell? ⟨bb, 0, none⟩ = some (.pointer (some ⟨rb, 0, none⟩)) by simp [World.cell?, hbk])).mono ?_
                rintro e u' wz ⟨rfl, rfl, hg9, d', hA9, _⟩
                refine ⟨keeps_more HG.out hg9 (fun k hk => .inl (Option.some.inj hk).symm), ?_⟩
                rw [if_pos hd6, HN.out]
                exact ⟨rfl, _, _, hA9⟩
              | some q =>
                obtain ⟨⟨k, x, f, cs⟩, r2⟩ := q
                rw [har] at hm
                obtain ⟨v, rfl, hv, hA1⟩ := hm
                have l2 := argO_len har
                have HN := Lib.hid (show NN deep false s = mapA (app (app acc (.node 1 (t0 :: t1) 0 .nil .nil)) (.node k x f cs .nil)) (NN deep false r2) by rw [HE3.out, har]; exact mapA_mapA _ _ _)
                clear har HE3 HM
                have HV := Lib.hid hv
                simp only [] at hv hA1
                obtain ⟨va, vn, vc, rfl⟩ := hv.form
                clear hv
                have HAc' := Lib.hid (HAc.out.step hg1 (.inl rfl))
                have HA' := Lib.hid hA1
                have hbk' := block_on hbk hg1 (by omega)
                have HG' := Lib.hid (keeps_more HG.out hg1 (fun k hk => .inl (Option.some.inj hk).symm))
                clear hg1 hA1 HAc HA hbk HG
                have HAc := HAc'; have HA := HA'; have hbk := hbk'; have HG := HG'
                clear HAc' HA' hbk' HG'
                unfold nodeV
                have HO := Lib.hid HAc.out.2.2.2.2.1
                have hLW := HAc.out.2.2.1
                have hlw : w1.heap.size ≤ w6.heap.size := by have h1 := HAc.out.2.1; have h2 := HAc.out.2.2.1; omega
                have hlen : len (app acc (.node 1 (t0 :: t1) 0 .nil .nil)) ≤ 200000 := by first | omega | (simp only [app_len, len]; omega)
                go_wp2_with (at_builtin; go_loud (refine wpList_append_lies _ rfl _ _ 22 rfl w1.heap.size 35 i0 (.agg #[.int .i64 0, .string ⟨#[]⟩, .int .i64 0, .slice none 0 0]) 4 56 Tryz.underlying22 hi hz0 hz1 hz2 rfl (by decide) _ (len (app acc (.node 1 (t0 :: t1) 0 .nil .nil))) ((xs ++ [.int .i64 1, .string ⟨(t0 :: t1).toArray⟩, .int .i64 0, .slice none 0 0])) rfl (HO.out.alloc _) ⟨w6.heap.size, 0, none⟩ 1 1 [.int .i64 k, .string ⟨x.toArray⟩, .int .i64 f, .slice va vn vc] rfl rfl (World.news_of_block (Go.heap_alloc_new _ _)) (fun x hx => by simp at hx; rcases hx with rfl | rfl | rfl | rfl <;> rfl) (by decide) (by unfold maxLen; omega) (by omega) (by simp; omega) _ rfl ?_; intro g2 cap2 w7 hown8 hgrow8 hat8 hlt8; have hownr : Hid (∀ k, ((Value.slice (some ⟨g, 0, none⟩) (len acc + 1) cap)).ownBlock = some k → w1.heap.size ≤ k) := Lib.hid (fun k e => (HO.out.lt k e).1); have hnr : ((Value.slice (some ⟨g, 0, none⟩) (len acc + 1) cap)).ownBlock ≠ some rb := (fun e => by have h1 := hownr.out rb e; have h2 := HAc.out.1; omega); have HA' := Lib.hid (HA.out.grown hgrow8 hnr); have HAc' := Lib.hid (HAc.out.more (el := .node k x f cs .nil) (body := cs) (M := w5.heap.size) (by omega) HV.out (by rw [app_len]; rfl) (fun _ _ h1 h2 => RdX.node h1 (app acc (.node 1 (t0 :: t1) 0 .nil .nil)) ((xs ++ [.int .i64 1, .string ⟨(t0 :: t1).toArray⟩, .int .i64 0, .slice none 0 0])) h2) hown8 hgrow8 hat8); have hbk' : w7.heap[bb]? = _ := (hgrow8.block bb (by simp; omega) (fun e => by have := hownr.out bb e.symm; omega)).trans ((Go.heap_alloc_old w6 _ (by omega)).trans hbk); have HG' := Lib.hid (keeps_more HG1.out HAc'.out.2.2.2.1 (fun k hk => .inl (Option.some.inj hk).symm)); clear hown8 hgrow8 hat8 hlt8 hownr hnr HO HAc HA hbk HG; have HAc := HAc'; have HA := HA'; have hbk := hbk'; have HG := HG'; clear HAc' HA' hbk' HG'))
                all_goals
                  go_roundw
                  case rel =>
                    refine ⟨r2, _, _, HA, HAc.out.raise, HN, ?_⟩
                    simp only [app_len, len]; omega
                  case measure =>
                    rw [left_at HA.out, hlr]; omega
            | none =>
              have HC := Lib.hid (cut_no rb r0 [123] _ w4 h1 HA.out)
              have HN := Lib.hid (show NN deep false s = some (app acc (.node 1 (t0 :: t1) 0 .nil .nil), r0) by rw [HE.out, NN_end HBa.out (by rw [← HR0.out]; exact h1) (fun h => by cases h), ← HR0.out]; show some (app acc _, r0) = _; rw [hW])
              clear h1 k0
              refine HC.out.mono ?_
              rintro e w5 ⟨rfl, rfl⟩
              clear HC
              go_wp2_with fail
              refine leaves_cons (f := 41) (args := #[.pointer (some ⟨bb, 0, none⟩)]) (by simp) (by simp [go_sem]) ?_
              refine (less_deferred rb bb r0 _ _ w5 HA.out (show w5.cell? ⟨bb, 0, none⟩ = some (.pointer (some ⟨rb, 0, none⟩)) by simp [World.cell?, hbk])).mono ?_
              rintro e u' wz ⟨rfl, rfl, hg9, d', hA9, hd9⟩
              have hd9' := hd9 (by omega) (by omega)
              have hsv := SVP.keep (W' := wz) (fun b hb hp => hg9.block b hb (fun e => by have := Option.some.inj e; omega)) HAc.out.done
              refine ⟨_, results_tmp rfl _ _ _, ?_⟩
              refine ⟨keeps_more HG.out hg9 (fun k hk => .inl (Option.some.inj hk).symm), ?_⟩
              rw [if_pos hd6, HN.out]
              refine ⟨_, rfl, SVP.mono (fun b _ hp => by have := HBB.out; omega) hsv, ?_⟩
              rw [hd9', show (deep : Int) + 1 - 1 = deep by omega] at hA9
              exact hA9
set_option maxHeartbeats 4000000 in
set_option maxRecDepth 100000 in
theorem rmsg_true (n : Nat) (IH : MsgIH n) (hn : n ≤ 100000) (s : List UInt8) (deep : Nat) (rb : Nat) (w : World) (hs : s.length ≤ n) (hd : deep ≤ 7) (hA : At w rb s deep) :
    Calls Tryz.prog 24 #[.pointer (some ⟨rb, 0, none⟩), .bool true] w (MsgOut deep true s rb w) := by
  obtain ⟨i0, hi, hz0, hz1, hz2⟩ := info_parts infoNode
  have hmf : ∀ (fn : Fn) (first cap : Array Value) (w : World), (Instr.makeFunc fn first cap).run Tryz.prog w = .ok (.func fn first cap) w := fun _ _ _ _ => rfl
  obtain ⟨bb, hbb⟩ : ∃ bb, bb = w.heap.size := ⟨_, rfl⟩
  have hrl := hA.lt
  have c1 := hA.c1; have fz := hA.fz 1
  have hwr : wrap64 ((deep : Int) + 1) = deep + 1 := by unfold wrap64; omega
  have HA := Lib.hid ((hA.set1 (d' := (deep : Int) + 1)).below ((Below.refl _ (w.setCell ⟨rb, 1, none⟩ (.int .i64 ((deep : Int) + 1)))).alloc (Nat.le_refl _) (.cells #[.pointer (some ⟨rb, 0, none⟩)] 54)))
  have HG1 := Lib.hid (keeps_below (keeps_set w rb 1 (.int .i64 ((deep : Int) + 1))) ((Below.refl _ (w.setCell ⟨rb, 1, none⟩ (.int .i64 ((deep : Int) + 1)))).alloc (Nat.le_refl _) (.cells #[.pointer (some ⟨rb, 0, none⟩)] 54)))
  have hbk : ((w.setCell ⟨rb, 1, none⟩ (.int .i64 ((deep : Int) + 1))).alloc (.cells #[.pointer (some ⟨rb, 0, none⟩)] 54)).heap[bb]? = some (.cells #[.pointer (some ⟨rb, 0, none⟩)] 54) := by
    have h := Go.heap_alloc_new (w.setCell ⟨rb, 1, none⟩ (.int .i64 ((deep : Int) + 1))) (.cells #[.pointer (some ⟨rb, 0, none⟩)] 54)
    rw [World.size_setCell] at h
    rw [hbb]; exact h
  have hs1 : ((w.setCell ⟨rb, 1, none⟩ (.int .i64 ((deep : Int) + 1))).alloc (.cells #[.pointer (some ⟨rb, 0, none⟩)] 54)).heap.size = bb + 1 := by rw [hbb]; simp
  have HBB := Lib.hid hbb
  have IH := Lib.hid IH
  have hrbb : rb < bb := by omega
  clear hbb hA
  go_enter_defers Tryz.func24, Tryz.ntmps24
  by_cases hd7 : deep = 7
  · subst hd7
    go_wp2_with fail
    refine ⟨HG1.out, ?_⟩
    rw [if_neg (by decide)]
    exact ⟨rfl, _, _, HA.out⟩
  · have hlt : ¬ (7 : Int) < deep + 1 := by omega
    have hd6 : deep ≤ 6 := by omega
    go_wp2_with fail
    rw [← HBB.out]
    clear hlt hd7 c1 fz hwr hd hrl
    generalize ((w.setCell ⟨rb, 1, none⟩ (.int .i64 ((deep : Int) + 1))).alloc (.cells #[.pointer (some ⟨rb, 0, none⟩)] 54)) = w1 at *
    have hbk1 := hbk
    clear hbk
    go_loopw [5] (fun out wr => ∃ (s' : List UInt8) (acc : T) (xs : List Value), Hid (At wr rb s' (deep + 1)) ∧ Hid (Acc w1 rb 35 4 out acc xs wr.heap.size wr) ∧ Hid (NN deep true s = mapA acc (NN deep true s')) ∧ len acc + s'.length ≤ s.length) (fun _ wr => left rb wr)
    case atStart => exact ⟨s, .nil, [], HA, Acc.start _ _ HA.out.lt, (mapA_nil _).symm, by simp [len]⟩
    case round =>
      obtain ⟨s', acc, xs, HR, HAc, HE, hl⟩ := hrel
      have hbr : wr.heap[bb]? = _ := block_on hbk1 HAc.out.2.2.2.1 (by omega)
      have k0 : wr.cell? ⟨bb, 0, none⟩ = some (.pointer (some ⟨rb, 0, none⟩)) := by simp [World.cell?, hbr]
      have r0 := HR.out.c0
      have hsl : (⟨s'.toArray⟩ : ByteArray).size = s'.length := sizeOf_mk s'
      have hlr := left_at HR.out
      have HBa := Lib.hid (bare_any ⟨s'.toArray⟩ true wr (by omega))
      clear hbk1 HA
      go_wp2_with fail
      refine HBa.out.mono ?_
      rintro e w2 ⟨rfl, hb2⟩
      have HA := Lib.hid (HR.out.below hb2)
      have HAc2 := Lib.hid (HAc.out.below hb2)
      have hbk : w2.heap[bb]? = _ := (hb2.block bb (by have := cellLt k0; omega)).trans hbr
      have k2 : w2.cell? ⟨bb, 0, none⟩ = some (.pointer (some ⟨rb, 0, none⟩)) := by simp [World.cell?, hbk]
      have HG := Lib.hid (keeps_more HG1.out HAc2.out.2.2.2.1 (fun k hk => .inl (Option.some.inj hk).symm))
      clear hb2 HBa k0 hbr r0 HAc HR
      have HAc := HAc2
      clear HAc2
      cases hba : Lx.bare true s' with
      | none =>
        have HN := Lib.hid (show NN deep true s = none by rw [HE.out, NN_none hba, mapA_none])
        clear hba
        unfold bareOut
        go_wp2_with fail
        refine leaves_cons (f := 41) (args := #[.pointer (some ⟨bb, 0, none⟩)]) (by simp) (by simp [go_sem]) ?_
        refine (less_deferred rb bb s' _ _ w2 HA.out (show w2.cell? ⟨bb, 0, none⟩ = some (.pointer (some ⟨rb, 0, none⟩)) by simp [World.cell?, hbk])).mono ?_
        rintro e u' wz ⟨rfl, rfl, hg9, d', hA9, _⟩
        refine ⟨keeps_more HG.out hg9 (fun k hk => .inl (Option.some.inj hk).symm), ?_⟩
        rw [if_pos hd6, HN.out]
        exact ⟨rfl, _, _, hA9⟩
      | some p =>
        obtain ⟨t, el⟩ := p
        have hpl := Lx.az_places hba
        have HBa := Lib.hid hba
        have hes : (el : Int) ≤ s'.length := by omega
        have he0 : (0 : Int) ≤ el := by omega
        have r2 := HA.out.c0; have fz2 := HA.out.fz 0
        clear hba
        unfold bareOut
        go_wp2_with fail
        go_region
        have hx : (⟨s'.toArray⟩ : ByteArray).extract el s'.length = ⟨(s'.drop el).toArray⟩ := by
          apply ByteArray.ext
          rw [ByteArray.data_extract]
          simp only [List.extract_toArray, List.extract_eq_take_drop]
          rw [List.take_of_length_le (by simp)]
        rw [hx]
        obtain ⟨r0, hr0⟩ : ∃ r0, r0 = s'.drop el := ⟨_, rfl⟩
        have hl0 : r0.length + el = s'.length := by rw [hr0, List.length_drop]; omega
        rw [← hr0]
        have HR0 := Lib.hid hr0
        have hg0 := keeps_set w2 rb 0 (.string ⟨r0.toArray⟩)
        have hg1 : w2.grownBy (w2.setCell ⟨rb, 0, none⟩ (.string ⟨r0.toArray⟩)).drew (some rb) := ⟨hg0.os, hg0.tape, hg0.output, hg0.size, hg0.block⟩
        have hA1 : At (w2.setCell ⟨rb, 0, none⟩ (.string ⟨r0.toArray⟩)).drew rb r0 (deep + 1) := HA.out.set0
        have hz3 : w2.heap.size ≤ (w2.setCell ⟨rb, 0, none⟩ (.string ⟨r0.toArray⟩)).drew.heap.size := hg1.size
        clear hx hr0 hg0 r2 fz2 k2 hes he0
        generalize (w2.setCell ⟨rb, 0, none⟩ (.string ⟨r0.toArray⟩)).drew = w3 at *
        have HAc' := Lib.hid (HAc.out.step hg1 (.inl rfl))
        have HA' := Lib.hid hA1
        have hbk' := block_on hbk hg1 (by omega)
        have HG' := Lib.hid (keeps_more HG.out hg1 (fun k hk => .inl (Option.some.inj hk).symm))
        clear hg1 hA1 HAc HA hbk HG
        have HAc := HAc'; have HA := HA'; have hbk := hbk'; have HG := HG'
        clear HAc' HA' hbk' HG'
        cases t with
        | nil =>
          have hW : app acc (words [] .nil) = acc := app_nil acc
          have k0 : w3.cell? ⟨bb, 0, none⟩ = some (.pointer (some ⟨rb, 0, none⟩)) := by simp [World.cell?, hbk]
          go_wp2_with fail
          cases h1 : pre [123] r0 with
          | some r1 =>
            have HC := Lib.hid (cut_yes rb r0 [123] r1 _ w3 h1 HA.out)
            have l1 := pre_len h1
            simp only [List.length_cons, List.length_nil] at l1
            have HE3 := Lib.hid (show NN deep true s = mapA (acc) (match argO deep true r1 with
              | none => none
              | some (p, r) => mapA (.node p.1 p.2.1 p.2.2.1 p.2.2.2 .nil) (NN deep true r)) by rw [HE.out, NN_arg HBa.out (by rw [← HR0.out]; exact h1), mapA_mapA, hW]; rfl)
            clear h1 k0
            refine HC.out.mono ?_
            rintro e w5 ⟨rfl, hg1, hA1⟩
            have hs5 : w3.heap.size ≤ w5.heap.size := hg1.size
            have HAc' := Lib.hid (HAc.out.step hg1 (.inl rfl))
            have HA' := Lib.hid hA1
            have hbk' := block_on hbk hg1 (by omega)
            have HG' := Lib.hid (keeps_more HG.out hg1 (fun k hk => .inl (Option.some.inj hk).symm))
            clear hg1 hA1 HAc HA hbk HG
            have HAc := HAc'; have HA := HA'; have hbk := hbk'; have HG := HG'
            clear HAc' HA' hbk' HG'
            have k0 : w5.cell? ⟨bb, 0, none⟩ = some (.pointer (some ⟨rb, 0, none⟩)) := by simp [World.cell?, hbk]
            have HM := Lib.hid (rarg_any n IH.out hn r1 deep true rb w5 (by omega) hd6 HA.out)
            have hLM := HAc.out.2.2.1
            clear HC
            go_wp2_with fail
            clear k0
            refine HM.out.mono ?_
            rintro e w6 ⟨hg1, hm⟩
            have hs6 : w5.heap.size ≤ w6.heap.size := hg1.size
            cases har : argO deep true r1 with
            | none =>
              rw [har] at hm
              obtain ⟨rfl, s9, d9, hA1⟩ := hm
              have HN := Lib.hid (show NN deep true s = none by rw [HE3.out, har]; rfl)
              clear har
              have HAc' := Lib.hid (HAc.out.step hg1 (.inl rfl))
              have HA' := Lib.hid hA1
              have hbk' := block_on hbk hg1 (by omega)
              have HG' := Lib.hid (keeps_more HG.out hg1 (fun k hk => .inl (Option.some.inj hk).symm))
              clear hg1 hA1 HAc HA hbk HG
              have HAc := HAc'; have HA := HA'; have hbk := hbk'; have HG := HG'
              clear HAc' HA' hbk' HG'
              unfold formP
              go_wp2_with fail
              refine leaves_cons (f := 41) (args := #[.pointer (some ⟨bb, 0, none⟩)]) (by simp) (by simp [go_sem]) ?_
              refine (less_deferred rb bb s9 _ _ w6 HA.out (show w6.cell? ⟨bb, 0, none⟩ = some (.pointer (some ⟨rb, 0, none⟩)) by simp [World.cell?, hbk])).mono ?_
              rintro e u' wz ⟨rfl, rfl, hg9, d', hA9, _⟩
              refine ⟨keeps_more HG.out hg9 (fun k hk => .inl (Option.some.inj hk).symm), ?_⟩
              rw [if_pos hd6, HN.out]
              exact ⟨rfl, _, _, hA9⟩
            | some q =>
              obtain ⟨⟨k, x, f, cs⟩, r2⟩ := q
              rw [har] at hm
              obtain ⟨v, rfl, hv, hA1⟩ := hm
              have l2 := argO_len har
              have HN := Lib.hid (show NN deep true s = mapA (app (acc) (.node k x f cs .nil)) (NN deep true r2) by rw [HE3.out, har]; exact mapA_mapA _ _ _)
              clear har HE3 HM
              have HV := Lib.hid hv
              simp only [] at hv hA1
              obtain ⟨va, vn, vc, rfl⟩ := hv.form
              clear hv
              have HAc' := Lib.hid (HAc.out.step hg1 (.inl rfl))
              have HA' := Lib.hid hA1
              have hbk' := block_on hbk hg1 (by omega)
              have HG' := Lib.hid (keeps_more HG.out hg1 (fun k hk => .inl (Option.some.inj hk).symm))
              clear hg1 hA1 HAc HA hbk HG
              have HAc := HAc'; have HA := HA'; have hbk := hbk'; have HG := HG'
              clear HAc' HA' hbk' HG'
              unfold nodeV
              have HO := Lib.hid HAc.out.2.2.2.2.1
              have hLW := HAc.out.2.2.1
              have hlw : w1.heap.size ≤ w6.heap.size := by have h1 := HAc.out.2.1; have h2 := HAc.out.2.2.1; omega
              have hlen : len (acc) ≤ 200000 := by first | omega | (simp only [app_len, len]; omega)
              go_wp2_with (at_builtin; go_loud (refine wpList_append_lies _ rfl _ _ 22 rfl w1.heap.size 35 i0 (.agg #[.int .i64 0, .string ⟨#[]⟩, .int .i64 0, .slice none 0 0]) 4 56 Tryz.underlying22 hi hz0 hz1 hz2 rfl (by decide) _ (len (acc)) (xs) rfl (HO.out.alloc _) ⟨w6.heap.size, 0, none⟩ 1 1 [.int .i64 k, .string ⟨x.toArray⟩, .int .i64 f, .slice va vn vc] rfl rfl (World.news_of_block (Go.heap_alloc_new _ _)) (fun x hx => by simp at hx; rcases hx with rfl | rfl | rfl | rfl <;> rfl) (by decide) (by unfold maxLen; omega) (by omega) (by simp; omega) _ rfl ?_; intro g cap w7 hown8 hgrow8 hat8 hlt8; have hownr : Hid (∀ k, (u5).ownBlock = some k → w1.heap.size ≤ k) := Lib.hid (fun k e => (HO.out.lt k e).1); have hnr : (u5).ownBlock ≠ some rb := (fun e => by have h1 := hownr.out rb e; have h2 := HAc.out.1; omega); have HA' := Lib.hid (HA.out.grown hgrow8 hnr); have HAc' := Lib.hid (HAc.out.more (el := .node k x f cs .nil) (body := cs) (M := w5.heap.size) (by omega) HV.out (by rw [app_len]; rfl) (fun _ _ h1 h2 => RdX.node h1 (acc) (xs) h2) hown8 hgrow8 hat8); have hbk' : w7.heap[bb]? = _ := (hgrow8.block bb (by simp; omega) (fun e => by have := hownr.out bb e.symm; omega)).trans ((Go.heap_alloc_old w6 _ (by omega)).trans hbk); have HG' := Lib.hid (keeps_more HG1.out HAc'.out.2.2.2.1 (fun k hk => .inl (Option.some.inj hk).symm)); clear hown8 hgrow8 hat8 hlt8 hownr hnr HO HAc HA hbk HG; have HAc := HAc'; have HA := HA'; have hbk := hbk'; have HG := HG'; clear HAc' HA' hbk' HG'))
              all_goals
                go_roundw
                case rel =>
                  refine ⟨r2, _, _, HA, HAc.out.raise, HN, ?_⟩
                  simp only [app_len, len]; omega
                case measure =>
                  rw [left_at HA.out, hlr]; omega
          | none =>
            have HC := Lib.hid (cut_no rb r0 [123] _ w3 h1 HA.out)
            cases h2 : pre [35] r0 with
            | none =>
              have HC2 := Lib.hid (cut_no rb r0 [35] _ w3 h2 HA.out)
              have HN := Lib.hid (show NN deep true s = some (acc, r0) by rw [HE.out, NN_end HBa.out (by rw [← HR0.out]; exact h1) (fun _ => by rw [← HR0.out]; exact h2), ← HR0.out]; show some (app acc _, r0) = _; rw [hW])
              clear h1 h2
              refine HC.out.mono ?_
              rintro e w5 ⟨rfl, rfl⟩
              go_wp2_with fail
              refine HC2.out.mono ?_
              rintro e w6 ⟨rfl, rfl⟩
              clear k0 HC HC2
              go_wp2_with fail
              refine leaves_cons (f := 41) (args := #[.pointer (some ⟨bb, 0, none⟩)]) (by simp) (by simp [go_sem]) ?_
              refine (less_deferred rb bb r0 _ _ w6 HA.out (show w6.cell? ⟨bb, 0, none⟩ = some (.pointer (some ⟨rb, 0, none⟩)) by simp [World.cell?, hbk])).mono ?_
              rintro e u' wz ⟨rfl, rfl, hg9, d', hA9, hd9⟩
              have hd9' := hd9 (by omega) (by omega)
              have hsv := SVP.keep (W' := wz) (fun b hb hp => hg9.block b hb (fun e => by have := Option.some.inj e; omega)) HAc.out.done
              refine ⟨_, results_tmp rfl _ _ _, ?_⟩
              refine ⟨keeps_more HG.out hg9 (fun k hk => .inl (Option.some.inj hk).symm), ?_⟩
              rw [if_pos hd6, HN.out]
              refine ⟨_, rfl, SVP.mono (fun b _ hp => by have := HBB.out; omega) hsv, ?_⟩
              rw [hd9', show (deep : Int) + 1 - 1 = deep by omega] at hA9
              exact hA9
            | some r1 =>
              have HC2 := Lib.hid (cut_yes rb r0 [35] r1 _ w3 h2 HA.out)
              have l1 := pre_len h2
              simp only [List.length_cons, List.length_nil] at l1
              have HN := Lib.hid (show NN deep true s = mapA (app (acc) (.node 6 [] 0 .nil .nil)) (NN deep true r1) by rw [HE.out, NN_mark HBa.out (by rw [← HR0.out]; exact h1) (by rw [← HR0.out]; exact h2), mapA_mapA, mapA_mapA, hW])
              clear h1 h2
              refine HC.out.mono ?_
              rintro e w5 ⟨rfl, rfl⟩
              go_wp2_with fail
              refine HC2.out.mono ?_
              rintro e w6 ⟨rfl, hg1, hA1⟩
              have hs5 : w5.heap.size ≤ w6.heap.size := hg1.size
              clear k0 HC HC2
              have HAc' := Lib.hid (HAc.out.step hg1 (.inl rfl))
              have HA' := Lib.hid hA1
              have hbk' := block_on hbk hg1 (by omega)
              have HG' := Lib.hid (keeps_more HG.out hg1 (fun k hk => .inl (Option.some.inj hk).symm))
              clear hg1 hA1 HAc HA hbk HG
              have HAc := HAc'; have HA := HA'; have hbk := hbk'; have HG := HG'
              clear HAc' HA' hbk' HG'
              have HO := Lib.hid HAc.out.2.2.2.2.1
              have hLW := HAc.out.2.2.1
              have hlw : w1.heap.size ≤ w6.heap.size := by have h1 := HAc.out.2.1; have h2 := HAc.out.2.2.1; omega
              have hlen : len (acc) ≤ 200000 := by first | omega | (simp only [app_len, len]; omega)
              go_wp2_with (at_builtin; go_loud (refine wpList_append_lies _ rfl _ _ 22 rfl w1.heap.size 35 i0 (.agg #[.int .i64 0, .string ⟨#[]⟩, .int .i64 0, .slice none 0 0]) 4 56 Tryz.underlying22 hi hz0 hz1 hz2 rfl (by decide) _ (len (acc)) (xs) rfl (HO.out.alloc _) ⟨w6.heap.size, 0, none⟩ 1 1 [.int .i64 6, .string ⟨#[]⟩, .int .i64 0, .slice none 0 0] rfl rfl (World.news_of_block (Go.heap_alloc_new _ _)) (fun x hx => by simp at hx; rcases hx with rfl | rfl | rfl | rfl <;> rfl) (by decide) (by unfold maxLen; omega) (by omega) (by simp; omega) _ rfl ?_; intro g cap w7 hown8 hgrow8 hat8 hlt8; have hownr : Hid (∀ k, (u5).ownBlock = some k → w1.heap.size ≤ k) := Lib.hid (fun k e => (HO.out.lt k e).1); have hnr : (u5).ownBlock ≠ some rb := (fun e => by have h1 := hownr.out rb e; have h2 := HAc.out.1; omega); have HA' := Lib.hid (HA.out.grown hgrow8 hnr); have HAc' := Lib.hid (HAc.out.more (el := .node 6 [] 0 .nil .nil) (body := .nil) (M := w6.heap.size) (by omega) (SVP.nil _ _) (by rw [app_len]; rfl) (fun _ _ h1 h2 => RdX.node h1 (acc) (xs) h2) hown8 hgrow8 hat8); have hbk' : w7.heap[bb]? = _ := (hgrow8.block bb (by simp; omega) (fun e => by have := hownr.out bb e.symm; omega)).trans ((Go.heap_alloc_old w6 _ (by omega)).trans hbk); have HG' := Lib.hid (keeps_more HG1.out HAc'.out.2.2.2.1 (fun k hk => .inl (Option.some.inj hk).symm)); clear hown8 hgrow8 hat8 hlt8 hownr hnr HO HAc HA hbk HG; have HAc := HAc'; have HA := HA'; have hbk := hbk'; have HG := HG'; clear HAc' HA' hbk' HG'))
              all_goals
                go_roundw
                case rel =>
                  refine ⟨r1, _, _, HA, HAc.out.raise, HN, ?_⟩
                  simp only [app_len, len]; omega
                case measure =>
                  rw [left_at HA.out, hlr]; omega
        | cons t0 t1 =>
          have hW : app acc (words (t0 :: t1) .nil) = app acc (.node 1 (t0 :: t1) 0 .nil .nil) := rfl
          have hel : 1 ≤ el := by have := hpl.2; simp at this; omega
          have HO := Lib.hid HAc.out.2.2.2.2.1
          have hLW := HAc.out.2.2.1
          have hlw : w1.heap.size ≤ w3.heap.size := by have h1 := HAc.out.2.1; have h2 := HAc.out.2.2.1; omega
          have hlen : len (acc) ≤ 200000 := by first | omega | (simp only [app_len, len]; omega)
          go_wp2_with (at_builtin; go_loud (refine wpList_append_lies _ rfl _ _ 22 rfl w1.heap.size 35 i0 (.agg #[.int .i64 0, .string ⟨#[]⟩, .int .i64 0, .slice none 0 0]) 4 56 Tryz.underlying22 hi hz0 hz1 hz2 rfl (by decide) _ (len (acc)) (xs) rfl (HO.out.alloc _) ⟨w3.heap.size, 0, none⟩ 1 1 [.int .i64 1, .string ⟨(t0 :: t1).toArray⟩, .int .i64 0, .slice none 0 0] rfl rfl (World.news_of_block (Go.heap_alloc_new _ _)) (fun x hx => by simp at hx; rcases hx with rfl | rfl | rfl | rfl <;> rfl) (by decide) (by unfold maxLen; omega) (by omega) (by simp; omega) _ rfl ?_; intro g cap w4 hown8 hgrow8 hat8 hlt8; have hownr : Hid (∀ k, (u5).ownBlock = some k → w1.heap.size ≤ k) := Lib.hid (fun k e => (HO.out.lt k e).1); have hnr : (u5).ownBlock ≠ some rb := (fun e => by have h1 := hownr.out rb e; have h2 := HAc.out.1; omega); have HA' := Lib.hid (HA.out.grown hgrow8 hnr); have HAc' := Lib.hid (HAc.out.more (el := .node 1 (t0 :: t1) 0 .nil .nil) (body := .nil) (M := w3.heap.size) (by omega) (SVP.nil _ _) (by rw [app_len]; rfl) (fun _ _ h1 h2 => RdX.node h1 (acc) (xs) h2) hown8 hgrow8 hat8); have hbk' : w4.heap[bb]? = _ := (hgrow8.block bb (by simp; omega) (fun e => by have := hownr.out bb e.symm; omega)).trans ((Go.heap_alloc_old w3 _ (by omega)).trans hbk); have HG' := Lib.hid (keeps_more HG1.out HAc'.out.2.2.2.1 (fun k hk => .inl (Option.some.inj hk).symm)); clear hown8 hgrow8 hat8 hlt8 hownr hnr HO HAc HA hbk HG; have HAc := HAc'; have HA := HA'; have hbk := hbk'; have HG := HG'; clear HAc' HA' hbk' HG'; have k0 : w4.cell? ⟨bb, 0, none⟩ = some (.pointer (some ⟨rb, 0, none⟩)) := (by simp [World.cell?, hbk])))
          all_goals
            cases h1 : pre [123] r0 with
            | some r1 =>
              have HC := Lib.hid (cut_yes rb r0 [123] r1 _ w4 h1 HA.out)
              have l1 := pre_len h1
              simp only [List.length_cons, List.length_nil] at l1
              have HE3 := Lib.hid (show NN deep true s = mapA (app acc (.node 1 (t0 :: t1) 0 .nil .nil)) (match argO deep true r1 with
                | none => none
                | some (p, r) => mapA (.node p.1 p.2.1 p.2.2.1 p.2.2.2 .nil) (NN deep true r)) by rw [HE.out, NN_arg HBa.out (by rw [← HR0.out]; exact h1), mapA_mapA, hW]; rfl)
              clear h1 k0
              refine HC.out.mono ?_
              rintro e w5 ⟨rfl, hg1, hA1⟩
              have hs5 : w4.heap.size ≤ w5.heap.size := hg1.size
              have HAc' := Lib.hid (HAc.out.step hg1 (.inl rfl))
              have HA' := Lib.hid hA1
              have hbk' := block_on hbk hg1 (by omega)
              have HG' := Lib.hid (keeps_more HG.out hg1 (fun k hk => .inl (Option.some.inj hk).symm))
              clear hg1 hA1 HAc HA hbk HG
              have HAc := HAc'; have HA := HA'; have hbk := hbk'; have HG := HG'
              clear HAc' HA' hbk' HG'
              have k0 : w5.cell? ⟨bb, 0, none⟩ = some (.pointer (some ⟨rb, 0, none⟩)) := by simp [World.cell?, hbk]
              have HM := Lib.hid (rarg_any n IH.out hn r1 deep true rb w5 (by omega) hd6 HA.out)
              have hLM := HAc.out.2.2.1
              clear HC
              go_wp2_with fail
              clear k0
              refine HM.out.mono ?_
              rintro e w6 ⟨hg1, hm⟩
              have hs6 : w5.heap.size ≤ w6.heap.size := hg1.size
              cases har : argO deep true r1 with
              | none =>
                rw [har] at hm
                obtain ⟨rfl, s9, d9, hA1⟩ := hm
                have HN := Lib.hid (show NN deep true s = none by rw [HE3.out, har]; rfl)
                clear har
                have HAc' := Lib.hid (HAc.out.step hg1 (.inl rfl))
                have HA' := Lib.hid hA1
                have hbk' := block_on hbk hg1 (by omega)
                have HG' := Lib.hid (keeps_more HG.out hg1 (fun k hk => .inl (Option.some.inj hk).symm))
                clear hg1 hA1 HAc HA hbk HG
                have HAc := HAc'; have HA := HA'; have hbk := hbk'; have HG := HG'
                clear HAc' HA' hbk' HG'
                unfold formP
                go_wp2_with fail
                refine leaves_cons (f := 41) (args := #[.pointer (some ⟨bb, 0, none⟩)]) (by simp) (by simp [go_sem]) ?_
                refine (less_deferred rb bb s9 _ _ w6 HA.out (show w6.cell? ⟨bb, 0, none⟩ = some (.pointer (some ⟨rb, 0, none⟩)) by simp [World.cell?, hbk])).mono ?_
                rintro e u' wz ⟨rfl, rfl, hg9, d', hA9, _⟩
                refine ⟨keeps_more HG.out hg9 (fun k hk => .inl (Option.some.inj hk).symm), ?_⟩
                rw [if_pos hd6, HN.out]
                exact ⟨rfl, _, _, hA9⟩
              | some q =>
                obtain ⟨⟨k, x, f, cs⟩, r2⟩ := q
                rw [har] at hm
                obtain ⟨v, rfl, hv, hA1⟩ := hm
                have l2 := argO_len har
                have HN := Lib.hid (show NN deep true s = mapA (app (app acc (.node 1 (t0 :: t1) 0 .nil .nil)) (.node k x f cs .nil)) (NN deep true r2) by rw [HE3.out, har]; exact mapA_mapA _ _ _)
                clear har HE3 HM
                have HV := Lib.hid hv
                simp only [] at hv hA1
                obtain ⟨va, vn, vc, rfl⟩ := hv.form
                clear hv
                have HAc' := Lib.hid (HAc.out.step hg1 (.inl rfl))
                have HA' := Lib.hid hA1
                have hbk' := block_on hbk hg1 (by omega)
                have HG' := Lib.hid (keeps_more HG.out hg1 (fun k hk => .inl (Option.some.inj hk).symm))
                clear hg1 hA1 HAc HA hbk HG
                have HAc := HAc'; have HA := HA'; have hbk := hbk'; have HG := HG'
                clear HAc' HA' hbk' HG'
                unfold nodeV
                have HO := Lib.hid HAc.out.2.2.2.2.1
                have hLW := HAc.out.2.2.1
                have hlw : w1.heap.size ≤ w6.heap.size := by have h1 := HAc.out.2.1; have h2 := HAc.out.2.2.1; omega
                have hlen : len (app acc (.node 1 (t0 :: t1) 0 .nil .nil)) ≤ 200000 := by first | omega | (simp only [app_len, len]; omega)
                go_wp2_with (at_builtin; go_loud (refine wpList_append_lies _ rfl _ _ 22 rfl w1.heap.size 35 i0 (.agg #[.int .i64 0, .string ⟨#[]⟩, .int .i64 0, .slice none 0 0]) 4 56 Tryz.underlying22 hi hz0 hz1 hz2 rfl (by decide) _ (len (app acc (.node 1 (t0 :: t1) 0 .nil .nil))) ((xs ++ [.int .i64 1, .string ⟨(t0 :: t1).toArray⟩, .int .i64 0, .slice none 0 0])) rfl (HO.out.alloc _) ⟨w6.heap.size, 0, none⟩ 1 1 [.int .i64 k, .string ⟨x.toArray⟩, .int .i64 f, .slice va vn vc] rfl rfl (World.news_of_block (Go.heap_alloc_new _ _)) (fun x hx => by simp at hx; rcases hx with rfl | rfl | rfl | rfl <;> rfl) (by decide) (by unfold maxLen; omega) (by omega) (by simp; omega) _ rfl ?_; intro g2 cap2 w7 hown8 hgrow8 hat8 hlt8; have hownr : Hid (∀ k, ((Value.slice (some ⟨g, 0, none⟩) (len acc + 1) cap)).ownBlock = some k → w1.heap.size ≤ k) := Lib.hid (fun k e => (HO.out.lt k e).1); have hnr : ((Value.slice (some ⟨g, 0, none⟩) (len acc + 1) cap)).ownBlock ≠ some rb := (fun e => by have h1 := hownr.out rb e; have h2 := HAc.out.1; omega); have HA' := Lib.hid (HA.out.grown hgrow8 hnr); have HAc' := Lib.hid (HAc.out.more (el := .node k x f cs .nil) (body := cs) (M := w5.heap.size) (by omega) HV.out (by rw [app_len]; rfl) (fun _ _ h1 h2 => RdX.node h1 (app acc (.node 1 (t0 :: t1) 0 .nil .nil)) ((xs ++ [.int .i64 1, .string ⟨(t0 :: t1).toArray⟩, .int .i64 0, .slice none 0 0])) h2) hown8 hgrow8 hat8); have hbk' : w7.heap[bb]? = _ := (hgrow8.block bb (by simp; omega) (fun e => by have := hownr.out bb e.symm; omega)).trans ((Go.heap_alloc_old w6 _ (by omega)).trans hbk); have HG' := Lib.hid (keeps_more HG1.out HAc'.out.2.2.2.1 (fun k hk => .inl (Option.some.inj hk).symm)); clear hown8 hgrow8 hat8 hlt8 hownr hnr HO HAc HA hbk HG; have HAc := HAc'; have HA := HA'; have hbk := hbk'; have HG := HG'; clear HAc' HA' hbk' HG'))
                all_goals
                  go_roundw
                  case rel =>
                    refine ⟨r2, _, _, HA, HAc.out.raise, HN, ?_⟩
                    simp only [app_len, len]; omega
                  case measure =>
                    rw [left_at HA.out, hlr]; omega
            | none =>
              have HC := Lib.hid (cut_no rb r0 [123] _ w4 h1 HA.out)
              cases h2 : pre [35] r0 with
              | none =>
                have HC2 := Lib.hid (cut_no rb r0 [35] _ w4 h2 HA.out)
                have HN := Lib.hid (show NN deep true s = some (app acc (.node 1 (t0 :: t1) 0 .nil .nil), r0) by rw [HE.out, NN_end HBa.out (by rw [← HR0.out]; exact h1) (fun _ => by rw [← HR0.out]; exact h2), ← HR0.out]; show some (app acc _, r0) = _; rw [hW])
                clear h1 h2
                refine HC.out.mono ?_
                rintro e w5 ⟨rfl, rfl⟩
                go_wp2_with fail
                refine HC2.out.mono ?_
                rintro e w6 ⟨rfl, rfl⟩
                clear k0 HC HC2
                go_wp2_with fail
                refine leaves_cons (f := 41) (args := #[.pointer (some ⟨bb, 0, none⟩)]) (by simp) (by simp [go_sem]) ?_
                refine (less_deferred rb bb r0 _ _ w6 HA.out (show w6.cell? ⟨bb, 0, none⟩ = some (.pointer (some ⟨rb, 0, none⟩)) by simp [World.cell?, hbk])).mono ?_
                rintro e u' wz ⟨rfl, rfl, hg9, d', hA9, hd9⟩
                have hd9' := hd9 (by omega) (by omega)
                have hsv := SVP.keep (W' := wz) (fun b hb hp => hg9.block b hb (fun e => by have := Option.some.inj e; omega)) HAc.out.done
                refine ⟨_, results_tmp rfl _ _ _, ?_⟩
                refine ⟨keeps_more HG.out hg9 (fun k hk => .inl (Option.some.inj hk).symm), ?_⟩
                rw [if_pos hd6, HN.out]
                refine ⟨_, rfl, SVP.mono (fun b _ hp => by have := HBB.out; omega) hsv, ?_⟩
                rw [hd9', show (deep : Int) + 1 - 1 = deep by omega] at hA9
                exact hA9
              | some r1 =>
                have HC2 := Lib.hid (cut_yes rb r0 [35] r1 _ w4 h2 HA.out)
                have l1 := pre_len h2
                simp only [List.length_cons, List.length_nil] at l1
                have HN := Lib.hid (show NN deep true s = mapA (app (app acc (.node 1 (t0 :: t1) 0 .nil .nil)) (.node 6 [] 0 .nil .nil)) (NN deep true r1) by rw [HE.out, NN_mark HBa.out (by rw [← HR0.out]; exact h1) (by rw [← HR0.out]; exact h2), mapA_mapA, mapA_mapA, hW])
                clear h1 h2
                refine HC.out.mono ?_
                rintro e w5 ⟨rfl, rfl⟩
                go_wp2_with fail
                refine HC2.out.mono ?_
                rintro e w6 ⟨rfl, hg1, hA1⟩
                have hs5 : w5.heap.size ≤ w6.heap.size := hg1.size
                clear k0 HC HC2
                have HAc' := Lib.hid (HAc.out.step hg1 (.inl rfl))
                have HA' := Lib.hid hA1
                have hbk' := block_on hbk hg1 (by omega)
                have HG' := Lib.hid (keeps_more HG.out hg1 (fun k hk => .inl (Option.some.inj hk).symm))
                clear hg1 hA1 HAc HA hbk HG
                have HAc := HAc'; have HA := HA'; have hbk := hbk'; have HG := HG'
                clear HAc' HA' hbk' HG'
                have HO := Lib.hid HAc.out.2.2.2.2.1
                have hLW := HAc.out.2.2.1
                have hlw : w1.heap.size ≤ w6.heap.size := by have h1 := HAc.out.2.1; have h2 := HAc.out.2.2.1; omega
                have hlen : len (app acc (.node 1 (t0 :: t1) 0 .nil .nil)) ≤ 200000 := by first | omega | (simp only [app_len, len]; omega)
                go_wp2_with (at_builtin; go_loud (refine wpList_append_lies _ rfl _ _ 22 rfl w1.heap.size 35 i0 (.agg #[.int .i64 0, .string ⟨#[]⟩, .int .i64 0, .slice none 0 0]) 4 56 Tryz.underlying22 hi hz0 hz1 hz2 rfl (by decide) _ (len (app acc (.node 1 (t0 :: t1) 0 .nil .nil))) ((xs ++ [.int .i64 1, .string ⟨(t0 :: t1).toArray⟩, .int .i64 0, .slice none 0 0])) rfl (HO.out.alloc _) ⟨w6.heap.size, 0, none⟩ 1 1 [.int .i64 6, .string ⟨#[]⟩, .int .i64 0, .slice none 0 0] rfl rfl (World.news_of_block (Go.heap_alloc_new _ _)) (fun x hx => by simp at hx; rcases hx with rfl | rfl | rfl | rfl <;> rfl) (by decide) (by unfold maxLen; omega) (by omega) (by simp; omega) _ rfl ?_; intro g2 cap2 w7 hown8 hgrow8 hat8 hlt8; have hownr : Hid (∀ k, ((Value.slice (some ⟨g, 0, none⟩) (len acc + 1) cap)).ownBlock = some k → w1.heap.size ≤ k) := Lib.hid (fun k e => (HO.out.lt k e).1); have hnr : ((Value.slice (some ⟨g, 0, none⟩) (len acc + 1) cap)).ownBlock ≠ some rb := (fun e => by have h1 := hownr.out rb e; have h2 := HAc.out.1; omega); have HA' := Lib.hid (HA.out.grown hgrow8 hnr); have HAc' := Lib.hid (HAc.out.more (el := .node 6 [] 0 .nil .nil) (body := .nil) (M := w6.heap.size) (by omega) (SVP.nil _ _) (by rw [app_len]; rfl) (fun _ _ h1 h2 => RdX.node h1 (app acc (.node 1 (t0 :: t1) 0 .nil .nil)) ((xs ++ [.int .i64 1, .string ⟨(t0 :: t1).toArray⟩, .int .i64 0, .slice none 0 0])) h2) hown8 hgrow8 hat8); have hbk' : w7.heap[bb]? = _ := (hgrow8.block bb (by simp; omega) (fun e => by have := hownr.out bb e.symm; omega)).trans ((Go.heap_alloc_old w6 _ (by omega)).trans hbk); have HG' := Lib.hid (keeps_more HG1.out HAc'.out.2.2.2.1 (fun k hk => .inl (Option.some.inj hk).symm)); clear hown8 hgrow8 hat8 hlt8 hownr hnr HO HAc HA hbk HG; have HAc := HAc'; have HA := HA'; have hbk := hbk'; have HG := HG'; clear HAc' HA' hbk' HG'))
                all_goals
                  go_roundw
                  case rel =>
                    refine ⟨r1, _, _, HA, HAc.out.raise, HN, ?_⟩
                    simp only [app_len, len]; omega
                  case measure =>
                    rw [left_at HA.out, hlr]; omega
end Go.Proofs.YtgkphpjnfigjiaaGreatDoor
