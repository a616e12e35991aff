/-
  plural.Kind.
-/
import Derived.Test.YtnefcilopgcdpaaGreatDoorPlu
import Derived.Test.YtnefcilopgcdpaaGreatDoorDecB
namespace Go.Proofs.YtnefcilopgcdpaaGreatDoor
open Go.RowKit Go.Sort Ms

theorem opsStrip_nn : ∀ (n : Nat) (t : Int), 0 ≤ t → 0 ≤ (opsStrip n t).1 ∧ 0 ≤ (opsStrip n t).2
  | 0, t, h => ⟨by simp [opsStrip], h⟩
  | n + 1, t, h => by
    unfold opsStrip
    split
    · exact opsStrip_nn n _ (by rw [Int.tdiv_eq_ediv_of_nonneg h]; omega)
    · exact ⟨by simp only; omega, h⟩
theorem opsOf_ok (c : Int) (s : Nat) : OpOk (opsOf ⟨c, s⟩) := by
  have h0 : (0 : Int) ≤ (c.natAbs : Int) := by omega
  have hp : (0 : Int) < 10 ^ s := Int.pow_pos (by decide)
  have hm : 0 ≤ (c.natAbs : Int).tmod (10 ^ s) := Int.tmod_nonneg _ h0
  have hst := opsStrip_nn s _ hm
  unfold opsOf
  simp only [Int.toNat_natCast]
  refine ⟨?_, ?_, hst.1, hm, hst.2⟩
  · simp only
    rw [Int.tdiv_eq_ediv_of_nonneg h0]
    exact Int.ediv_nonneg h0 (by omega)
  · simp only; omega
/-- plural's own variable -/
def PlAt (w : World) : Prop := ∀ j, j < 5 → w.cell? ⟨5, j, none⟩ = some (.string ⟨(kindsL.getD j []).toArray⟩)
theorem PlAt.below {w w' : World} (h : PlAt w) (hb : Below w.heap.size w w') : PlAt w' := fun j hj => keepCells hb _ _ _ (h j hj)
theorem kindGo_step (O : Op5) (L K : List (List UInt8)) (i : Nat) (hL : i < L.length) (hK : i < K.length) :
    kindGo O (L.drop i) (K.drop i) = if (!(L.getD i []).isEmpty && ruleHolds O (ruleOf (L.getD i []))) = true then K.getD i [] else kindGo O (L.drop (i + 1)) (K.drop (i + 1)) := by
  rw [List.drop_eq_getElem_cons hL, List.drop_eq_getElem_cons hK, List.getD_eq_getElem?_getD, List.getD_eq_getElem?_getD, List.getElem?_eq_getElem hL, List.getElem?_eq_getElem hK]
  rfl
set_option maxHeartbeats 8000000 in
set_option maxRecDepth 100000 in
theorem kind_any (z o t f m : List UInt8) (c : Int) (s : Nat) (w : World) (h : ∀ s ∈ [z, o, t, f, m], SetText s) (hd : decBad ⟨c, s⟩ = false) (hm : MW w) (hx : MaxAt w) (hp : PlAt w) :
    Calls Tryz.prog 67 #[setV z o t f m, dcV ⟨c, s⟩] w fun e w' => e = .returned (.tuple #[.string ⟨(kindOf [z, o, t, f, m] ⟨c, s⟩).toArray⟩, .nilIface]) ∧ Below w.heap.size w w' := by
  have HCk := Lib.hid (fun W hm hx => pcheck_any z o t f m W h hm hx)
  have HOf := Lib.hid (fun W => ops_any c s W hd)
  have HT := Lib.hid (fun W => ptexts_any z o t f m W)
  have HI := Lib.hid (set_index z o t f m)
  obtain ⟨K, hK⟩ : ∃ K, K = kindOf [z, o, t, f, m] ⟨c, s⟩ := ⟨_, rfl⟩
  rw [← hK]
  obtain ⟨O, hO⟩ : ∃ O, O = opsOf ⟨c, s⟩ := ⟨_, rfl⟩
  have hOk : OpOk O := by rw [hO]; exact opsOf_ok c s
  obtain ⟨L, hL⟩ : ∃ L : List (List UInt8), L = [z, o, t, f, m] := ⟨_, rfl⟩
  have hll : L.length = 5 := by rw [hL]; rfl
  have hKe : kindGo O L kindsL = K := by rw [hK, hO, hL]; rfl
  rw [← hL] at h HI
  rw [← hO] at HOf
  obtain ⟨k0, k1, kb, ksz⟩ := two_boxes w (Obj.cells #[.string ⟨z.toArray⟩, .string ⟨o.toArray⟩, .string ⟨t.toArray⟩, .string ⟨f.toArray⟩, .string ⟨m.toArray⟩] 41) (Obj.cells #[Value.int IntKind.i64 c, Value.int IntKind.i64 s] 51)
  have HS := Lib.hid h; have HM := Lib.hid hm; have HX := Lib.hid hx; have HP := Lib.hid hp; have HLl := Lib.hid hll; have HKe := Lib.hid hKe; have HOk := Lib.hid hOk
  clear h hd hm hx hp hL hll hKe hK hO hOk
  unfold setV at HT HI HCk ⊢
  unfold dcV at HOf ⊢
  go_enter Tryz.func67, Tryz.ntmps67
  go_wp2_with fail
  generalize ((w.alloc (Obj.cells #[.string ⟨z.toArray⟩, .string ⟨o.toArray⟩, .string ⟨t.toArray⟩, .string ⟨f.toArray⟩, .string ⟨m.toArray⟩] 41)).alloc (Obj.cells #[Value.int IntKind.i64 c, Value.int IntKind.i64 s] 51)) = w1 at *
  refine (HCk.out _ (HM.out.below kb) (HX.out.below rfl kb)).mono ?_
  rintro e w2 ⟨rfl, hb⟩
  have K0 := Lib.hid ((hb.block _ (by omega)).trans k0)
  have K1 := Lib.hid ((hb.block _ (by omega)).trans k1)
  have KB := Lib.hid (kb.trans (hb.mono (by omega)))
  have hsz2 : w.heap.size + 2 ≤ w2.heap.size := by have := hb.size; omega
  clear hb k0 k1 kb ksz HCk
  have y0 := block_cell (i := 0) K1.out rfl
  have y1 := block_cell (i := 1) K1.out rfl
  go_wp2_with fail
  refine (HOf.out _).mono ?_
  rintro e w3 ⟨rfl, hb⟩
  have k0 := (hb.block _ (by omega)).trans K0.out
  have KB3 := Lib.hid (KB.out.trans (hb.mono (by omega)))
  have hsz3 : w.heap.size + 2 ≤ w3.heap.size := by have := hb.size; omega
  clear hb K0 K1 KB y0 y1 HOf hsz2
  have x0 := block_cell (i := 0) k0 rfl
  have x1 := block_cell (i := 1) k0 rfl
  have x2 := block_cell (i := 2) k0 rfl
  have x3 := block_cell (i := 3) k0 rfl
  have x4 := block_cell (i := 4) k0 rfl
  have hl0 : w.heap.size < w3.heap.size := by omega
  clear k0
  unfold opV
  go_wp2_with fail
  obtain ⟨w4, hw4⟩ : ∃ w4, w4 = w3.alloc (opO O) := ⟨_, rfl⟩
  have hbo : Below w3.heap.size w3 w4 := by rw [hw4]; exact (Below.refl _ w3).alloc (Nat.le_refl _) _
  have hko : w4.heap[w3.heap.size]? = some (opO O) := by rw [hw4]; exact Go.heap_alloc_new w3 _
  unfold opO at hw4
  rw [← hw4]
  clear hw4
  refine (HT.out _).mono ?_
  rintro e w5 ⟨rfl, hb⟩
  have hol : w3.heap.size < w4.heap.size := (Array.getElem?_eq_some_iff.1 hko).1
  have HKo := Lib.hid ((hb.block _ hol).trans hko)
  have HB5 := Lib.hid ((KB3.out.trans (hbo.mono KB3.out.size)).trans (hb.mono (by omega)))
  obtain ⟨ob, hob⟩ : ∃ ob, ob = w3.heap.size := ⟨_, rfl⟩
  rw [← hob] at HKo ⊢
  have hwo : w.heap.size ≤ ob := by omega
  clear hb hbo hko hol HT KB3 x0 x1 x2 x3 x4 hl0 hsz3 hob
  go_wp2_with fail
  go_loopw [30] (fun i wr => ∃ i' : Nat, i = .int .i64 i' ∧ i' ≤ 5 ∧ Hid (kindGo O (L.drop i') (kindsL.drop i') = K) ∧ Hid (wr.heap[ob]? = some (opO O)) ∧ Hid (Below w.heap.size w wr)) (fun i _ => 5 - (intOf i).toNat)
  case atStart => exact ⟨0, rfl, by decide, HKe, HKo, HB5⟩
  case round =>
    clear HKe HKo HB5
    obtain ⟨i, rfl, hi, HKe, HKo, HB1⟩ := hrel
    by_cases hlt : i < 5
    · have hix := HI.out i hlt
      have hst := HS.out (L.getD i []) (mem_getD L [] i (by rw [HLl.out]; exact hlt))
      have hkg := kindGo_step O L kindsL i (by rw [HLl.out]; exact hlt) (by show i < 6; omega)
      rw [HKe.out] at hkg
      have hpl := (HP.out.below HB1.out) i hlt
      have hpl' := HP.out
      obtain ⟨T, hT⟩ : ∃ T, T = L.getD i [] := ⟨_, rfl⟩
      obtain ⟨N, hN⟩ : ∃ N, N = kindsL.getD i [] := ⟨_, rfl⟩
      rw [← hT] at hix hst hkg
      rw [← hN] at hkg hpl
      have HKg := Lib.hid hkg; have HN := Lib.hid hN
      clear hT hN hkg
      by_cases he : T = []
      · have hem := emp_of he
        have HKn := Lib.hid (show kindGo O (L.drop (i + 1)) (kindsL.drop (i + 1)) = K by have := HKg.out; rw [hem] at this; exact this.symm)
        subst he
        clear hst HKg hpl hpl'
        go_wp2_with fail
        go_roundw
        case rel => exact ⟨i + 1, by go_num, by omega, HKn, HKo, HB1⟩
        case measure => simp [intOf]; omega
      · have hne := not_emp_of he
        have hne2 : (!T.isEmpty) = true := by rw [hne]; rfl
        obtain ⟨q1, q2, q3⟩ := hst.resolve_left he
        have HPr := Lib.hid (parse_ok T wr (by omega) q1 q2 (HM.out.below HB1.out) (HX.out.below rfl HB1.out))
        have HR := Lib.hid q1
        have HKh := Lib.hid (show K = if ruleHolds O (ruleOf T) = true then N else kindGo O (L.drop (i + 1)) (kindsL.drop (i + 1)) by have := HKg.out; rw [hne2, Bool.true_and] at this; exact this)
        clear hst q1 q2 q3 he HKg hpl hpl'
        go_wp2_with fail
        refine HPr.out.mono ?_
        rintro e w6 ⟨⟨v, rfl, hv⟩, hb⟩
        have HB6 := Lib.hid (HB1.out.trans (hb.mono HB1.out.size))
        have k6 := (hb.block ob (Array.getElem?_eq_some_iff.1 HKo.out).1).trans HKo.out
        have HK6 := Lib.hid k6
        have HH := Lib.hid (rholds_any (ruleOf T) v O w6 HR.out HOk.out hv)
        obtain ⟨va, vc, vu, rfl, hvu⟩ := hv.places
        have x0 := block_cell (i := 0) k6 rfl
        have x1 := block_cell (i := 1) k6 rfl
        have x2 := block_cell (i := 2) k6 rfl
        have x3 := block_cell (i := 3) k6 rfl
        have x4 := block_cell (i := 4) k6 rfl
        unfold opV at HH
        clear hv hvu hb HPr k6
        go_wp2_with fail
        refine HH.out.mono ?_
        rintro e w7 ⟨rfl, hb⟩
        have HB7 := Lib.hid (HB6.out.trans (hb.mono HB6.out.size))
        have HK7 := Lib.hid ((hb.block ob (Array.getElem?_eq_some_iff.1 HK6.out).1).trans HK6.out)
        clear hb x0 x1 x2 x3 x4 HH
        cases hrh : ruleHolds O (ruleOf T) with
        | false =>
          have HKn := Lib.hid (show kindGo O (L.drop (i + 1)) (kindsL.drop (i + 1)) = K by rw [HKh.out, hrh]; rfl)
          clear hrh HKh
          go_wp2_with fail
          go_roundw
          case rel => exact ⟨i + 1, by go_num, by omega, HKn, HK7, HB7⟩
          case measure => simp [intOf]; omega
        | true =>
          have HKn := Lib.hid (show N = K by rw [HKh.out, hrh]; rfl)
          have hpl7 := (HP.out.below HB7.out) i hlt
          rw [← HN.out] at hpl7
          clear hrh HKh HN
          go_wp2_with fail
          go_ret2
          exact ⟨by rw [HKn.out]; rfl, HB7.out⟩
    · obtain rfl : i = 5 := by omega
      have HKn := Lib.hid (show K = otherK by
        rw [← HKe.out, List.drop_of_length_le (by rw [HLl.out]; exact Nat.le_refl _)]; rfl)
      clear HKe
      go_wp2_with fail
      go_ret2
      exact ⟨by rw [HKn.out]; rfl, HB1.out⟩
end Go.Proofs.YtnefcilopgcdpaaGreatDoor
