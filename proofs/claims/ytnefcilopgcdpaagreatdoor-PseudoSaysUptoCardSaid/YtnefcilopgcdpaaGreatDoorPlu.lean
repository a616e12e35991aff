/-
  rule.Holds; plural.texts, plural.Check, plural.Kind at sets of right rules.
  lang.rules, lang.Rules.
-/
import Derived.Test.YtnefcilopgcdpaaGreatDoorRparse
import Derived.Test.YtnefcilopgcdpaaGreatDoorPsay
import Derived.Test.YtnefcilopgcdpaaGreatDoorMaps
namespace Go.Proofs.YtnefcilopgcdpaaGreatDoor
open Go.RowKit Go.Sort

set_option maxHeartbeats 1000000 in
theorem rholds_any (r : List (List Re)) (v : Value) (o : Op5) (w : World) (h : RuleOk r) (ho : OpOk o) (hv : RuleR w v r) :
    Calls Tryz.prog 94 #[v, opV o] w fun e w' => e = .returned (.tuple #[.bool (ruleHolds o r), .nilIface]) ∧ Below w.heap.size w w' := by
  obtain ⟨a, c, u, rfl, hu, hp⟩ := hv.places
  have K0 := Lib.hid (Go.heap_alloc_new w (opO o))
  have hB := (Below.refl w.heap.size w).alloc (Nat.le_refl _) (opO o)
  have HC := Lib.hid (fun W hW => rcheck_any r _ W h (hv.below hW))
  have hl := ruleOk_short h
  have HH : Hid (∀ W, Below w.heap.size w W → W.heap[w.heap.size]? = some (opO o) → Calls Tryz.prog 120 #[.slice a r.length c, .func (.func 121) #[] #[.pointer (some ⟨w.heap.size, 0, none⟩)]] W fun e w' => e = .returned (.bool (ruleHolds o r)) ∧ Below W.heap.size W w') := Lib.hid (by
    intro W hW hx
    obtain ⟨a', c', u', he, hu', hp'⟩ := (hv.below hW).places
    simp only [Value.slice.injEq] at he
    obtain ⟨rfl, _, rfl⟩ := he
    have hlt : w.heap.size < W.heap.size := (Array.getElem?_eq_some_iff.1 hx).1
    have hj := contPartAll a r.length c u' (fun i => partHolds o (r.getD i [])) w.heap.size W (by omega) (fun i hi => (hu' i hi).form) hp' (fun i hi W' hB' => holds1p_any _ _ o w.heap.size W' (h.2 _ (mem_getD r [] i hi)) ho ((hu' i hi).below hB') ((hB'.block _ hlt).trans hx))
    rw [anyI_list (partHolds o) [] r 0 _ (fun j hj => by rw [Nat.zero_add])] at hj
    exact hj)
  have HB := Lib.hid hB
  have hsz : (w.alloc (opO o)).heap.size = w.heap.size + 1 := by simp
  have HZ := Lib.hid hsz
  clear hB hu hp hv h hsz
  unfold opV
  go_enter Tryz.func94, Tryz.ntmps94
  go_wp2_with fail
  refine (HC.out _ HB.out).mono ?_
  rintro e w1 ⟨rfl, hb⟩
  have HB1 := Lib.hid (HB.out.trans (hb.mono HB.out.size))
  have K1 := Lib.hid ((hb.block w.heap.size (by show w.heap.size < (w.alloc (opO o)).heap.size; rw [HZ.out]; omega)).trans K0.out)
  clear hb
  go_wp2_with fail
  refine (HH.out _ HB1.out K1.out).mono ?_
  rintro e w2 ⟨rfl, hb⟩
  have HB2 := Lib.hid (HB1.out.trans (hb.mono HB1.out.size))
  clear hb
  go_wp2_with fail
  go_ret2
  exact ⟨rfl, HB2.out⟩

theorem langs_short : ∀ p ∈ langs, ∀ s ∈ p.2, ((ruleOf s).all fun q => q.all fun r => decide (r.rs.length ≤ 1000)) = true := by decide +kernel
/-- a text of a set: none, or a right rule's -/
def SetText (s : List UInt8) : Prop := s = [] ∨ (RuleOk (ruleOf s) ∧ ruleText (ruleOf s) = s ∧ s.length ≤ 200)
theorem okText_rule {s : List UInt8} (h : okText s = true) (hs : ((ruleOf s).all fun q => q.all fun r => decide (r.rs.length ≤ 1000)) = true) : RuleOk (ruleOf s) ∧ ruleText (ruleOf s) = s ∧ s.length ≤ 200 := by
  unfold okText at h
  simp only [Bool.and_eq_true, decide_eq_true_eq] at h
  obtain ⟨⟨⟨h1, h2⟩, h3⟩, _⟩ := h
  refine ⟨⟨h1, fun p hp => ?_⟩, h2, h3⟩
  have hf := h1
  unfold ruleFine at hf
  simp only [Bool.and_eq_true, List.all_eq_true, decide_eq_true_eq] at hf hs
  have hpf := hf.1.2 p hp
  unfold partFine at hpf
  simp only [Bool.and_eq_true, List.all_eq_true] at hpf
  have hlen : p.length ≤ 1000 := by
    have : p.length ≤ ((ruleOf s).map List.length).sum := by
      have : ∀ (l : List (List Re)), p ∈ l → p.length ≤ (l.map List.length).sum := by
        intro l
        induction l with
        | nil => intro h; cases h
        | cons q l ih =>
          intro h
          simp only [List.map_cons, List.sum_cons]
          rcases List.mem_cons.1 h with rfl | h
          · omega
          · have := ih h; omega
      exact this _ hp
    have := hf.2
    omega
  refine ⟨hlen, fun r hr => ?_⟩
  have hrf := hpf.2 r hr
  unfold relFine at hrf
  simp only [Bool.and_eq_true, decide_eq_true_eq, Bool.not_eq_true'] at hrf
  obtain ⟨⟨⟨⟨g1, g2⟩, g3⟩, g4⟩, g5⟩ := hrf
  refine ⟨by simpa using g1, ⟨g2, g3⟩, hs p hp r hr, fun q hq => ?_⟩
  have hq2 : rngBad q = false := by
    rw [List.any_eq_false] at g5
    simpa using g5 q hq
  unfold rngBad at hq2
  simp only [Bool.or_eq_false_iff, decide_eq_false_iff_not] at hq2
  unfold rngOk
  omega
theorem setOf_texts (l : List UInt8) : (setOf l).length = 5 ∧ ∀ s ∈ setOf l, SetText s := by
  unfold setOf
  split
  · next p hp =>
    have hm := List.mem_of_find?_eq_some hp
    have h := langs_ok p hm
    refine ⟨h.1, fun s hs => ?_⟩
    rcases h.2 s hs with he | he
    · exact .inl he
    · exact .inr (okText_rule he (langs_short p hm s hs))
  · refine ⟨rfl, fun s hs => ?_⟩
    have : ∀ s ∈ noSet, s = [] := by decide
    exact .inl (this s hs)
/-! ### plural -/
def setV (z o t f m : List UInt8) : Value := .agg #[.string ⟨z.toArray⟩, .string ⟨o.toArray⟩, .string ⟨t.toArray⟩, .string ⟨f.toArray⟩, .string ⟨m.toArray⟩]
set_option maxHeartbeats 1000000 in
theorem ptexts_any (z o t f m : List UInt8) (w : World) :
    Calls Tryz.prog 92 #[setV z o t f m] w fun e w' => e = .returned (setV z o t f m) ∧ Below w.heap.size w w' := by
  unfold setV
  have hB := ((Below.refl w.heap.size w).alloc (Nat.le_refl _) (Obj.cells #[.string ⟨z.toArray⟩, .string ⟨o.toArray⟩, .string ⟨t.toArray⟩, .string ⟨f.toArray⟩, .string ⟨m.toArray⟩] 41))
  go_enter Tryz.func92, Tryz.ntmps92
  go_wp2_with fail
  refine bodyPost_ret (v := .agg #[.string ⟨z.toArray⟩, .string ⟨o.toArray⟩, .string ⟨t.toArray⟩, .string ⟨f.toArray⟩, .string ⟨m.toArray⟩]) (by simp [results, Tryz.results92, go_sem]) rfl ⟨rfl, hB.alloc (by simp) _⟩
theorem set_index (z o t f m : List UInt8) (i : Nat) (hi : i < 5) (w : World) :
    (Instr.index 172 (setV z o t f m) (.int .i64 (i : Int))).run Tryz.prog w = .ok (.string ⟨(([z, o, t, f, m] : List (List UInt8)).getD i []).toArray⟩) w := by
  have h0 : ∀ w, (Instr.index 172 (setV z o t f m) (.int .i64 0)).run Tryz.prog w = .ok (.string ⟨z.toArray⟩) w := fun _ => by kernel_rfl
  have h1 : ∀ w, (Instr.index 172 (setV z o t f m) (.int .i64 1)).run Tryz.prog w = .ok (.string ⟨o.toArray⟩) w := fun _ => by kernel_rfl
  have h2 : ∀ w, (Instr.index 172 (setV z o t f m) (.int .i64 2)).run Tryz.prog w = .ok (.string ⟨t.toArray⟩) w := fun _ => by kernel_rfl
  have h3 : ∀ w, (Instr.index 172 (setV z o t f m) (.int .i64 3)).run Tryz.prog w = .ok (.string ⟨f.toArray⟩) w := fun _ => by kernel_rfl
  have h4 : ∀ w, (Instr.index 172 (setV z o t f m) (.int .i64 4)).run Tryz.prog w = .ok (.string ⟨m.toArray⟩) w := fun _ => by kernel_rfl
  match i, hi with
  | 0, _ => exact h0 w
  | 1, _ => exact h1 w
  | 2, _ => exact h2 w
  | 3, _ => exact h3 w
  | 4, _ => exact h4 w
theorem emp_of {T : List UInt8} (h : T = []) : T.isEmpty = true := by subst h; rfl
theorem not_emp_of {T : List UInt8} (h : T ≠ []) : T.isEmpty = false := by
  cases T with
  | nil => exact absurd rfl h
  | cons c l => rfl
set_option maxHeartbeats 4000000 in
set_option maxRecDepth 100000 in
theorem pcheck_any (z o t f m : List UInt8) (w : World) (h : ∀ s ∈ [z, o, t, f, m], SetText s) (hm : MW w) (hx : MaxAt w) :
    Calls Tryz.prog 90 #[setV z o t f m] w fun e w' => e = .returned .nilIface ∧ Below w.heap.size w w' := by
  have HT := Lib.hid (fun W => ptexts_any z o t f m W)
  have HI := Lib.hid (set_index z o t f m)
  obtain ⟨L, hL⟩ : ∃ L : List (List UInt8), L = [z, o, t, f, m] := ⟨_, rfl⟩
  have hll : L.length = 5 := by rw [hL]; rfl
  rw [← hL] at h HI
  have HS := Lib.hid h; have HM := Lib.hid hm; have HX := Lib.hid hx; have HLl := Lib.hid hll
  have HB := Lib.hid ((Below.refl w.heap.size w).alloc (Nat.le_refl _) (Obj.cells #[.string ⟨z.toArray⟩, .string ⟨o.toArray⟩, .string ⟨t.toArray⟩, .string ⟨f.toArray⟩, .string ⟨m.toArray⟩] 41))
  clear h hm hx hL hll
  unfold setV at HT HI ⊢
  go_enter Tryz.func90, Tryz.ntmps90
  go_wp2_with fail
  refine (HT.out _).mono ?_
  rintro e w1 ⟨rfl, hb⟩
  have HB1 := Lib.hid (HB.out.trans (hb.mono HB.out.size))
  clear hb HT
  go_wp2_with fail
  go_loopw [9] (fun i wr => ∃ i' : Nat, i = .int .i64 i' ∧ i' ≤ 5 ∧ Hid (Below w.heap.size w wr)) (fun i _ => 5 - (intOf i).toNat)
  case atStart => exact ⟨0, rfl, by decide, HB1⟩
  case round =>
    clear HB1
    obtain ⟨i, rfl, hi, HB1⟩ := hrel
    by_cases hlt : i < 5
    · have hix := HI.out i hlt
      have hst := HS.out (L.getD i []) (mem_getD L [] i (by rw [HLl.out]; exact hlt))
      obtain ⟨T, hT⟩ : ∃ T, T = L.getD i [] := ⟨_, rfl⟩
      rw [← hT] at hix hst
      clear hT
      by_cases he : T = []
      · have hem := emp_of he
        subst he
        clear hst
        go_wp2_with fail
        go_roundw
        case rel => exact ⟨i + 1, by go_num, by omega, HB1⟩
        case measure => simp [intOf]; omega
      · have hne := not_emp_of he
        have hne2 : (!T.isEmpty) = true := by rw [hne]; rfl
        obtain ⟨q1, q2, q3⟩ := hst.resolve_left he
        have HP := Lib.hid (parse_ok T wr (by omega) q1 q2 (HM.out.below HB1.out) (HX.out.below rfl HB1.out))
        clear hst q1 q2 q3 he
        go_wp2_with fail
        refine HP.out.mono ?_
        rintro e w3 ⟨⟨v, rfl, hv⟩, hb⟩
        have HB3 := Lib.hid (HB1.out.trans (hb.mono HB1.out.size))
        obtain ⟨va, vc, vu, rfl, hvu⟩ := hv.places
        clear hv hvu hb
        go_wp2_with fail
        go_roundw
        case rel => exact ⟨i + 1, by go_num, by omega, HB3⟩
        case measure => simp [intOf]; omega
    · obtain rfl : i = 5 := by omega
      go_wp2_with fail
      go_ret
      exact ⟨rfl, HB1.out⟩
end Go.Proofs.YtnefcilopgcdpaaGreatDoor
namespace Go.Proofs.YtnefcilopgcdpaaGreatDoor
open Go.RowKit Go.Sort

theorem str_ne {a b : List UInt8} (h : a ≠ b) : (Value.string ⟨a.toArray⟩ : Value) ≠ .string ⟨b.toArray⟩ := by
  intro e
  have : (⟨a.toArray⟩ : ByteArray) = ⟨b.toArray⟩ := by injection e
  have h2 := congrArg (fun x : ByteArray => x.data.toList) this
  exact h (by simpa using h2)
/-- a list of pairs, as a map's -/
def assocV {α : Type} (g : α → Value) (l : List (List UInt8 × α)) : List (Value × Value) := l.map fun p => (.string ⟨p.1.toArray⟩, g p.2)
theorem looks_assoc {α : Type} (g : α → Value) (k : List UInt8) : ∀ l : List (List UInt8 × α), Looks (assocV g l) (.string ⟨k.toArray⟩) ((l.find? (fun p => p.1 == k)).map fun p => g p.2)
  | [] => .none (by simp [assocV])
  | p :: l => by
    by_cases h : p.1 = k
    · have : ((p :: l).find? (fun p => p.1 == k)).map (fun p => g p.2) = some (g p.2) := by simp [h]
      rw [this]
      exact .some [] (assocV g l) _ (by subst h; rfl) (by simp)
    · have : ((p :: l).find? (fun p => p.1 == k)) = l.find? (fun p => p.1 == k) := by simp [h]
      rw [this]
      cases hr : (l.find? (fun p => p.1 == k)).map (fun p => g p.2) with
      | none =>
        have ih := looks_assoc g k l
        rw [hr] at ih
        cases ih with
        | none h2 =>
          refine .none (fun q hq => ?_)
          rcases List.mem_cons.1 hq with rfl | hq
          · exact str_ne h
          · exact h2 q hq
      | some v =>
        have ih := looks_assoc g k l
        rw [hr] at ih
        cases ih with
        | some pre post v h2 hp =>
          refine .some ((.string ⟨p.1.toArray⟩, g p.2) :: pre) post v (by show (_ :: assocV g l) = _; rw [h2]; rfl) (fun q hq => ?_)
          rcases List.mem_cons.1 hq with rfl | hq
          · exact str_ne h
          · exact hp q hq
theorem assoc_keys {α : Type} (g : α → Value) (l : List (List UInt8 × α)) : ∀ p ∈ assocV g l, MapKept.IsKey .string p.1 := by
  intro p hp
  obtain ⟨q, _, rfl⟩ := List.mem_map.1 hp
  trivial
def setL : List (List UInt8) → Value
  | [z, o, t, f, m] => setV z o t f m
  | _ => setV [] [] [] [] []
theorem langTy : MapTy Tryz.prog 80 9 41 .string := ⟨by kernel_rfl, by kernel_rfl⟩
theorem zeroSet (w : World) : (zeroValue 41).run Tryz.prog w = .ok (setV [] [] [] [] []) w := by kernel_rfl
structure LaW (w0 W : World) (l : List (Value × Value)) : Prop where
  k0 : W.heap[w0.heap.size]? = some (.cells #[.string ⟨#[]⟩, .string ⟨#[105, 32, 61, 32, 49, 32, 97, 110, 100, 32, 118, 32, 61, 32, 48]⟩, .string ⟨#[]⟩, .string ⟨#[]⟩, .string ⟨#[]⟩] 41)
  mp : MapIs W (w0.heap.size + 1) l
  bl : Below w0.heap.size w0 W
  sz : W.heap.size = w0.heap.size + 2
theorem LaW.step {w0 W W' : World} {l l' : List (Value × Value)} (h : LaW w0 W l) (hm : MapIs W' (w0.heap.size + 1) l') (hg : W.grownBy W' (some (w0.heap.size + 1))) (hz : W'.heap.size = W.heap.size) : LaW w0 W' l' := by
  have hs := h.sz
  exact ⟨(hg.block _ (by omega) (fun e => by simp at e)).trans h.k0, hm, below_grown h.bl hg (fun k e => by cases e; omega) (by omega), by omega⟩
theorem LaW.e {w0 W : World} {l : List (Value × Value)} (h : LaW w0 W l) : W.cell? ⟨w0.heap.size, 0, none⟩ = some (.string ⟨#[]⟩) ∧ W.cell? ⟨w0.heap.size, 1, none⟩ = some (.string ⟨#[105, 32, 61, 32, 49, 32, 97, 110, 100, 32, 118, 32, 61, 32, 48]⟩) ∧ W.cell? ⟨w0.heap.size, 2, none⟩ = some (.string ⟨#[]⟩) ∧ W.cell? ⟨w0.heap.size, 3, none⟩ = some (.string ⟨#[]⟩) ∧ W.cell? ⟨w0.heap.size, 4, none⟩ = some (.string ⟨#[]⟩) := ⟨block_cell h.k0 rfl, block_cell h.k0 rfl, block_cell h.k0 rfl, block_cell h.k0 rfl, block_cell h.k0 rfl⟩
set_option maxHeartbeats 4000000 in
set_option maxRecDepth 100000 in
theorem lrules_any (w : World) : Calls Tryz.prog 29 #[] w fun e w' => e = .returned (.map (some (w.heap.size + 1))) ∧ MapIs w' (w.heap.size + 1) (assocV setL langs) ∧ Below w.heap.size w w' := by
  have hmm := @run_makeMap Tryz.prog
  have hS : LaW w ((w.alloc (.cells #[.string ⟨#[]⟩, .string ⟨#[105, 32, 61, 32, 49, 32, 97, 110, 100, 32, 118, 32, 61, 32, 48]⟩, .string ⟨#[]⟩, .string ⟨#[]⟩, .string ⟨#[]⟩] 41)).alloc (.map #[] 0)) [] := by
    obtain ⟨b1, b2, b3, b4⟩ := two_boxes w (.cells #[.string ⟨#[]⟩, .string ⟨#[105, 32, 61, 32, 49, 32, 97, 110, 100, 32, 118, 32, 61, 32, 48]⟩, .string ⟨#[]⟩, .string ⟨#[]⟩, .string ⟨#[]⟩] 41) (.map #[] 0)
    exact ⟨b1, ⟨#[], 0, b2, rfl⟩, b3, b4⟩
  obtain ⟨q0, q1, q2, q3, q4⟩ := hS.e
  go_enter Tryz.func29, Tryz.ntmps29
  go_wp2_with (refine wpList_insert_map langTy _ rfl _ _ _ rfl (w.heap.size + 1) _ (.string _) (.agg _) rfl rfl rfl hS.mp (by simp [MapKept.IsKey]) trivial (by simp) ?_; intro w1 hM1 hg1 hz1; replace hS := hS.step hM1 hg1 hz1; clear hM1 hg1 hz1 q0 q1 q2 q3 q4; obtain ⟨q0, q1, q2, q3, q4⟩ := hS.e)
  go_ret
  exact ⟨rfl, hS.mp, hS.bl⟩
theorem setL_form (L : List (List UInt8)) : ∃ z o t f m, setL L = setV z o t f m := by
  unfold setL
  split
  · exact ⟨_, _, _, _, _, rfl⟩
  · exact ⟨[], [], [], [], [], rfl⟩
/-- what lang.Rules hands back -/
def rulesOut (l : List UInt8) (e : Ending) : Prop := (e = .returned (.tuple #[setL (setOf l), .nilIface])) ∨ (e = .returned (.tuple #[setV [] [] [] [] [], .iface 56 (.int .i64 2)]) ∧ setOf l = noSet)
set_option maxHeartbeats 2000000 in
set_option maxRecDepth 100000 in
theorem Rules_any (l : List UInt8) (w : World) : Calls Tryz.prog 15 #[.string ⟨l.toArray⟩] w fun e w' => rulesOut l e ∧ Below w.heap.size w w' := by
  have hlk := looks_assoc setL l langs
  have hB := (Below.refl w.heap.size w).alloc (Nat.le_refl _) (Obj.cells #[.string ⟨#[]⟩, .string ⟨#[]⟩, .string ⟨#[]⟩, .string ⟨#[]⟩, .string ⟨#[]⟩] 41)
  obtain ⟨w1, hw1⟩ : ∃ w1, w1 = w.alloc (Obj.cells #[.string ⟨#[]⟩, .string ⟨#[]⟩, .string ⟨#[]⟩, .string ⟨#[]⟩, .string ⟨#[]⟩] 41) := ⟨_, rfl⟩
  have hK := Go.heap_alloc_new w (Obj.cells #[.string ⟨#[]⟩, .string ⟨#[]⟩, .string ⟨#[]⟩, .string ⟨#[]⟩, .string ⟨#[]⟩] 41)
  have hz : w1.heap.size = w.heap.size + 1 := by rw [hw1]; simp
  rw [← hw1] at hB hK
  have HB := Lib.hid hB; have HK := Lib.hid hK; have HW := Lib.hid hw1; have HLk := Lib.hid hlk; have HZ := Lib.hid hz
  clear hB hK hw1 hlk hz
  obtain ⟨R, hR⟩ : ∃ R : Ending → Prop, R = rulesOut l := ⟨_, rfl⟩
  rw [← hR]
  have HR := Lib.hid hR
  clear hR
  go_enter Tryz.func15, Tryz.ntmps15
  go_wp2_with fail
  rw [← HW.out]
  clear HW
  refine (lrules_any w1).mono ?_
  rintro e w2 ⟨rfl, hM, hb⟩
  have hlt : w.heap.size < w1.heap.size := by rw [HZ.out]; omega
  have k0 := (hb.block _ hlt).trans HK.out
  have HB2 := Lib.hid (HB.out.trans (hb.mono HB.out.size))
  have hlt2 : w.heap.size < w2.heap.size := Nat.lt_of_lt_of_le hlt hb.size
  have x0 := block_cell (i := 0) k0 rfl
  have x1 := block_cell (i := 1) k0 rfl
  have x2 := block_cell (i := 2) k0 rfl
  have x3 := block_cell (i := 3) k0 rfl
  have x4 := block_cell (i := 4) k0 rfl
  have f0 : w2.frozen? ⟨w.heap.size, 0, none⟩ = false := by simp [World.frozen?, k0]
  have f1 : w2.frozen? ⟨w.heap.size, 1, none⟩ = false := by simp [World.frozen?, k0]
  have f2 : w2.frozen? ⟨w.heap.size, 2, none⟩ = false := by simp [World.frozen?, k0]
  have f3 : w2.frozen? ⟨w.heap.size, 3, none⟩ = false := by simp [World.frozen?, k0]
  have f4 : w2.frozen? ⟨w.heap.size, 4, none⟩ = false := by simp [World.frozen?, k0]
  have K2 := Lib.hid k0
  clear hb k0 hlt
  cases hfd : langs.find? (fun p => p.1 == l) with
  | none =>
    have hlk := HLk.out
    rw [hfd] at hlk
    simp only [Option.map_none] at hlk
    have HE := Lib.hid (show setOf l = noSet by unfold setOf; rw [hfd])
    clear hfd HLk
    unfold setV at *
    go_wp2_with (at_lookup; refine wpList_look_map langTy zeroSet _ rfl _ _ true rfl (w1.heap.size + 1) (assocV setL langs) _ rfl rfl hM (assoc_keys setL langs) trivial _ hlk ?_; dsimp only [lookV]; unfold setV)
    have bl := (((((HB2.out.setCell (p := ⟨w.heap.size, 0, none⟩) (Nat.le_refl _) (.string ⟨#[]⟩)).setCell (p := ⟨w.heap.size, 1, none⟩) (Nat.le_refl _) (.string ⟨#[]⟩)).setCell (p := ⟨w.heap.size, 2, none⟩) (Nat.le_refl _) (.string ⟨#[]⟩)).setCell (p := ⟨w.heap.size, 3, none⟩) (Nat.le_refl _) (.string ⟨#[]⟩)).setCell (p := ⟨w.heap.size, 4, none⟩) (Nat.le_refl _) (.string ⟨#[]⟩))
    have k5 := (Go.heap_alloc_old (((((w2.setCell ⟨w.heap.size, 0, none⟩ (.string ⟨#[]⟩)).setCell ⟨w.heap.size, 1, none⟩ (.string ⟨#[]⟩)).setCell ⟨w.heap.size, 2, none⟩ (.string ⟨#[]⟩)).setCell ⟨w.heap.size, 3, none⟩ (.string ⟨#[]⟩)).setCell ⟨w.heap.size, 4, none⟩ (.string ⟨#[]⟩)) (Obj.cells #[.string ⟨#[]⟩, .string ⟨#[]⟩, .string ⟨#[]⟩, .string ⟨#[]⟩, .string ⟨#[]⟩] 41) (show w.heap.size < (((((w2.setCell ⟨w.heap.size, 0, none⟩ (.string ⟨#[]⟩)).setCell ⟨w.heap.size, 1, none⟩ (.string ⟨#[]⟩)).setCell ⟨w.heap.size, 2, none⟩ (.string ⟨#[]⟩)).setCell ⟨w.heap.size, 3, none⟩ (.string ⟨#[]⟩)).setCell ⟨w.heap.size, 4, none⟩ (.string ⟨#[]⟩)).heap.size by rw [size_setCell, size_setCell, size_setCell, size_setCell, size_setCell]; exact hlt2)).trans (Joins.block_setCell (i := 4) (Joins.block_setCell (i := 3) (Joins.block_setCell (i := 2) (Joins.block_setCell (i := 1) (Joins.block_setCell (i := 0) K2.out (.string ⟨#[]⟩)) (.string ⟨#[]⟩)) (.string ⟨#[]⟩)) (.string ⟨#[]⟩)) (.string ⟨#[]⟩))
    have b5 := bl.alloc bl.size (Obj.cells #[.string ⟨#[]⟩, .string ⟨#[]⟩, .string ⟨#[]⟩, .string ⟨#[]⟩, .string ⟨#[]⟩] 41)
    clear x0 x1 x2 x3 x4 f0 f1 f2 f3 f4 bl
    generalize ((((((w2.setCell ⟨w.heap.size, 0, none⟩ (.string ⟨#[]⟩)).setCell ⟨w.heap.size, 1, none⟩ (.string ⟨#[]⟩)).setCell ⟨w.heap.size, 2, none⟩ (.string ⟨#[]⟩)).setCell ⟨w.heap.size, 3, none⟩ (.string ⟨#[]⟩)).setCell ⟨w.heap.size, 4, none⟩ (.string ⟨#[]⟩)).alloc (Obj.cells #[.string ⟨#[]⟩, .string ⟨#[]⟩, .string ⟨#[]⟩, .string ⟨#[]⟩, .string ⟨#[]⟩] 41)) = W5 at *
    have y0 := block_cell (i := 0) k5 rfl
    have y1 := block_cell (i := 1) k5 rfl
    have y2 := block_cell (i := 2) k5 rfl
    have y3 := block_cell (i := 3) k5 rfl
    have y4 := block_cell (i := 4) k5 rfl
    refine bodyPost_ret (v := .tuple #[.agg #[.string ⟨#[]⟩, .string ⟨#[]⟩, .string ⟨#[]⟩, .string ⟨#[]⟩, .string ⟨#[]⟩], .iface 56 (.int .i64 2)]) (by simp [results, Tryz.results15, go_sem, y0, y1, y2, y3, y4]) rfl ⟨?_, b5⟩
    rw [HR.out]; exact .inr ⟨rfl, HE.out⟩
  | some p =>
    have hlk := HLk.out
    rw [hfd] at hlk
    simp only [Option.map_some] at hlk
    have HE := Lib.hid (show setOf l = p.2 by unfold setOf; rw [hfd])
    obtain ⟨z, o, t, f, m, hf⟩ := setL_form p.2
    rw [hf] at hlk
    have HF := Lib.hid hf
    clear hfd HLk hf
    unfold setV at *
    go_wp2_with (at_lookup; refine wpList_look_map langTy zeroSet _ rfl _ _ true rfl (w1.heap.size + 1) (assocV setL langs) _ rfl rfl hM (assoc_keys setL langs) trivial _ hlk ?_; dsimp only [lookV])
    have bl := (((((HB2.out.setCell (p := ⟨w.heap.size, 0, none⟩) (Nat.le_refl _) (.string ⟨z.toArray⟩)).setCell (p := ⟨w.heap.size, 1, none⟩) (Nat.le_refl _) (.string ⟨o.toArray⟩)).setCell (p := ⟨w.heap.size, 2, none⟩) (Nat.le_refl _) (.string ⟨t.toArray⟩)).setCell (p := ⟨w.heap.size, 3, none⟩) (Nat.le_refl _) (.string ⟨f.toArray⟩)).setCell (p := ⟨w.heap.size, 4, none⟩) (Nat.le_refl _) (.string ⟨m.toArray⟩))
    have k5 := (Go.heap_alloc_old (((((w2.setCell ⟨w.heap.size, 0, none⟩ (.string ⟨z.toArray⟩)).setCell ⟨w.heap.size, 1, none⟩ (.string ⟨o.toArray⟩)).setCell ⟨w.heap.size, 2, none⟩ (.string ⟨t.toArray⟩)).setCell ⟨w.heap.size, 3, none⟩ (.string ⟨f.toArray⟩)).setCell ⟨w.heap.size, 4, none⟩ (.string ⟨m.toArray⟩)) (Obj.cells #[.string ⟨z.toArray⟩, .string ⟨o.toArray⟩, .string ⟨t.toArray⟩, .string ⟨f.toArray⟩, .string ⟨m.toArray⟩] 41) (show w.heap.size < (((((w2.setCell ⟨w.heap.size, 0, none⟩ (.string ⟨z.toArray⟩)).setCell ⟨w.heap.size, 1, none⟩ (.string ⟨o.toArray⟩)).setCell ⟨w.heap.size, 2, none⟩ (.string ⟨t.toArray⟩)).setCell ⟨w.heap.size, 3, none⟩ (.string ⟨f.toArray⟩)).setCell ⟨w.heap.size, 4, none⟩ (.string ⟨m.toArray⟩)).heap.size by rw [size_setCell, size_setCell, size_setCell, size_setCell, size_setCell]; exact hlt2)).trans (Joins.block_setCell (i := 4) (Joins.block_setCell (i := 3) (Joins.block_setCell (i := 2) (Joins.block_setCell (i := 1) (Joins.block_setCell (i := 0) K2.out (.string ⟨z.toArray⟩)) (.string ⟨o.toArray⟩)) (.string ⟨t.toArray⟩)) (.string ⟨f.toArray⟩)) (.string ⟨m.toArray⟩))
    have b5 := bl.alloc bl.size (Obj.cells #[.string ⟨z.toArray⟩, .string ⟨o.toArray⟩, .string ⟨t.toArray⟩, .string ⟨f.toArray⟩, .string ⟨m.toArray⟩] 41)
    clear x0 x1 x2 x3 x4 f0 f1 f2 f3 f4 bl
    generalize ((((((w2.setCell ⟨w.heap.size, 0, none⟩ (.string ⟨z.toArray⟩)).setCell ⟨w.heap.size, 1, none⟩ (.string ⟨o.toArray⟩)).setCell ⟨w.heap.size, 2, none⟩ (.string ⟨t.toArray⟩)).setCell ⟨w.heap.size, 3, none⟩ (.string ⟨f.toArray⟩)).setCell ⟨w.heap.size, 4, none⟩ (.string ⟨m.toArray⟩)).alloc (Obj.cells #[.string ⟨z.toArray⟩, .string ⟨o.toArray⟩, .string ⟨t.toArray⟩, .string ⟨f.toArray⟩, .string ⟨m.toArray⟩] 41)) = W5 at *
    have y0 := block_cell (i := 0) k5 rfl
    have y1 := block_cell (i := 1) k5 rfl
    have y2 := block_cell (i := 2) k5 rfl
    have y3 := block_cell (i := 3) k5 rfl
    have y4 := block_cell (i := 4) k5 rfl
    refine bodyPost_ret (v := .tuple #[.agg #[.string ⟨z.toArray⟩, .string ⟨o.toArray⟩, .string ⟨t.toArray⟩, .string ⟨f.toArray⟩, .string ⟨m.toArray⟩], .nilIface]) (by simp [results, Tryz.results15, go_sem, y0, y1, y2, y3, y4]) rfl ⟨?_, b5⟩
    rw [HR.out]; exact .inl (by rw [HE.out, HF.out])
end Go.Proofs.YtnefcilopgcdpaaGreatDoor
