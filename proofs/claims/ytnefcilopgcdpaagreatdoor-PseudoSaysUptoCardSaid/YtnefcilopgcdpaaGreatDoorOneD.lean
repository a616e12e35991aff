/-
  Where the arguments fit, each node finds what it asks: plain.
  The case at a place: in memory and plain.
  eval.speaker.one, say.
  How long is what is said: plain.
-/
import Derived.Test.YtnefcilopgcdpaaGreatDoorPsay
import Derived.Test.YtnefcilopgcdpaaGreatDoorSize
import Derived.Test.YtnefcilopgcdpaaGreatDoorSlen
import Derived.Test.YtnefcilopgcdpaaGreatDoorCase
import Derived.Test.YtnefcilopgcdpaaGreatDoorFits
import Derived.Test.YtnefcilopgcdpaaGreatDoorDtx
namespace Go.Proofs.YtnefcilopgcdpaaGreatDoor
open Ms

def Has (l : List Need) (x : List UInt8) (b : Bool) : Prop := ∃ n ∈ l, n.nm = x ∧ (b = true → n.num = true)
theorem mem_modify_other {α : Type} (f : α → α) {l : List α} {i j : Nat} (hj : j < l.length) : (l.modify i f)[j]? = some (if i = j then f l[j] else l[j]) := by
  rw [List.getElem?_modify, List.getElem?_eq_getElem hj]
  split <;> simp [*]
theorem has_new {l : List Need} {x y : List UInt8} {b : Bool} (h : Has l x b) : Has (addNew l y) x b := by
  unfold addNew
  split
  · exact h
  · obtain ⟨n, hn, h1⟩ := h
    exact ⟨n, List.mem_append_left _ hn, h1⟩
theorem has_add {l : List Need} {x y : List UInt8} {b : Bool} {k : Int} (h : Has l x b) : Has (addNeed l k y) x b := by
  unfold addNeed
  split
  · exact h
  · obtain ⟨n, hn, h1, h2⟩ := has_new (y := y) h
    obtain ⟨j, hj, rfl⟩ := List.mem_iff_getElem.1 hn
    have hm := mem_modify_other (addAt k) (i := (addNew l y).findIdx (fun n => n.nm == y)) hj
    refine ⟨_, List.mem_of_getElem? hm, ?_, ?_⟩
    · split
      · exact h1
      · exact h1
    · intro hb
      split
      · show ((addNew l y)[j].num || (k == 3 || k == 4)) = true
        rw [h2 hb]; rfl
      · exact h2 hb
theorem new_find (l : List Need) (x : List UInt8) : (addNew l x).findIdx (fun n => n.nm == x) < (addNew l x).length := by
  rw [List.findIdx_lt_length]
  unfold addNew
  split
  · next h => simpa using h
  · exact ⟨⟨x, false, false⟩, by simp, by simp⟩
theorem add_has (l : List Need) (x : List UInt8) (k : Int) (hk : ¬ (k = 1 ∨ k = 6)) : Has (addNeed l k x) x (k == 3 || k == 4) := by
  unfold addNeed
  rw [if_neg hk]
  have hj := new_find l x
  have hm := mem_modify_other (addAt k) (i := (addNew l x).findIdx (fun n => n.nm == x)) hj
  rw [if_pos rfl] at hm
  refine ⟨_, List.mem_of_getElem? hm, ?_, ?_⟩
  · have := List.findIdx_getElem (w := hj)
    simpa [addAt] using this
  · intro hb
    unfold addAt
    dsimp only
    rw [hb, Bool.or_true]
theorem has_needs : ∀ (t : T) (l : List Need) (x : List UInt8) (b : Bool), Has l x b → Has (needsT t l) x b
  | .nil, l, x, b, h => h
  | .node k y f cs nx, l, x, b, h => by
    simp only [needsT]
    refine has_needs nx _ x b ?_
    split
    · exact has_needs cs _ x b (has_add h)
    · exact has_add h
  | .case _ body nx, l, x, b, h => by
    simp only [needsT]
    exact has_needs nx _ x b (has_needs body _ x b h)
def okn (L : List Need) : T → Prop
  | .nil => True
  | .node k x f cs nx => ((k = 1 ∨ k = 6) ∨ Has L x (k == 3 || k == 4)) ∧ (k = 4 → 0 ≤ f ∧ f ≤ 9) ∧ (hasC k = true → cs ≠ .nil ∧ okn L cs) ∧ okn L nx
  | .case _ body nx => okn L body ∧ okn L nx
theorem okn_of (L : List Need) : ∀ (t : T) (mark pw : Bool) (kind : Int) (seen : List (List UInt8)) (l : List Need), flt t mark pw kind seen = 0 → (∀ x b, Has (needsT t l) x b → Has L x b) → okn L t
  | .nil, _, _, _, _, _, _, _ => trivial
  | .node k x f cs nx, mark, pw, kind, seen, l, h, hL => by
    simp only [flt] at h
    split at h
    · cases h
    · split at h
      · cases h
      · next h4 =>
        split at h
        · next hc => exact absurd h hc.2
        · next hc =>
          simp only [needsT] at hL
          refine ⟨?_, fun e => ?_, fun e => ?_, okn_of L nx mark (k == 1) 0 [] _ h hL⟩
          · by_cases hk : k = 1 ∨ k = 6
            · exact .inl hk
            · refine .inr (hL x _ (has_needs nx _ x _ ?_))
              split
              · exact has_needs cs _ x _ (add_has l x k hk)
              · exact add_has l x k hk
          · have : ¬ (f < 0 ∨ f > 9) := fun e2 => h4 ⟨e, e2⟩
            omega
          · have hcs : flt cs (mark || k == 4) false k [] = 0 := by
              apply Classical.byContradiction
              intro e2
              exact hc ⟨e, e2⟩
            refine ⟨?_, okn_of L cs _ _ _ _ (addNeed l k x) hcs (fun y b hy => hL y b (has_needs nx _ y b ?_))⟩
            · rintro rfl
              simp only [flt] at hcs
              split at hcs
              · next hk0 => rw [hk0] at e; cases e
              · cases hcs
            · rw [if_pos e]; exact hy
  | .case key body nx, mark, pw, kind, seen, l, h, hL => by
    simp only [flt] at h
    simp only [needsT] at hL
    split at h
    · cases h
    · split at h
      · cases h
      · split at h
        · next hc => exact absurd h hc
        · next hc =>
          have hb : flt body mark false 0 [] = 0 := by
            apply Classical.byContradiction
            exact hc
          exact ⟨okn_of L body mark false 0 [] l hb (fun y b hy => hL y b (has_needs nx _ y b hy)), okn_of L nx mark false kind _ _ h hL⟩
/-- what the arguments are, where they fit -/
theorem args_ok : ∀ (al : List Ar) (s : List (List UInt8 × Bool)), (argsGo al s).1 = 0 → (argsGo al s).2 = s ++ al.map (fun a => (a.nm, a.num)) ∧ (∀ a ∈ al, a.num = true → decBad a.d = false) ∧ (∀ i (h : i < al.length), (s ++ (al.take i).map (fun a => (a.nm, a.num))).any (fun p => p.1 == (al[i]).nm) = false)
  | [], s, _ => ⟨by simp [argsGo], by simp, fun i h => by simp at h⟩
  | a :: r, s, h => by
    simp only [argsGo] at h ⊢
    split at h
    · cases h
    · next h1 =>
      split at h
      · cases h
      · next h2 =>
        split at h
        · cases h
        · next h3 =>
          rw [if_neg h1, if_neg h2, if_neg h3]
          obtain ⟨q1, q2, q3⟩ := args_ok r _ h
          refine ⟨by rw [q1]; simp, ?_, ?_⟩
          · intro b hb
            rcases List.mem_cons.1 hb with rfl | hb
            · intro hn
              rw [hn] at h2
              simpa using h2
            · exact q2 b hb
          · intro i hi
            cases i with
            | zero =>
              rw [List.take_zero, List.map_nil, List.append_nil]
              exact Bool.eq_false_iff.2 h3
            | succ i =>
              have := q3 i (by simpa using hi)
              simpa using this
theorem find_ar (x : List UInt8) : ∀ al : List Ar, (al.map (fun a => (a.nm, a.num))).find? (fun p => p.1 == x) = (al.find? (fun a => a.nm == x)).map (fun a => (a.nm, a.num))
  | [] => rfl
  | a :: r => by
    simp only [List.map_cons, List.find?_cons]
    cases a.nm == x with
    | true => rfl
    | false => exact find_ar x r
theorem needs_ok (seen : List (List UInt8 × Bool)) : ∀ L : List Need, needsGo seen L = 0 → ∀ n ∈ L, ∃ p, seen.find? (fun p => p.1 == n.nm) = some p ∧ (n.num = true → p.2 = true)
  | [], _, n, hn => by cases hn
  | m :: r, h, n, hn => by
    simp only [needsGo] at h
    split at h
    · cases h
    · next p hp =>
      split at h
      · cases h
      · next hb =>
        rcases List.mem_cons.1 hn with rfl | hn
        · refine ⟨p, hp, fun e => ?_⟩
          cases hp2 : p.2 with
          | true => rfl
          | false => rw [e, hp2] at hb; simp at hb
        · exact needs_ok seen r h n hn
/-- each node finds what it asks -/
def oks (al : List Ar) : T → Prop
  | .nil => True
  | .node k x f cs nx => ((k = 1 ∨ k = 6) ∨ (((argOf al x).num = true → decBad (argOf al x).d = false) ∧ ((k = 3 ∨ k = 4) → (argOf al x).num = true))) ∧ (k = 4 → 0 ≤ f ∧ f ≤ 9) ∧ (hasC k = true → cs ≠ .nil ∧ oks al cs) ∧ oks al nx
  | .case _ body nx => oks al body ∧ oks al nx
theorem oks_of (al : List Ar) (L : List Need) (h : ∀ x b, Has L x b → ((argOf al x).num = true → decBad (argOf al x).d = false) ∧ (b = true → (argOf al x).num = true)) : ∀ t : T, okn L t → oks al t
  | .nil, _ => trivial
  | .node k x f cs nx, ⟨h1, h2, h3, h4⟩ => by
    refine ⟨h1.imp id (fun hh => ⟨(h x _ hh).1, fun hk => (h x _ hh).2 ?_⟩), h2, fun e => ⟨(h3 e).1, oks_of al L h cs (h3 e).2⟩, oks_of al L h nx h4⟩
    rcases hk with rfl | rfl <;> rfl
  | .case _ body nx, ⟨h1, h2⟩ => ⟨oks_of al L h body h1, oks_of al L h nx h2⟩
theorem fits_oks (t : T) (al : List Ar) (h : fitsE t al = 0) : oks al t := by
  unfold fitsE at h
  split at h
  · next h1 => exact absurd h h1
  · next h1 =>
    split at h
    · next h2 => exact absurd h h2
    · next h2 =>
      have h1' : ofFault t = 0 := Classical.byContradiction h1
      have h2' : (argsGo al []).1 = 0 := Classical.byContradiction h2
      have hf : fault t = 0 := by
        unfold ofFault at h1'
        apply Classical.byContradiction
        intro e
        rw [if_pos e] at h1'
        exact e h1'
      have hfl : flt t false false 0 [] = 0 := by
        unfold fault at hf
        split at hf
        · cases hf
        · exact hf
      obtain ⟨q1, q2, _⟩ := args_ok al [] h2'
      rw [q1] at h
      refine oks_of al (needsT t []) ?_ t (okn_of _ t false false 0 [] [] hfl (fun x b hx => hx))
      intro x b hx
      obtain ⟨n, hn, rfl, hb⟩ := hx
      obtain ⟨p, hp, hp2⟩ := needs_ok _ _ h n hn
      rw [List.nil_append, find_ar] at hp
      obtain ⟨a, ha, rfl⟩ := Option.map_eq_some_iff.1 hp
      have hao : argOf al n.nm = a := by unfold argOf; rw [ha]
      rw [hao]
      exact ⟨q2 a (List.mem_of_find?_eq_some ha), fun e => hp2 (hb e)⟩
end Go.Proofs.YtnefcilopgcdpaaGreatDoor
namespace Go.Proofs.YtnefcilopgcdpaaGreatDoor
open Go.RowKit Ms

theorem cho_lt (s : List UInt8) : ∀ (ks : List (List UInt8)) (i best : Nat), best < i + ks.length → choGo s ks i best < i + ks.length
  | [], i, best, h => h
  | key :: r, i, best, h => by
    simp only [choGo, List.length_cons] at h ⊢
    split
    · omega
    · have := cho_lt s r (i + 1) (if key = otherK then i else best) (by split <;> omega)
      omega
theorem case_lt (K : List UInt8) (d : Dc) : ∀ (ks : List (List UInt8)) (i best rank : Nat), best < i + ks.length → caseGo K d ks i best rank < i + ks.length
  | [], i, best, _, h => h
  | key :: r, i, best, rank, h => by
    simp only [caseGo, List.length_cons] at h ⊢
    split
    · have := case_lt K d r (i + 1) i (rankD K d key) (by omega)
      omega
    · have := case_lt K d r (i + 1) best rank (by omega)
      omega
theorem keysT_len : ∀ t : T, isN.isC t = true → (keysT t).length = len t
  | .nil, _ => rfl
  | .node _ _ _ _ _, h => by simp [isN.isC] at h
  | .case key body nx, h => by
    have := keysT_len nx (isC_case h).2
    simp only [keysT, List.length_cons, this, len]
theorem nth_from (al : List Ar) (E : Env) (m : Dc) {w0 : World} {a : Option Addr} {n : Nat} : ∀ (t : T) (j i : Nat), CasesFrom w0 a n j t → isN.isC t = true → oks al t → j + i < n → len t = n - j →
    ∃ b o vb body, a = some ⟨b, o, none⟩ ∧ w0.cell? ⟨b, o + (j + i) * 2 + 1, none⟩ = some vb ∧ SV w0 vb body ∧ sz body < sz t ∧ isN body = true ∧ wt body ≤ wt t ∧ oks al body ∧ cnt body ≤ cnt t ∧ spk E t i m = spk E body 0 m
  | .nil, j, i, _, _, _, h, hl => by simp [len] at hl; omega
  | .node _ _ _ _ _, _, _, _, hc, _, _, _ => by simp [isN.isC] at hc
  | .case key body nx, j, i, hf, hc, hok, h, hl => by
    obtain ⟨key', body', nx', b, o, v, he, ha, p0, p1, hsv, hnext⟩ := casesFrom_next hf (by omega) hc
    cases he
    obtain ⟨hnb, hnn⟩ := isC_case hc
    cases i with
    | zero =>
      refine ⟨b, o, v, body, ha, p1, hsv, ?_, hnb, ?_, hok.1, ?_, rfl⟩
      · simp only [sz]; omega
      · simp only [wt]; omega
      · simp only [cnt]; omega
    | succ i =>
      subst ha
      obtain ⟨b2, o2, vb, bd, ha2, q1, q2, q3, q4, q5, q6, q7, q8⟩ := nth_from al E m nx (j + 1) i hnext hnn hok.2 (by omega) (by simp only [len] at hl; omega)
      refine ⟨b2, o2, vb, bd, ha2, ?_, q2, ?_, q4, ?_, q6, ?_, q8⟩
      · rw [show j + (i + 1) = j + 1 + i by omega]; exact q1
      · simp only [sz]; omega
      · simp only [wt]; omega
      · simp only [cnt]; omega
end Go.Proofs.YtnefcilopgcdpaaGreatDoor
namespace Go.Proofs.YtnefcilopgcdpaaGreatDoor
open Go.RowKit Ms

def arV (a : Ar) : Value := .agg #[.string ⟨a.nm.toArray⟩, .bool a.num, .int .i64 a.d.c, .int .i64 a.d.s, .string ⟨a.tx.toArray⟩]
def arL (al : List Ar) : List (Value × Value) := assocV arV (al.map fun a => (a.nm, a))
theorem argTy : MapTy Tryz.prog 39 9 53 .string := ⟨by kernel_rfl, by kernel_rfl⟩
theorem zeroArg (w : World) : (zeroValue 53).run Tryz.prog w = .ok (arV az) w := by kernel_rfl
theorem find_al (x : List UInt8) : ∀ al : List Ar, ((al.map fun a => (a.nm, a)).find? (fun p => p.1 == x)) = (al.find? (fun a => a.nm == x)).map fun a => (a.nm, a)
  | [] => rfl
  | a :: r => by
    simp only [List.map_cons, List.find?_cons]
    cases a.nm == x with
    | true => rfl
    | false => exact find_al x r
theorem look_ar (al : List Ar) (x : List UInt8) (mb : Nat) (W : World) (h : MapIs W mb (arL al)) : (Instr.lookup 39 (.map (some mb)) (.string ⟨x.toArray⟩) false).run Tryz.prog W = .ok (arV (argOf al x)) W := by
  have hlk := looks_assoc arV x (al.map fun a => (a.nm, a))
  have := run_look argTy zeroArg h (assoc_keys arV _) (key := .string ⟨x.toArray⟩) trivial hlk false
  rw [this, find_al]
  unfold argOf
  cases al.find? (fun a => a.nm == x) with
  | none => rfl
  | some a => rfl
/-- what is fixed while a message is said -/
structure SC (z o tw fe ma : List UInt8) (al : List Ar) (mb b : Nat) (w0 : World) : Prop where
  gl : Gl w0
  h1 : w0.heap.size ≤ mb
  h2 : mb < b
  set : ∀ y ∈ [z, o, tw, fe, ma], SetText y
  txt : ∀ a ∈ al, a.tx.length ≤ 2100000
/-- where it stands -/
structure SW (z o tw fe ma : List UInt8) (al : List Ar) (mb b : Nat) (l : List UInt8) (w0 W : World) : Prop where
  spk : Spk z o tw fe ma mb b l W
  mp : MapIs W mb (arL al)
  bl : Below w0.heap.size w0 W
theorem SW.below {z o tw fe ma : List UInt8} {al : List Ar} {mb b : Nat} {l : List UInt8} {w0 W W' : World} (h : SW z o tw fe ma al mb b l w0 W) (hb : Below W.heap.size W W') : SW z o tw fe ma al mb b l w0 W' :=
  ⟨h.spk.below hb, h.mp.below hb, h.bl.trans (hb.mono h.bl.size)⟩
theorem SW.step {z o tw fe ma : List UInt8} {al : List Ar} {mb b : Nat} {l l' : List UInt8} {w0 W W' : World} (C : SC z o tw fe ma al mb b w0) (h : SW z o tw fe ma al mb b l w0 W) (hs : Spk z o tw fe ma mb b l' W') (hf : FrS b W W') : SW z o tw fe ma al mb b l' w0 W' :=
  ⟨hs, h.mp.block (hf.below.block mb C.h2), h.bl.trans (hf.below.mono (by have := C.h1; have := C.h2; omega))⟩
def oneE (E : Env) (k : Int) (x : List UInt8) (f : Int) (cs : T) (m : Dc) : List UInt8 × Int :=
  if k = 1 then (x, 0) else if k = 6 then fmtD m else if k = 3 then fmtD (argOf E.args x).d
  else if k = 4 then (if (lessD (argOf E.args x).d f).2 ≠ 0 then ([], (lessD (argOf E.args x).d f).2) else spk E cs (caseGo (kindOf E.set (lessD (argOf E.args x).d f).1) (argOf E.args x).d (keysT cs) 0 0 0) (lessD (argOf E.args x).d f).1)
  else if k = 5 then spk E cs (choGo (argOf E.args x).tx (keysT cs) 0 0) m
  else (showA (argOf E.args x), 0)
theorem spk_node (E : Env) (k : Int) (x : List UInt8) (f : Int) (cs nx : T) (i : Nat) (m : Dc) : spk E (.node k x f cs nx) i m = if (oneE E k x f cs m).2 ≠ 0 then oneE E k x f cs m else ((oneE E k x f cs m).1 ++ (spk E nx 0 m).1, (spk E nx 0 m).2) := rfl
def SayIH (z o tw fe ma : List UInt8) (al : List Ar) (mb b : Nat) (w0 : World) (N : Nat) : Prop := ∀ (t : T) (v : Value) (W : World) (l : List UInt8) (m : Dc), sz t < N → isN t = true → wt t ≤ 2100000 → oks al t → SV w0 v t → SW z o tw fe ma al mb b l w0 W → l.length + cnt t * 3000000 ≤ 100000000000 →
  Calls Tryz.prog 16 #[.pointer (some ⟨b, 0, none⟩), v, dcV m] W fun e w' => e = .returned (errVal (spk ⟨[z, o, tw, fe, ma], al⟩ t 0 m).2) ∧ Spk z o tw fe ma mb b (l ++ (spk ⟨[z, o, tw, fe, ma], al⟩ t 0 m).1) w' ∧ FrS b W w'
theorem three_w (w : World) (a b c : Obj) : ∃ W, W = ((w.alloc a).alloc b).alloc c ∧ W.heap[w.heap.size]? = some a ∧ W.heap[w.heap.size + 1]? = some b ∧ W.heap[w.heap.size + 2]? = some c ∧ Below w.heap.size w W ∧ W.heap.size = w.heap.size + 3 := by
  obtain ⟨h1, h2, h3, h4, h5⟩ := three_boxes w a b c
  exact ⟨_, rfl, h1, h2, h3, h4, h5⟩
theorem FrS.setNew {b c j : Nat} {A B : World} (h : FrS b A B) (hb : b ≤ c) (hc : A.heap.size ≤ c) (u : Value) : FrS b A (B.setCell ⟨c, j, none⟩ u) :=
  ⟨h.below.setCell (by show b ≤ c; exact hb) _, fun k cs t f hk ht hl => (heap_setCell_other B ⟨c, j, none⟩ k u (fun e => by have e2 : k = c := e; have := (Array.getElem?_eq_some_iff.1 hk).1; omega)).trans (h.tf k cs t f hk ht hl)⟩
theorem Spk.setOther {z o t f m : List UInt8} {mb b c j : Nat} {l : List UInt8} {W : World} {cs : Array Value} {ty : TypeId} {fz : Nat × Nat} (h : Spk z o t f m mb b l W) (hk : W.heap[c]? = some (.cells cs ty fz)) (ht : ty ≠ 5) (hc : b ≠ c) (u : Value) : Spk z o t f m mb b l (W.setCell ⟨c, j, none⟩ u) := by
  obtain ⟨p, v, hp, hb, hr, hn⟩ := h
  exact ⟨p, v, hp, (heap_setCell_other W ⟨c, j, none⟩ b u hc).trans hb, row_set hr (own_ne hr hk ht), hn⟩
theorem set5 (W : World) (c B : Nat) (hB : B ≤ c) (v0 v1 v2 v3 v4 : Value) : (∀ k, k ≠ c → (((((W.setCell ⟨c, 0, none⟩ v0).setCell ⟨c, 1, none⟩ v1).setCell ⟨c, 2, none⟩ v2).setCell ⟨c, 3, none⟩ v3).setCell ⟨c, 4, none⟩ v4).heap[k]? = W.heap[k]?) ∧ Below B W (((((W.setCell ⟨c, 0, none⟩ v0).setCell ⟨c, 1, none⟩ v1).setCell ⟨c, 2, none⟩ v2).setCell ⟨c, 3, none⟩ v3).setCell ⟨c, 4, none⟩ v4) := by
  refine ⟨fun k hk => ?_, ?_⟩
  · rw [heap_setCell_other _ ⟨c, 4, none⟩ k _ hk, heap_setCell_other _ ⟨c, 3, none⟩ k _ hk, heap_setCell_other _ ⟨c, 2, none⟩ k _ hk, heap_setCell_other _ ⟨c, 1, none⟩ k _ hk, heap_setCell_other _ ⟨c, 0, none⟩ k _ hk]
  · exact (((((Below.refl B W).setCell (p := ⟨c, 0, none⟩) hB v0).setCell (p := ⟨c, 1, none⟩) hB v1).setCell (p := ⟨c, 2, none⟩) hB v2).setCell (p := ⟨c, 3, none⟩) hB v3).setCell (p := ⟨c, 4, none⟩) hB v4
end Go.Proofs.YtnefcilopgcdpaaGreatDoor
namespace Go.Proofs.YtnefcilopgcdpaaGreatDoor
open Go.RowKit Ms

theorem showA_len (a : Ar) (h : a.num = true → decBad a.d = false) (ht : a.tx.length ≤ 2100000) : (showA a).length ≤ 2100000 := by
  unfold showA
  split
  · next hn =>
    have hdd := dec_ok (h hn)
    obtain ⟨s', hs'⟩ := Int.eq_ofNat_of_zero_le hdd.1.1
    have h1 := textD_len a.d.c s' (by omega) (by omega) (by omega)
    rw [← hs'] at h1
    have h2 : (textD a.d).length ≤ 100 := h1
    omega
  · exact ht
theorem one_len (S : List (List UInt8)) (al : List Ar) (w : World) (htx : ∀ a ∈ al, a.tx.length ≤ 2100000) (k : Int) (x : List UInt8) (f : Int) (cs nx : T) (m : Dc) (hw : wt (.node k x f cs nx) ≤ 2100000) (hok : oks al (.node k x f cs nx)) (hcs : hasC k = true → ∀ i m, (spk ⟨S, al⟩ cs i m).1.length ≤ cnt cs * 3000000) :
    (oneE ⟨S, al⟩ k x f cs m).1.length ≤ (1 + (if hasC k = true then cnt cs else 0)) * 3000000 := by
  have ha : (argOf al x).tx.length ≤ 2100000 := by
    unfold argOf
    split
    · next a ha => exact htx a (List.mem_of_find?_eq_some ha)
    · simp
  have hx : x.length ≤ 2100000 := by simp only [wt] at hw; omega
  unfold oneE
  dsimp only
  by_cases k1 : k = 1
  · rw [if_pos k1]; dsimp only; omega
  · rw [if_neg k1]
    by_cases k6 : k = 6
    · rw [if_pos k6]; have := fmtD_len m w; omega
    · rw [if_neg k6]
      by_cases k3 : k = 3
      · rw [if_pos k3]; have := fmtD_len (argOf al x).d w; omega
      · rw [if_neg k3]
        by_cases k4 : k = 4
        · have hh : hasC k = true := by subst k4; rfl
          rw [if_pos k4, if_pos hh]
          split
          · simp
          · exact Nat.le_trans (hcs hh _ _) (Nat.mul_le_mul_right _ (by omega))
        · rw [if_neg k4]
          by_cases k5 : k = 5
          · have hh : hasC k = true := by subst k5; rfl
            rw [if_pos k5, if_pos hh]
            exact Nat.le_trans (hcs hh _ _) (Nat.mul_le_mul_right _ (by omega))
          · rw [if_neg k5]
            have h1 := hok.1
            have h2 : (argOf al x).num = true → decBad (argOf al x).d = false := by
              rcases h1 with h | h
              · exact (h.elim k1 k6).elim
              · exact h.1
            have := showA_len _ h2 ha
            dsimp only
            omega
theorem spk_len (S : List (List UInt8)) (al : List Ar) (w : World) (htx : ∀ a ∈ al, a.tx.length ≤ 2100000) : ∀ (t : T) (i : Nat) (m : Dc), wt t ≤ 2100000 → oks al t → (spk ⟨S, al⟩ t i m).1.length ≤ cnt t * 3000000
  | .nil, _, _, _, _ => by simp [spk]
  | .case key body nx, i, m, hw, hok => by
    simp only [wt] at hw
    cases i with
    | zero =>
      have := spk_len S al w htx body 0 m (by omega) hok.1
      exact Nat.le_trans this (Nat.mul_le_mul_right _ (by simp only [cnt]; omega))
    | succ i =>
      have := spk_len S al w htx nx i m (by omega) hok.2
      exact Nat.le_trans this (Nat.mul_le_mul_right _ (by simp only [cnt]; omega))
  | .node k x f cs nx, i, m, hw, hok => by
    have h1 := one_len S al w htx k x f cs nx m hw hok (fun hh i m => spk_len S al w htx cs i m (by simp only [wt] at hw; omega) (hok.2.2.1 hh).2)
    have h2 := spk_len S al w htx nx 0 m (by simp only [wt] at hw; omega) hok.2.2.2
    rw [spk_node, cnt_node]
    split
    · exact Nat.le_trans h1 (Nat.mul_le_mul_right _ (by omega))
    · dsimp only
      rw [List.length_append, Nat.add_mul]
      exact Nat.add_le_add h1 h2
end Go.Proofs.YtnefcilopgcdpaaGreatDoor
