/-
  The reader of messages: a node behind a {.
-/
import Derived.Test.YtgkphpjnfigjiaaGreatDoorGrow
import Derived.Test.YtgkphpjnfigjiaaGreatDoorTxt
namespace Go.Proofs.YtgkphpjnfigjiaaGreatDoor
open Go.RowKit Ms

def ArgOut (deep : Nat) (mark : Bool) (s : List UInt8) (rb : Nat) (w : World) (e : Ending) (w' : World) : Prop :=
  w.grownBy w' (some rb) ∧ match argO deep mark s with
  | some (p, r) => ∃ v, e = .returned (nodeV p.1 p.2.1 p.2.2.1 v) ∧ SVP (fun b => w.heap.size ≤ b) w' v p.2.2.2 ∧ At w' rb r (deep + 1)
  | none => e = formP ∧ ∃ s' d', At w' rb s' d'
theorem At.kept {w w' : World} {rb : Nat} {s : List UInt8} {d : Int} {row : Option Nat} (h : At w rb s d) (hg : w.grownBy w' row) (hne : row ≠ some rb) : At w' rb s d := by
  unfold At
  rw [hg.block rb h.lt (fun e => hne e.symm)]; exact h
theorem upto_44 (s : List UInt8) : upto (fun c => c == 44 || c == 125) s = upto (fun c => [44, 125].contains c) s := by
  congr 1; funext c; simp [Bool.beq_eq_decide_eq]
theorem upto_end (s : List UInt8) : upto (fun c => c == 32 || c == 125) s = upto (fun c => [32, 125].contains c) s := by
  congr 1; funext c; simp [Bool.beq_eq_decide_eq]
theorem offs_0 {l : List UInt8} (h : pre offset l = none) : offs l = some (0, l) := by unfold offs; rw [h]
theorem offs_up {l r : List UInt8} (h : pre offset l = some r) (h2 : upto (fun c => c == 32 || c == 125) r = none) : offs l = none := by unfold offs; simp only [h, h2]
theorem offs_bad {l r wd r' : List UInt8} (h : pre offset l = some r) (h2 : upto (fun c => c == 32 || c == 125) r = some (wd, r')) (h3 : wd.length ≠ 1) : offs l = none := by
  unfold offs; simp only [h, h2]
  match wd, h3 with
  | [], _ => rfl
  | [_], h3 => exact absurd rfl h3
  | _ :: _ :: _, _ => rfl
theorem offs_dig {l r r' : List UInt8} {d : UInt8} (h : pre offset l = some r) (h2 : upto (fun c => c == 32 || c == 125) r = some ([d], r')) : offs l = if 49 ≤ d ∧ d ≤ 57 then some ((d.toNat : Int) - 48, r') else none := by
  unfold offs; simp only [h, h2]
theorem all_bytes {Q : UInt8 → Prop} (h : ∀ n : Fin 256, Q (UInt8.ofNat n.1)) (d : UInt8) : Q d := by
  have := h ⟨d.toNat, d.toNat_lt⟩; simpa using this
theorem less_no {d : UInt8} (h : 49 ≤ d) : Op.bytesLess [d] [49] = false :=
  all_bytes (Q := fun d => 49 ≤ d → Op.bytesLess [d] [49] = false) (by decide +kernel) d h
theorem less_more_no {d : UInt8} (h : d ≤ 57) : (!Op.bytesLess [d] [57] && !d == 57) = false :=
  all_bytes (Q := fun d => d ≤ 57 → (!Op.bytesLess [d] [57] && !d == 57) = false) (by decide +kernel) d h
theorem dig_wrap {d : UInt8} (h : 49 ≤ d) : ((d.toNat : Int) - 48) % 256 = (d.toNat : Int) - 48 :=
  all_bytes (Q := fun d => 49 ≤ d → ((d.toNat : Int) - 48) % 256 = (d.toNat : Int) - 48) (by decide +kernel) d h
theorem dig_bad {d : UInt8} (h : ¬ (49 ≤ d ∧ d ≤ 57)) : Op.bytesLess [d] [49] = true ∨ (Op.bytesLess [d] [49] = false ∧ (!Op.bytesLess [d] [57] && !d == 57) = true) :=
  all_bytes (Q := fun d => ¬ (49 ≤ d ∧ d ≤ 57) → Op.bytesLess [d] [49] = true ∨ (Op.bytesLess [d] [49] = false ∧ (!Op.bytesLess [d] [57] && !d == 57) = true)) (by decide +kernel) d h
/-- a block that a call made, where the reader moves -/
theorem block_on {w w' : World} {rb q : Nat} {o : Obj} (h : w.heap[q]? = some o) (hg : w.grownBy w' (some rb)) (hne : q ≠ rb) : w'.heap[q]? = some o := by
  have hl : q < w.heap.size := by
    rcases Nat.lt_or_ge q w.heap.size with h' | h'
    · exact h'
    · rw [Array.getElem?_eq_none h'] at h; cases h
  rw [hg.block q hl (fun e => hne (Option.some.inj e))]; exact h

theorem set4 (w : World) (q : Nat) (a b c d : Value) : w.grownBy ((((w.setCell ⟨q, 0, none⟩ a).setCell ⟨q, 1, none⟩ b).setCell ⟨q, 2, none⟩ c).setCell ⟨q, 3, none⟩ d) (some q) :=
  Lib.grownBy_trans (Lib.grownBy_trans (Lib.grownBy_trans (keeps_set _ _ _ _) (keeps_set _ _ _ _)) (keeps_set _ _ _ _)) (keeps_set _ _ _ _)
theorem set4_block {w : World} {q : Nat} {a' b' c' d' : Value} {t : TypeId} (h : w.heap[q]? = some (.cells #[a', b', c', d'] t)) (a b c d : Value) :
    ((((w.setCell ⟨q, 0, none⟩ a).setCell ⟨q, 1, none⟩ b).setCell ⟨q, 2, none⟩ c).setCell ⟨q, 3, none⟩ d).heap[q]? = some (.cells #[a, b, c, d] t) :=
  Joins.block_setCell (i := 3) (Joins.block_setCell (i := 2) (Joins.block_setCell (i := 1) (Joins.block_setCell (i := 0) h a) b) c) d

set_option maxHeartbeats 2000000 in
set_option maxRecDepth 100000 in
theorem rarg_any (n : Nat) (IH : MsgIH n) (hn : n ≤ 100000) (s : List UInt8) (deep : Nat) (mark : Bool) (rb : Nat) (w : World) (hs : s.length ≤ n) (hd : deep ≤ 6) (hA : At w rb s (deep + 1)) :
    Calls Tryz.prog 44 #[.pointer (some ⟨rb, 0, none⟩), .bool mark] w (ArgOut deep mark s rb w) := by
  obtain ⟨rs, hrs⟩ : ∃ rs, rs = w.heap.size := ⟨_, rfl⟩
  have hrl := hA.lt
  have HA := Lib.hid (hA.below ((Below.refl w.heap.size w).alloc (Nat.le_refl _) (.cells #[.int .i64 0, .string ⟨#[]⟩, .int .i64 0, .slice none 0 0] 35)))
  have hbr := Go.heap_alloc_new w (.cells #[.int .i64 0, .string ⟨#[]⟩, .int .i64 0, .slice none 0 0] 35)
  have hg0 := grown_of_below ((Below.refl w.heap.size w).alloc (Nat.le_refl _) (.cells #[.int .i64 0, .string ⟨#[]⟩, .int .i64 0, .slice none 0 0] 35)) (some rb)
  have hs0 : (w.alloc (.cells #[.int .i64 0, .string ⟨#[]⟩, .int .i64 0, .slice none 0 0] 35)).heap.size = rs + 1 := by rw [hrs]; simp
  clear hA
  go_enter Tryz.func44, Tryz.ntmps44
  go_wp2_with fail
  rw [← hrs] at hbr ⊢
  generalize w.alloc (.cells #[.int .i64 0, .string ⟨#[]⟩, .int .i64 0, .slice none 0 0] 35) = w0 at *
  have hrne : rs ≠ rb := by omega
  have HRS := Lib.hid hrs
  have hrl2 : rb < rs := by omega
  clear hrs hrl
  cases h1 : upto (fun c => c == 44 || c == 125) s with
  | none =>
    have HX := Lib.hid (show argO deep mark s = none by unfold argO; rw [h1])
    have HC := Lib.hid (word_no rb s [44, 125] _ w0 (idx_two 44 125 (by decide) (by decide)) (by omega) (by rw [← upto_44]; exact h1) HA.out)
    clear h1
    refine HC.out.mono ?_
    rintro e w1 ⟨rfl, hg1, hA1⟩
    have HG := Lib.hid (keeps_more hg0 hg1 (fun k hk => .inl (Option.some.inj hk).symm))
    have HA1 := Lib.hid hA1
    clear hg1 hA1
    unfold formP
    go_wp2_with fail
    refine ⟨rfl, HG.out, ?_⟩
    rw [HX.out]
    exact ⟨rfl, _, _, HA1.out⟩
  | some p =>
    obtain ⟨x, r2⟩ := p
    have HC := Lib.hid (word_yes rb s [44, 125] x r2 _ w0 (idx_two 44 125 (by decide) (by decide)) (by omega) (by rw [← upto_44]; exact h1) HA.out)
    have l1 := (upto_len h1).1
    have HX := Lib.hid (show argO deep mark s = _ by unfold argO; rw [h1])
    clear h1
    refine HC.out.mono ?_
    rintro e w1 ⟨rfl, hg1, hA1⟩
    have hbr1 := block_on hbr hg1 hrne
    have hs1 : rs + 1 ≤ w1.heap.size := by have := hg1.size; omega
    have HG := Lib.hid (keeps_more hg0 hg1 (fun k hk => .inl (Option.some.inj hk).symm))
    have HA1 := Lib.hid hA1
    clear hg1 hA1 HC hbr hs0 HA hg0
    obtain ⟨xb, hxb⟩ : ∃ xb, xb = w1.heap.size := ⟨_, rfl⟩
    have HA2 := Lib.hid (HA1.out.below ((Below.refl w1.heap.size w1).alloc (Nat.le_refl _) (.cells #[.int .i64 2, .string ⟨x.toArray⟩, .int .i64 0, .slice none 0 0] 35)))
    have HG2 := Lib.hid (keeps_below HG.out ((Below.refl w1.heap.size w1).alloc (Nat.le_refl _) (.cells #[.int .i64 2, .string ⟨x.toArray⟩, .int .i64 0, .slice none 0 0] 35)))
    have hbx2 := Go.heap_alloc_new w1 (.cells #[.int .i64 2, .string ⟨x.toArray⟩, .int .i64 0, .slice none 0 0] 35)
    have hbr2 := (Go.heap_alloc_old w1 (.cells #[.int .i64 2, .string ⟨x.toArray⟩, .int .i64 0, .slice none 0 0] 35) (show rs < w1.heap.size by omega)).trans hbr1
    have hs2 : (w1.alloc (.cells #[.int .i64 2, .string ⟨x.toArray⟩, .int .i64 0, .slice none 0 0] 35)).heap.size = xb + 1 := by rw [hxb]; simp
    go_wp2_with fail
    rw [← hxb] at hbx2 hs1 ⊢
    clear hxb HA1 HG hbr1
    generalize w1.alloc (.cells #[.int .i64 2, .string ⟨x.toArray⟩, .int .i64 0, .slice none 0 0] 35) = w2 at *
    have hxne : xb ≠ rb := by omega
    have hxr : xb ≠ rs := by omega
    have hbx := hbx2; have hbr := hbr2; have HG := HG2; have HA := HA2
    have hsx : xb < w2.heap.size := by omega
    clear hbx2 hbr2 HG2 HA2 hs2
    cases h2 : pre [125] r2 with
    | some r3 =>
      have HX := Lib.hid (show argO deep mark s = some ((2, x, 0, .nil), r3) by rw [HX.out, h2])
      have HC := Lib.hid (cut_yes rb r2 [125] r3 _ w2 h2 HA.out)
      clear h2
      refine HC.out.mono ?_
      rintro e w3 ⟨rfl, hg1, hA1⟩
      have hbx' := block_on hbx hg1 hxne
      have hbr' := block_on hbr hg1 hrne
      have HG' := Lib.hid (keeps_more HG.out hg1 (fun k hk => .inl (Option.some.inj hk).symm))
      have HA' := Lib.hid hA1
      have hsx' : xb < w3.heap.size := by have := hg1.size; omega
      clear hg1 hA1 HC hbx hbr HG HA hsx
      have hbx := hbx'; have hbr := hbr'; have HG := HG'; have HA := HA'; have hsx := hsx'
      clear hbx' hbr' HG' HA' hsx'
      have z0 : w3.cell? ⟨xb, 0, none⟩ = some (.int .i64 2) := by simp [World.cell?, hbx]
      have z1 : w3.cell? ⟨xb, 1, none⟩ = some (.string ⟨x.toArray⟩) := by simp [World.cell?, hbx]
      have z2 : w3.cell? ⟨xb, 2, none⟩ = some (.int .i64 0) := by simp [World.cell?, hbx]
      have z3 : w3.cell? ⟨xb, 3, none⟩ = some (.slice none 0 0) := by simp [World.cell?, hbx]
      have fz3 : w3.frozen? ⟨xb, 3, none⟩ = false := by simp [World.frozen?, hbx]
      have y0 : w3.cell? ⟨rs, 0, none⟩ = some (.int .i64 0) := by simp [World.cell?, hbr]
      have y1 : w3.cell? ⟨rs, 1, none⟩ = some (.string ⟨#[]⟩) := by simp [World.cell?, hbr]
      have y2 : w3.cell? ⟨rs, 2, none⟩ = some (.int .i64 0) := by simp [World.cell?, hbr]
      have y3 : w3.cell? ⟨rs, 3, none⟩ = some (.slice none 0 0) := by simp [World.cell?, hbr]
      have fy0 : w3.frozen? ⟨rs, 0, none⟩ = false := by simp [World.frozen?, hbr]
      have fy1 : w3.frozen? ⟨rs, 1, none⟩ = false := by simp [World.frozen?, hbr]
      have fy2 : w3.frozen? ⟨rs, 2, none⟩ = false := by simp [World.frozen?, hbr]
      have fy3 : w3.frozen? ⟨rs, 3, none⟩ = false := by simp [World.frozen?, hbr]
      go_wp2_with fail
      have hbr' := hbr
      have HG' := HG
      have HA' := HA
      have HV' : Hid (SVP (fun b => xb < b) w3 (.slice none 0 0) .nil) := .inl ⟨⟨_, rfl⟩, rfl⟩
      have hg4 := set4 w3 rs (.int .i64 2) (.string ⟨x.toArray⟩) (.int .i64 0) (.slice none 0 0)
      have hbr4 := set4_block hbr' (.int .i64 2) (.string ⟨x.toArray⟩) (.int .i64 0) (.slice none 0 0)
      have HV4 := Lib.hid (SVP.mono (Q := fun b => w.heap.size ≤ b) (fun b _ hp => by rw [← HRS.out]; omega) (SVP.keep (W' := ((((w3.setCell ⟨rs, 0, none⟩ (.int .i64 2)).setCell ⟨rs, 1, none⟩ (.string ⟨x.toArray⟩)).setCell ⟨rs, 2, none⟩ (.int .i64 0)).setCell ⟨rs, 3, none⟩ (.slice none 0 0))) (fun b hb hp => hg4.block b hb (fun e => by have := Option.some.inj e; omega)) HV'.out))
      have HG4 := Lib.hid (keeps_more HG'.out hg4 (fun k hk => .inr (by cases hk; rw [HRS.out]; exact Nat.le_refl _)))
      have HA4 := Lib.hid (HA'.out.kept hg4 (fun e => hrne (Option.some.inj e)))
      clear z0 z1 z2 z3 fz3 y0 y1 y2 y3 fy0 fy1 fy2 fy3 hbr hbx hg4 hbr'
      generalize ((((w3.setCell ⟨rs, 0, none⟩ (.int .i64 2)).setCell ⟨rs, 1, none⟩ (.string ⟨x.toArray⟩)).setCell ⟨rs, 2, none⟩ (.int .i64 0)).setCell ⟨rs, 3, none⟩ (.slice none 0 0)) = wz at *
      have y0 : wz.cell? ⟨rs, 0, none⟩ = some (.int .i64 2) := by simp [World.cell?, hbr4]
      have y1 : wz.cell? ⟨rs, 1, none⟩ = some (.string ⟨x.toArray⟩) := by simp [World.cell?, hbr4]
      have y2 : wz.cell? ⟨rs, 2, none⟩ = some (.int .i64 0) := by simp [World.cell?, hbr4]
      have y3 : wz.cell? ⟨rs, 3, none⟩ = some (.slice none 0 0) := by simp [World.cell?, hbr4]
      refine ⟨rfl, nodeV 2 x 0 (.slice none 0 0), ?_, ?_⟩
      · simp [results, Tryz.results44, go_sem, y0, y1, y2, y3, nodeV]
      · refine ⟨HG4.out, ?_⟩
        rw [HX.out]
        exact ⟨_, rfl, HV4.out, HA4.out⟩
    | none =>
      have HC0 := Lib.hid (cut_no rb r2 [125] _ w2 h2 HA.out)
      rw [h2] at HX
      clear h2
      refine HC0.out.mono ?_
      rintro e w2 ⟨rfl, rfl⟩
      clear HC0
      go_wp2_with fail
      cases h3 : pre number r2 with
      | some r3 =>
        have HX := Lib.hid (show argO deep mark s = some ((3, x, 0, .nil), r3) by rw [HX.out, h3])
        have HC := Lib.hid (cut_yes rb r2 [44, 32, 110, 117, 109, 98, 101, 114, 125] r3 _ w2 h3 HA.out)
        clear h3
        refine HC.out.mono ?_
        rintro e w3 ⟨rfl, hg1, hA1⟩
        have hbx' := block_on hbx hg1 hxne
        have hbr' := block_on hbr hg1 hrne
        have HG' := Lib.hid (keeps_more HG.out hg1 (fun k hk => .inl (Option.some.inj hk).symm))
        have HA' := Lib.hid hA1
        have hsx' : xb < w3.heap.size := by have := hg1.size; omega
        clear hg1 hA1 HC hbx hbr HG HA hsx
        have hbx := hbx'; have hbr := hbr'; have HG := HG'; have HA := HA'; have hsx := hsx'
        clear hbx' hbr' HG' HA' hsx'
        have HX3 := HX
        have z0 : w3.cell? ⟨xb, 0, none⟩ = some (.int .i64 2) := by simp [World.cell?, hbx]
        have z1 : w3.cell? ⟨xb, 1, none⟩ = some (.string ⟨x.toArray⟩) := by simp [World.cell?, hbx]
        have z2 : w3.cell? ⟨xb, 2, none⟩ = some (.int .i64 0) := by simp [World.cell?, hbx]
        have z3 : w3.cell? ⟨xb, 3, none⟩ = some (.slice none 0 0) := by simp [World.cell?, hbx]
        have fz0 : w3.frozen? ⟨xb, 0, none⟩ = false := by simp [World.frozen?, hbx]
        have y0 : w3.cell? ⟨rs, 0, none⟩ = some (.int .i64 0) := by simp [World.cell?, hbr]
        have y1 : w3.cell? ⟨rs, 1, none⟩ = some (.string ⟨#[]⟩) := by simp [World.cell?, hbr]
        have y2 : w3.cell? ⟨rs, 2, none⟩ = some (.int .i64 0) := by simp [World.cell?, hbr]
        have y3 : w3.cell? ⟨rs, 3, none⟩ = some (.slice none 0 0) := by simp [World.cell?, hbr]
        have fy0 : w3.frozen? ⟨rs, 0, none⟩ = false := by simp [World.frozen?, hbr]
        have fy1 : w3.frozen? ⟨rs, 1, none⟩ = false := by simp [World.frozen?, hbr]
        have fy2 : w3.frozen? ⟨rs, 2, none⟩ = false := by simp [World.frozen?, hbr]
        have fy3 : w3.frozen? ⟨rs, 3, none⟩ = false := by simp [World.frozen?, hbr]
        go_wp2_with fail
        have hbx' := Joins.block_setCell (i := 0) hbx (.int .i64 3)
        have hbr' := (heap_setCell_other w3 ⟨xb, 0, none⟩ rs (.int .i64 3) (fun e => hxr e.symm)).trans hbr
        have HG' := Lib.hid (keeps_more HG.out (keeps_set w3 xb 0 (.int .i64 3)) (fun k hk => .inr (by cases hk; rw [← HRS.out]; omega)))
        have HA' := Lib.hid (HA.out.kept (keeps_set w3 xb 0 (.int .i64 3)) (fun e => hxne (Option.some.inj e)))
        have hsx' : xb < (w3.setCell ⟨xb, 0, none⟩ (.int .i64 3)).heap.size := by simpa using hsx
        clear z0 z1 z2 z3 fz0 y0 y1 y2 y3 fy0 fy1 fy2 fy3 hbx hbr HG HA hsx
        generalize w3.setCell ⟨xb, 0, none⟩ (.int .i64 3) = w4 at *
        have hbx := hbx'; have hbr := hbr'; have HG := HG'; have HA := HA'; have hsx := hsx'
        clear hbx' hbr' HG' HA' hsx'
        have hg4 := set4 w4 rs (.int .i64 3) (.string ⟨x.toArray⟩) (.int .i64 0) (.slice none 0 0)
        have hbr4 := set4_block hbr (.int .i64 3) (.string ⟨x.toArray⟩) (.int .i64 0) (.slice none 0 0)
        have HG4 := Lib.hid (keeps_more HG.out hg4 (fun k hk => .inr (by cases hk; rw [HRS.out]; exact Nat.le_refl _)))
        have HA4 := Lib.hid (HA.out.kept hg4 (fun e => hrne (Option.some.inj e)))
        clear hbr hbx hg4
        generalize ((((w4.setCell ⟨rs, 0, none⟩ (.int .i64 3)).setCell ⟨rs, 1, none⟩ (.string ⟨x.toArray⟩)).setCell ⟨rs, 2, none⟩ (.int .i64 0)).setCell ⟨rs, 3, none⟩ (.slice none 0 0)) = wz at *
        have y0 : wz.cell? ⟨rs, 0, none⟩ = some (.int .i64 3) := by simp [World.cell?, hbr4]
        have y1 : wz.cell? ⟨rs, 1, none⟩ = some (.string ⟨x.toArray⟩) := by simp [World.cell?, hbr4]
        have y2 : wz.cell? ⟨rs, 2, none⟩ = some (.int .i64 0) := by simp [World.cell?, hbr4]
        have y3 : wz.cell? ⟨rs, 3, none⟩ = some (.slice none 0 0) := by simp [World.cell?, hbr4]
        refine ⟨rfl, nodeV 3 x 0 (.slice none 0 0), ?_, ?_⟩
        · simp [results, Tryz.results44, go_sem, y0, y1, y2, y3, nodeV]
        · refine ⟨HG4.out, ?_⟩
          rw [HX.out]
          exact ⟨_, rfl, .inl ⟨⟨_, rfl⟩, rfl⟩, HA4.out⟩
      | none =>
        have HC0 := Lib.hid (cut_no rb r2 [44, 32, 110, 117, 109, 98, 101, 114, 125] _ w2 h3 HA.out)
        rw [h3] at HX
        clear h3
        refine HC0.out.mono ?_
        rintro e w2 ⟨rfl, rfl⟩
        clear HC0
        go_wp2_with fail
        cases h4 : pre select r2 with
        | some r3 =>
          rw [h4] at HX
          have HC := Lib.hid (cut_yes rb r2 [44, 32, 115, 101, 108, 101, 99, 116, 44] r3 _ w2 h4 HA.out)
          have l3 := pre_len h4
          clear h4
          refine HC.out.mono ?_
          rintro e w3 ⟨rfl, hg1, hA1⟩
          have hbx' := block_on hbx hg1 hxne
          have hbr' := block_on hbr hg1 hrne
          have HG' := Lib.hid (keeps_more HG.out hg1 (fun k hk => .inl (Option.some.inj hk).symm))
          have HA' := Lib.hid hA1
          have hsx' : xb < w3.heap.size := by have := hg1.size; omega
          clear hg1 hA1 HC hbx hbr HG HA hsx
          have hbx := hbx'; have hbr := hbr'; have HG := HG'; have HA := HA'; have hsx := hsx'
          clear hbx' hbr' HG' HA' hsx'
          have z0 : w3.cell? ⟨xb, 0, none⟩ = some (.int .i64 2) := by simp [World.cell?, hbx]
          have z1 : w3.cell? ⟨xb, 1, none⟩ = some (.string ⟨x.toArray⟩) := by simp [World.cell?, hbx]
          have z2 : w3.cell? ⟨xb, 2, none⟩ = some (.int .i64 0) := by simp [World.cell?, hbx]
          have z3 : w3.cell? ⟨xb, 3, none⟩ = some (.slice none 0 0) := by simp [World.cell?, hbx]
          have fz0 : w3.frozen? ⟨xb, 0, none⟩ = false := by simp [World.frozen?, hbx]
          go_wp2_with fail
          have hbx' := Joins.block_setCell (i := 0) hbx (.int .i64 5)
          have hbr' := (heap_setCell_other w3 ⟨xb, 0, none⟩ rs (.int .i64 5) (fun e => hxr e.symm)).trans hbr
          have HG' := Lib.hid (keeps_more HG.out (keeps_set w3 xb 0 (.int .i64 5)) (fun k hk => .inr (by cases hk; rw [← HRS.out]; omega)))
          have HA' := Lib.hid (HA.out.kept (keeps_set w3 xb 0 (.int .i64 5)) (fun e => hxne (Option.some.inj e)))
          have hsx' : xb < (w3.setCell ⟨xb, 0, none⟩ (.int .i64 5)).heap.size := by simpa using hsx
          clear z0 z1 z2 z3 fz0 hbx hbr HG HA hsx
          generalize w3.setCell ⟨xb, 0, none⟩ (.int .i64 5) = w4 at *
          have hbx := hbx'; have hbr := hbr'; have HG := HG'; have HA := HA'; have hsx := hsx'
          clear hbx' hbr' HG' HA' hsx'
          have hbx : w4.heap[xb]? = some (.cells #[.int .i64 5, .string ⟨x.toArray⟩, .int .i64 0, .slice none 0 0] 35) := hbx
          have HM := Lib.hid (rcases_any n IH hn r3 deep mark rb w4 (by omega) hd HA.out)
          refine HM.out.mono ?_
          rintro e w9 ⟨hg1, hm⟩
          have hbx' := block_on hbx hg1 hxne
          have hbr' := block_on hbr hg1 hrne
          have HG' := Lib.hid (keeps_more HG.out hg1 (fun k hk => .inl (Option.some.inj hk).symm))
          have hsx' : xb < w9.heap.size := by have := hg1.size; omega
          cases hcc : CC deep mark r3 with
          | none =>
            rw [hcc] at hm
            obtain ⟨rfl, s'', d'', hA5⟩ := hm
            have HA' := Lib.hid hA5
            have HX := Lib.hid (show argO deep mark s = none by rw [HX.out, hcc])
            clear hcc hA5
            unfold formP
            go_wp2_with fail
            refine ⟨rfl, HG'.out, ?_⟩
            rw [HX.out]
            exact ⟨rfl, _, _, HA'.out⟩
          | some p9 =>
            obtain ⟨cs, r9⟩ := p9
            rw [hcc] at hm
            obtain ⟨v, rfl, hv, hA5⟩ := hm
            obtain ⟨va, vn, vc, rfl⟩ := hv.form
            have HX := Lib.hid (show argO deep mark s = some ((5, x, 0, cs), r9) by rw [HX.out, hcc])
            have HV := Lib.hid (SVP.mono (Q := fun b => xb < b) (fun b _ hp => by omega) hv)
            have HA' := Lib.hid hA5
            clear hcc hA5 hv HM hg1 hbx hbr HG HA hsx
            have hbx := hbx'; have hbr := hbr'; have HG := HG'; have HA := HA'; have hsx := hsx'
            clear hbx' hbr' HG' HA' hsx'
            have z0 : w9.cell? ⟨xb, 0, none⟩ = some (.int .i64 5) := by simp [World.cell?, hbx]
            have z1 : w9.cell? ⟨xb, 1, none⟩ = some (.string ⟨x.toArray⟩) := by simp [World.cell?, hbx]
            have z2 : w9.cell? ⟨xb, 2, none⟩ = some (.int .i64 0) := by simp [World.cell?, hbx]
            have z3 : w9.cell? ⟨xb, 3, none⟩ = some (.slice none 0 0) := by simp [World.cell?, hbx]
            have fz3 : w9.frozen? ⟨xb, 3, none⟩ = false := by simp [World.frozen?, hbx]
            have y0 : w9.cell? ⟨rs, 0, none⟩ = some (.int .i64 0) := by simp [World.cell?, hbr]
            have y1 : w9.cell? ⟨rs, 1, none⟩ = some (.string ⟨#[]⟩) := by simp [World.cell?, hbr]
            have y2 : w9.cell? ⟨rs, 2, none⟩ = some (.int .i64 0) := by simp [World.cell?, hbr]
            have y3 : w9.cell? ⟨rs, 3, none⟩ = some (.slice none 0 0) := by simp [World.cell?, hbr]
            have fy0 : w9.frozen? ⟨rs, 0, none⟩ = false := by simp [World.frozen?, hbr]
            have fy1 : w9.frozen? ⟨rs, 1, none⟩ = false := by simp [World.frozen?, hbr]
            have fy2 : w9.frozen? ⟨rs, 2, none⟩ = false := by simp [World.frozen?, hbr]
            have fy3 : w9.frozen? ⟨rs, 3, none⟩ = false := by simp [World.frozen?, hbr]
            go_wp2_with fail
            have hbr' := (heap_setCell_other w9 ⟨xb, 3, none⟩ rs (.slice va vn vc) (fun e => hxr e.symm)).trans hbr
            have HG' := Lib.hid (keeps_more HG.out (keeps_set w9 xb 3 (.slice va vn vc)) (fun k hk => .inr (by cases hk; rw [← HRS.out]; omega)))
            have HA' := Lib.hid (HA.out.kept (keeps_set w9 xb 3 (.slice va vn vc)) (fun e => hxne (Option.some.inj e)))
            have HV' := Lib.hid (SVP.keep (W' := w9.setCell ⟨xb, 3, none⟩ (.slice va vn vc)) (fun b _ hp => heap_setCell_other w9 ⟨xb, 3, none⟩ b _ (by show b ≠ xb; omega)) HV.out)
            have hg4 := set4 (w9.setCell ⟨xb, 3, none⟩ (.slice va vn vc)) rs (.int .i64 5) (.string ⟨x.toArray⟩) (.int .i64 0) (.slice va vn vc)
            have hbr4 := set4_block hbr' (.int .i64 5) (.string ⟨x.toArray⟩) (.int .i64 0) (.slice va vn vc)
            have HV4 := Lib.hid (SVP.mono (Q := fun b => w.heap.size ≤ b) (fun b _ hp => by rw [← HRS.out]; omega) (SVP.keep (W' := (((((w9.setCell ⟨xb, 3, none⟩ (.slice va vn vc)).setCell ⟨rs, 0, none⟩ (.int .i64 5)).setCell ⟨rs, 1, none⟩ (.string ⟨x.toArray⟩)).setCell ⟨rs, 2, none⟩ (.int .i64 0)).setCell ⟨rs, 3, none⟩ (.slice va vn vc))) (fun b hb hp => hg4.block b hb (fun e => by have := Option.some.inj e; omega)) HV'.out))
            have HG4 := Lib.hid (keeps_more HG'.out hg4 (fun k hk => .inr (by cases hk; rw [HRS.out]; exact Nat.le_refl _)))
            have HA4 := Lib.hid (HA'.out.kept hg4 (fun e => hrne (Option.some.inj e)))
            clear z0 z1 z2 z3 fz3 y0 y1 y2 y3 fy0 fy1 fy2 fy3 hbr hbx hg4 hbr'
            generalize (((((w9.setCell ⟨xb, 3, none⟩ (.slice va vn vc)).setCell ⟨rs, 0, none⟩ (.int .i64 5)).setCell ⟨rs, 1, none⟩ (.string ⟨x.toArray⟩)).setCell ⟨rs, 2, none⟩ (.int .i64 0)).setCell ⟨rs, 3, none⟩ (.slice va vn vc)) = wz at *
            have y0 : wz.cell? ⟨rs, 0, none⟩ = some (.int .i64 5) := by simp [World.cell?, hbr4]
            have y1 : wz.cell? ⟨rs, 1, none⟩ = some (.string ⟨x.toArray⟩) := by simp [World.cell?, hbr4]
            have y2 : wz.cell? ⟨rs, 2, none⟩ = some (.int .i64 0) := by simp [World.cell?, hbr4]
            have y3 : wz.cell? ⟨rs, 3, none⟩ = some (.slice va vn vc) := by simp [World.cell?, hbr4]
            refine ⟨rfl, nodeV 5 x 0 (.slice va vn vc), ?_, ?_⟩
            · simp [results, Tryz.results44, go_sem, y0, y1, y2, y3, nodeV]
            · refine ⟨HG4.out, ?_⟩
              rw [HX.out]
              exact ⟨_, rfl, HV4.out, HA4.out⟩
        | none =>
          have HC0 := Lib.hid (cut_no rb r2 [44, 32, 115, 101, 108, 101, 99, 116, 44] _ w2 h4 HA.out)
          rw [h4] at HX
          clear h4
          refine HC0.out.mono ?_
          rintro e w2 ⟨rfl, rfl⟩
          clear HC0
          go_wp2_with fail
          cases h5 : pre plural r2 with
          | none =>
            have HX := Lib.hid (show argO deep mark s = none by rw [HX.out, h5])
            have HC0 := Lib.hid (need_no rb r2 [44, 32, 112, 108, 117, 114, 97, 108, 44] _ w2 h5 HA.out)
            clear h5
            refine HC0.out.mono ?_
            rintro e w2 ⟨rfl, rfl⟩
            unfold formP
            go_wp2_with fail
            refine ⟨rfl, HG.out, ?_⟩
            rw [HX.out]
            exact ⟨rfl, _, _, HA.out⟩
          | some r3 =>
            rw [h5] at HX
            have HC := Lib.hid (need_yes rb r2 [44, 32, 112, 108, 117, 114, 97, 108, 44] r3 _ w2 h5 HA.out)
            have l3 := pre_len h5
            clear h5
            refine HC.out.mono ?_
            rintro e w3 ⟨rfl, hg1, hA1⟩
            have hbx' := block_on hbx hg1 hxne
            have hbr' := block_on hbr hg1 hrne
            have HG' := Lib.hid (keeps_more HG.out hg1 (fun k hk => .inl (Option.some.inj hk).symm))
            have HA' := Lib.hid hA1
            have hsx' : xb < w3.heap.size := by have := hg1.size; omega
            clear hg1 hA1 HC hbx hbr HG HA hsx
            have hbx := hbx'; have hbr := hbr'; have HG := HG'; have HA := HA'; have hsx := hsx'
            clear hbx' hbr' HG' HA' hsx'
            have z0 : w3.cell? ⟨xb, 0, none⟩ = some (.int .i64 2) := by simp [World.cell?, hbx]
            have z1 : w3.cell? ⟨xb, 1, none⟩ = some (.string ⟨x.toArray⟩) := by simp [World.cell?, hbx]
            have z2 : w3.cell? ⟨xb, 2, none⟩ = some (.int .i64 0) := by simp [World.cell?, hbx]
            have z3 : w3.cell? ⟨xb, 3, none⟩ = some (.slice none 0 0) := by simp [World.cell?, hbx]
            have fz0 : w3.frozen? ⟨xb, 0, none⟩ = false := by simp [World.frozen?, hbx]
            go_wp2_with fail
            have hbx' := Joins.block_setCell (i := 0) hbx (.int .i64 4)
            have hbr' := (heap_setCell_other w3 ⟨xb, 0, none⟩ rs (.int .i64 4) (fun e => hxr e.symm)).trans hbr
            have HG' := Lib.hid (keeps_more HG.out (keeps_set w3 xb 0 (.int .i64 4)) (fun k hk => .inr (by cases hk; rw [← HRS.out]; omega)))
            have HA' := Lib.hid (HA.out.kept (keeps_set w3 xb 0 (.int .i64 4)) (fun e => hxne (Option.some.inj e)))
            have hsx' : xb < (w3.setCell ⟨xb, 0, none⟩ (.int .i64 4)).heap.size := by simpa using hsx
            clear z0 z1 z2 z3 fz0 hbx hbr HG HA hsx
            generalize w3.setCell ⟨xb, 0, none⟩ (.int .i64 4) = w4 at *
            have hbx := hbx'; have hbr := hbr'; have HG := HG'; have HA := HA'; have hsx := hsx'
            clear hbx' hbr' HG' HA' hsx'
            have hbx : w4.heap[xb]? = some (.cells #[.int .i64 4, .string ⟨x.toArray⟩, .int .i64 0, .slice none 0 0] 35) := hbx
            cases h6 : pre offset r3 with
            | none =>
              have HX := Lib.hid (show argO deep mark s = (match CC deep true r3 with
                | none => none
                | some (cs, r5) => some ((4, x, 0, cs), r5)) by rw [HX.out, offs_0 h6]; rfl)
              have HC0 := Lib.hid (cut_no rb r3 [32, 111, 102, 102, 115, 101, 116, 58] _ w4 h6 HA.out)
              clear h6
              refine HC0.out.mono ?_
              rintro e w4 ⟨rfl, rfl⟩
              clear HC0
              go_wp2_with fail
              have hbx : w4.heap[xb]? = some (.cells #[.int .i64 4, .string ⟨x.toArray⟩, .int .i64 0, .slice none 0 0] 35) := hbx
              have HM := Lib.hid (rcases_any n IH hn r3 deep true rb w4 (by omega) hd HA.out)
              refine HM.out.mono ?_
              rintro e w9 ⟨hg1, hm⟩
              have hbx' := block_on hbx hg1 hxne
              have hbr' := block_on hbr hg1 hrne
              have HG' := Lib.hid (keeps_more HG.out hg1 (fun k hk => .inl (Option.some.inj hk).symm))
              have hsx' : xb < w9.heap.size := by have := hg1.size; omega
              cases hcc : CC deep true r3 with
              | none =>
                rw [hcc] at hm
                obtain ⟨rfl, s'', d'', hA5⟩ := hm
                have HA' := Lib.hid hA5
                have HX := Lib.hid (show argO deep mark s = none by rw [HX.out, hcc])
                clear hcc hA5
                unfold formP
                go_wp2_with fail
                refine ⟨rfl, HG'.out, ?_⟩
                rw [HX.out]
                exact ⟨rfl, _, _, HA'.out⟩
              | some p9 =>
                obtain ⟨cs, r9⟩ := p9
                rw [hcc] at hm
                obtain ⟨v, rfl, hv, hA5⟩ := hm
                obtain ⟨va, vn, vc, rfl⟩ := hv.form
                have HX := Lib.hid (show argO deep mark s = some ((4, x, 0, cs), r9) by rw [HX.out, hcc])
                have HV := Lib.hid (SVP.mono (Q := fun b => xb < b) (fun b _ hp => by omega) hv)
                have HA' := Lib.hid hA5
                clear hcc hA5 hv HM hg1 hbx hbr HG HA hsx
                have hbx := hbx'; have hbr := hbr'; have HG := HG'; have HA := HA'; have hsx := hsx'
                clear hbx' hbr' HG' HA' hsx'
                have z0 : w9.cell? ⟨xb, 0, none⟩ = some (.int .i64 4) := by simp [World.cell?, hbx]
                have z1 : w9.cell? ⟨xb, 1, none⟩ = some (.string ⟨x.toArray⟩) := by simp [World.cell?, hbx]
                have z2 : w9.cell? ⟨xb, 2, none⟩ = some (.int .i64 0) := by simp [World.cell?, hbx]
                have z3 : w9.cell? ⟨xb, 3, none⟩ = some (.slice none 0 0) := by simp [World.cell?, hbx]
                have fz3 : w9.frozen? ⟨xb, 3, none⟩ = false := by simp [World.frozen?, hbx]
                have y0 : w9.cell? ⟨rs, 0, none⟩ = some (.int .i64 0) := by simp [World.cell?, hbr]
                have y1 : w9.cell? ⟨rs, 1, none⟩ = some (.string ⟨#[]⟩) := by simp [World.cell?, hbr]
                have y2 : w9.cell? ⟨rs, 2, none⟩ = some (.int .i64 0) := by simp [World.cell?, hbr]
                have y3 : w9.cell? ⟨rs, 3, none⟩ = some (.slice none 0 0) := by simp [World.cell?, hbr]
                have fy0 : w9.frozen? ⟨rs, 0, none⟩ = false := by simp [World.frozen?, hbr]
                have fy1 : w9.frozen? ⟨rs, 1, none⟩ = false := by simp [World.frozen?, hbr]
                have fy2 : w9.frozen? ⟨rs, 2, none⟩ = false := by simp [World.frozen?, hbr]
                have fy3 : w9.frozen? ⟨rs, 3, none⟩ = false := by simp [World.frozen?, hbr]
                go_wp2_with fail
                have hbr' := (heap_setCell_other w9 ⟨xb, 3, none⟩ rs (.slice va vn vc) (fun e => hxr e.symm)).trans hbr
                have HG' := Lib.hid (keeps_more HG.out (keeps_set w9 xb 3 (.slice va vn vc)) (fun k hk => .inr (by cases hk; rw [← HRS.out]; omega)))
                have HA' := Lib.hid (HA.out.kept (keeps_set w9 xb 3 (.slice va vn vc)) (fun e => hxne (Option.some.inj e)))
                have HV' := Lib.hid (SVP.keep (W' := w9.setCell ⟨xb, 3, none⟩ (.slice va vn vc)) (fun b _ hp => heap_setCell_other w9 ⟨xb, 3, none⟩ b _ (by show b ≠ xb; omega)) HV.out)
                have hg4 := set4 (w9.setCell ⟨xb, 3, none⟩ (.slice va vn vc)) rs (.int .i64 4) (.string ⟨x.toArray⟩) (.int .i64 0) (.slice va vn vc)
                have hbr4 := set4_block hbr' (.int .i64 4) (.string ⟨x.toArray⟩) (.int .i64 0) (.slice va vn vc)
                have HV4 := Lib.hid (SVP.mono (Q := fun b => w.heap.size ≤ b) (fun b _ hp => by rw [← HRS.out]; omega) (SVP.keep (W' := (((((w9.setCell ⟨xb, 3, none⟩ (.slice va vn vc)).setCell ⟨rs, 0, none⟩ (.int .i64 4)).setCell ⟨rs, 1, none⟩ (.string ⟨x.toArray⟩)).setCell ⟨rs, 2, none⟩ (.int .i64 0)).setCell ⟨rs, 3, none⟩ (.slice va vn vc))) (fun b hb hp => hg4.block b hb (fun e => by have := Option.some.inj e; omega)) HV'.out))
                have HG4 := Lib.hid (keeps_more HG'.out hg4 (fun k hk => .inr (by cases hk; rw [HRS.out]; exact Nat.le_refl _)))
                have HA4 := Lib.hid (HA'.out.kept hg4 (fun e => hrne (Option.some.inj e)))
                clear z0 z1 z2 z3 fz3 y0 y1 y2 y3 fy0 fy1 fy2 fy3 hbr hbx hg4 hbr'
                generalize (((((w9.setCell ⟨xb, 3, none⟩ (.slice va vn vc)).setCell ⟨rs, 0, none⟩ (.int .i64 4)).setCell ⟨rs, 1, none⟩ (.string ⟨x.toArray⟩)).setCell ⟨rs, 2, none⟩ (.int .i64 0)).setCell ⟨rs, 3, none⟩ (.slice va vn vc)) = wz at *
                have y0 : wz.cell? ⟨rs, 0, none⟩ = some (.int .i64 4) := by simp [World.cell?, hbr4]
                have y1 : wz.cell? ⟨rs, 1, none⟩ = some (.string ⟨x.toArray⟩) := by simp [World.cell?, hbr4]
                have y2 : wz.cell? ⟨rs, 2, none⟩ = some (.int .i64 0) := by simp [World.cell?, hbr4]
                have y3 : wz.cell? ⟨rs, 3, none⟩ = some (.slice va vn vc) := by simp [World.cell?, hbr4]
                refine ⟨rfl, nodeV 4 x 0 (.slice va vn vc), ?_, ?_⟩
                · simp [results, Tryz.results44, go_sem, y0, y1, y2, y3, nodeV]
                · refine ⟨HG4.out, ?_⟩
                  rw [HX.out]
                  exact ⟨_, rfl, HV4.out, HA4.out⟩
            | some r4 =>
              have HC := Lib.hid (cut_yes rb r3 [32, 111, 102, 102, 115, 101, 116, 58] r4 _ w4 h6 HA.out)
              have l4 := pre_len h6
              have H6 := Lib.hid h6
              clear h6
              refine HC.out.mono ?_
              rintro e w5 ⟨rfl, hg1, hA1⟩
              have hbx' := block_on hbx hg1 hxne
              have hbr' := block_on hbr hg1 hrne
              have HG' := Lib.hid (keeps_more HG.out hg1 (fun k hk => .inl (Option.some.inj hk).symm))
              have HA' := Lib.hid hA1
              have hsx' : xb < w5.heap.size := by have := hg1.size; omega
              clear hg1 hA1 HC hbx hbr HG HA hsx
              have hbx := hbx'; have hbr := hbr'; have HG := HG'; have HA := HA'; have hsx := hsx'
              clear hbx' hbr' HG' HA' hsx'
              go_wp2_with fail
              cases h7 : upto (fun c => c == 32 || c == 125) r4 with
              | none =>
                have HX := Lib.hid (show argO deep mark s = none by rw [HX.out, offs_up H6.out h7])
                have HC := Lib.hid (word_no rb r4 [32, 125] _ w5 (idx_two 32 125 (by decide) (by decide)) (by omega) (by rw [← upto_end]; exact h7) HA.out)
                clear h7
                refine HC.out.mono ?_
                rintro e w6 ⟨rfl, hg1, hA1⟩
                have HG' := Lib.hid (keeps_more HG.out hg1 (fun k hk => .inl (Option.some.inj hk).symm))
                have HA' := Lib.hid hA1
                clear hg1 hA1
                unfold formP
                go_wp2_with fail
                refine ⟨rfl, HG'.out, ?_⟩
                rw [HX.out]
                exact ⟨rfl, _, _, HA'.out⟩
              | some p7 =>
                obtain ⟨wd, r5⟩ := p7
                have HC := Lib.hid (word_yes rb r4 [32, 125] wd r5 _ w5 (idx_two 32 125 (by decide) (by decide)) (by omega) (by rw [← upto_end]; exact h7) HA.out)
                have l5 := (upto_len h7).1
                have H7 := Lib.hid h7
                clear h7
                refine HC.out.mono ?_
                rintro e w6 ⟨rfl, hg1, hA1⟩
                have hbx' := block_on hbx hg1 hxne
                have hbr' := block_on hbr hg1 hrne
                have HG' := Lib.hid (keeps_more HG.out hg1 (fun k hk => .inl (Option.some.inj hk).symm))
                have HA' := Lib.hid hA1
                have hsx' : xb < w6.heap.size := by have := hg1.size; omega
                clear hg1 hA1 HC hbx hbr HG HA hsx
                have hbx := hbx'; have hbr := hbr'; have HG := HG'; have HA := HA'; have hsx := hsx'
                clear hbx' hbr' HG' HA' hsx'
                have hwl := sizeOf_mk wd
                by_cases hw1 : wd.length = 1
                · obtain ⟨d, rfl⟩ := List.length_eq_one_iff.1 hw1
                  clear hwl hw1
                  have q3 : ∀ h : 0 < (⟨#[d]⟩ : ByteArray).size, (⟨#[d]⟩ : ByteArray)[0] = d := fun _ => rfl
                  by_cases hdl : 49 ≤ d ∧ d ≤ 57
                  · have HX := Lib.hid (show argO deep mark s = (match CC deep true r5 with
                      | none => none
                      | some (cs, r5) => some ((4, x, (d.toNat : Int) - 48, cs), r5)) by rw [HX.out, offs_dig H6.out H7.out, if_pos hdl]; rfl)
                    have q1 := less_no hdl.1
                    have q2 := less_more_no hdl.2
                    have q4 := dig_wrap hdl.1
                    clear hdl
                    have hbx : w6.heap[xb]? = some (.cells #[.int .i64 4, .string ⟨x.toArray⟩, .int .i64 0, .slice none 0 0] 35) := hbx
                    have z0 : w6.cell? ⟨xb, 0, none⟩ = some (.int .i64 4) := by simp [World.cell?, hbx]
                    have z1 : w6.cell? ⟨xb, 1, none⟩ = some (.string ⟨x.toArray⟩) := by simp [World.cell?, hbx]
                    have z2 : w6.cell? ⟨xb, 2, none⟩ = some (.int .i64 0) := by simp [World.cell?, hbx]
                    have z3 : w6.cell? ⟨xb, 3, none⟩ = some (.slice none 0 0) := by simp [World.cell?, hbx]
                    have fz2 : w6.frozen? ⟨xb, 2, none⟩ = false := by simp [World.frozen?, hbx]
                    go_wp2_with fail
                    clear q1 q2 q3 q4
                    have hbx' := Joins.block_setCell (i := 2) hbx (.int .i64 ((d.toNat : Int) - 48))
                    have hbr' := (heap_setCell_other w6 ⟨xb, 2, none⟩ rs (.int .i64 ((d.toNat : Int) - 48)) (fun e => hxr e.symm)).trans hbr
                    have HG' := Lib.hid (keeps_more HG.out (keeps_set w6 xb 2 (.int .i64 ((d.toNat : Int) - 48))) (fun k hk => .inr (by cases hk; rw [← HRS.out]; omega)))
                    have HA' := Lib.hid (HA.out.kept (keeps_set w6 xb 2 (.int .i64 ((d.toNat : Int) - 48))) (fun e => hxne (Option.some.inj e)))
                    have hsx' : xb < (w6.setCell ⟨xb, 2, none⟩ (.int .i64 ((d.toNat : Int) - 48))).heap.size := by simpa using hsx
                    clear z0 z1 z2 z3 fz2 hbx hbr HG HA hsx
                    generalize w6.setCell ⟨xb, 2, none⟩ (.int .i64 ((d.toNat : Int) - 48)) = w8 at *
                    have hbx := hbx'; have hbr := hbr'; have HG := HG'; have HA := HA'; have hsx := hsx'
                    clear hbx' hbr' HG' HA' hsx'
                    have hbx : w8.heap[xb]? = some (.cells #[.int .i64 4, .string ⟨x.toArray⟩, .int .i64 ((d.toNat : Int) - 48), .slice none 0 0] 35) := hbx
                    have HM := Lib.hid (rcases_any n IH hn r5 deep true rb w8 (by omega) hd HA.out)
                    refine HM.out.mono ?_
                    rintro e w9 ⟨hg1, hm⟩
                    have hbx' := block_on hbx hg1 hxne
                    have hbr' := block_on hbr hg1 hrne
                    have HG' := Lib.hid (keeps_more HG.out hg1 (fun k hk => .inl (Option.some.inj hk).symm))
                    have hsx' : xb < w9.heap.size := by have := hg1.size; omega
                    cases hcc : CC deep true r5 with
                    | none =>
                      rw [hcc] at hm
                      obtain ⟨rfl, s'', d'', hA5⟩ := hm
                      have HA' := Lib.hid hA5
                      have HX := Lib.hid (show argO deep mark s = none by rw [HX.out, hcc])
                      clear hcc hA5
                      unfold formP
                      go_wp2_with fail
                      refine ⟨rfl, HG'.out, ?_⟩
                      rw [HX.out]
                      exact ⟨rfl, _, _, HA'.out⟩
                    | some p9 =>
                      obtain ⟨cs, r9⟩ := p9
                      rw [hcc] at hm
                      obtain ⟨v, rfl, hv, hA5⟩ := hm
                      obtain ⟨va, vn, vc, rfl⟩ := hv.form
                      have HX := Lib.hid (show argO deep mark s = some ((4, x, ((d.toNat : Int) - 48), cs), r9) by rw [HX.out, hcc])
                      have HV := Lib.hid (SVP.mono (Q := fun b => xb < b) (fun b _ hp => by omega) hv)
                      have HA' := Lib.hid hA5
                      clear hcc hA5 hv HM hg1 hbx hbr HG HA hsx
                      have hbx := hbx'; have hbr := hbr'; have HG := HG'; have HA := HA'; have hsx := hsx'
                      clear hbx' hbr' HG' HA' hsx'
                      have z0 : w9.cell? ⟨xb, 0, none⟩ = some (.int .i64 4) := by simp [World.cell?, hbx]
                      have z1 : w9.cell? ⟨xb, 1, none⟩ = some (.string ⟨x.toArray⟩) := by simp [World.cell?, hbx]
                      have z2 : w9.cell? ⟨xb, 2, none⟩ = some (.int .i64 ((d.toNat : Int) - 48)) := by simp [World.cell?, hbx]
                      have z3 : w9.cell? ⟨xb, 3, none⟩ = some (.slice none 0 0) := by simp [World.cell?, hbx]
                      have fz3 : w9.frozen? ⟨xb, 3, none⟩ = false := by simp [World.frozen?, hbx]
                      have y0 : w9.cell? ⟨rs, 0, none⟩ = some (.int .i64 0) := by simp [World.cell?, hbr]
                      have y1 : w9.cell? ⟨rs, 1, none⟩ = some (.string ⟨#[]⟩) := by simp [World.cell?, hbr]
                      have y2 : w9.cell? ⟨rs, 2, none⟩ = some (.int .i64 0) := by simp [World.cell?, hbr]
                      have y3 : w9.cell? ⟨rs, 3, none⟩ = some (.slice none 0 0) := by simp [World.cell?, hbr]
                      have fy0 : w9.frozen? ⟨rs, 0, none⟩ = false := by simp [World.frozen?, hbr]
                      have fy1 : w9.frozen? ⟨rs, 1, none⟩ = false := by simp [World.frozen?, hbr]
                      have fy2 : w9.frozen? ⟨rs, 2, none⟩ = false := by simp [World.frozen?, hbr]
                      have fy3 : w9.frozen? ⟨rs, 3, none⟩ = false := by simp [World.frozen?, hbr]
                      go_wp2_with fail
                      have hbr' := (heap_setCell_other w9 ⟨xb, 3, none⟩ rs (.slice va vn vc) (fun e => hxr e.symm)).trans hbr
                      have HG' := Lib.hid (keeps_more HG.out (keeps_set w9 xb 3 (.slice va vn vc)) (fun k hk => .inr (by cases hk; rw [← HRS.out]; omega)))
                      have HA' := Lib.hid (HA.out.kept (keeps_set w9 xb 3 (.slice va vn vc)) (fun e => hxne (Option.some.inj e)))
                      have HV' := Lib.hid (SVP.keep (W' := w9.setCell ⟨xb, 3, none⟩ (.slice va vn vc)) (fun b _ hp => heap_setCell_other w9 ⟨xb, 3, none⟩ b _ (by show b ≠ xb; omega)) HV.out)
                      have hg4 := set4 (w9.setCell ⟨xb, 3, none⟩ (.slice va vn vc)) rs (.int .i64 4) (.string ⟨x.toArray⟩) (.int .i64 ((d.toNat : Int) - 48)) (.slice va vn vc)
                      have hbr4 := set4_block hbr' (.int .i64 4) (.string ⟨x.toArray⟩) (.int .i64 ((d.toNat : Int) - 48)) (.slice va vn vc)
                      have HV4 := Lib.hid (SVP.mono (Q := fun b => w.heap.size ≤ b) (fun b _ hp => by rw [← HRS.out]; omega) (SVP.keep (W' := (((((w9.setCell ⟨xb, 3, none⟩ (.slice va vn vc)).setCell ⟨rs, 0, none⟩ (.int .i64 4)).setCell ⟨rs, 1, none⟩ (.string ⟨x.toArray⟩)).setCell ⟨rs, 2, none⟩ (.int .i64 ((d.toNat : Int) - 48))).setCell ⟨rs, 3, none⟩ (.slice va vn vc))) (fun b hb hp => hg4.block b hb (fun e => by have := Option.some.inj e; omega)) HV'.out))
                      have HG4 := Lib.hid (keeps_more HG'.out hg4 (fun k hk => .inr (by cases hk; rw [HRS.out]; exact Nat.le_refl _)))
                      have HA4 := Lib.hid (HA'.out.kept hg4 (fun e => hrne (Option.some.inj e)))
                      clear z0 z1 z2 z3 fz3 y0 y1 y2 y3 fy0 fy1 fy2 fy3 hbr hbx hg4 hbr'
                      generalize (((((w9.setCell ⟨xb, 3, none⟩ (.slice va vn vc)).setCell ⟨rs, 0, none⟩ (.int .i64 4)).setCell ⟨rs, 1, none⟩ (.string ⟨x.toArray⟩)).setCell ⟨rs, 2, none⟩ (.int .i64 ((d.toNat : Int) - 48))).setCell ⟨rs, 3, none⟩ (.slice va vn vc)) = wz at *
                      have y0 : wz.cell? ⟨rs, 0, none⟩ = some (.int .i64 4) := by simp [World.cell?, hbr4]
                      have y1 : wz.cell? ⟨rs, 1, none⟩ = some (.string ⟨x.toArray⟩) := by simp [World.cell?, hbr4]
                      have y2 : wz.cell? ⟨rs, 2, none⟩ = some (.int .i64 ((d.toNat : Int) - 48)) := by simp [World.cell?, hbr4]
                      have y3 : wz.cell? ⟨rs, 3, none⟩ = some (.slice va vn vc) := by simp [World.cell?, hbr4]
                      refine ⟨rfl, nodeV 4 x ((d.toNat : Int) - 48) (.slice va vn vc), ?_, ?_⟩
                      · simp [results, Tryz.results44, go_sem, y0, y1, y2, y3, nodeV]
                      · refine ⟨HG4.out, ?_⟩
                        rw [HX.out]
                        exact ⟨_, rfl, HV4.out, HA4.out⟩
                  · have HX := Lib.hid (show argO deep mark s = none by rw [HX.out, offs_dig H6.out H7.out, if_neg hdl])
                    rcases dig_bad hdl with q1 | ⟨q1, q2⟩
                    · clear hdl
                      go_wp2_with fail
                      refine ⟨rfl, HG.out, ?_⟩
                      rw [HX.out]
                      exact ⟨rfl, _, _, HA.out⟩
                    · clear hdl
                      go_wp2_with fail
                      refine ⟨rfl, HG.out, ?_⟩
                      rw [HX.out]
                      exact ⟨rfl, _, _, HA.out⟩
                · have HX := Lib.hid (show argO deep mark s = none by rw [HX.out, offs_bad H6.out H7.out hw1])
                  have hw2 : ¬ (wd.length : Int) = 1 := by omega
                  clear hw1
                  go_wp2_with fail
                  refine ⟨rfl, HG.out, ?_⟩
                  rw [HX.out]
                  exact ⟨rfl, _, _, HA.out⟩
end Go.Proofs.YtgkphpjnfigjiaaGreatDoor
