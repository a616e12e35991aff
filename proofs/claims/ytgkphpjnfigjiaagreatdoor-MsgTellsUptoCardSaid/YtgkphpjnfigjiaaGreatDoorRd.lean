/-
  A message in a world: slices of nodes and of cases that read as a tree.
-/
import Derived.Test.YtgkphpjnfigjiaaGreatDoorProg
import Derived.Test.YtgkphpjnfigjiaaGreatDoorKit
import Derived.Test.YtgkphpjnfigjiaaGreatDoorPback
namespace Go.Proofs.YtgkphpjnfigjiaaGreatDoor
open Go.RowKit Ms

/-- a chain of nodes (4 cells each) or of cases (2 cells each), n of them, from a place on -/
def Rd (W : World) : T → Nat → Nat → Nat → Prop
  | .nil, _, _, n => n = 0
  | .node k x f cs nx, b, o, n => ∃ v m, n = m + 1 ∧ W.cell? ⟨b, o, none⟩ = some (.int .i64 k) ∧ W.cell? ⟨b, o + 1, none⟩ = some (.string ⟨x.toArray⟩) ∧ W.cell? ⟨b, o + 2, none⟩ = some (.int .i64 f) ∧ W.cell? ⟨b, o + 3, none⟩ = some v ∧
      (((∃ a, v = .slice a 0 0) ∧ cs = .nil) ∨ ∃ b' o' n' c', v = .slice (some ⟨b', o', none⟩) n' c' ∧ n' ≤ c' ∧ Rd W cs b' o' n') ∧ Rd W nx b (o + 4) m
  | .case key body nx, b, o, n => ∃ v m, n = m + 1 ∧ W.cell? ⟨b, o, none⟩ = some (.string ⟨key.toArray⟩) ∧ W.cell? ⟨b, o + 1, none⟩ = some v ∧
      (((∃ a, v = .slice a 0 0) ∧ body = .nil) ∨ ∃ b' o' n' c', v = .slice (some ⟨b', o', none⟩) n' c' ∧ n' ≤ c' ∧ Rd W body b' o' n') ∧ Rd W nx b (o + 2) m
/-- a slice that reads as a chain -/
def SV (W : World) (v : Value) (t : T) : Prop := ((∃ a, v = .slice a 0 0) ∧ t = .nil) ∨ ∃ b o n c, v = .slice (some ⟨b, o, none⟩) n c ∧ n ≤ c ∧ Rd W t b o n

theorem cellLt {w : World} {b o : Nat} {v : Value} (h : w.cell? ⟨b, o, none⟩ = some v) : b < w.heap.size := by
  rcases Nat.lt_or_ge b w.heap.size with h' | h'
  · exact h'
  · simp [World.cell?, Array.getElem?_eq_none h'] at h

theorem Rd.keep {W W' : World} (hc : ∀ b o v, W.cell? ⟨b, o, none⟩ = some v → W'.cell? ⟨b, o, none⟩ = some v) : ∀ (t : T) (b o n : Nat), Rd W t b o n → Rd W' t b o n
  | .nil, _, _, _, h => h
  | .node k x f cs nx, b, o, n, h => by
    obtain ⟨v, m, h1, h2, h3, h4, h5, h6, h7⟩ := h
    refine ⟨v, m, h1, hc _ _ _ h2, hc _ _ _ h3, hc _ _ _ h4, hc _ _ _ h5, ?_, Rd.keep hc nx _ _ _ h7⟩
    rcases h6 with h6 | ⟨b', o', n', c', e1, e2, e3⟩
    · exact .inl h6
    · exact .inr ⟨b', o', n', c', e1, e2, Rd.keep hc cs _ _ _ e3⟩
  | .case key body nx, b, o, n, h => by
    obtain ⟨v, m, h1, h2, h3, h6, h7⟩ := h
    refine ⟨v, m, h1, hc _ _ _ h2, hc _ _ _ h3, ?_, Rd.keep hc nx _ _ _ h7⟩
    rcases h6 with h6 | ⟨b', o', n', c', e1, e2, e3⟩
    · exact .inl h6
    · exact .inr ⟨b', o', n', c', e1, e2, Rd.keep hc body _ _ _ e3⟩
theorem keepCells {W W' : World} (hb : Below W.heap.size W W') : ∀ b o v, W.cell? ⟨b, o, none⟩ = some v → W'.cell? ⟨b, o, none⟩ = some v := fun b o v h => by
  rw [hb.cell (p := ⟨_, _, none⟩) (cellLt h)]; exact h
theorem Rd.below {W W' : World} {t : T} {b o n : Nat} (h : Rd W t b o n) (hb : Below W.heap.size W W') : Rd W' t b o n := Rd.keep (keepCells hb) t b o n h
theorem SV.below {W W' : World} {v : Value} {t : T} (h : SV W v t) (hb : Below W.heap.size W W') : SV W' v t := by
  rcases h with h | ⟨b, o, n, c, e1, e2, e3⟩
  · exact .inl h
  · exact .inr ⟨b, o, n, c, e1, e2, e3.below hb⟩

/-- how many there are in a chain -/
def len : T → Nat
  | .nil => 0
  | .node _ _ _ _ nx => len nx + 1
  | .case _ _ nx => len nx + 1
theorem Rd.len {W : World} : ∀ (t : T) (b o n : Nat), Rd W t b o n → n = len t
  | .nil, _, _, _, h => h
  | .node k x f cs nx, b, o, n, h => by
    obtain ⟨v, m, h1, _, _, _, _, _, h7⟩ := h
    rw [h1, Rd.len nx _ _ _ h7]; rfl
  | .case key body nx, b, o, n, h => by
    obtain ⟨v, m, h1, _, _, _, h7⟩ := h
    rw [h1, Rd.len nx _ _ _ h7]; rfl
/-- what a tree weighs: its parts and its letters -/
def wt : T → Nat
  | .nil => 1
  | .node _ x _ cs nx => 4 + x.length + wt cs + wt nx
  | .case key body nx => 2 + key.length + wt body + wt nx
theorem len_wt : ∀ t, len t ≤ wt t
  | .nil => by simp [len, wt]
  | .node _ _ _ cs nx => by have := len_wt nx; simp [len, wt]; omega
  | .case _ body nx => by have := len_wt nx; simp [len, wt]; omega
theorem cnt_wt : ∀ t, cnt t ≤ wt t
  | .nil => by simp [cnt, wt]
  | .node k _ _ cs nx => by
    have h1 := cnt_wt nx; have h2 := cnt_wt cs
    simp only [cnt, wt]; split <;> omega
  | .case _ body nx => by have h1 := cnt_wt nx; have h2 := cnt_wt body; simp only [cnt, wt]; omega
theorem len_cnt : ∀ t, isN t = true → len t ≤ cnt t
  | .nil, _ => by simp [len]
  | .node k _ _ cs nx, h => by
    have := len_cnt nx (by have : isN.isC cs = true ∧ isN nx = true := by simpa [isN] using h
                           exact this.2)
    simp only [len, cnt]; split <;> omega
  | .case _ _ _, h => by cases h
/-- how many parts, for induction -/
def sz : T → Nat
  | .nil => 0
  | .node _ _ _ cs nx => sz cs + sz nx + 1
  | .case _ body nx => sz body + sz nx + 1
/-- a node's value -/
def nodeV (k : Int) (x : List UInt8) (f : Int) (v : Value) : Value := .agg #[.int .i64 k, .string ⟨x.toArray⟩, .int .i64 f, v]

set_option maxRecDepth 100000 in
/-- msg.Cases: a node's cases, if its kind has some -/
theorem cases_any (k f : Int) (x : ByteArray) (v : Value) (w : World) :
    Calls Tryz.prog 51 #[.agg #[.int .i64 k, .string x, .int .i64 f, v]] w fun e w' => e = .returned (if hasC k = true then v else .slice none 0 0) ∧ Below w.heap.size w w' := by
  have hb : ∃ p q : Bool, (k == 4) = p ∧ (k == 5) = q := ⟨_, _, rfl, rfl⟩
  obtain ⟨p, q, hp, hq⟩ := hb
  have hh : hasC k = (p || q) := by unfold hasC; rw [hp, hq]
  rw [hh]
  clear hh
  cases p <;> cases q
  all_goals
    go_enter Tryz.func51, Tryz.ntmps51
    go_wp2_with fail
    go_ret
    exact ⟨rfl, (Below.refl _ _).alloc (Nat.le_refl _) _⟩
end Go.Proofs.YtgkphpjnfigjiaaGreatDoor
