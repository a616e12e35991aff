/-
  Messages that a call builds: trees all of whose blocks fulfil a condition; what was appended so far.
-/
import Derived.Test.YtgkphpjnfigjiaaGreatDoorCut
import Derived.Deep.AppendLies
namespace Go.Proofs.YtgkphpjnfigjiaaGreatDoor
open Go.RowKit Ms

/-- a chain that reads, the blocks beneath it fulfil P -/
def RdP (P : Nat → Prop) (W : World) : T → Nat → Nat → Nat → Prop
  | .nil, _, _, n => n = 0
  | .node k x f cs nx, b, o, n => ∃ v m, n = m + 1 ∧ W.cell? ⟨b, o, none⟩ = some (.int .i64 k) ∧ W.cell? ⟨b, o + 1, none⟩ = some (.string ⟨x.toArray⟩) ∧ W.cell? ⟨b, o + 2, none⟩ = some (.int .i64 f) ∧ W.cell? ⟨b, o + 3, none⟩ = some v ∧
      (((∃ a, v = .slice a 0 0) ∧ cs = .nil) ∨ ∃ b' o' n' c', v = .slice (some ⟨b', o', none⟩) n' c' ∧ n' ≤ c' ∧ (cs = .nil ∨ P b') ∧ RdP P W cs b' o' n') ∧ RdP P W nx b (o + 4) m
  | .case key body nx, b, o, n => ∃ v m, n = m + 1 ∧ W.cell? ⟨b, o, none⟩ = some (.string ⟨key.toArray⟩) ∧ W.cell? ⟨b, o + 1, none⟩ = some v ∧
      (((∃ a, v = .slice a 0 0) ∧ body = .nil) ∨ ∃ b' o' n' c', v = .slice (some ⟨b', o', none⟩) n' c' ∧ n' ≤ c' ∧ (body = .nil ∨ P b') ∧ RdP P W body b' o' n') ∧ RdP P W nx b (o + 2) m
def SVP (P : Nat → Prop) (W : World) (v : Value) (t : T) : Prop := ((∃ a, v = .slice a 0 0) ∧ t = .nil) ∨ ∃ b o n c, v = .slice (some ⟨b, o, none⟩) n c ∧ n ≤ c ∧ (t = .nil ∨ P b) ∧ RdP P W t b o n
theorem SVP.nil (P : Nat → Prop) (W : World) : SVP P W (.slice none 0 0) .nil := .inl ⟨⟨_, rfl⟩, rfl⟩
theorem SVP.form {P : Nat → Prop} {W : World} {v : Value} {t : T} (h : SVP P W v t) : ∃ a n c, v = .slice a n c := by
  rcases h with ⟨⟨_, h⟩, _⟩ | ⟨b, o, n, c, h, _⟩
  · exact ⟨_, _, _, h⟩
  · exact ⟨_, _, _, h⟩
theorem RdP.rd {P : Nat → Prop} {W : World} : ∀ (t : T) (b o n : Nat), RdP P W t b o n → Rd W t b o n
  | .nil, _, _, _, h => h
  | .node k x f cs nx, b, o, n, h => by
    obtain ⟨v, m, h1, h2, h3, h4, h5, h6, h7⟩ := h
    refine ⟨v, m, h1, h2, h3, h4, h5, ?_, RdP.rd nx _ _ _ h7⟩
    rcases h6 with h6 | ⟨b', o', n', c', e1, e2, _, e3⟩
    · exact .inl h6
    · exact .inr ⟨b', o', n', c', e1, e2, RdP.rd cs _ _ _ e3⟩
  | .case key body nx, b, o, n, h => by
    obtain ⟨v, m, h1, h2, h3, h6, h7⟩ := h
    refine ⟨v, m, h1, h2, h3, ?_, RdP.rd nx _ _ _ h7⟩
    rcases h6 with h6 | ⟨b', o', n', c', e1, e2, _, e3⟩
    · exact .inl h6
    · exact .inr ⟨b', o', n', c', e1, e2, RdP.rd body _ _ _ e3⟩
theorem SVP.sv {P : Nat → Prop} {W : World} {v : Value} {t : T} (h : SVP P W v t) : SV W v t := by
  rcases h with h | ⟨b, o, n, c, e1, e2, _, e3⟩
  · exact .inl h
  · exact .inr ⟨b, o, n, c, e1, e2, RdP.rd t _ _ _ e3⟩
theorem RdP.lt {P : Nat → Prop} {W : World} {t : T} {b o n : Nat} (h : RdP P W t b o n) : t = .nil ∨ b < W.heap.size := by
  cases t with
  | nil => exact .inl rfl
  | node k x f cs nx => obtain ⟨v, m, h1, h2, _⟩ := h; exact .inr (cellLt h2)
  | case key body nx => obtain ⟨v, m, h1, h2, _⟩ := h; exact .inr (cellLt h2)
theorem RdP.mono {P Q : Nat → Prop} {W : World} (hq : ∀ b, b < W.heap.size → P b → Q b) : ∀ (t : T) (b o n : Nat), RdP P W t b o n → RdP Q W t b o n
  | .nil, _, _, _, h => h
  | .node k x f cs nx, b, o, n, h => by
    obtain ⟨v, m, h1, h2, h3, h4, h5, h6, h7⟩ := h
    refine ⟨v, m, h1, h2, h3, h4, h5, ?_, RdP.mono hq nx _ _ _ h7⟩
    rcases h6 with h6 | ⟨b', o', n', c', e1, e2, e4, e3⟩
    · exact .inl h6
    · exact .inr ⟨b', o', n', c', e1, e2, e4.elim .inl (fun hp => e3.lt.elim .inl (fun hl => .inr (hq _ hl hp))), RdP.mono hq cs _ _ _ e3⟩
  | .case key body nx, b, o, n, h => by
    obtain ⟨v, m, h1, h2, h3, h6, h7⟩ := h
    refine ⟨v, m, h1, h2, h3, ?_, RdP.mono hq nx _ _ _ h7⟩
    rcases h6 with h6 | ⟨b', o', n', c', e1, e2, e4, e3⟩
    · exact .inl h6
    · exact .inr ⟨b', o', n', c', e1, e2, e4.elim .inl (fun hp => e3.lt.elim .inl (fun hl => .inr (hq _ hl hp))), RdP.mono hq body _ _ _ e3⟩
theorem SVP.mono {P Q : Nat → Prop} {W : World} (hq : ∀ b, b < W.heap.size → P b → Q b) {v : Value} {t : T} (h : SVP P W v t) : SVP Q W v t := by
  rcases h with h | ⟨b, o, n, c, e1, e2, e4, e3⟩
  · exact .inl h
  · exact .inr ⟨b, o, n, c, e1, e2, e4.elim .inl (fun hp => e3.lt.elim .inl (fun hl => .inr (hq _ hl hp))), RdP.mono hq t _ _ _ e3⟩
theorem RdP.keep {P : Nat → Prop} {W W' : World} (hk : ∀ b, b < W.heap.size → P b → W'.heap[b]? = W.heap[b]?) : ∀ (t : T) (b o n : Nat), (t = .nil ∨ W'.heap[b]? = W.heap[b]?) → RdP P W t b o n → RdP P W' t b o n
  | .nil, _, _, _, _, h => h
  | .node k x f cs nx, b, o, n, hb, h => by
    have hb : W'.heap[b]? = W.heap[b]? := hb.elim (fun h => nomatch h) id
    have hc : ∀ o, W'.cell? ⟨b, o, none⟩ = W.cell? ⟨b, o, none⟩ := fun o => World.cell?_of_block hb
    obtain ⟨v, m, h1, h2, h3, h4, h5, h6, h7⟩ := h
    refine ⟨v, m, h1, by rw [hc]; exact h2, by rw [hc]; exact h3, by rw [hc]; exact h4, by rw [hc]; exact h5, ?_, RdP.keep hk nx _ _ _ (.inr hb) h7⟩
    rcases h6 with h6 | ⟨b', o', n', c', e1, e2, e4, e3⟩
    · exact .inl h6
    · exact .inr ⟨b', o', n', c', e1, e2, e4, RdP.keep hk cs _ _ _ (e4.elim .inl (fun hp => e3.lt.elim .inl (fun hl => .inr (hk _ hl hp)))) e3⟩
  | .case key body nx, b, o, n, hb, h => by
    have hb : W'.heap[b]? = W.heap[b]? := hb.elim (fun h => nomatch h) id
    have hc : ∀ o, W'.cell? ⟨b, o, none⟩ = W.cell? ⟨b, o, none⟩ := fun o => World.cell?_of_block hb
    obtain ⟨v, m, h1, h2, h3, h6, h7⟩ := h
    refine ⟨v, m, h1, by rw [hc]; exact h2, by rw [hc]; exact h3, ?_, RdP.keep hk nx _ _ _ (.inr hb) h7⟩
    rcases h6 with h6 | ⟨b', o', n', c', e1, e2, e4, e3⟩
    · exact .inl h6
    · exact .inr ⟨b', o', n', c', e1, e2, e4, RdP.keep hk body _ _ _ (e4.elim .inl (fun hp => e3.lt.elim .inl (fun hl => .inr (hk _ hl hp)))) e3⟩
theorem SVP.keep {P : Nat → Prop} {W W' : World} (hk : ∀ b, b < W.heap.size → P b → W'.heap[b]? = W.heap[b]?) {v : Value} {t : T} (h : SVP P W v t) : SVP P W' v t := by
  rcases h with h | ⟨b, o, n, c, e1, e2, e4, e3⟩
  · exact .inl h
  · exact .inr ⟨b, o, n, c, e1, e2, e4, RdP.keep hk t _ _ _ (e4.elim .inl (fun hp => e3.lt.elim .inl (fun hl => .inr (hk _ hl hp)))) e3⟩

/-- cells that read as a chain -/
def RdX (P : Nat → Prop) (W : World) : T → List Value → Prop
  | .nil, xs => xs = []
  | .node k x f cs nx, xs => ∃ v r, xs = .int .i64 k :: .string ⟨x.toArray⟩ :: .int .i64 f :: v :: r ∧ SVP P W v cs ∧ RdX P W nx r
  | .case key body nx, xs => ∃ v r, xs = .string ⟨key.toArray⟩ :: v :: r ∧ SVP P W v body ∧ RdX P W nx r
theorem RdX.mono {P Q : Nat → Prop} {W : World} (hq : ∀ b, b < W.heap.size → P b → Q b) : ∀ (t : T) (xs : List Value), RdX P W t xs → RdX Q W t xs
  | .nil, _, h => h
  | .node _ _ _ _ nx, _, ⟨v, r, h1, h2, h3⟩ => ⟨v, r, h1, h2.mono hq, RdX.mono hq nx r h3⟩
  | .case _ _ nx, _, ⟨v, r, h1, h2, h3⟩ => ⟨v, r, h1, h2.mono hq, RdX.mono hq nx r h3⟩
theorem RdX.keep {P : Nat → Prop} {W W' : World} (hk : ∀ b, b < W.heap.size → P b → W'.heap[b]? = W.heap[b]?) : ∀ (t : T) (xs : List Value), RdX P W t xs → RdX P W' t xs
  | .nil, _, h => h
  | .node _ _ _ _ nx, _, ⟨v, r, h1, h2, h3⟩ => ⟨v, r, h1, h2.keep hk, RdX.keep hk nx r h3⟩
  | .case _ _ nx, _, ⟨v, r, h1, h2, h3⟩ => ⟨v, r, h1, h2.keep hk, RdX.keep hk nx r h3⟩
theorem RdX.node {P : Nat → Prop} {W : World} {k f : Int} {x : List UInt8} {cs : T} {v : Value} (hv : SVP P W v cs) : ∀ (t : T) (xs : List Value), RdX P W t xs → RdX P W (app t (.node k x f cs .nil)) (xs ++ [.int .i64 k, .string ⟨x.toArray⟩, .int .i64 f, v])
  | .nil, xs, h => by
    have h0 : xs = [] := h
    subst h0; exact ⟨v, [], rfl, hv, rfl⟩
  | .node k' x' f' cs' nx, xs, ⟨v', r, h1, h2, h3⟩ => ⟨v', r ++ _, by rw [h1]; rfl, h2, RdX.node hv nx r h3⟩
  | .case key body nx, xs, ⟨v', r, h1, h2, h3⟩ => ⟨v', r ++ _, by rw [h1]; rfl, h2, RdX.node hv nx r h3⟩
theorem RdX.case {P : Nat → Prop} {W : World} {key : List UInt8} {body : T} {v : Value} (hv : SVP P W v body) : ∀ (t : T) (xs : List Value), RdX P W t xs → RdX P W (app t (.case key body .nil)) (xs ++ [.string ⟨key.toArray⟩, v])
  | .nil, xs, h => by
    have h0 : xs = [] := h
    subst h0; exact ⟨v, [], rfl, hv, rfl⟩
  | .node k' x' f' cs' nx, xs, ⟨v', r, h1, h2, h3⟩ => ⟨v', r ++ _, by rw [h1]; rfl, h2, RdX.case hv nx r h3⟩
  | .case key body nx, xs, ⟨v', r, h1, h2, h3⟩ => ⟨v', r ++ _, by rw [h1]; rfl, h2, RdX.case hv nx r h3⟩
theorem RdX.rd {P : Nat → Prop} {W : World} {b : Nat} : ∀ (t : T) (xs : List Value) (o : Nat), RdX P W t xs → (∀ j v, xs[j]? = some v → W.cell? ⟨b, o + j, none⟩ = some v) → RdP P W t b o (len t)
  | .nil, _, _, _, _ => rfl
  | .node k x f cs nx, xs, o, ⟨v, r, h1, h2, h3⟩, hj => by
    subst h1
    exact ⟨v, len nx, rfl, hj 0 _ rfl, hj 1 _ rfl, hj 2 _ rfl, hj 3 _ rfl, h2, RdX.rd nx r (o + 4) h3 (fun j u hu => by
      rw [show o + 4 + j = o + (4 + j) by omega]
      exact hj (4 + j) u (by rw [show 4 + j = j + 1 + 1 + 1 + 1 by omega]; simpa using hu))⟩
  | .case key body nx, xs, o, ⟨v, r, h1, h2, h3⟩, hj => by
    subst h1
    exact ⟨v, len nx, rfl, hj 0 _ rfl, hj 1 _ rfl, h2, RdX.rd nx r (o + 2) h3 (fun j u hu => by
      rw [show o + 2 + j = o + (2 + j) by omega]
      exact hj (2 + j) u (by rw [show 2 + j = j + 1 + 1 by omega]; simpa using hu))⟩
theorem own_cells {w : World} {base size g n cap : Nat} {e : TypeId} {xs : List Value} (h : w.ownsRow base e size (.slice (some ⟨g, 0, none⟩) n cap) n xs) : n ≤ cap ∧ base ≤ g ∧ ∀ j v, xs[j]? = some v → w.cell? ⟨g, 0 + j, none⟩ = some v := by
  obtain ⟨_, h | ⟨g', cap', cur, hv, hb, hg, hn, _, _, ht⟩⟩ := h
  · exact absurd h.1 (by intro h; cases h)
  · cases hv
    refine ⟨hn, hb, fun j v hj => ?_⟩
    subst ht
    rw [Nat.zero_add]
    have h1 : cur.toList[j]? = some v := by
      rw [List.getElem?_take] at hj
      split at hj
      · exact hj
      · cases hj
    simp only [World.cell?, hg]
    simpa using h1
/-- what a call appended to a row of its own is a slice that reads -/
theorem svp_own {P : Nat → Prop} {w : World} {base size : Nat} {e : TypeId} {v : Value} {t : T} {xs : List Value} (h : w.ownsRow base e size v (len t) xs) (hx : RdX P w t xs) (hP : ∀ b, base ≤ b → P b) : SVP P w v t := by
  have h' := h
  obtain ⟨_, h0 | ⟨g, cap, cur, hv, hb, _⟩⟩ := h
  · refine .inl ⟨⟨_, h0.1⟩, ?_⟩
    cases t with
    | nil => rfl
    | node _ _ _ _ _ => have := h0.2; simp [len] at this
    | case _ _ _ => have := h0.2; simp [len] at this
  · subst hv
    obtain ⟨h1, h2, h3⟩ := own_cells h'
    exact .inr ⟨g, 0, len t, cap, rfl, h1, .inr (hP g h2), RdX.rd t xs 0 hx h3⟩
end Go.Proofs.YtgkphpjnfigjiaaGreatDoor
