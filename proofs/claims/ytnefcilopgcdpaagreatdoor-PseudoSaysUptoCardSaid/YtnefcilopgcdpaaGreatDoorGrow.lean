/-
  The reader of messages, behind a pointer: cut, need, word.
  Messages that a call builds: trees all of whose blocks fulfil a condition; what was appended so far.
  The reader of messages: cases, by what a message of a shorter text is.
-/
import Derived.Test.YtnefcilopgcdpaaGreatDoorBase
import Derived.Test.YtnefcilopgcdpaaGreatDoorKey
import Derived.Test.YtnefcilopgcdpaaGreatDoorLex
import Derived.Lib.BufferOwn
import Derived.Lib.SmallJoins
import Derived.Deep.AppendLies
namespace Go.Proofs.YtnefcilopgcdpaaGreatDoor
open Go.RowKit Ms

/-- all but the reader (and one more) stays, what is new is new -/
theorem keeps_refl (w : World) (row : Option Nat) : w.grownBy w row := ⟨rfl, rfl, rfl, Nat.le_refl _, fun _ _ _ => rfl⟩
theorem keeps_set (w : World) (b i : Nat) (v : Value) : w.grownBy (w.setCell ⟨b, i, none⟩ v) (some b) := Lib.grownBy_setCell w b i v
theorem keeps_below {w w' w'' : World} {row : Option Nat} (h : w.grownBy w' row) (hb : Below w'.heap.size w' w'') : w.grownBy w'' row := Lib.grownBy_trans h (grown_of_below hb row)





end Go.Proofs.YtnefcilopgcdpaaGreatDoor
namespace Go.Proofs.YtnefcilopgcdpaaGreatDoor
open Go.RowKit Ms

/-- a chain that reads, the blocks beneath it fulfil P -/
def RdP (P : Nat → Prop) (W : World) : T → Nat → Nat → Nat → Prop
  | .nil, _, _, n => n = 0
  | .node k x f cs nx, b, o, n => ∃ v m, n = m + 1 ∧ W.cell? ⟨b, o, none⟩ = some (.int .i64 k) ∧ W.cell? ⟨b, o + 1, none⟩ = some (.string ⟨x.toArray⟩) ∧ W.cell? ⟨b, o + 2, none⟩ = some (.int .i64 f) ∧ W.cell? ⟨b, o + 3, none⟩ = some v ∧
      (((∃ a, v = .slice a 0 0) ∧ cs = .nil) ∨ ∃ b' o' n' c', v = .slice (some ⟨b', o', none⟩) n' c' ∧ n' ≤ c' ∧ (cs = .nil ∨ P b') ∧ RdP P W cs b' o' n') ∧ RdP P W nx b (o + 4) m
  | .case key body nx, b, o, n => ∃ v m, n = m + 1 ∧ W.cell? ⟨b, o, none⟩ = some (.string ⟨key.toArray⟩) ∧ W.cell? ⟨b, o + 1, none⟩ = some v ∧
      (((∃ a, v = .slice a 0 0) ∧ body = .nil) ∨ ∃ b' o' n' c', v = .slice (some ⟨b', o', none⟩) n' c' ∧ n' ≤ c' ∧ (body = .nil ∨ P b') ∧ RdP P W body b' o' n') ∧ RdP P W nx b (o + 2) m
def SVP (P : Nat → Prop) (W : World) (v : Value) (t : T) : Prop := ((∃ a, v = .slice a 0 0) ∧ t = .nil) ∨ ∃ b o n c, v = .slice (some ⟨b, o, none⟩) n c ∧ n ≤ c ∧ (t = .nil ∨ P b) ∧ RdP P W t b o n
theorem SVP.nil (P : Nat → Prop) (W : World) : SVP P W (.slice none 0 0) .nil := .inl ⟨⟨_, rfl⟩, rfl⟩
theorem SVP.form {P : Nat → Prop} {W : World} {v : Value} {t : T} (h : SVP P W v t) : ∃ a n c, v = .slice a n c := by
  rcases h with ⟨⟨_, h⟩, _⟩ | ⟨b, o, n, c, h, _⟩
  · exact ⟨_, _, _, h⟩
  · exact ⟨_, _, _, h⟩
theorem RdP.rd {P : Nat → Prop} {W : World} : ∀ (t : T) (b o n : Nat), RdP P W t b o n → Rd W t b o n
  | .nil, _, _, _, h => h
  | .node k x f cs nx, b, o, n, h => by
    obtain ⟨v, m, h1, h2, h3, h4, h5, h6, h7⟩ := h
    refine ⟨v, m, h1, h2, h3, h4, h5, ?_, RdP.rd nx _ _ _ h7⟩
    rcases h6 with h6 | ⟨b', o', n', c', e1, e2, _, e3⟩
    · exact .inl h6
    · exact .inr ⟨b', o', n', c', e1, e2, RdP.rd cs _ _ _ e3⟩
  | .case key body nx, b, o, n, h => by
    obtain ⟨v, m, h1, h2, h3, h6, h7⟩ := h
    refine ⟨v, m, h1, h2, h3, ?_, RdP.rd nx _ _ _ h7⟩
    rcases h6 with h6 | ⟨b', o', n', c', e1, e2, _, e3⟩
    · exact .inl h6
    · exact .inr ⟨b', o', n', c', e1, e2, RdP.rd body _ _ _ e3⟩
theorem SVP.sv {P : Nat → Prop} {W : World} {v : Value} {t : T} (h : SVP P W v t) : SV W v t := by
  rcases h with h | ⟨b, o, n, c, e1, e2, _, e3⟩
  · exact .inl h
  · exact .inr ⟨b, o, n, c, e1, e2, RdP.rd t _ _ _ e3⟩
theorem RdP.lt {P : Nat → Prop} {W : World} {t : T} {b o n : Nat} (h : RdP P W t b o n) : t = .nil ∨ b < W.heap.size := by
  cases t with
  | nil => exact .inl rfl
  | node k x f cs nx => obtain ⟨v, m, h1, h2, _⟩ := h; exact .inr (cellLt h2)
  | case key body nx => obtain ⟨v, m, h1, h2, _⟩ := h; exact .inr (cellLt h2)
theorem RdP.mono {P Q : Nat → Prop} {W : World} (hq : ∀ b, b < W.heap.size → P b → Q b) : ∀ (t : T) (b o n : Nat), RdP P W t b o n → RdP Q W t b o n
  | .nil, _, _, _, h => h
  | .node k x f cs nx, b, o, n, h => by
    obtain ⟨v, m, h1, h2, h3, h4, h5, h6, h7⟩ := h
    refine ⟨v, m, h1, h2, h3, h4, h5, ?_, RdP.mono hq nx _ _ _ h7⟩
    rcases h6 with h6 | ⟨b', o', n', c', e1, e2, e4, e3⟩
    · exact .inl h6
    · exact .inr ⟨b', o', n', c', e1, e2, e4.elim .inl (fun hp => e3.lt.elim .inl (fun hl => .inr (hq _ hl hp))), RdP.mono hq cs _ _ _ e3⟩
  | .case key body nx, b, o, n, h => by
    obtain ⟨v, m, h1, h2, h3, h6, h7⟩ := h
    refine ⟨v, m, h1, h2, h3, ?_, RdP.mono hq nx _ _ _ h7⟩
    rcases h6 with h6 | ⟨b', o', n', c', e1, e2, e4, e3⟩
    · exact .inl h6
    · exact .inr ⟨b', o', n', c', e1, e2, e4.elim .inl (fun hp => e3.lt.elim .inl (fun hl => .inr (hq _ hl hp))), RdP.mono hq body _ _ _ e3⟩
theorem SVP.mono {P Q : Nat → Prop} {W : World} (hq : ∀ b, b < W.heap.size → P b → Q b) {v : Value} {t : T} (h : SVP P W v t) : SVP Q W v t := by
  rcases h with h | ⟨b, o, n, c, e1, e2, e4, e3⟩
  · exact .inl h
  · exact .inr ⟨b, o, n, c, e1, e2, e4.elim .inl (fun hp => e3.lt.elim .inl (fun hl => .inr (hq _ hl hp))), RdP.mono hq t _ _ _ e3⟩
theorem RdP.keep {P : Nat → Prop} {W W' : World} (hk : ∀ b, b < W.heap.size → P b → W'.heap[b]? = W.heap[b]?) : ∀ (t : T) (b o n : Nat), (t = .nil ∨ W'.heap[b]? = W.heap[b]?) → RdP P W t b o n → RdP P W' t b o n
  | .nil, _, _, _, _, h => h
  | .node k x f cs nx, b, o, n, hb, h => by
    have hb : W'.heap[b]? = W.heap[b]? := hb.elim (fun h => by cases h) id
    have hc : ∀ o, W'.cell? ⟨b, o, none⟩ = W.cell? ⟨b, o, none⟩ := fun o => World.cell?_of_block hb
    obtain ⟨v, m, h1, h2, h3, h4, h5, h6, h7⟩ := h
    refine ⟨v, m, h1, by rw [hc]; exact h2, by rw [hc]; exact h3, by rw [hc]; exact h4, by rw [hc]; exact h5, ?_, RdP.keep hk nx _ _ _ (.inr hb) h7⟩
    rcases h6 with h6 | ⟨b', o', n', c', e1, e2, e4, e3⟩
    · exact .inl h6
    · exact .inr ⟨b', o', n', c', e1, e2, e4, RdP.keep hk cs _ _ _ (e4.elim .inl (fun hp => e3.lt.elim .inl (fun hl => .inr (hk _ hl hp)))) e3⟩
  | .case key body nx, b, o, n, hb, h => by
    have hb : W'.heap[b]? = W.heap[b]? := hb.elim (fun h => by cases h) id
    have hc : ∀ o, W'.cell? ⟨b, o, none⟩ = W.cell? ⟨b, o, none⟩ := fun o => World.cell?_of_block hb
    obtain ⟨v, m, h1, h2, h3, h6, h7⟩ := h
    refine ⟨v, m, h1, by rw [hc]; exact h2, by rw [hc]; exact h3, ?_, RdP.keep hk nx _ _ _ (.inr hb) h7⟩
    rcases h6 with h6 | ⟨b', o', n', c', e1, e2, e4, e3⟩
    · exact .inl h6
    · exact .inr ⟨b', o', n', c', e1, e2, e4, RdP.keep hk body _ _ _ (e4.elim .inl (fun hp => e3.lt.elim .inl (fun hl => .inr (hk _ hl hp)))) e3⟩
theorem SVP.keep {P : Nat → Prop} {W W' : World} (hk : ∀ b, b < W.heap.size → P b → W'.heap[b]? = W.heap[b]?) {v : Value} {t : T} (h : SVP P W v t) : SVP P W' v t := by
  rcases h with h | ⟨b, o, n, c, e1, e2, e4, e3⟩
  · exact .inl h
  · exact .inr ⟨b, o, n, c, e1, e2, e4, RdP.keep hk t _ _ _ (e4.elim .inl (fun hp => e3.lt.elim .inl (fun hl => .inr (hk _ hl hp)))) e3⟩

/-- cells that read as a chain -/
def RdX (P : Nat → Prop) (W : World) : T → List Value → Prop
  | .nil, xs => xs = []
  | .node k x f cs nx, xs => ∃ v r, xs = .int .i64 k :: .string ⟨x.toArray⟩ :: .int .i64 f :: v :: r ∧ SVP P W v cs ∧ RdX P W nx r
  | .case key body nx, xs => ∃ v r, xs = .string ⟨key.toArray⟩ :: v :: r ∧ SVP P W v body ∧ RdX P W nx r
theorem RdX.mono {P Q : Nat → Prop} {W : World} (hq : ∀ b, b < W.heap.size → P b → Q b) : ∀ (t : T) (xs : List Value), RdX P W t xs → RdX Q W t xs
  | .nil, _, h => h
  | .node _ _ _ _ nx, _, ⟨v, r, h1, h2, h3⟩ => ⟨v, r, h1, h2.mono hq, RdX.mono hq nx r h3⟩
  | .case _ _ nx, _, ⟨v, r, h1, h2, h3⟩ => ⟨v, r, h1, h2.mono hq, RdX.mono hq nx r h3⟩
theorem RdX.keep {P : Nat → Prop} {W W' : World} (hk : ∀ b, b < W.heap.size → P b → W'.heap[b]? = W.heap[b]?) : ∀ (t : T) (xs : List Value), RdX P W t xs → RdX P W' t xs
  | .nil, _, h => h
  | .node _ _ _ _ nx, _, ⟨v, r, h1, h2, h3⟩ => ⟨v, r, h1, h2.keep hk, RdX.keep hk nx r h3⟩
  | .case _ _ nx, _, ⟨v, r, h1, h2, h3⟩ => ⟨v, r, h1, h2.keep hk, RdX.keep hk nx r h3⟩
theorem RdX.node {P : Nat → Prop} {W : World} {k f : Int} {x : List UInt8} {cs : T} {v : Value} (hv : SVP P W v cs) : ∀ (t : T) (xs : List Value), RdX P W t xs → RdX P W (app t (.node k x f cs .nil)) (xs ++ [.int .i64 k, .string ⟨x.toArray⟩, .int .i64 f, v])
  | .nil, xs, h => by
    have h0 : xs = [] := h
    subst h0; exact ⟨v, [], rfl, hv, rfl⟩
  | .node k' x' f' cs' nx, xs, ⟨v', r, h1, h2, h3⟩ => ⟨v', r ++ _, by rw [h1]; rfl, h2, RdX.node hv nx r h3⟩
  | .case key body nx, xs, ⟨v', r, h1, h2, h3⟩ => ⟨v', r ++ _, by rw [h1]; rfl, h2, RdX.node hv nx r h3⟩
theorem RdX.case {P : Nat → Prop} {W : World} {key : List UInt8} {body : T} {v : Value} (hv : SVP P W v body) : ∀ (t : T) (xs : List Value), RdX P W t xs → RdX P W (app t (.case key body .nil)) (xs ++ [.string ⟨key.toArray⟩, v])
  | .nil, xs, h => by
    have h0 : xs = [] := h
    subst h0; exact ⟨v, [], rfl, hv, rfl⟩
  | .node k' x' f' cs' nx, xs, ⟨v', r, h1, h2, h3⟩ => ⟨v', r ++ _, by rw [h1]; rfl, h2, RdX.case hv nx r h3⟩
  | .case key body nx, xs, ⟨v', r, h1, h2, h3⟩ => ⟨v', r ++ _, by rw [h1]; rfl, h2, RdX.case hv nx r h3⟩
theorem RdX.rd {P : Nat → Prop} {W : World} {b : Nat} : ∀ (t : T) (xs : List Value) (o : Nat), RdX P W t xs → (∀ j v, xs[j]? = some v → W.cell? ⟨b, o + j, none⟩ = some v) → RdP P W t b o (len t)
  | .nil, _, _, _, _ => rfl
  | .node k x f cs nx, xs, o, ⟨v, r, h1, h2, h3⟩, hj => by
    subst h1
    exact ⟨v, len nx, rfl, hj 0 _ rfl, hj 1 _ rfl, hj 2 _ rfl, hj 3 _ rfl, h2, RdX.rd nx r (o + 4) h3 (fun j u hu => by
      rw [show o + 4 + j = o + (4 + j) by omega]
      exact hj (4 + j) u (by rw [show 4 + j = j + 1 + 1 + 1 + 1 by omega]; simpa using hu))⟩
  | .case key body nx, xs, o, ⟨v, r, h1, h2, h3⟩, hj => by
    subst h1
    exact ⟨v, len nx, rfl, hj 0 _ rfl, hj 1 _ rfl, h2, RdX.rd nx r (o + 2) h3 (fun j u hu => by
      rw [show o + 2 + j = o + (2 + j) by omega]
      exact hj (2 + j) u (by rw [show 2 + j = j + 1 + 1 by omega]; simpa using hu))⟩
theorem own_cells {w : World} {base size g n cap : Nat} {e : TypeId} {xs : List Value} (h : w.ownsRow base e size (.slice (some ⟨g, 0, none⟩) n cap) n xs) : n ≤ cap ∧ base ≤ g ∧ ∀ j v, xs[j]? = some v → w.cell? ⟨g, 0 + j, none⟩ = some v := by
  obtain ⟨_, h | ⟨g', cap', cur, hv, hb, hg, hn, _, _, ht⟩⟩ := h
  · exact absurd h.1 (by intro h; cases h)
  · cases hv
    refine ⟨hn, hb, fun j v hj => ?_⟩
    subst ht
    rw [Nat.zero_add]
    have h1 : cur.toList[j]? = some v := by
      rw [List.getElem?_take] at hj
      split at hj
      · exact hj
      · cases hj
    simp only [World.cell?, hg]
    simpa using h1
/-- what a call appended to a row of its own is a slice that reads -/
theorem svp_own {P : Nat → Prop} {w : World} {base size : Nat} {e : TypeId} {v : Value} {t : T} {xs : List Value} (h : w.ownsRow base e size v (len t) xs) (hx : RdX P w t xs) (hP : ∀ b, base ≤ b → P b) : SVP P w v t := by
  have h' := h
  obtain ⟨_, h0 | ⟨g, cap, cur, hv, hb, _⟩⟩ := h
  · refine .inl ⟨⟨_, h0.1⟩, ?_⟩
    cases t with
    | nil => rfl
    | node _ _ _ _ _ => have := h0.2; simp [len] at this
    | case _ _ _ => have := h0.2; simp [len] at this
  · subst hv
    obtain ⟨h1, h2, h3⟩ := own_cells h'
    exact .inr ⟨g, 0, len t, cap, rfl, h1, .inr (hP g h2), RdX.rd t xs 0 hx h3⟩
end Go.Proofs.YtnefcilopgcdpaaGreatDoor
namespace Go.Proofs.YtnefcilopgcdpaaGreatDoor
open Go.RowKit Ms

/-- what was appended so far, beside a reader at the block rb; all of it lies in new blocks below L -/
def Acc (w : World) (rb : Nat) (e : TypeId) (size : Nat) (out : Value) (acc : T) (xs : List Value) (L : Nat) (wr : World) : Prop :=
  rb < w.heap.size ∧ w.heap.size ≤ L ∧ L ≤ wr.heap.size ∧ w.grownBy wr (some rb) ∧ wr.ownsRow w.heap.size e size out (len acc) xs ∧ (∀ k, out.ownBlock = some k → k < L) ∧
    RdX (fun b => w.heap.size ≤ b ∧ out.ownBlock ≠ some b ∧ b < L) wr acc xs
theorem keeps_more {w a b : World} {rb : Nat} {row : Option Nat} (h : w.grownBy a (some rb)) (h2 : a.grownBy b row) (hr : ∀ k, row = some k → k = rb ∨ w.heap.size ≤ k) : w.grownBy b (some rb) :=
  ⟨h2.os.trans h.os, h2.tape.trans h.tape, h2.output.trans h.output, Nat.le_trans h.size h2.size, fun k hk hne => by
    rw [h2.block k (Nat.lt_of_lt_of_le hk h.size) (fun e => by
      rcases hr k e.symm with h1 | h1
      · exact hne (by rw [h1])
      · omega)]
    exact h.block k hk hne⟩
theorem Acc.start {w : World} {rb : Nat} (e : TypeId) (size : Nat) (h : rb < w.heap.size) : Acc w rb e size (.slice none 0 0) .nil [] w.heap.size w :=
  ⟨h, Nat.le_refl _, Nat.le_refl _, keeps_refl _ _, World.ownsRow_nil _ _ _ _, (fun _ h => by cases h), rfl⟩
theorem Acc.step {w wr wr' : World} {rb L q size : Nat} {e : TypeId} {out : Value} {acc : T} {xs : List Value} (h : Acc w rb e size out acc xs L wr) (hg : wr.grownBy wr' (some q)) (hq : q = rb ∨ L ≤ q) : Acc w rb e size out acc xs L wr' := by
  obtain ⟨h1, h2, h3, h4, h5, h6, h7⟩ := h
  refine ⟨h1, h2, Nat.le_trans h3 hg.size, keeps_more h4 hg (fun k hk => by cases hk; omega), h5.kept hg ?_, h6, RdX.keep (fun b hb hp => hg.block b hb (fun e => by cases e; have := hp.1; have := hp.2.2; omega)) acc xs h7⟩
  cases ho : out.ownBlock with
  | none => exact .inl rfl
  | some k =>
    right
    intro e
    have := h6 k ho
    have := (h5.lt k ho).1
    have e' : k = q := Option.some.inj e
    omega
theorem Acc.below {w wr wr' : World} {rb L size : Nat} {e : TypeId} {out : Value} {acc : T} {xs : List Value} (h : Acc w rb e size out acc xs L wr) (hb : Below wr.heap.size wr wr') : Acc w rb e size out acc xs L wr' :=
  h.step (grown_of_below hb (some rb)) (.inl rfl)
theorem Acc.set {w wr : World} {rb L q i size : Nat} {e : TypeId} {out : Value} {acc : T} {xs : List Value} (h : Acc w rb e size out acc xs L wr) (v : Value) (hq : q = rb ∨ L ≤ q) : Acc w rb e size out acc xs L (wr.setCell ⟨q, i, none⟩ v) :=
  h.step (keeps_set wr q i v) hq
theorem Acc.raise {w wr : World} {rb L size : Nat} {e : TypeId} {out : Value} {acc : T} {xs : List Value} (h : Acc w rb e size out acc xs L wr) : Acc w rb e size out acc xs wr.heap.size wr := by
  obtain ⟨h1, h2, h3, h4, h5, h6, h7⟩ := h
  exact ⟨h1, by omega, Nat.le_refl _, h4, h5, fun k hk => by have := h6 k hk; omega, RdX.mono (fun b hb hp => ⟨hp.1, hp.2.1, hb⟩) acc xs h7⟩
/-- one more is appended -/
theorem Acc.more {w wa w' : World} {rb L M g cap size : Nat} {e : TypeId} {out : Value} {acc el body : T} {xs news : List Value} {v : Value} {o : Obj} (h : Acc w rb e size out acc xs L wa) (hM : L ≤ M)
    (hv : SVP (fun b => M ≤ b) wa v body) (hlen : len (app acc el) = len acc + 1) (hel : ∀ (Q : Nat → Prop) (W : World), SVP Q W v body → RdX Q W acc xs → RdX Q W (app acc el) (xs ++ news))
    (hown : w'.ownsRow w.heap.size e size (.slice (some ⟨g, 0, none⟩) (len acc + 1) cap) (len acc + 1) (xs ++ news)) (hg : (wa.alloc o).grownBy w' out.ownBlock) (hgw : out.ownBlock = some g ∨ g = (wa.alloc o).heap.size) :
    Acc w rb e size (.slice (some ⟨g, 0, none⟩) (len acc + 1) cap) (app acc el) (xs ++ news) w'.heap.size w' := by
  obtain ⟨h1, h2, h3, h4, h5, h6, h7⟩ := h
  have hsz : (wa.alloc o).heap.size = wa.heap.size + 1 := by simp
  rw [hsz] at hgw
  have hs' : wa.heap.size + 1 ≤ w'.heap.size := by have := hg.size; rw [hsz] at this; exact this
  have hblk : ∀ b, b < wa.heap.size → out.ownBlock ≠ some b → w'.heap[b]? = wa.heap[b]? := fun b hb hne => by
    rw [hg.block b (by rw [hsz]; omega) (fun e => hne e.symm)]
    exact (Go.heap_alloc_old wa o hb)
  have hgn : ∀ b, b < wa.heap.size → out.ownBlock ≠ some b → (Value.slice (some ⟨g, 0, none⟩) (len acc + 1) cap).ownBlock ≠ some b := fun b hb hne e => by
    have e' : some g = some b := e
    cases e'
    rcases hgw with hgw | hgw
    · exact hne hgw
    · omega
  refine ⟨h1, by omega, Nat.le_refl _, ?_, by rw [hlen]; exact hown, fun k hk => (hown.lt k hk).2, ?_⟩
  · refine keeps_more (keeps_more h4 (grown_of_below ((Below.refl _ _).alloc (Nat.le_refl _) o) none) (fun k hk => by cases hk)) hg (fun k hk => .inr (h5.lt k hk).1)
  · have k7 : RdX (fun b => w.heap.size ≤ b ∧ out.ownBlock ≠ some b ∧ b < L) w' acc xs := RdX.keep (fun b hb hp => hblk b hb hp.2.1) acc xs h7
    have k8 := RdX.mono (Q := fun b => w.heap.size ≤ b ∧ (Value.slice (some ⟨g, 0, none⟩) (len acc + 1) cap).ownBlock ≠ some b ∧ b < w'.heap.size) (fun b hb hp => ⟨hp.1, hgn b (by have := hp.2.2; omega) hp.2.1, hb⟩) acc xs k7
    have hne : ∀ b, M ≤ b → out.ownBlock ≠ some b := fun b hb e => by have := h6 b e; omega
    have v1 := SVP.mono (Q := fun b => M ≤ b ∧ b < wa.heap.size) (fun b hb hp => ⟨hp, hb⟩) hv
    have v2 : SVP (fun b => M ≤ b ∧ b < wa.heap.size) w' v body := SVP.keep (fun b hb hp => hblk b hb (hne b hp.1)) v1
    have v3 := SVP.mono (Q := fun b => w.heap.size ≤ b ∧ (Value.slice (some ⟨g, 0, none⟩) (len acc + 1) cap).ownBlock ≠ some b ∧ b < w'.heap.size) (fun b hb hp => ⟨by have := hp.1; omega, hgn b hp.2 (hne b hp.1), hb⟩) v2
    exact hel _ _ v3 k8
/-- the result, when the rounds have ended -/
theorem Acc.done {w wr : World} {rb L size : Nat} {e : TypeId} {out : Value} {acc : T} {xs : List Value} (h : Acc w rb e size out acc xs L wr) : SVP (fun b => w.heap.size ≤ b) wr out acc := by
  obtain ⟨_, _, _, _, h5, _, h7⟩ := h
  exact svp_own h5 (RdX.mono (fun b _ hp => hp.1) acc xs h7) (fun b hb => hb)

theorem infoNode : (Tryz.prog.info? 60).map (fun i => (i.zero, i.size, i.bytes)) = some (some (.agg #[.int .i64 0, .string ⟨#[]⟩, .int .i64 0, .slice none 0 0]), 4, 56) := by kernel_rfl
theorem infoCase : (Tryz.prog.info? 62).map (fun i => (i.zero, i.size, i.bytes)) = some (some (.agg #[.string ⟨#[]⟩, .slice none 0 0]), 2, 40) := by kernel_rfl

end Go.Proofs.YtnefcilopgcdpaaGreatDoor
