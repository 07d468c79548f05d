/- Words on memory: a slice that holds a list of values, whatever is made beside it; what the call owns. -/
import Derived.Test.YtiihokgjplpceaaDoorRows
import Derived.WalkKit
import Derived.ProofKit
import Derived.WalkLawsBesides
import Derived.Below
import Derived.OwnWalk
import Derived.Laws.AppendOwn
import Derived.LoopTactic
import Derived.Lib.Hide
namespace Go.Proofs.YtiihokgjplpceaaDoor
open Go.RowKit

/-- A slice of one-cell elements that holds just these values. -/
def Sl (w : World) (v : Value) (xs : List Value) : Prop :=
  (v = .slice none 0 0 ∧ xs = []) ∨
  ∃ b o cap, v = .slice (some ⟨b, o, none⟩) xs.length cap ∧ xs.length ≤ cap ∧ b < w.heap.size ∧ ∀ i (h : i < xs.length), w.cell? ⟨b, o + i, none⟩ = some xs[i]

theorem Sl.keep {w w1 : World} {v : Value} {xs : List Value} (h : Sl w v xs) (hb : Below w.heap.size w w1) : Sl w1 v xs := by
  rcases h with h | ⟨b, o, cap, h1, h2, h3, h4⟩
  · exact Or.inl h
  · exact Or.inr ⟨b, o, cap, h1, h2, Nat.lt_of_lt_of_le h3 hb.size, fun i hi => by rw [hb.cell (p := ⟨b, o + i, none⟩) h3]; exact h4 i hi⟩

/-- A slice, if it is not nil, leads to a block of which P holds. -/
def In (P : Nat → Prop) (v : Value) : Prop := ∀ a n c, v = .slice (some a) n c → P a.block
theorem In.nil {P : Nat → Prop} : In P (.slice none 0 0) := fun _ _ _ h => by cases h
theorem In.mono {P Q : Nat → Prop} {v : Value} (h : In P v) (hPQ : ∀ b, P b → Q b) : In Q v := fun a n c e => hPQ _ (h a n c e)
theorem In.mk {P : Nat → Prop} {a : Addr} {n c : Nat} (h : P a.block) : In P (.slice (some a) n c) := fun _ _ _ e => by cases e; exact h
theorem In.of {P : Nat → Prop} {a : Addr} {n c : Nat} (h : In P (.slice (some a) n c)) : P a.block := h _ _ _ rfl
/-- A store into a block that the slice does not lead to. -/
theorem Sl.put {P : Nat → Prop} {w : World} {v : Value} {xs : List Value} (h : Sl w v xs) (hP : In P v) {p : Addr} (hp : ¬ P p.block) (u : Value) : Sl (w.setCell p u) v xs := by
  rcases h with h | ⟨b, o, cap, rfl, h2, h3, h4⟩
  · exact Or.inl h
  · have hne : b ≠ p.block := fun e => hp (e ▸ In.of hP)
    refine Or.inr ⟨b, o, cap, rfl, h2, by simpa [World.setCell] using h3, fun i hi => ?_⟩
    rw [World.cell?_of_block (w := w) (Below.heap_setCell w p u b hne)]; exact h4 i hi

theorem Sl.form {w : World} {v : Value} {xs : List Value} (h : Sl w v xs) : ∃ p cap, v = .slice p xs.length cap := by
  rcases h with ⟨rfl, rfl⟩ | ⟨b, o, cap, rfl, -⟩
  · exact ⟨none, 0, rfl⟩
  · exact ⟨_, _, rfl⟩
theorem Sl.formMap {α : Type} {g : α → Value} {w : World} {v : Value} {xs : List α} (h : Sl w v (xs.map g)) : ∃ p cap, v = .slice p xs.length cap := by
  obtain ⟨p, cap, h⟩ := h.form; rw [List.length_map] at h; exact ⟨p, cap, h⟩

/-- Blocks below B read as before. -/
theorem bcellB {B : Nat} {W w1 : World} (hb : Below B W w1) : (∀ b o, b < B → w1.cell? ⟨b, o, none⟩ = W.cell? ⟨b, o, none⟩) ∧ (∀ b o, b < B → w1.frozen? ⟨b, o, none⟩ = W.frozen? ⟨b, o, none⟩) :=
  ⟨fun b o h => hb.cell (p := ⟨b, o, none⟩) h, fun b o h => hb.frozen (p := ⟨b, o, none⟩) h⟩

theorem bcell {W w1 : World} (hb : Below W.heap.size W w1) : (∀ b o, b < W.heap.size → w1.cell? ⟨b, o, none⟩ = W.cell? ⟨b, o, none⟩) ∧ (∀ b o, b < W.heap.size → w1.frozen? ⟨b, o, none⟩ = W.frozen? ⟨b, o, none⟩) :=
  ⟨fun b o h => hb.cell (p := ⟨b, o, none⟩) h, fun b o h => hb.frozen (p := ⟨b, o, none⟩) h⟩

theorem cell_of_block {w : World} {b : Nat} {cs : Array Value} {t : TypeId} {fr : Nat × Nat} (h : w.heap[b]? = some (.cells cs t fr)) (i : Nat) : w.cell? ⟨b, i, none⟩ = cs[i]? := by
  simp [World.cell?, h]
theorem frozen_of_block {w : World} {b : Nat} {cs : Array Value} {t : TypeId} (h : w.heap[b]? = some (.cells cs t (0, 0))) (i : Nat) : w.frozen? ⟨b, i, none⟩ = false := by
  simp [World.frozen?, h]
theorem setCell_block {w : World} {b : Nat} {cs : Array Value} {t : TypeId} {fr : Nat × Nat} (h : w.heap[b]? = some (.cells cs t fr)) (i : Nat) (v : Value) : (w.setCell ⟨b, i, none⟩ v).heap[b]? = some (.cells (cs.setIfInBounds i v) t fr) := by
  simp [World.setCell, Array.getElem?_modify, h]
theorem block_lt {w : World} {b : Nat} {o : Obj} (h : w.heap[b]? = some o) : b < w.heap.size := by
  obtain ⟨hb, -⟩ := Array.getElem?_eq_some_iff.1 h; exact hb
theorem own_form {w : World} {base : Nat} {e : TypeId} {size : Nat} {v : Value} {n : Nat} {xs : List Value} (h : w.ownsRow base e size v n xs) : ∃ p cap, v = .slice p n cap := by
  obtain ⟨-, ⟨rfl, rfl⟩ | ⟨g, cap, cur, rfl, -⟩⟩ := h
  · exact ⟨none, 0, rfl⟩
  · exact ⟨_, _, rfl⟩
theorem own_keep {w w1 : World} {base : Nat} {e : TypeId} {size : Nat} {v : Value} {n : Nat} {xs : List Value} (h : w.ownsRow base e size v n xs) (hb : Below w.heap.size w w1) : w1.ownsRow base e size v n xs := by
  obtain ⟨h1, h2⟩ := h
  refine ⟨h1, ?_⟩
  rcases h2 with h2 | ⟨g, cap, cur, hv, hg, hh, r⟩
  · exact Or.inl h2
  · exact Or.inr ⟨g, cap, cur, hv, hg, by rw [hb.block g (block_lt hh)]; exact hh, r⟩
theorem own_block {w : World} {base : Nat} {e : TypeId} {size : Nat} {v : Value} {n : Nat} {xs : List Value} (h : w.ownsRow base e size v n xs) : ∀ k, v.ownBlock = some k → base ≤ k := by
  obtain ⟨-, ⟨rfl, rfl⟩ | ⟨g, cap, cur, rfl, hg, -⟩⟩ := h
  · intro k hk; cases hk
  · intro k hk; cases hk; exact hg
theorem keep_cell {w w1 : World} {p : Addr} {v : Value} (hb : Below w.heap.size w w1) (h : w.cell? p = some v) : w1.cell? p = some v := by
  rw [hb.cell (World.block_lt_of_cell? w _ h)]; exact h
theorem below2 {w w1 w2 : World} (h1 : Below w.heap.size w w1) (h2 : Below w1.heap.size w1 w2) : Below w.heap.size w w2 := h1.trans (h2.mono h1.size)
theorem below3 {w w1 w2 w3 : World} (h1 : Below w.heap.size w w1) (h2 : Below w1.heap.size w1 w2) (h3 : Below w2.heap.size w2 w3) : Below w.heap.size w w3 :=
  (h1.trans (h2.mono h1.size)).trans (h3.mono (Nat.le_trans h1.size h2.size))

/-- 'Below' at the heap's own size, closed to what takes conjunctions apart. -/
def Kp (w w1 : World) : Prop := Below w.heap.size w w1
theorem Kp.out {w w1 : World} (h : Kp w w1) : Below w.heap.size w w1 := h
theorem Kp.refl (w : World) : Kp w w := Below.refl _ _
theorem Kp.drew {w w1 : World} (h : Kp w w1) : Kp w w1.drew := Below.drew h
theorem Kp.step {w w1 w2 : World} (h : Kp w w1) (h2 : Below w1.heap.size w1 w2) : Kp w w2 := below2 h h2

/-- What is owned reads as a list. -/
theorem own_sl {w : World} {base : Nat} {e : TypeId} {v : Value} {n : Nat} {xs : List Value} (h : w.ownsRow base e 1 v n xs) : Sl w v xs := by
  obtain ⟨h1, ⟨rfl, rfl⟩ | ⟨g, cap, cur, rfl, hg, hh, r1, r2, r3, r4⟩⟩ := h
  · left; exact ⟨rfl, by cases xs with | nil => rfl | cons a t => simp at h1⟩
  · right
    rw [Nat.mul_one] at h1 r4
    refine ⟨g, 0, cap, by rw [h1], by omega, block_lt hh, fun i hi => ?_⟩
    rw [Nat.zero_add, cell_of_block hh]
    have : i < (cur.toList.take n).length := by rw [r4]; exact hi
    rw [← Array.getElem?_toList]
    rw [List.getElem?_eq_getElem (by simp at this ⊢; omega)]
    congr 1
    have e1 : (cur.toList.take n)[i] = xs[i] := by simp only [r4]
    rw [← e1, List.getElem_take]

theorem keep_block {w w1 : World} {b : Nat} {o : Obj} (hb : Below w.heap.size w w1) (h : w.heap[b]? = some o) : w1.heap[b]? = some o := (hb.block _ (block_lt h)).trans h
theorem res_facts {w : World} {b : Nat} {T : TypeId} {c0 c1 c2 : Value} (h : w.heap[b]? = some (.cells #[c0, c1, c2] T (0, 0))) :
    w.cell? ⟨b, 0, none⟩ = some c0 ∧ w.cell? ⟨b, 1, none⟩ = some c1 ∧ w.cell? ⟨b, 2, none⟩ = some c2 ∧ w.frozen? ⟨b, 0, none⟩ = false ∧ w.frozen? ⟨b, 1, none⟩ = false ∧ w.frozen? ⟨b, 2, none⟩ = false :=
  ⟨cell_of_block h 0, cell_of_block h 1, cell_of_block h 2, frozen_of_block h 0, frozen_of_block h 1, frozen_of_block h 2⟩
theorem put_facts {w : World} {b : Nat} {T : TypeId} {c0 c1 c2 : Value} (h : w.heap[b]? = some (.cells #[c0, c1, c2] T (0, 0))) (u0 u1 u2 : Value) :
    (((w.setCell ⟨b, 0, none⟩ u0).setCell ⟨b, 1, none⟩ u1).setCell ⟨b, 2, none⟩ u2).cell? ⟨b, 0, none⟩ = some u0 ∧
    (((w.setCell ⟨b, 0, none⟩ u0).setCell ⟨b, 1, none⟩ u1).setCell ⟨b, 2, none⟩ u2).cell? ⟨b, 1, none⟩ = some u1 ∧
    (((w.setCell ⟨b, 0, none⟩ u0).setCell ⟨b, 1, none⟩ u1).setCell ⟨b, 2, none⟩ u2).cell? ⟨b, 2, none⟩ = some u2 := by
  have hF := setCell_block (setCell_block (setCell_block h 0 u0) 1 u1) 2 u2
  exact ⟨(cell_of_block hF 0).trans (by simp), (cell_of_block hF 1).trans (by simp), (cell_of_block hF 2).trans (by simp)⟩

theorem Sl.lt {w : World} {v : Value} {xs : List Value} (h : Sl w v xs) : In (fun b => b < w.heap.size) v := by
  rcases h with ⟨rfl, -⟩ | ⟨b, o, cap, rfl, h2, h3, h4⟩
  · exact In.nil
  · exact In.mk (a := ⟨b, o, none⟩) h3
/-- An element of what is owned is written. -/
theorem own_set {w : World} {base : Nat} {e : TypeId} {g cap n : Nat} {xs : List Value} (h : w.ownsRow base e 1 (.slice (some ⟨g, 0, none⟩) n cap) n xs) (i : Nat) (u : Value) :
    (w.setCell ⟨g, i, none⟩ u).ownsRow base e 1 (.slice (some ⟨g, 0, none⟩) n cap) n (xs.set i u) := by
  obtain ⟨h1, ⟨h2, -⟩ | ⟨g', cap', cur, hv, hg, hh, r1, r2, r3, r4⟩⟩ := h
  · cases h2
  · simp only [Value.slice.injEq, Option.some.injEq, Addr.mk.injEq] at hv
    obtain ⟨⟨rfl, -, -⟩, -, rfl⟩ := hv
    refine ⟨by rw [List.length_set]; exact h1, Or.inr ⟨g, cap, cur.setIfInBounds i u, rfl, hg, setCell_block hh i u, r1, r2, by rw [Array.size_setIfInBounds]; exact r3, ?_⟩⟩
    rw [Array.toList_setIfInBounds, List.take_set, r4]

theorem news_one (w : World) (u : Value) (T : TypeId) : ∀ (j : Nat) (x : Value), [u][j]? = some x → (w.alloc (.cells #[u] T)).cell? ((⟨w.heap.size, 0, none⟩ : Addr).add j) = some x := by
  intro j x h
  cases j with
  | zero => simp at h; subst h; exact cell_of_block (heap_alloc_new w _) 0
  | succ j => simp at h

theorem own_some {w : World} {base : Nat} {e : TypeId} {size n : Nat} {v : Value} {xs : List Value} (h : w.ownsRow base e size v n xs) (hn : 0 < n) : ∃ g cap, v = .slice (some ⟨g, 0, none⟩) n cap ∧ base ≤ g ∧ g < w.heap.size := by
  obtain ⟨h1, ⟨h2, h3⟩ | ⟨g, cap, cur, hv, hg, hh, -⟩⟩ := h
  · omega
  · exact ⟨g, cap, hv, hg, block_lt hh⟩
theorem own_cell {w : World} {base : Nat} {e : TypeId} {g cap n : Nat} {xs : List Value} (h : w.ownsRow base e 1 (.slice (some ⟨g, 0, none⟩) n cap) n xs) {i : Nat} (hi : i < xs.length) :
    w.cell? ⟨g, i, none⟩ = some xs[i] ∧ w.frozen? ⟨g, i, none⟩ = false := by
  have hs := own_sl h
  obtain ⟨h1, ⟨h2, -⟩ | ⟨g', cap', cur, hv, hg, hh, -⟩⟩ := h
  · cases h2
  · simp only [Value.slice.injEq, Option.some.injEq, Addr.mk.injEq] at hv
    obtain ⟨⟨rfl, -, -⟩, -, rfl⟩ := hv
    refine ⟨?_, frozen_of_block hh i⟩
    rcases hs with ⟨h2, -⟩ | ⟨b, o, c, h2, h3, h4, h5⟩
    · cases h2
    · simp only [Value.slice.injEq, Option.some.injEq, Addr.mk.injEq] at h2
      obtain ⟨⟨rfl, rfl, -⟩, -, -⟩ := h2
      have := h5 i hi
      rwa [Nat.zero_add] at this

end Go.Proofs.YtiihokgjplpceaaDoor
