/- Words on memory: a slice that holds a list of values, whatever is made beside it. -/
import Derived.Test.YtojbheanfcdjoaaRows
import Derived.Test.YtojbheanfcdjoaaNmA
import Derived.WalkKit
import Derived.ProofKit
import Derived.WalkLawsBesides
import Derived.Below
import Derived.OwnWalk
import Derived.Laws.AppendOwn
import Derived.LoopTactic
import Derived.Lib.Hide
namespace Go.Proofs.Ytojbheanfcdjoaa
open Go.RowKit TV

/-- A slice of one-cell elements that holds just these values. -/
def Sl (w : World) (v : Value) (xs : List Value) : Prop :=
  (v = .slice none 0 0 ∧ xs = []) ∨
  ∃ b o cap, v = .slice (some ⟨b, o, none⟩) xs.length cap ∧ xs.length ≤ cap ∧ b < w.heap.size ∧ ∀ i (h : i < xs.length), w.cell? ⟨b, o + i, none⟩ = some xs[i]

theorem Sl.keep {w w1 : World} {v : Value} {xs : List Value} (h : Sl w v xs) (hb : Below w.heap.size w w1) : Sl w1 v xs := by
  rcases h with h | ⟨b, o, cap, h1, h2, h3, h4⟩
  · exact Or.inl h
  · exact Or.inr ⟨b, o, cap, h1, h2, Nat.lt_of_lt_of_le h3 hb.size, fun i hi => by rw [hb.cell (p := ⟨b, o + i, none⟩) h3]; exact h4 i hi⟩

/-- A slice, if it is not nil, leads to a block of which P holds. -/
def In (P : Nat → Prop) (v : Value) : Prop := ∀ a n c, v = .slice (some a) n c → P a.block
theorem In.nil {P : Nat → Prop} : In P (.slice none 0 0) := fun _ _ _ h => by cases h
theorem In.mono {P Q : Nat → Prop} {v : Value} (h : In P v) (hPQ : ∀ b, P b → Q b) : In Q v := fun a n c e => hPQ _ (h a n c e)
theorem In.mk {P : Nat → Prop} {a : Addr} {n c : Nat} (h : P a.block) : In P (.slice (some a) n c) := fun _ _ _ e => by cases e; exact h
theorem In.of {P : Nat → Prop} {a : Addr} {n c : Nat} (h : In P (.slice (some a) n c)) : P a.block := h _ _ _ rfl
/-- A store into a block that the slice does not lead to. -/
theorem Sl.put {P : Nat → Prop} {w : World} {v : Value} {xs : List Value} (h : Sl w v xs) (hP : In P v) {p : Addr} (hp : ¬ P p.block) (u : Value) : Sl (w.setCell p u) v xs := by
  rcases h with h | ⟨b, o, cap, rfl, h2, h3, h4⟩
  · exact Or.inl h
  · have hne : b ≠ p.block := fun e => hp (e ▸ In.of hP)
    refine Or.inr ⟨b, o, cap, rfl, h2, by simpa [World.setCell] using h3, fun i hi => ?_⟩
    rw [World.cell?_of_block (w := w) (Below.heap_setCell w p u b hne)]; exact h4 i hi

theorem Sl.form {w : World} {v : Value} {xs : List Value} (h : Sl w v xs) : ∃ p cap, v = .slice p xs.length cap := by
  rcases h with ⟨rfl, rfl⟩ | ⟨b, o, cap, rfl, -⟩
  · exact ⟨none, 0, rfl⟩
  · exact ⟨_, _, rfl⟩
theorem Sl.formMap {α : Type} {g : α → Value} {w : World} {v : Value} {xs : List α} (h : Sl w v (xs.map g)) : ∃ p cap, v = .slice p xs.length cap := by
  obtain ⟨p, cap, h⟩ := h.form; rw [List.length_map] at h; exact ⟨p, cap, h⟩

/-- Blocks below B read as before. -/
theorem bcellB {B : Nat} {W w1 : World} (hb : Below B W w1) : (∀ b o, b < B → w1.cell? ⟨b, o, none⟩ = W.cell? ⟨b, o, none⟩) ∧ (∀ b o, b < B → w1.frozen? ⟨b, o, none⟩ = W.frozen? ⟨b, o, none⟩) :=
  ⟨fun b o h => hb.cell (p := ⟨b, o, none⟩) h, fun b o h => hb.frozen (p := ⟨b, o, none⟩) h⟩

theorem bcell {W w1 : World} (hb : Below W.heap.size W w1) : (∀ b o, b < W.heap.size → w1.cell? ⟨b, o, none⟩ = W.cell? ⟨b, o, none⟩) ∧ (∀ b o, b < W.heap.size → w1.frozen? ⟨b, o, none⟩ = W.frozen? ⟨b, o, none⟩) :=
  ⟨fun b o h => hb.cell (p := ⟨b, o, none⟩) h, fun b o h => hb.frozen (p := ⟨b, o, none⟩) h⟩

theorem cell_of_block {w : World} {b : Nat} {cs : Array Value} {t : TypeId} {fr : Nat × Nat} (h : w.heap[b]? = some (.cells cs t fr)) (i : Nat) : w.cell? ⟨b, i, none⟩ = cs[i]? := by
  simp [World.cell?, h]
theorem frozen_of_block {w : World} {b : Nat} {cs : Array Value} {t : TypeId} (h : w.heap[b]? = some (.cells cs t (0, 0))) (i : Nat) : w.frozen? ⟨b, i, none⟩ = false := by
  simp [World.frozen?, h]
theorem setCell_block {w : World} {b : Nat} {cs : Array Value} {t : TypeId} {fr : Nat × Nat} (h : w.heap[b]? = some (.cells cs t fr)) (i : Nat) (v : Value) : (w.setCell ⟨b, i, none⟩ v).heap[b]? = some (.cells (cs.setIfInBounds i v) t fr) := by
  simp [World.setCell, Array.getElem?_modify, h]
theorem block_lt {w : World} {b : Nat} {o : Obj} (h : w.heap[b]? = some o) : b < w.heap.size := by
  obtain ⟨hb, -⟩ := Array.getElem?_eq_some_iff.1 h; exact hb
theorem own_form {w : World} {base : Nat} {e : TypeId} {size : Nat} {v : Value} {n : Nat} {xs : List Value} (h : w.ownsRow base e size v n xs) : ∃ p cap, v = .slice p n cap := by
  obtain ⟨-, ⟨rfl, rfl⟩ | ⟨g, cap, cur, rfl, -⟩⟩ := h
  · exact ⟨none, 0, rfl⟩
  · exact ⟨_, _, rfl⟩
theorem own_keep {w w1 : World} {base : Nat} {e : TypeId} {size : Nat} {v : Value} {n : Nat} {xs : List Value} (h : w.ownsRow base e size v n xs) (hb : Below w.heap.size w w1) : w1.ownsRow base e size v n xs := by
  obtain ⟨h1, h2⟩ := h
  refine ⟨h1, ?_⟩
  rcases h2 with h2 | ⟨g, cap, cur, hv, hg, hh, r⟩
  · exact Or.inl h2
  · exact Or.inr ⟨g, cap, cur, hv, hg, by rw [hb.block g (block_lt hh)]; exact hh, r⟩
theorem own_block {w : World} {base : Nat} {e : TypeId} {size : Nat} {v : Value} {n : Nat} {xs : List Value} (h : w.ownsRow base e size v n xs) : ∀ k, v.ownBlock = some k → base ≤ k := by
  obtain ⟨-, ⟨rfl, rfl⟩ | ⟨g, cap, cur, rfl, hg, -⟩⟩ := h
  · intro k hk; cases hk
  · intro k hk; cases hk; exact hg
theorem keep_cell {w w1 : World} {p : Addr} {v : Value} (hb : Below w.heap.size w w1) (h : w.cell? p = some v) : w1.cell? p = some v := by
  rw [hb.cell (World.block_lt_of_cell? w _ h)]; exact h
theorem below2 {w w1 w2 : World} (h1 : Below w.heap.size w w1) (h2 : Below w1.heap.size w1 w2) : Below w.heap.size w w2 := h1.trans (h2.mono h1.size)
theorem below3 {w w1 w2 w3 : World} (h1 : Below w.heap.size w w1) (h2 : Below w1.heap.size w1 w2) (h3 : Below w2.heap.size w2 w3) : Below w.heap.size w w3 :=
  (h1.trans (h2.mono h1.size)).trans (h3.mono (Nat.le_trans h1.size h2.size))

/-- 'Below' at the heap's own size, closed to what takes conjunctions apart. -/
def Kp (w w1 : World) : Prop := Below w.heap.size w w1
theorem Kp.out {w w1 : World} (h : Kp w w1) : Below w.heap.size w w1 := h
theorem Kp.refl (w : World) : Kp w w := Below.refl _ _
theorem Kp.drew {w w1 : World} (h : Kp w w1) : Kp w w1.drew := Below.drew h
theorem Kp.step {w w1 w2 : World} (h : Kp w w1) (h2 : Below w1.heap.size w1 w2) : Kp w w2 := below2 h h2

/-- What is owned reads as a list. -/
theorem own_sl {w : World} {base : Nat} {e : TypeId} {v : Value} {n : Nat} {xs : List Value} (h : w.ownsRow base e 1 v n xs) : Sl w v xs := by
  obtain ⟨h1, ⟨rfl, rfl⟩ | ⟨g, cap, cur, rfl, hg, hh, r1, r2, r3, r4⟩⟩ := h
  · left; exact ⟨rfl, by cases xs with | nil => rfl | cons a t => simp at h1⟩
  · right
    rw [Nat.mul_one] at h1 r4
    refine ⟨g, 0, cap, by rw [h1], by omega, block_lt hh, fun i hi => ?_⟩
    rw [Nat.zero_add, cell_of_block hh]
    have : i < (cur.toList.take n).length := by rw [r4]; exact hi
    rw [← Array.getElem?_toList]
    rw [List.getElem?_eq_getElem (by simp at this ⊢; omega)]
    congr 1
    have e1 : (cur.toList.take n)[i] = xs[i] := by simp only [r4]
    rw [← e1, List.getElem_take]

theorem info_i64 : (Try.prog.info? 2).map (fun i => (i.zero, i.size, i.bytes)) = some (some (.int .i64 0), 1, 8) := by kernel_rfl

theorem ret_i64 {a b : Int} (h : a = b) : Ending.returned (.int .i64 a) = .returned (.int .i64 b) := by rw [h]

theorem digit_calls (s e i : Int) (sl : Value) (ds : List Int) (w : World) (hs : Sl w sl (ds.map (Value.int .i64))) (he : -1000000000000 ≤ e) (he2 : e + ds.length ≤ 1000000000000) (hi : -1000000000000 ≤ i) (hi2 : i ≤ 1000000000000) :
    Calls Try.prog 32 #[.agg #[.int .i64 s, sl, .int .i64 e], .int .i64 i] w fun e' w' => e' = .returned (.int .i64 (dg ds e i)) ∧ Below w.heap.size w w' := by
  unfold dg
  by_cases h1 : i < e
  · rw [if_pos (Or.inl h1)]
    go_enter Try.func32, Try.ntmps32
    go_wp2
    go_ret
    exact ⟨rfl, (Below.refl _ _).alloc (Nat.le_refl _) _⟩
  · rcases hs with ⟨rfl, hx⟩ | ⟨b, o, cap, rfl, h2, h3, h4⟩
    · have : ds = [] := by simpa using hx
      subst this
      rw [if_pos (by simp; omega)]
      go_enter Try.func32, Try.ntmps32
      go_wp2
      go_ret
      exact ⟨rfl, (Below.refl _ _).alloc (Nat.le_refl _) _⟩
    · rw [List.length_map] at *
      by_cases h5 : e + ds.length ≤ i
      · rw [if_pos (Or.inr h5)]
        go_enter Try.func32, Try.ntmps32
        go_wp2
        go_ret
        exact ⟨rfl, (Below.refl _ _).alloc (Nat.le_refl _) _⟩
      · rw [if_neg (by omega)]
        have hk : (i - e).toNat < ds.length := by omega
        have hc := h4 (i - e).toNat (by simpa using hk)
        rw [List.getElem_map] at hc
        have hd : Hid (ds.getD (i - e).toNat 0 = ds[(i - e).toNat]) := by show _ = _; rw [List.getD_eq_getElem?_getD, List.getElem?_eq_getElem hk]; rfl
        clear h4
        have h6 : 0 ≤ i - e := by omega
        have h7 : i - e < (ds.length : Int) := by omega
        go_enter Try.func32, Try.ntmps32
        go_wp2
        go_ret
        exact ⟨by first | rfl | exact ret_i64 hd.out.symm, (Below.refl _ _).alloc (Nat.le_refl _) _⟩

/-- A part of a slice. -/
theorem Sl.sub {α : Type} {g : α → Value} {W : World} {b o cap : Nat} {ds : List α} {j m : Nat} (h : Sl W (.slice (some ⟨b, o, none⟩) ds.length cap) (ds.map g)) (hj : j < m) (hm : m ≤ ds.length) :
    Sl W (.slice (some ⟨b, o + j, none⟩) (m - j) (cap - j)) (((ds.drop j).take (m - j)).map g) := by
  rcases h with ⟨h, -⟩ | ⟨b', o', cap', h1, h2, h3, h4⟩
  · cases h
  · simp only [Value.slice.injEq, Option.some.injEq, Addr.mk.injEq] at h1
    obtain ⟨⟨rfl, rfl, -⟩, h1, rfl⟩ := h1
    simp only [List.length_map] at h2 h4
    refine Or.inr ⟨b, o + j, cap - j, by simp; omega, by simp; omega, h3, ?_⟩
    intro i hi
    simp at hi
    have := h4 (j + i) (by omega)
    rw [Nat.add_assoc, this]
    simp

def TrimPost (s : Int) (sl : Value) (ds : List Int) (e : Int) (w : World) (x : Ending) (w' : World) : Prop :=
  ∃ s' sl' ds' e', x = .returned (.agg #[.int .i64 s', sl', .int .i64 e']) ∧ Sl w' sl' (ds'.map (Value.int .i64)) ∧ Below w.heap.size w w' ∧ TrimOf s ds e s' ds' e' ∧ ∀ P, In P sl → In P sl'

theorem getD_of_lt {ds : List Int} {i : Nat} (h : i < ds.length) : ds.getD i 0 = ds[i] := by rw [List.getD_eq_getElem?_getD, List.getElem?_eq_getElem h]; rfl
theorem getD_of_ge {ds : List Int} {i : Nat} (h : ds.length ≤ i) : ds.getD i 0 = 0 := by rw [List.getD_eq_getElem?_getD, List.getElem?_eq_none h]; rfl

theorem trim_calls (s e : Int) (sl : Value) (ds : List Int) (w : World) (hs : Sl w sl (ds.map (Value.int .i64))) (he : -1000000000000 ≤ e) (he2 : e + ds.length ≤ 1000000000000) :
    Calls Try.prog 33 #[.agg #[.int .i64 s, sl, .int .i64 e]] w (TrimPost s sl ds e w) := by
  have hS := Lib.hid hs
  rcases hs with ⟨rfl, hx⟩ | ⟨b, o, cap, rfl, h2, h3, h4⟩
  · have : ds = [] := by simpa using hx
    subst this
    clear hS
    go_enter Try.func33, Try.ntmps33
    go_wp2
    go_loop [3] (fun d => d = .slice none 0 0) (fun _ => 0)
    case atStart => rfl
    case round =>
      subst hrel
      go_wp2
      go_loop [3, 4] (fun d x => d = .slice none 0 0 ∧ x = .int .i64 e) (fun _ _ => 0)
      case atStart => exact ⟨rfl, rfl⟩
      case round =>
        obtain ⟨rfl, rfl⟩ := hrel
        go_wp2
        refine bodyPost_ret (v := .agg #[.int .i64 0, .slice none 0 0, .int .i64 0]) (by simp [results, Try.results33, go_sem]) rfl ?_
        exact ⟨0, _, [], 0, rfl, Or.inl ⟨rfl, rfl⟩, ((Below.refl _ _).alloc (Nat.le_refl _) _).alloc (by simp) _, Or.inl ⟨rfl, rfl, rfl, fun i => rfl⟩, fun _ _ => In.nil⟩
  · simp only [List.length_map] at *
    have h4' : ∀ i (h : i < ds.length), w.cell? ⟨b, o + i, none⟩ = some (.int .i64 ds[i]) := fun i h => by
      have := h4 i (by simpa using h); rwa [List.getElem_map] at this
    have h4 := Lib.hid h4'
    clear h4'
    go_enter Try.func33, Try.ntmps33
    go_wp2
    go_loop [3] (fun d => ∃ m : Nat, m ≤ ds.length ∧ d = .slice (some ⟨b, o, none⟩) m cap ∧ ∀ i, m ≤ i → ds.getD i 0 = 0) (fun d => match d with | .slice _ m _ => m | _ => 0)
    case atStart => exact ⟨ds.length, Nat.le_refl _, rfl, fun i hi => getD_of_ge hi⟩
    case round =>
      obtain ⟨m, hm, rfl, hz⟩ := hrel
      have hz' := Lib.hid hz
      clear hz
      by_cases h5 : 0 < m
      · have hc := h4.out (m - 1) (by omega)
        by_cases h6 : ds[m - 1] = 0
        · rw [h6] at hc
          go_wp2
          go_round
          case rel => exact ⟨m - 1, by omega, rfl, fun i hi => by
            by_cases e : i = m - 1
            · rw [e, getD_of_lt (by omega)]; exact h6
            · exact hz'.out i (by omega)⟩
          case measure => show m - 1 < m; omega
        · go_wp2
          go_loop [3, 4] (fun d x => ∃ j : Nat, j < m ∧ d = .slice (some ⟨b, o + j, none⟩) (m - j) (cap - j) ∧ x = .int .i64 (e + (j : Int)) ∧ ∀ i, i < j → ds.getD i 0 = 0) (fun d _ => match d with | .slice _ m _ => m | _ => 0)
          case atStart => exact ⟨0, h5, by simp, by simp, fun i hi => by omega⟩
          case round =>
            obtain ⟨j, hj, rfl, rfl, hy⟩ := hrel
            have hy' := Lib.hid hy
            clear hy hc
            have hc := h4.out j (by omega)
            have g1 : 0 < m - j := by omega
            by_cases h7 : ds[j] = 0
            · rw [h7] at hc
              have hne : j ≠ m - 1 := by intro he; subst he; exact h6 h7
              have g2 : 1 ≤ m - j := by omega
              have g3 : 1 ≤ cap - j := by omega
              have g4 : ¬ cap - j = 1 := by omega
              go_wp2
              go_round
              case rel => exact ⟨j + 1, by omega, by rw [Nat.add_assoc, Nat.sub_sub, Nat.sub_sub], by go_num, fun i hi => by
                by_cases e : i = j
                · subst e; rw [getD_of_lt (by omega)]; exact h7
                · exact hy'.out i (by omega)⟩
              case measure => show m - j - 1 < m - j; omega
            · go_wp2
              refine bodyPost_ret (v := .agg #[.int .i64 s, .slice (some ⟨b, o + j, none⟩) (m - j) (cap - j), .int .i64 (e + (j : Int))]) (by simp [results, Try.results33, go_sem]) rfl ?_
              have hB : Below w.heap.size w ((w.alloc (.cells #[.int .i64 s, .slice (some ⟨b, o, none⟩) ds.length cap, .int .i64 e] 32)).alloc (.cells #[.int .i64 s, .slice (some ⟨b, o + j, none⟩) (m - j) (cap - j), .int .i64 (e + j)] 32)) := ((Below.refl _ _).alloc (Nat.le_refl _) _).alloc (by simp) _
              exact ⟨s, _, (ds.drop j).take (m - j), e + j, rfl, (hS.out.keep hB).sub hj hm, hB,
                Or.inr ⟨rfl, j, m, hj, hm, rfl, rfl, hy'.out, hz'.out, by rw [getD_of_lt (by omega)]; exact h7, by rw [getD_of_lt (by omega)]; exact h6⟩, fun P hP => In.mk (a := ⟨b, o + j, none⟩) (show P b from In.of hP)⟩
      · obtain rfl : m = 0 := by omega
        go_wp2
        go_loop [3, 4] (fun d x => d = .slice (some ⟨b, o, none⟩) 0 cap ∧ x = .int .i64 e) (fun _ _ => 0)
        case atStart => exact ⟨rfl, rfl⟩
        case round =>
          obtain ⟨rfl, rfl⟩ := hrel
          go_wp2
          refine bodyPost_ret (v := .agg #[.int .i64 0, .slice none 0 0, .int .i64 0]) (by simp [results, Try.results33, go_sem]) rfl ?_
          exact ⟨0, _, [], 0, rfl, Or.inl ⟨rfl, rfl⟩, ((Below.refl _ _).alloc (Nat.le_refl _) _).alloc (by simp) _, Or.inl ⟨rfl, rfl, rfl, fun i => hz'.out i (Nat.zero_le _)⟩, fun _ _ => In.nil⟩
end Go.Proofs.Ytojbheanfcdjoaa
