/- Package expand, walked: number (the sum of floats as a whole number). -/
import Derived.Test.YtiihokgjplpceaaDoorEwS
import Derived.Test.YtiihokgjplpceaaDoorNwE
import Derived.Test.YtiihokgjplpceaaDoorBxB
namespace Go.Proofs.YtiihokgjplpceaaDoor
open Go.RowKit TV
set_option linter.unusedVariables false

/-- A number with a bound whose words lie neither in the block b nor in the next one. -/
def N1 (b : Nat) (w : World) (v : Value) (q : Rat) (m : Nat) : Prop := WNum (fun j => j ≠ b ∧ j ≠ b + 1) w v (some q) ∧ Bx m q
theorem N1.keep {b : Nat} {w w1 : World} {v : Value} {q : Rat} {m : Nat} (h : N1 b w v q m) (hb : Below w.heap.size w w1) : N1 b w1 v q m := ⟨h.1.keep hb, h.2⟩
theorem N1.num {b : Nat} {w : World} {v : Value} {q : Rat} {m : Nat} (h : N1 b w v q m) : NumB 0 w v q m := ⟨h.1.mono fun _ _ => Nat.zero_le _, h.2⟩
theorem N1.put4 {b : Nat} {w : World} {v : Value} {q : Rat} {m : Nat} (h : N1 b w v q m) (u0 u1 u2 u3 : Value) :
    N1 b ((((w.setCell ⟨b, 0, none⟩ u0).setCell ⟨b, 1, none⟩ u1).setCell ⟨b, 2, none⟩ u2).setCell ⟨b, 3, none⟩ u3) v q m := ⟨h.1.put4 (fun h => h.1 rfl) u0 u1 u2 u3, h.2⟩
theorem N1.put4s {b : Nat} {w : World} {v : Value} {q : Rat} {m : Nat} (h : N1 b w v q m) (u0 u1 u2 u3 : Value) :
    N1 b ((((w.setCell ⟨b + 1, 0, none⟩ u0).setCell ⟨b + 1, 1, none⟩ u1).setCell ⟨b + 1, 2, none⟩ u2).setCell ⟨b + 1, 3, none⟩ u3) v q m := ⟨h.1.put4 (fun h => h.2 rfl) u0 u1 u2 u3, h.2⟩
theorem put4_own {w : World} {b : Nat} {T : TypeId} {c0 c1 c2 c3 : Value} (h : w.heap[b]? = some (.cells #[c0, c1, c2, c3] T (0, 0))) (u0 u1 u2 u3 : Value) :
    ((((w.setCell ⟨b, 0, none⟩ u0).setCell ⟨b, 1, none⟩ u1).setCell ⟨b, 2, none⟩ u2).setCell ⟨b, 3, none⟩ u3).heap[b]? = some (.cells #[u0, u1, u2, u3] T (0, 0)) := by
  have hF := setCell_block (setCell_block (setCell_block (setCell_block h 0 u0) 1 u1) 2 u2) 3 u3
  simpa using hF
theorem put4_off {w : World} {b c : Nat} (u0 u1 u2 u3 : Value) (h : c ≠ b) : ((((w.setCell ⟨b, 0, none⟩ u0).setCell ⟨b, 1, none⟩ u1).setCell ⟨b, 2, none⟩ u2).setCell ⟨b, 3, none⟩ u3).heap[c]? = w.heap[c]? := by
  have f : ∀ (W : World) (i : Nat) (u : Value), (W.setCell ⟨b, i, none⟩ u).heap[c]? = W.heap[c]? := fun W i u => Below.heap_setCell W ⟨b, i, none⟩ u c h
  rw [f, f, f, f]
theorem of1 {b : Nat} (x : Nat) (hx : x < 18446744073709551616) (hf : rung x < inf) {w : World} (ht : TabOk w) (hs : b + 2 ≤ w.heap.size) :
    Calls Tryd.prog 89 #[.float .f64 x] w fun e w' => ∃ v, e = .returned v ∧ N1 b w' v (fr x) 1074 ∧ Below w.heap.size w w' := by
  refine (wOf_calls x hx w ht).mono ?_
  rintro e w' ⟨v, h1, h2, h3⟩
  rw [if_pos hf] at h2
  exact ⟨v, h1, ⟨h2.mono fun j hj => by omega, fr_bound hf⟩, h3⟩
theorem add1 {b : Nat} {w : World} {va vb : Value} {p q : Rat} {m k : Nat} (M : Nat) (ha : N1 b w va p m) (hb : N1 b w vb q k) (ht : TabOk w) (hs : b + 2 ≤ w.heap.size) (h1 : m + 1 ≤ M) (h2 : k + 1 ≤ M) (h3 : M ≤ 65536) :
    Calls Tryd.prog 90 #[va, vb] w fun e w' => ∃ v, e = .returned v ∧ N1 b w' v (p + q) M ∧ Below w.heap.size w w' := by
  have hM := ha.2.add hb.2 h1 h2
  refine (wAdd_calls ha.1 hb.1 ht).mono ?_
  rintro x w' ⟨o, ho, v, a, b', c⟩
  cases wv_ok ho (hM.ok h3)
  exact ⟨v, a, ⟨b'.mono fun j hj => by rcases hj with hj | hj; exact hj; omega, hM⟩, c⟩
theorem zero_num1 {P : Nat → Prop} (w : World) : WNum P w (.agg #[.slice none 0 0, .int .i64 0, .bool false, .bool false]) (some 0) :=
  ⟨.slice none 0 0, [], 0, false, rfl, Or.inl ⟨rfl, rfl⟩, fun _ _ _ h => by simp at h, by simp [W.nv, W.dval], Or.inl rfl, Or.inl ⟨rfl, rfl, rfl, rfl⟩⟩
/-- The number of a list of floats. -/
def numL (l : List Nat) : Rat := match l with
  | [] => 0
  | x :: l => fr x + numL l
theorem numL_snoc (l : List Nat) (x : Nat) : numL (l ++ [x]) = numL l + fr x := by
  induction l with
  | nil => simp [numL]; grind
  | cons y l ih => simp only [List.cons_append, numL, ih]; grind
set_option maxRecDepth 100000 in
set_option maxHeartbeats 1000000 in
theorem number_calls {w : World} (ht : TabOk w) {v : Value} {l : List Nat} (hs : Sl w v (fvs l)) (hl : ∀ x ∈ l, Fl x) (hn : l.length ≤ 60000) :
    Calls Tryd.prog 85 #[v] w fun x w' => ∃ u, x = .returned u ∧ N1 w.heap.size w' u (numL l) (1100 + l.length) ∧ Below w.heap.size w w' := by
  obtain ⟨p, cap, rfl⟩ := hs.form
  have hll : (fvs l).length = l.length := by simp [fvs]
  rw [hll] at hs ⊢
  obtain ⟨W1, h1, B1, S1, J0, J1⟩ := box_num w (.cells #[.slice none 0 0, .int .i64 0, .bool false, .bool false] 89) (.cells #[.slice none 0 0, .int .i64 0, .bool false, .bool false] 89)
  have N0 : N1 w.heap.size W1 (.agg #[.slice none 0 0, .int .i64 0, .bool false, .bool false]) 0 (1100 + 0) := ⟨zero_num1 W1, Bx.zero _⟩
  have HL := Lib.hid hl
  have HN := Lib.hid hn
  clear hl
  go_enter Tryd.func85, Tryd.ntmps85
  go_wp2_with fail
  rw [← h1]
  clear h1
  go_loopw [5, 8] (fun _ iv wr => ∃ (k : Nat) (p1 : Option Addr) (n1 c1 : Nat) (e1 : Int) (g1 : Bool), k ≤ l.length ∧ iv = .int .i64 k ∧ N1 w.heap.size wr (.agg #[.slice p1 n1 c1, .int .i64 e1, .bool g1, .bool false]) (numL (l.take k)) (1100 + k) ∧
      wr.heap[w.heap.size]? = some (.cells #[.slice none 0 0, .int .i64 0, .bool false, .bool false] 89 (0, 0)) ∧
      wr.heap[w.heap.size + 1]? = some (.cells #[.slice p1 n1 c1, .int .i64 e1, .bool g1, .bool false] 89 (0, 0)) ∧ Below w.heap.size w wr) (fun _ iv _ => l.length - (intOf iv).toNat)
  case atStart => exact ⟨0, _, _, _, _, _, Nat.zero_le _, rfl, N0, J0, J1, B1⟩
  case round =>
    obtain ⟨k, p1, n1, c1, e1, g1, hk, rfl, hN, hR, hJ, hB⟩ := hrel
    obtain ⟨wz, rfl⟩ : ∃ z : World, z = wr := ⟨_, rfl⟩
    clear N0 J0 J1 B1 S1
    by_cases hlt : k < l.length
    · obtain ⟨bb, oo, rfl, hcell⟩ := sl_atf (hs.keep hB) hlt
      have hx := HL.out l[k] (List.getElem_mem hlt)
      have hsum : numL (l.take (k + 1)) = numL (l.take k) + fr l[k] := by rw [List.take_succ_eq_append_getElem hlt, numL_snoc]
      obtain ⟨x, hxx⟩ : ∃ x, x = l[k] := ⟨_, rfl⟩
      rw [← hxx] at hcell hx hsum
      have HSUM := Lib.hid hsum
      have D : Below wz.heap.size wz wz.drew := (Below.refl _ _).drew
      have hs7 : w.heap.size + 2 ≤ wz.drew.heap.size := by have := block_lt (keep_block D hJ); omega
      have HO := Lib.hid (of1 (b := w.heap.size) x hx.1 hx.2 ((ht.keep hB).keep D) hs7)
      have HNd := Lib.hid (hN.keep D)
      have HS2 := Lib.hid (fun (Y : World) (u : Value) (b : Below wz.drew.heap.size wz.drew Y) (hu : N1 w.heap.size Y u (fr x) 1074) => add1 (1100 + (k + 1)) (HNd.out.keep b) hu (((ht.keep hB).keep D).keep b) (Nat.le_trans hs7 b.size) (by omega) (by omega) (by have := HN.out; omega))
      have HJd := Lib.hid (keep_block D hJ)
      have HRd := Lib.hid (keep_block D hR)
      have HBd := Lib.hid (bl_pack hB hB.size D)
      obtain ⟨q0, q1, q2, q3, -, -, -, -⟩ := res4_facts HJd.out
      obtain ⟨q0', q1', q2', q3', -, -, -, -⟩ := res4_facts hJ
      clear hxx hsum hx hN hR hJ hB
      go_upto_region 5 with (fail)
      go_region_with (first
        | (go_at_call 89; refine HO.out.mono ?_; rintro _ w8 ⟨v8, rfl, M8, b8⟩; obtain ⟨p8, n8, c8, e8, g8, rfl⟩ := M8.num.form; have hJ8 := Lib.hid (keep_block b8 HJd.out); obtain ⟨t0, t1, t2, t3, -, -, -, -⟩ := res4_facts hJ8.out)
        | (go_at_call 90; refine (HS2.out _ _ b8 M8).mono ?_; rintro _ w9 ⟨v9, rfl, M9, b9⟩; obtain ⟨p9, n9, c9, e9, g9, rfl⟩ := M9.num.form; have hJ9 := Lib.hid (keep_block b9 hJ8.out); obtain ⟨k0, k1, k2, k3, f0, f1, f2, f3⟩ := res4_facts hJ9.out))
      all_goals (
        go_wp2_with fail
        go_roundw
        case rel => exact ⟨k + 1, p9, n9, c9, e9, g9, by omega, by go_num, by rw [HSUM.out]; exact M9.put4s _ _ _ _, (put4_off _ _ _ _ (by omega)).trans (keep_block b9 (keep_block b8 HRd.out)), put4_own hJ9.out _ _ _ _, bl_put4 (bl_pack (bl_pack HBd.out HBd.out.size b8) (Nat.le_trans HBd.out.size b8.size) b9) (Nat.le_succ _) _ _ _ _⟩
        case measure => simp [intOf]; omega)
    · obtain rfl : k = l.length := by omega
      obtain ⟨q0, q1, q2, q3, -, -, -, -⟩ := res4_facts hJ
      obtain ⟨r0, r1, r2, r3, f0, f1, f2, f3⟩ := res4_facts hR
      go_wp2_with fail
      obtain ⟨s0, s1, s2, s3⟩ := put4_facts hR (.slice p1 n1 c1) (.int .i64 e1) (.bool g1) (.bool false)
      refine bodyPost_ret (v := .agg #[.slice p1 n1 c1, .int .i64 e1, .bool g1, .bool false]) (by simp [results, Tryd.results85, go_sem, s0, s1, s2, s3]) rfl ?_
      rw [List.take_length] at hN
      exact ⟨_, rfl, hN.put4 _ _ _ _, bl_put4 hB (Nat.le_refl _) _ _ _ _⟩
end Go.Proofs.YtiihokgjplpceaaDoor
