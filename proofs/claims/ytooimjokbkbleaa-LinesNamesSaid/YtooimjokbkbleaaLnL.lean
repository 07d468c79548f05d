/- Texts held against each other; the law LinesRead, walked. -/
import Derived.Test.YtooimjokbkbleaaLnK
namespace Go.Proofs.Ytooimjokbkbleaa
open Go.RowKit Go.Shelf TV
set_option linter.unusedVariables false

theorem texts_same (xs : List ByteArray) (va vb : Value) (w : World) (ha : Sa w va (xs.map Value.string)) (hb : Sa w vb (xs.map Value.string)) (hl : xs.length ≤ maxLen) :
    Calls Try.prog 12 #[va, vb] w fun e w' => e = .returned (.bool true) ∧ ∃ n, w' = w.drewN n := by
  obtain ⟨p, cap, rfl⟩ := ha.formMap
  obtain ⟨q, cap2, rfl⟩ := hb.formMap
  unfold maxLen at hl
  go_enter Try.func12, Try.ntmps12
  go_wp2
  go_loopw [5] (fun iv wr => ∃ (i n : Nat), i ≤ xs.length ∧ iv = .int .i64 i ∧ wr = w.drewN n) (fun iv _ => xs.length - (intOf iv).toNat)
  case atStart => exact ⟨0, 0, Nat.zero_le _, rfl, rfl⟩
  case round =>
    obtain ⟨i, n, hi, rfl, rfl⟩ := hrel
    by_cases hlt : i < xs.length
    · obtain ⟨b, o, rfl, hb1, hc⟩ := ha.at hlt
      obtain ⟨b2, o2, rfl, hb2, hc2⟩ := hb.at hlt
      have hx2 : (xs[i].toList == xs[i].toList) = true := beq_self_eq_true _
      go_wp2
      go_quiet (fail)
      go_wp2
      go_roundw
      case rel => exact ⟨i + 1, n + nq, by omega, by go_num, rfl⟩
      case measure => simp [intOf]; omega
    · go_wp2
      go_ret
      exact ⟨rfl, n, rfl⟩

theorem own_cellN {w : World} {base : Nat} {e : TypeId} {size g cap n : Nat} {xs : List Value} (h : w.ownsRow base e size (.slice (some ⟨g, 0, none⟩) n cap) n xs) {i : Nat} (hi : i < xs.length) :
    w.cell? ⟨g, i, none⟩ = some xs[i] ∧ w.frozen? ⟨g, i, none⟩ = false := by
  obtain ⟨h1, ⟨h2, -⟩ | ⟨g', cap', cur, hv, hg, hh, r1, r2, r3, r4⟩⟩ := h
  · cases h2
  · simp only [Value.slice.injEq, Option.some.injEq, Addr.mk.injEq] at hv
    obtain ⟨⟨rfl, -, -⟩, -, rfl⟩ := hv
    refine ⟨?_, frozen_of_block hh i⟩
    rw [cell_of_block hh, ← Array.getElem?_toList]
    have hi2 : i < (cur.toList.take (n * size)).length := by rw [r4]; exact hi
    have e1 : (cur.toList.take (n * size))[i] = xs[i] := by simp only [r4]
    rw [List.getElem?_eq_getElem (by rw [List.length_take] at hi2; omega), ← e1, List.getElem_take]

theorem cellsX_len (X : List LnX) : (cellsX X).length = X.length * 2 := by
  induction X with
  | nil => rfl
  | cons a X ih => simp only [cellsX, List.flatMap_cons, List.length_append, List.length_cons, List.length_nil] at ih ⊢; omega
theorem cellsX_at {X : List LnX} : ∀ {i : Nat} (hi : i < X.length), (cellsX X)[i * 2]? = some (.int .i64 (X[i].1 : Int)) ∧ (cellsX X)[i * 2 + 1]? = some X[i].2.1 := by
  induction X with
  | nil => intro i hi; simp at hi
  | cons a X ih =>
    intro i hi
    cases i with
    | zero => exact ⟨rfl, rfl⟩
    | succ i =>
      have := ih (i := i) (by simpa using hi)
      have e : ∀ k, (cellsX (a :: X))[k + 2]? = (cellsX X)[k]? := fun k => rfl
      rw [show (i + 1) * 2 = i * 2 + 2 by omega, show i * 2 + 2 + 1 = i * 2 + 1 + 2 by omega, e, e]
      exact this
/-- A line's two cells. -/
theorem line_cells {w : World} {base : Nat} {T : TypeId} {v : Value} {X : List LnX} (h : w.ownsRow base T 2 v X.length (cellsX X)) {i : Nat} (hi : i < X.length) :
    ∃ g cap, v = .slice (some ⟨g, 0, none⟩) X.length cap ∧ base ≤ g ∧ g < w.heap.size ∧ w.cell? ⟨g, i * 2, none⟩ = some (.int .i64 (X[i].1 : Int)) ∧ w.cell? ⟨g, i * 2 + 1, none⟩ = some X[i].2.1 := by
  obtain ⟨g, cap, rfl, h1, h2⟩ := own_some h (by omega)
  have hl := cellsX_len X
  obtain ⟨c1, c2⟩ := cellsX_at hi
  refine ⟨g, cap, rfl, h1, h2, ?_, ?_⟩
  · rw [(own_cellN h (i := i * 2) (by omega)).1, ← c1, List.getElem?_eq_getElem (by omega)]
  · rw [(own_cellN h (i := i * 2 + 1) (by omega)).1, ← c2, List.getElem?_eq_getElem (by omega)]

theorem rX_len (X : List LnX) : (rX X).length = X.length := by simp [rX]
theorem rX_at {X Y : List LnX} (h : rX X = rX Y) {i : Nat} (hi : i < X.length) (hj : i < Y.length) : X[i].1 = Y[i].1 ∧ X[i].2.2 = Y[i].2.2 := by
  have h2 : (rX X)[i]'(by rw [rX_len]; exact hi) = (rX Y)[i]'(by rw [rX_len]; exact hj) := by simp only [h]
  simp only [rX, List.getElem_map, Prod.mk.injEq] at h2
  refine ⟨h2.1, ?_⟩
  have : ∀ (a b : List ByteArray), a.map toL = b.map toL → a = b := fun a b h => List.map_inj_right (fun _ _ h => toL_inj h) |>.1 h
  exact this _ _ h2.2

theorem own_le {w : World} {B : Nat} {e : TypeId} {sz n : Nat} {v : Value} {xs : List Value} (h : w.ownsRow B e sz v n xs) : n ≤ maxLen := by
  obtain ⟨h1, ⟨-, h2⟩ | ⟨g, cap, cur, -, -, -, r1, r2, -⟩⟩ := h
  · omega
  · omega
theorem own_set_other {w : World} {B : Nat} {e : TypeId} {sz n : Nat} {v : Value} {xs : List Value} (h : w.ownsRow B e sz v n xs) {g : Nat} (hg : v.ownBlock ≠ some g) (u : Value) : (w.setCell ⟨g, 0, none⟩ u).ownsRow B e sz v n xs :=
  h.kept (grownBy_setCell' w g u) (Or.inr hg)
theorem own_is {w : World} {B : Nat} {e : TypeId} {sz n : Nat} {v : Value} {xs : List Value} (h : w.ownsRow B e sz v n xs) (hn : 0 < n) : v.ownBlock = some (blk v) := by
  obtain ⟨g, cap, rfl, -⟩ := own_some h hn; rfl
/-- The lines that are still as they were read, from the i-th on. -/
def GotFrom (T : TypeId) (B : Nat) (w : World) (v : Value) (X : List LnX) (i : Nat) : Prop :=
  w.ownsRow B T 2 v X.length (cellsX X) ∧ ∀ j (hj : j < X.length), i ≤ j → X[j].2.2 ≠ [] ∧ w.ownsRow B 9 1 X[j].2.1 X[j].2.2.length (X[j].2.2.map Value.string)
theorem LnO.got {T : TypeId} {B : Nat} {w : World} {v : Value} {X : List LnX} (h : LnO T B w v X) : GotFrom T B w v X 0 := ⟨h.1, fun j hj _ => h.2.1 _ (List.getElem_mem hj)⟩
theorem LnO.set_row {T : TypeId} {base : Nat} {w : World} {v : Value} {X : List LnX} (h : LnO T base w v X) {g : Nat} (h1 : v.ownBlock ≠ some g) (h2 : ∀ x ∈ X, blk x.2.1 ≠ g) (u : Value) : LnO T base (w.setCell ⟨g, 0, none⟩ u) v X := by
  refine ⟨own_set_other h.1 h1 u, fun x hx => ⟨(h.2.1 x hx).1, own_set_other (h.2.1 x hx).2 ?_ u⟩, h.2.2⟩
  rw [own_is (h.2.1 x hx).2 (List.length_pos_iff.2 (h.2.1 x hx).1)]
  intro he; exact h2 x hx (by simpa using he)
theorem GotFrom.step {T : TypeId} {B : Nat} {w : World} {v : Value} {X : List LnX} {i : Nat} (h : GotFrom T B w v X i) (hi : i < X.length) (hp : X.Pairwise (fun x y => blk x.2.1 < blk y.2.1)) (hT : 9 ≠ T) (u : Value) :
    GotFrom T B (w.setCell ⟨blk X[i].2.1, 0, none⟩ u) v X (i + 1) := by
  have hri := h.2 i hi (Nat.le_refl _)
  have hpos := List.length_pos_iff.2 hri.1
  refine ⟨own_set_other h.1 ?_ u, fun j hj hij => ⟨(h.2 j hj (by omega)).1, own_set_other (h.2 j hj (by omega)).2 ?_ u⟩⟩
  · intro he
    have := own_types_ne hri.2 h.1 hT
    rw [own_is hri.2 hpos, he] at this
    simp at this
  · rw [own_is (h.2 j hj (by omega)).2 (List.length_pos_iff.2 (h.2 j hj (by omega)).1)]
    intro he
    have := List.pairwise_iff_getElem.1 hp i j hi hj (by omega)
    simp at he; omega

set_option maxRecDepth 2000000 in
set_option maxHeartbeats 4000000 in
theorem LinesRead_walk (s : ByteArray) (w : World) (hs : s.size ≤ 140737488351232) (hmx : ∃ m, w.cell? ⟨0, 0, none⟩ = some (.int .i64 m)) :
    Calls Try.prog 4 #[.string s] w fun e w' => e = .returned (.bool true) ∧ Below w.heap.size w w' := by
  obtain ⟨m, hm⟩ := hmx
  have hmb : 0 < w.heap.size := World.block_lt_of_cell? w _ hm
  by_cases hbig : 200000 < s.size
  · have hd : decide ((200000 : Int) < (s.size : Int)) = true := decide_eq_true (by omega)
    clear hbig
    go_enter Try.func4, Try.ntmps4
    go_wp2
    go_ret
    exact ⟨rfl, Below.refl _ _⟩
  · have hd : decide ((200000 : Int) < (s.size : Int)) = false := decide_eq_false (by omega)
    clear hbig
    go_enter Try.func4, Try.ntmps4
    go_wp2_with (go_at_call 10; refine (refread_calls s _ hs).mono ?_; rintro e w1 ⟨v1, X1, no, err, rfl, hB1, hr1, hL1⟩; obtain ⟨q1, cap1, rfl⟩ := own_form hL1.1; have HR := Lib.hid hr1; clear hr1)
    go_loopw [6] (fun rv wr => ∃ r : Nat, r ≤ 2 ∧ rv = .int .i64 r ∧ LnO 36 w.heap.size wr (.slice q1 X1.length cap1) X1 ∧ Below w.heap.size w wr) (fun rv _ => 2 - (intOf rv).toNat)
    case atStart => exact ⟨0, by omega, rfl, hL1, hB1⟩
    case round =>
      clear hL1 hB1
      obtain ⟨r, hr, rfl, hL1, hB1⟩ := hrel
      obtain ⟨wz, rfl⟩ : ∃ wz : World, wz = wr := ⟨_, rfl⟩
      by_cases hr2 : r < 2
      · have hmz : wz.cell? ⟨0, 0, none⟩ = some (.int .i64 m) := (hB1.cell (p := ⟨0, 0, none⟩) hmb).trans hm
        have HRD := Lib.hid (read_calls s m wz hs hmz)
        clear hmz
        go_wp2_with fail
        refine HRD.out.mono ?_
        rintro e w2 ⟨v2, X2, no2, err2, rfl, hB2, hr2', hL2⟩
        obtain ⟨q2, cap2, rfl⟩ := own_form hL2.1
        have hall := HR.out.symm.trans hr2'
        simp only [Prod.mk.injEq] at hall
        obtain ⟨hXX, rfl, rfl⟩ := hall
        have hlen : X2.length = X1.length := by rw [← rX_len X1, ← rX_len X2, hXX]
        have HLEN := Lib.hid hlen
        have HXX := Lib.hid hXX
        rw [hlen]
        clear hr2' hXX hlen HRD
        go_wp2_with fail
        have hpw := Lib.hid hL2.2.2
        have hX1b := Lib.hid (fun x (hx : x ∈ X1) => (own_blk (hL1.2.1 x hx).2 (List.length_pos_iff.2 (hL1.2.1 x hx).1)).2)
        have hszz : w.heap.size ≤ wz.heap.size := hB1.size
        go_loopw [10] (fun iv wr => ∃ i : Nat, i ≤ X1.length ∧ iv = .int .i64 i ∧ LnO 36 w.heap.size wr (.slice q1 X1.length cap1) X1 ∧ GotFrom 35 wz.heap.size wr (.slice q2 X1.length cap2) X2 i ∧ Below w.heap.size w wr) (fun iv _ => X1.length - (intOf iv).toNat)
        case atStart => exact ⟨0, Nat.zero_le _, rfl, hL1.keep hB2, by have := hL2.got; rw [HLEN.out] at this; exact this, hB1.trans (hB2.mono hB1.size)⟩
        case round =>
          clear hL1 hL2 hB1 hB2
          obtain ⟨i, hi, rfl, hL1, hL2, hB1⟩ := hrel
          by_cases hlt : i < X1.length
          · have hX1l : X1.length ≤ 9223372036854775807 := by have := own_le hL1.1; unfold maxLen at this; omega
            obtain ⟨g1, c1, hg1, -, hg1b, a1, a2⟩ := line_cells hL1.1 hlt
            simp only [Value.slice.injEq] at hg1
            obtain ⟨rfl, -, rfl⟩ := hg1
            have hlt2 : i < X2.length := by rw [HLEN.out]; exact hlt
            obtain ⟨g2, c2, hg2, -, hg2b, b1, b2⟩ := line_cells hL2.1 hlt2
            simp only [Value.slice.injEq] at hg2
            obtain ⟨rfl, -, rfl⟩ := hg2
            obtain ⟨hn, hw⟩ := rX_at HXX.out hlt hlt2
            rw [← hn] at b1
            have hr1 := (hL1.2.1 X1[i] (List.getElem_mem hlt)).2
            have hr2 := hL2.2 i hlt2 (Nat.le_refl _)
            have hne := hr2.1
            have hpos : 0 < X2[i].2.2.length := List.length_pos_iff.2 hne
            have hr2 := hr2.2
            obtain ⟨gw, cw, hgw, hgw1, hgw2⟩ := own_some hr2 hpos
            obtain ⟨nn, hnn⟩ : ∃ nn : Nat, nn = X1[i].1 := ⟨_, rfl⟩
            rw [← hnn] at a1 b1
            obtain ⟨p1, k1, hp1⟩ := own_form hr1
            rw [hp1] at a2
            rw [hgw] at b2
            have hSa1 := (own_sl hr1).toSa
            have hSa2 := (own_sl hr2).toSa
            rw [hw, hp1] at hSa1
            rw [hgw] at hSa2
            have hcap : X2[i].2.2.length ≤ maxLen := own_le hr2
            have HW := Lib.hid hw
            clear hw
            have hr2' := hr2
            rw [hgw] at hr2'
            obtain ⟨u1, u2'⟩ := own_cell hr2' (i := 0) (by simpa using hpos)
            rw [List.getElem_map] at u1
            have HBK : Hid (blk X2[i].2.1 = gw) := by show _ = _; rw [hgw]; rfl
            have HV1 : Hid ((Value.slice (some ⟨g1, 0, none⟩) X1.length cap1).ownBlock ≠ some gw) := by
              show _ ≠ _
              intro he
              have := own_types_ne hr2' hL1.1 (by decide)
              rw [he] at this
              simp [Value.ownBlock] at this
            have HV2 : Hid (∀ x ∈ X1, blk x.2.1 ≠ gw) := fun x hx he => by have := hX1b.out x hx; omega
            have HT := Lib.hid (fun (n : Nat) => texts_same X2[i].2.2 _ _ (wr.drewN n) hSa2 hSa1 hcap)
            have HN := Lib.hid hnn
            clear hnn hn
            go_wp2_with fail
            go_quiet ((go_at_call 12; exact Calls.quiet_of (HT.out _)))
            go_wp2
            go_roundw
            case rel =>
              refine ⟨i + 1, by omega, by go_num, ?_, ?_, ?_⟩
              · exact LnO.set_row (w := wr.drewN nq) hL1 HV1.out HV2.out _
              · have := GotFrom.step (w := wr.drewN nq) hL2 (by rw [HLEN.out]; exact hlt) hpw.out (by decide) (.string ⟨#[63]⟩)
                rw [HBK.out] at this
                exact this
              · exact (below_drewN hB1 nq).setCell (p := ⟨gw, 0, none⟩) (by show w.heap.size ≤ gw; omega) _
            case measure => simp [intOf]; omega
          · go_wp2
            go_roundw
            case rel => exact ⟨r + 1, by omega, by go_num, hL1, hB1⟩
            case measure => simp [intOf]; omega
      · go_wp2
        go_ret
        exact ⟨rfl, hB1⟩

end Go.Proofs.Ytooimjokbkbleaa
