/- Lines in memory; the walk of the reference's Read. -/
import Derived.Test.YtooimjokbkbleaaLnE
namespace Go.Proofs.Ytooimjokbkbleaa
open Go.RowKit TV
set_option linter.unusedVariables false

/-- A line in memory: its number, its words' slice, its words. -/
abbrev LnX := Nat × Value × List ByteArray
def cellsX (X : List LnX) : List Value := X.flatMap fun x => [.int .i64 (x.1 : Int), x.2.1]
def rX (X : List LnX) : List (Nat × List Bs) := X.map fun x => (x.1, x.2.2.map toL)
def blk (v : Value) : Nat := v.ownBlock.getD 0

/-- A slice of lines of the call's own, each with words of its own. -/
def LnO (T : TypeId) (base : Nat) (w : World) (v : Value) (X : List LnX) : Prop :=
  w.ownsRow base T 2 v X.length (cellsX X) ∧ (∀ x ∈ X, x.2.2 ≠ [] ∧ w.ownsRow base 9 1 x.2.1 x.2.2.length (x.2.2.map Value.string)) ∧ X.Pairwise (fun x y => blk x.2.1 < blk y.2.1)

theorem LnO.nil (T : TypeId) (base : Nat) (w : World) : LnO T base w (.slice none 0 0) [] := ⟨⟨rfl, Or.inl ⟨rfl, rfl⟩⟩, (fun x hx => by cases hx), List.Pairwise.nil⟩

theorem LnO.keep {T : TypeId} {base : Nat} {w w1 : World} {v : Value} {X : List LnX} (h : LnO T base w v X) (hb : Below w.heap.size w w1) : LnO T base w1 v X :=
  ⟨own_keep h.1 hb, fun x hx => ⟨(h.2.1 x hx).1, own_keep (h.2.1 x hx).2 hb⟩, h.2.2⟩

theorem own_types_ne {w : World} {B B' : Nat} {e e' : TypeId} {s s' : Nat} {v v' : Value} {n n' : Nat} {xs xs' : List Value} (h : w.ownsRow B e s v n xs) (h' : w.ownsRow B' e' s' v' n' xs') (he : e ≠ e') : v.ownBlock = none ∨ v.ownBlock ≠ v'.ownBlock := by
  obtain ⟨-, ⟨rfl, -⟩ | ⟨g, cap, cur, rfl, -, hh, -⟩⟩ := h
  · exact Or.inl rfl
  · right
    obtain ⟨-, ⟨rfl, -⟩ | ⟨g', cap', cur', rfl, -, hh', -⟩⟩ := h'
    · intro h; cases h
    · intro h
      simp only [Value.ownBlock, Option.some.injEq] at h
      subst h
      rw [hh] at hh'
      simp only [Option.some.injEq, Obj.cells.injEq] at hh'
      exact he hh'.2.1

theorem own_blk {w : World} {B : Nat} {e : TypeId} {s : Nat} {v : Value} {n : Nat} {xs : List Value} (h : w.ownsRow B e s v n xs) (hn : 0 < n) : B ≤ blk v ∧ blk v < w.heap.size := by
  obtain ⟨g, cap, rfl, h1, h2⟩ := own_some h hn
  exact ⟨h1, h2⟩

theorem own_mono {w : World} {B B' : Nat} {e : TypeId} {s : Nat} {v : Value} {n : Nat} {xs : List Value} (h : w.ownsRow B e s v n xs) (hb : B' ≤ B) : w.ownsRow B' e s v n xs := by
  obtain ⟨h1, h2 | ⟨g, cap, cur, a, b, c⟩⟩ := h
  · exact ⟨h1, Or.inl h2⟩
  · exact ⟨h1, Or.inr ⟨g, cap, cur, a, Nat.le_trans hb b, c⟩⟩

/-- A line more. -/
theorem LnO.snoc {T : TypeId} {base : Nat} {w w1 w2 w3 : World} {v v' sv : Value} {X : List LnX} {no : Nat} {ss : List ByteArray} (h : LnO T base w v X) (hk : Below w.heap.size w w1)
    (hs : w1.ownsRow w.heap.size 9 1 sv ss.length (ss.map Value.string)) (hne : ss ≠ []) (hb : base ≤ w.heap.size) (hT : 9 ≠ T) (hk2 : Below w1.heap.size w1 w2)
    (hg : w2.grownBy w3 v.ownBlock) (ho : w3.ownsRow base T 2 v' (X.length + 1) (cellsX X ++ [.int .i64 (no : Int), sv])) : LnO T base w3 v' (X ++ [(no, sv, ss)]) := by
  have h1 := (h.keep hk).keep hk2
  have hs2 := own_keep hs hk2
  have hss : 0 < ss.length := List.length_pos_iff.2 hne
  refine ⟨by simpa [cellsX] using ho, fun x hx => ?_, ?_⟩
  · rcases List.mem_append.1 hx with hx | hx
    · exact ⟨(h1.2.1 x hx).1, (h1.2.1 x hx).2.kept hg (own_types_ne (h1.2.1 x hx).2 h1.1 hT)⟩
    · rw [List.mem_singleton] at hx
      subst hx
      exact ⟨hne, (own_mono hs2 hb).kept hg (own_types_ne hs2 h1.1 hT)⟩
  · rw [List.pairwise_append]
    refine ⟨h.2.2, List.pairwise_singleton _ _, fun x hx y hy => ?_⟩
    rw [List.mem_singleton] at hy
    subst hy
    have a := own_blk (h.2.1 x hx).2 (List.length_pos_iff.2 (h.2.1 x hx).1)
    have b := own_blk hs hss
    show blk x.2.1 < blk sv
    omega

theorem news_two (w : World) (u v : Value) (T : TypeId) : ∀ (j : Nat) (x : Value), [u, v][j]? = some x → (w.alloc (.cells #[u, v] T)).cell? ((⟨w.heap.size, 0, none⟩ : Addr).add j) = some x := by
  intro j x h
  rw [WideShapes.add_plain, Nat.zero_add, cell_of_block (heap_alloc_new w _) j]
  simpa using h

theorem info_rline : (Try.prog.info? 36).map (fun i => (i.zero, i.size, i.bytes)) = some (some (.agg #[.int .i64 0, .slice none 0 0]), 2, 32) := by kernel_rfl
theorem info_line : (Try.prog.info? 35).map (fun i => (i.zero, i.size, i.bytes)) = some (some (.agg #[.int .i64 0, .slice none 0 0]), 2, 32) := by kernel_rfl

def ReadPost (T : TypeId) (text : ByteArray) (w : World) (e : Ending) (w' : World) : Prop :=
  ∃ (v : Value) (X : List LnX) (no err : Nat), e = .returned (.tuple #[v, .int .i64 (no : Int), .int .i64 (err : Int)]) ∧ Below w.heap.size w w' ∧ readT (toL text) = (rX X, no, err) ∧ LnO T w.heap.size w' v X

/-- What is left of a text behind a place: its lines, the one under way first. -/
def left (L : Bs) (frm i : Nat) : List Bs := if i ≤ L.length then linesGo (L.drop i) ((L.take i).drop frm) else []

theorem left_step {L : Bs} {frm i : Nat} (hf : frm ≤ i) (hi : i < L.length) (hc : L[i] ≠ 10) : left L frm i = left L frm (i + 1) := by
  unfold left
  rw [if_pos (by omega), if_pos (by omega), List.drop_eq_getElem_cons hi, linesGo, if_neg hc, List.take_succ_eq_append_getElem hi, List.drop_append_of_le_length (by rw [List.length_take]; omega)]
theorem left_nl {L : Bs} {frm i : Nat} (hf : frm ≤ i) (hi : i < L.length) (hc : L[i] = 10) : left L frm i = (L.take i).drop frm :: left L (i + 1) (i + 1) := by
  unfold left
  rw [if_pos (by omega), if_pos (by omega), List.drop_eq_getElem_cons hi, linesGo, if_pos hc]
  congr 2
  rw [List.drop_eq_nil_iff.2]; rw [List.length_take]; omega
theorem left_end {L : Bs} {frm i : Nat} (hi : i = L.length) : left L frm i = (L.take i).drop frm :: left L (i + 1) (i + 1) := by
  unfold left
  rw [if_pos (by omega), if_neg (by omega), List.drop_eq_nil_iff.2 (by omega), linesGo]

set_option maxRecDepth 2000000 in
set_option maxHeartbeats 4000000 in
theorem refread_calls (s : ByteArray) (w : World) (hs : s.size ≤ 140737488351232) :
    Calls Try.prog 10 #[.string s] w (ReadPost 36 s w) := by
  have hsz : Hid ((toL s).length = s.size) := by show _ = _; simp
  by_cases hbig : 16777216 < s.size
  · have hd : decide ((16777216 : Int) < (s.size : Int)) = true := decide_eq_true (by omega)
    have hr : Hid (readT (toL s) = ([], 0, 3)) := by show _ = _; unfold readT; rw [if_pos (by rw [hsz.out]; exact hbig)]
    clear hbig
    go_enter Try.func10, Try.ntmps10
    go_wp2
    go_ret3
    exact ⟨_, [], 0, 3, rfl, Below.refl _ _, hr.out, LnO.nil _ _ _⟩
  · have hd : decide ((16777216 : Int) < (s.size : Int)) = false := decide_eq_false (by omega)
    have hs24 : s.size ≤ 20000000 := by omega
    have hr : Hid (readT (toL s) = readGo (left (toL s) 0 0) 1 []) := by
      show _ = _; unfold readT; rw [if_neg (by rw [hsz.out]; exact hbig)]; simp [left]
    clear hbig hs
    go_enter Try.func10, Try.ntmps10
    go_wp2
    go_loopw [5, 6, 7, 8] (fun ov nv fv iv wr => ∃ (i frm no : Nat) (X : List LnX), i ≤ s.size + 1 ∧ frm ≤ i ∧ iv = .int .i64 i ∧ fv = .int .i64 frm ∧ nv = .int .i64 no ∧ no ≤ i + 1 ∧ X.length ≤ i ∧
      Hid (readT (toL s) = readGo (left (toL s) frm i) no (rX X)) ∧ LnO 36 w.heap.size wr ov X ∧ Below w.heap.size w wr) (fun _ _ _ iv _ => s.size + 2 - (intOf iv).toNat)
    case atStart => exact ⟨0, 0, 1, [], by omega, Nat.le_refl _, rfl, rfl, rfl, by omega, Nat.zero_le _, hr.out, LnO.nil _ _ _, Below.refl _ _⟩
    case round =>
      clear hr
      obtain ⟨i, frm, no, X, hi, hf, rfl, rfl, rfl, hno, hX, hgo, hown, hbl⟩ := hrel
      obtain ⟨wz, rfl⟩ : ∃ wz : World, wz = wr := ⟨_, rfl⟩
      obtain ⟨q, cap, rfl⟩ := own_form hown.1
      by_cases hend : s.size < i
      · have hfin : Hid (readT (toL s) = (rX X, 0, 0)) := by
          show _ = _; rw [hgo.out]; unfold left; rw [if_neg (by rw [hsz.out]; omega)]; rfl
        clear hgo
        go_wp2
        go_ret3
        exact ⟨_, X, 0, 0, rfl, hbl, hfin.out, hown⟩
      · by_cases hcont : ∃ h : i < s.size, s[i] ≠ 10
        · obtain ⟨hlt, hc⟩ := hcont
          have hgo' : Hid (readT (toL s) = readGo (left (toL s) frm (i + 1)) no (rX X)) := by
            show _ = _; rw [hgo.out, left_step hf (by rw [hsz.out]; exact hlt) (fun h => hc h)]
          have hb : ((s[i].toNat : Int) == 10) = false := byte_ne (m := 10) (by decide) hc
          have hb2 : ((s[i].toNat : Int) != 10) = true := by rw [bne, hb]; rfl
          clear hgo hc
          go_wp2
          go_roundw
          case rel => exact ⟨i + 1, frm, no, X, by omega, by omega, by go_num, rfl, rfl, by omega, by omega, hgo'.out, hown, hbl⟩
          case measure => simp [intOf]; omega
        · have hcase : (∃ h : i < s.size, ((s[i].toNat : Int) != 10) = false ∧ s[i] = 10) ∨ (s.size ≤ i ∧ i = s.size) := by
            by_cases h : i < s.size
            · left
              have : s[i] = 10 := Classical.byContradiction fun hn => hcont ⟨h, hn⟩
              have e : ((s[i].toNat : Int) == 10) = true := byte_eq (m := 10) (by decide) this
              exact ⟨h, by rw [bne, e]; rfl, this⟩
            · right; omega
          have hstep : Hid (readT (toL s) = readGo (((toL s).take i).drop frm :: left (toL s) (i + 1) (i + 1)) no (rX X)) := by
            show _ = _
            rw [hgo.out]
            rcases hcase with ⟨h, -, h2⟩ | ⟨-, h2⟩
            · rw [left_nl hf (by rw [hsz.out]; exact h) h2]
            · rw [left_end (by rw [hsz.out]; exact h2)]
          have hcase2 : (∃ h : i < s.size, ((s[i].toNat : Int) != 10) = false) ∨ s.size ≤ i := by
            rcases hcase with ⟨h, h1, -⟩ | ⟨h, -⟩
            · exact Or.inl ⟨h, h1⟩
            · exact Or.inr h
          clear hgo hcont hcase
          have c1 : (0 : Int) ≤ (frm : Int) := by omega
          have c2 : (frm : Int) ≤ (i : Int) := by omega
          have c3 : (i : Int) ≤ (s.size : Int) := by omega
          have hll : Hid ((((toL s).take i).drop frm).length = i - frm) := by
            show _ = _; rw [List.length_drop, List.length_take, hsz.out]; omega
          have hex : Hid (toL (s.extract frm i) = ((toL s).take i).drop frm) := extract_list _ _ _
          have hexs : (s.extract frm i).size ≤ 20000000 := by
            have : (toL (s.extract frm i)).length = (s.extract frm i).size := by simp
            rw [← this, hex.out, hll.out]; omega
          by_cases hl : 65536 < (i : Int) - (frm : Int)
          · have hbad : Hid (readT (toL s) = ([], no, 3)) := by
              show _ = _; rw [hstep.out, readGo, if_pos (by rw [hll.out]; omega)]
            have hd2 : decide ((65536 : Int) < (i : Int) - (frm : Int)) = true := decide_eq_true hl
            clear hl hstep
            rcases hcase2 with ⟨hlt, hb⟩ | hge
            all_goals
              go_wp2
              go_ret3
              exact ⟨_, [], no, 3, rfl, hbl, hbad.out, LnO.nil _ _ _⟩
          · have hd2 : decide ((65536 : Int) < (i : Int) - (frm : Int)) = false := decide_eq_false hl
            have hstep2 : Hid (readT (toL s) = match lineWords (toL (s.extract frm i)) with
                | none => ([], no, 4)
                | some ws => readGo (left (toL s) (i + 1) (i + 1)) (no + 1) (if ws = [] then rX X else rX X ++ [(no, ws)])) := by
              show _ = _; rw [hstep.out, readGo, if_neg (by rw [hll.out]; omega), hex.out]; cases lineWords (((toL s).take i).drop frm) <;> rfl
            clear hstep hl
            have HC := Lib.hid (refwords_calls (s.extract frm i))
            have hexs2 := Lib.hid hexs
            clear hexs
            rcases hcase2 with ⟨hlt, hb⟩ | hge
            all_goals
              go_wp2_with fail
              refine (HC.out _ (by have := hexs2.out; omega)).mono ?_
              rintro e w2 ⟨hk2, ⟨ws, sv, hlw, rfl, hso⟩ | ⟨hlw, rfl⟩⟩
              · obtain ⟨q2, cap2, rfl⟩ := own_form hso
                have hgo2 : Hid (readT (toL s) = readGo (left (toL s) (i + 1) (i + 1)) (no + 1) (if ws = [] then rX X else rX X ++ [(no, ws.map toL)])) := by
                  show _ = _; rw [hstep2.out, hlw]; simp
                clear hlw hstep2
                by_cases h0 : ws = []
                · have hgo3 : Hid (readT (toL s) = readGo (left (toL s) (i + 1) (i + 1)) (no + 1) (rX X)) := by show _ = _; rw [hgo2.out, if_pos h0]
                  subst h0
                  clear hgo2
                  go_wp2_with fail
                  go_roundw
                  case rel => exact ⟨i + 1, i + 1, no + 1, X, by omega, Nat.le_refl _, by go_num, by go_num, by go_num, by omega, by omega, hgo3.out, hown.keep hk2, hbl.trans (hk2.mono hbl.size)⟩
                  case measure => simp [intOf]; omega
                · have hgo3 : Hid (readT (toL s) = readGo (left (toL s) (i + 1) (i + 1)) (no + 1) (rX X ++ [(no, ws.map toL)])) := by show _ = _; rw [hgo2.out, if_neg h0]
                  clear hgo2
                  have h1 : 0 < ws.length := List.length_pos_iff.2 h0
                  have H0 := Lib.hid h0
                  clear h0
                  have hown2 := hown.keep hk2
                  obtain ⟨i0, hi0, hz0, hz1, hz2⟩ := info_parts info_rline
                  go_wp2_with (at_builtin; refine wpList_append_own _ rfl _ _ 28 rfl w.heap.size 36 i0 (.agg #[.int .i64 0, .slice none 0 0]) 2 32 Try.underlying28 hi0 hz0 hz1 hz2 rfl (by decide) _ _ _ rfl (hown2.1.alloc _) ⟨w2.heap.size, 0, none⟩ 1 1 [.int .i64 (no : Int), .slice q2 ws.length cap2] rfl rfl (news_two _ _ _ _) (by simp [Value.oneCell']) (by unfold maxLen; omega) (by omega) (by have := hbl.size; have := hk2.size; simp; omega) ?_; intro ov' w3 hown3 hgrow hnil; clear hnil)
                  have hB : Below w.heap.size w w3 := ((hbl.trans (hk2.mono hbl.size)).alloc (by have := hbl.size; have := hk2.size; omega) _).grown hgrow (by have := hbl.size; have := hk2.size; simp; omega) (fun j hj => by have := own_block hown.1 _ hj; omega)
                  have hL := hown.snoc hk2 hso H0.out hbl.size (by decide) ((Below.refl _ _).alloc (Nat.le_refl _) _) hgrow hown3
                  go_wp2_with fail
                  go_roundw
                  case rel => exact ⟨i + 1, i + 1, no + 1, X ++ [(no, _, ws)], by omega, Nat.le_refl _, by go_num, by go_num, by go_num, by omega, by simp; omega, by show _ = _; rw [hgo3.out]; simp [rX], hL, hB⟩
                  case measure => simp [intOf]; omega
              · have hbad : Hid (readT (toL s) = ([], no, 4)) := by show _ = _; rw [hstep2.out, hlw]
                clear hlw hstep2
                go_wp2_with fail
                go_ret3
                exact ⟨_, [], no, 4, rfl, hbl.trans (hk2.mono hbl.size), hbad.out, LnO.nil _ _ _⟩

end Go.Proofs.Ytooimjokbkbleaa
