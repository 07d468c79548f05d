/- The closure of lines.Read that takes a line, walked. -/
import Derived.Test.YtooimjokbkbleaaLnH
import Derived.Test.YtooimjokbkbleaaLnI
import Derived.Test.YtooimjokbkbleaaShelf
import Derived.RangeFuncNested
namespace Go.Proofs.Ytooimjokbkbleaa
open Go.RowKit Go.Shelf TV
set_option linter.unusedVariables false
attribute [local go_sem] Oper.semAt_some

/-! ### Cut at one byte -/
theorem index_one (L : Bs) (c : UInt8) : (Lib.index L [c] = -1 ∧ L.takeWhile (fun x => !(x == c)) = L ∧ L.any (· == c) = false) ∨
    ∃ i : Nat, Lib.index L [c] = i ∧ L.takeWhile (fun x => !(x == c)) = L.take i ∧ (L.dropWhile (fun x => !(x == c))).drop 1 = L.drop (i + 1) ∧ L.any (· == c) = true := by
  induction L with
  | nil => left; exact ⟨rfl, rfl, rfl⟩
  | cons b L ih =>
    by_cases hb : b = c
    · right
      subst hb
      exact ⟨0, by simp [Lib.index], by simp, by simp, by simp⟩
    · have hpre : List.isPrefixOf [c] (b :: L) = false := by simp [List.isPrefixOf, Ne.symm hb]
      rcases ih with ⟨h1, h2, h3⟩ | ⟨i, h1, h2, h3, h4⟩
      · left
        refine ⟨?_, ?_, ?_⟩
        · rw [Lib.index, hpre]; simp [h1]
        · simp [hb, h2]
        · simp [hb, h3]
      · right
        refine ⟨i + 1, ?_, ?_, ?_, ?_⟩
        · rw [Lib.index, hpre]
          have : ¬ ((i : Int) == -1) = true := by simp
          simp only [h1]
          rw [if_neg (by simp), if_neg this]; rfl
        · simp [hb, h2]
        · simp [hb, h3]
        · simp [h4]

theorem cut_one (L : Bs) (c : UInt8) : Lib.cut L [c] = (L.takeWhile (fun x => !(x == c)), if L.any (· == c) then (L.dropWhile (fun x => !(x == c))).drop 1 else [], L.any (· == c)) := by
  unfold Lib.cut
  rcases index_one L c with ⟨h1, h2, h3⟩ | ⟨i, h1, h2, h3, h4⟩
  · rw [h1, if_neg (by omega), h2, h3]; rfl
  · rw [h1, if_pos (by omega), h2, h3, h4]; simp

theorem cut_ahead (L : Bs) : (Lib.cut L [35]).1 = TV.ahead L := by rw [cut_one]; rfl

/-! ### What keeps a world's cells but for two blocks -/
def Kc (b c : Nat) (w W : World) : Prop := w.heap.size ≤ W.heap.size ∧ ∀ g cs e fr, g ≠ b → g ≠ c → w.heap[g]? = some (.cells cs e fr) → W.heap[g]? = some (.cells cs e fr)

theorem Kc.refl (b c : Nat) (w : World) : Kc b c w w := ⟨Nat.le_refl _, fun _ _ _ _ _ _ h => h⟩
theorem Kc.own (b c : Nat) (w : World) {β : Type} : Own (fun (_ : β) W => Kc b c w W) := by
  rintro s W W' row ⟨h1, h2⟩ hg hr
  refine ⟨Nat.le_trans h1 hg.size, fun g cs e fr hne hn2 hh => ?_⟩
  have h3 := h2 g cs e fr hne hn2 hh
  rw [hg.block g (block_lt h3) (fun he => ?_)]
  · exact h3
  · obtain ⟨o, ho, hc⟩ := hr g he.symm
    rw [h3] at ho; cases ho; cases hc
theorem Kc.grown {b c : Nat} {w W W' : World} {row : Option Nat} (h : Kc b c w W) (hg : W.grownBy W' row) (hr : ∀ r, row = some r → w.heap.size ≤ r ∨ r = b ∨ r = c) : Kc b c w W' := by
  refine ⟨Nat.le_trans h.1 hg.size, fun g cs e fr hne hn2 hh => ?_⟩
  have h3 := h.2 g cs e fr hne hn2 hh
  rw [hg.block g (block_lt h3) (fun he => ?_)]
  · exact h3
  · rcases hr g he.symm with h4 | h4 | h4
    · have := block_lt hh; omega
    · exact hne h4
    · exact hn2 h4
theorem Kc.setCell {b c d : Nat} {w W : World} (h : Kc b c w W) (hd : d = b ∨ d = c) (v : Value) : Kc b c w (W.setCell ⟨d, 0, none⟩ v) :=
  h.grown (grownBy_setCell' W d v) (fun r hr => by cases hr; rcases hd with h | h <;> simp [h])
theorem Kc.weaken {b c : Nat} {w W : World} (h : Kc b b w W) : Kc b c w W := ⟨h.1, fun g cs e fr h1 _ hh => h.2 g cs e fr h1 h1 hh⟩
theorem Kc.own_row {b c : Nat} {w W : World} (h : Kc b c w W) {B : Nat} {e : TypeId} {s n : Nat} {v : Value} {xs : List Value} (ho : w.ownsRow B e s v n xs) (hb : ∀ r, v.ownBlock = some r → r ≠ b ∧ r ≠ c) : W.ownsRow B e s v n xs := by
  obtain ⟨h1, h2 | ⟨g, cap, cur, rfl, hg, hh, r⟩⟩ := ho
  · exact ⟨h1, Or.inl h2⟩
  · exact ⟨h1, Or.inr ⟨g, cap, cur, rfl, hg, h.2 g _ _ _ (hb g rfl).1 (hb g rfl).2 hh, r⟩⟩

theorem words_calls (s : ByteArray) (w : World) :
    Calls Try.prog 23 #[.string s] w fun e w' => e = .returned (.func (.func 27) #[] #[.pointer (some ⟨w.heap.size, 0, none⟩)]) ∧ w' = w.alloc (.cells #[.string s] 9) := by
  go_enter Try.func23, Try.ntmps23
  go_wp2
  go_ret
  exact ⟨rfl, rfl⟩

/-- What is no cells stays behind an append. -/
theorem ko_append {W w1 : World} {B : Nat} {e : TypeId} {sz n : Nat} {v : Value} {xs : List Value} {tmp : Obj} (hrow : W.ownsRow B e sz v n xs) (hgrow : (W.alloc tmp).grownBy w1 v.ownBlock) : KeepsOthers W w1 := by
  refine (KeepsOthers.alloc W tmp).trans (KeepsOthers.of_grownBy hgrow fun j o ej hj => ?_)
  rcases (hrow.alloc tmp).2 with ⟨rfl, _⟩ | ⟨g, cap, cur, rfl, _, hgb, _⟩
  · simp [Value.ownBlock] at ej
  · obtain rfl : g = j := by simpa [Value.ownBlock] using ej
    rw [hgb] at hj; cases hj; rfl

theorem words_stops (n : Nat) (hn : 1 ≤ n) (bS : Nat) (s : ByteArray) (hs : s.size ≤ 140737488351232) (w : World) (hb : bS < w.heap.size) (hc : w.cell? ⟨bS, 0, none⟩ = some (.string s)) :
    SeqStopsK Fence.wide n Try.prog 27 #[.pointer (some ⟨bS, 0, none⟩)] (fun x : WStr => #[Value.string x.1]) (fun W W' => W'.cell? ⟨bS, 0, none⟩ = W.cell? ⟨bS, 0, none⟩)
      (fun ys => ys.map toW = splitGo (toL s) []) (fun pre => ∃ rest, pre.map toW ++ rest = splitGo (toL s) []) (s.size + 1) w :=
  fun l J Jx W hW _ _ hY h0 => words1_in n hn l bS s hs J Jx hY W ((hW.cell (p := ⟨bS, 0, none⟩) hb).trans hc) h0

theorem boxed_ne {w : World} {b b' : Nat} {t t' : TypeId} {v v' : Value} (h : Boxed w b t v) (h' : Boxed w b' t' v') (ht : t ≠ t') : b ≠ b' := by
  rintro rfl
  have := (show w.heap[b]? = _ from h).symm.trans h'
  simp at this
  exact ht this.2

theorem not_all_mem {α : Type} {P : α → Bool} {l : List α} {x : α} (hx : x ∈ l) (h : P x = false) : l.all P = false := by
  rw [Bool.eq_false_iff]; intro ha; rw [List.all_eq_true] at ha; have := ha x hx; rw [h] at this; cases this
theorem Kc.boxed {b c : Nat} {w W : World} (h : Kc b c w W) {B : Nat} {t : TypeId} {v : Value} (hb : Boxed w B t v) (hne : B ≠ b) (hn2 : B ≠ c) : Boxed W B t v := h.2 B _ _ _ hne hn2 hb
theorem LnO.other {T : TypeId} {base : Nat} {w : World} {v : Value} {X : List LnX} (h : LnO T base w v X) {b : Nat} {t : TypeId} {u : Value} (hb : Boxed w b t u) (h1 : t ≠ T) (h2 : t ≠ 9) (u' : Value) : LnO T base (w.setCell ⟨b, 0, none⟩ u') v X := by
  refine ⟨h.1.kept (grownBy_setCell' w b u') (Or.inr (hb.not_row h1 h.1).symm), fun x hx => ⟨(h.2.1 x hx).1, (h.2.1 x hx).2.kept (grownBy_setCell' w b u') (Or.inr (hb.not_row h2 (h.2.1 x hx).2).symm)⟩, h.2.2⟩
theorem LnO.alloc {T : TypeId} {base : Nat} {w : World} {v : Value} {X : List LnX} (h : LnO T base w v X) (o : Obj) : LnO T base (w.alloc o) v X :=
  ⟨h.1.alloc o, fun x hx => ⟨(h.2.1 x hx).1, (h.2.1 x hx).2.alloc o⟩, h.2.2⟩
theorem Kc.lines {b c : Nat} {w W : World} (h : Kc b c w W) {T : TypeId} {base : Nat} {v : Value} {X : List LnX} (hl : LnO T base w v X) {t t' : TypeId} {u u' : Value} (hb : Boxed w b t u) (h1 : t ≠ T) (h2 : t ≠ 9)
    (hb' : Boxed w c t' u') (h1' : t' ≠ T) (h2' : t' ≠ 9) : LnO T base W v X := by
  refine ⟨h.own_row hl.1 (fun r hr => ⟨fun he => (hb.not_row h1 hl.1) (by rw [hr, he]), fun he => (hb'.not_row h1' hl.1) (by rw [hr, he])⟩), fun x hx => ⟨(hl.2.1 x hx).1, h.own_row (hl.2.1 x hx).2 (fun r hr => ⟨fun he => (hb.not_row h2 (hl.2.1 x hx).2) (by rw [hr, he]), fun he => (hb'.not_row h2' (hl.2.1 x hx).2) (by rw [hr, he])⟩)⟩, hl.2.2⟩
theorem LnO.putObj {T : TypeId} {base : Nat} {w : World} {v : Value} {X : List LnX} (h : LnO T base w v X) {l : Nat} {o : Obj} (o' : Obj) (hl : w.heap[l]? = some o) (ho : o.isCells = false) : LnO T base (w.putObj l o') v X :=
  ⟨ownsRow_putObj h.1 o' hl ho, fun x hx => ⟨(h.2.1 x hx).1, ownsRow_putObj (h.2.1 x hx).2 o' hl ho⟩, h.2.2⟩
/-- A line more, behind whatever keeps the lines. -/
theorem LnO.snoc' {T : TypeId} {base B : Nat} {w w3 : World} {v v' sv : Value} {X : List LnX} {no : Nat} {ss : List ByteArray} (h : LnO T base w v X)
    (hs : w.ownsRow B 9 1 sv ss.length (ss.map Value.string)) (hne : ss ≠ []) (hb : base ≤ B) (hblk : ∀ x ∈ X, blk x.2.1 < B) (hT : 9 ≠ T)
    (hg : w.grownBy w3 v.ownBlock) (ho : w3.ownsRow base T 2 v' (X.length + 1) (cellsX X ++ [.int .i64 (no : Int), sv])) : LnO T base w3 v' (X ++ [(no, sv, ss)]) := by
  have hss : 0 < ss.length := List.length_pos_iff.2 hne
  refine ⟨by simpa [cellsX] using ho, fun x hx => ?_, ?_⟩
  · rcases List.mem_append.1 hx with hx | hx
    · exact ⟨(h.2.1 x hx).1, (h.2.1 x hx).2.kept hg (own_types_ne (h.2.1 x hx).2 h.1 hT)⟩
    · rw [List.mem_singleton] at hx
      subst hx
      exact ⟨hne, (own_mono hs hb).kept hg (own_types_ne hs h.1 hT)⟩
  · rw [List.pairwise_append]
    refine ⟨h.2.2, List.pairwise_singleton _ _, fun x hx y hy => ?_⟩
    rw [List.mem_singleton] at hy
    subst hy
    have b := own_blk hs hss
    have a := hblk x hx
    show blk x.2.1 < blk sv
    omega

/-- What the closure does with a line: its error, and the lines that there are then. -/
def NextPost (s : ByteArray) (bn bo : Nat) (no : Nat) (X : List LnX) (base : Nat) (w : World) (e : Ending) (w' : World) : Prop :=
  ∃ (err : Nat) (ov : Value) (X' : List LnX), e = .returned (.int .i64 (err : Int)) ∧ Boxed w' bn 3 (.int .i64 ((no + 1 : Nat) : Int)) ∧ Boxed w' bo 31 ov ∧ LnO 35 base w' ov X' ∧ Below base w w' ∧ X'.length ≤ X.length + 1 ∧
    ∀ r : List Bs, readGo (toL s :: r) (no + 1) (rX X) = if err = 0 then readGo r (no + 1 + 1) (rX X') else ([], no + 1, err)

set_option maxRecDepth 100000 in
set_option maxHeartbeats 4000000 in
theorem next_calls (s : ByteArray) (bn bo : Nat) (no : Nat) (ov : Value) (X : List LnX) (base : Nat) (m : Int) (w : World) (hs : s.size ≤ 20000000) (hX : X.length ≤ 20000000) (hno : no ≤ 20000000)
    (hm : w.cell? ⟨0, 0, none⟩ = some (.int .i64 m)) (hbn : Boxed w bn 3 (.int .i64 (no : Int))) (hbo : Boxed w bo 31 ov) (hL : LnO 35 base w ov X) (hbn1 : base ≤ bn) (hbo1 : base ≤ bo) (hmb : 0 < base) :
    Calls Try.prog 21 #[.string s, .pointer (some ⟨bn, 0, none⟩), .pointer (some ⟨bo, 0, none⟩)] w (NextPost s bn bo no X base w) := by
  have c1 := hbn.cell
  have c2 := hbn.frozen
  have l1 := hbn.lt
  have l2 := hbo.lt
  by_cases hbig : 65536 < s.size
  · have hd : decide ((65536 : Int) < (s.size : Int)) = true := decide_eq_true (by omega)
    have HBIG := Lib.hid hbig
    clear hbig
    go_enter Try.func21, Try.ntmps21
    go_wp2
    have hn1 : Boxed (w.setCell ⟨bn, 0, none⟩ (.int .i64 ((no : Int) + 1))) bn 3 (.int .i64 ((no : Int) + 1)) := hbn.set _
    have hbo2 : Boxed (w.setCell ⟨bn, 0, none⟩ (.int .i64 ((no : Int) + 1))) bo 31 ov := hbo.other (boxed_ne hbo hbn (by decide)) _
    have hbE := Boxed.new (w.setCell ⟨bn, 0, none⟩ (.int .i64 ((no : Int) + 1))) 24 (.int .i64 3)
    have hcE := hbE.cell
    simp only [World.size_setCell] at hcE
    refine bodyPost_ret (v := .int .i64 3) (by simp [results, Try.results21, go_sem, hcE]) rfl ⟨3, ov, X, rfl, hn1.alloc _, hbo2.alloc _, (hL.other hbn (by decide) (by decide) _).alloc _, ((Below.refl base w).setCell (p := ⟨bn, 0, none⟩) hbn1 _).alloc (by simp; omega) _, by omega, fun r => ?_⟩
    rw [readGo, if_pos (by have h2 : (toL s).length = s.size := by simp
                           rw [h2]; exact HBIG.out)]; rfl
  · have hd : decide ((65536 : Int) < (s.size : Int)) = false := decide_eq_false (by omega)
    have HBIG := Lib.hid hbig
    clear hbig
    have hcut := Lib.hid (fun (W : World) (h : W.cell? ⟨0, 0, none⟩ = some (.int .i64 m)) => Try.strings_Cut s ⟨#[35]⟩ m W (by omega) h)
    refine (callsIn_wide (n := 6)).1 ?_
    refine callsIn_of_wp_marks Try.func21 rfl trivial ?_ rfl
    simp only [Try.ntmps21, List.size_toArray, List.length_cons, List.length_nil, Nat.reduceAdd, Nat.reduceSub, Array.replicate_succ, Array.replicate_zero, List.push_toArray, List.append_toArray, List.nil_append, List.cons_append]
    have hmA : ((w.setCell ⟨bn, 0, none⟩ (.int .i64 ((no : Int) + 1))).alloc (.cells #[.int .i64 0] 24)).cell? ⟨0, 0, none⟩ = some (.int .i64 m) := by
      rw [World.cell?_alloc_old _ _ _ (by simp <;> omega), World.cell?_setCell_other _ _ _ _ (by simp <;> omega)]; exact hm
    gi_wp2
    refine ⟨trivial, ?_⟩
    refine (callsIn_wide.2 (hcut.out _ hmA)).mono ?_
    rintro e w' ⟨rfl, nq, rfl⟩
    obtain ⟨sa, hsa⟩ : ∃ sa : ByteArray, sa = ⟨(Lib.cut s.data.toList (ByteArray.mk #[35]).data.toList).1.toArray⟩ := ⟨_, rfl⟩
    obtain ⟨sb, hsb⟩ : ∃ sb : ByteArray, sb = ⟨(Lib.cut s.data.toList (ByteArray.mk #[35]).data.toList).2.1.toArray⟩ := ⟨_, rfl⟩
    obtain ⟨sc, hsc⟩ : ∃ sc : Bool, sc = (Lib.cut s.data.toList (ByteArray.mk #[35]).data.toList).2.2 := ⟨_, rfl⟩
    rw [← hsa, ← hsb, ← hsc]
    have HSA : Hid (toL sa = TV.ahead (toL s)) := by show _ = _; rw [hsa]; exact cut_ahead _
    clear hsa hsb hsc hmA hcut
    gi_wp2_with (refine ⟨trivial, ?_⟩; gi_at_call 23; refine (callsIn_wide.2 (words_calls _ _)).mono ?_; rintro e w' ⟨rfl, rfl⟩)
    obtain ⟨wB, hwB⟩ : ∃ wB, wB = (((((w.setCell ⟨bn, 0, none⟩ (.int .i64 ((no : Int) + 1))).alloc (.cells #[.int .i64 0] 24)).drewN nq).alloc (.cells #[.slice none 0 0] 23)).alloc (.cells #[.string sa] 9)) := ⟨_, rfl⟩
    rw [← hwB]
    have hsB : wB.heap.size = w.heap.size + 3 := by rw [hwB]; simp
    have bN : Boxed wB bn 3 (.int .i64 ((no : Int) + 1)) := by rw [hwB]; exact (((hbn.set _).alloc _ : Boxed _ _ _ _).alloc _).alloc _
    have bO : Boxed wB bo 31 ov := by rw [hwB]; exact (((hbo.other (boxed_ne hbo hbn (by decide)) _).alloc _).alloc _).alloc _
    have bE : Boxed wB w.heap.size 24 (.int .i64 0) := by
      rw [hwB]
      have := Boxed.new (w.setCell ⟨bn, 0, none⟩ (.int .i64 ((no : Int) + 1))) 24 (.int .i64 0)
      simp at this
      exact ((this.alloc _).alloc _)
    have bL : Boxed wB (w.heap.size + 1) 23 (.slice none 0 0) := by
      rw [hwB]
      have := Boxed.new (((w.setCell ⟨bn, 0, none⟩ (.int .i64 ((no : Int) + 1))).alloc (.cells #[.int .i64 0] 24)).drewN nq) 23 (.slice none 0 0)
      simp at this
      exact this.alloc _
    have bS : Boxed wB (w.heap.size + 2) 9 (.string sa) := by
      rw [hwB]
      have := Boxed.new ((((w.setCell ⟨bn, 0, none⟩ (.int .i64 ((no : Int) + 1))).alloc (.cells #[.int .i64 0] 24)).drewN nq).alloc (.cells #[.slice none 0 0] 23)) 9 (.string sa)
      simpa using this
    have lX : LnO 35 base wB ov X := by
      rw [hwB]; exact (((hL.other hbn (by decide) (by decide) _).alloc _ : LnO _ _ _ _ _).alloc _).alloc _
    have lB : Below base w wB := by
      rw [hwB]
      have hb0 : base ≤ w.heap.size := by omega
      have h1 : Below base w ((w.setCell ⟨bn, 0, none⟩ (.int .i64 ((no : Int) + 1))).alloc (.cells #[.int .i64 0] 24)) := ((Below.refl base w).setCell (p := ⟨bn, 0, none⟩) hbn1 _).alloc (by simp; omega) _
      have h2 := below_drewN h1 nq
      exact (h2.alloc (by have := h2.size; omega) _).alloc (by have := h2.size; simp; omega) _
    clear hwB
    have hle : base ≤ w.heap.size := by omega
    have hsas : sa.size ≤ s.size := by
      have h1 : (toL sa).length = sa.size := by simp
      have h2 : (toL s).length = s.size := by simp
      rw [← h1, ← h2, HSA.out]; exact (List.takeWhile_sublist _).length_le
    refine wpIn_rangeFunc_ownF rfl (by decide) (gf := 27) (lb := #[.pointer (some ⟨w.heap.size + 1 + 1, 0, none⟩)]) rfl trivial (enters_of Try.func27 (by kernel_rfl) rfl)
      (words_stops 5 (by decide) (w.heap.size + 1 + 1) sa (by omega) wB (by omega) bS.cell) (fun h1 h2 => h2.trans h1) ?kb (Below.refl _ _) (fun _ => rfl)
      (fun (pre : List WStr) W => ((∃ lv, Boxed W (w.heap.size + 1) 23 lv ∧ W.ownsRow wB.heap.size 9 1 lv pre.length (pre.map fun x => Value.string x.1) ∧ True) ∧ Kc (w.heap.size + 1) (w.heap.size + 1) wB W) ∧ Hid (∀ x ∈ pre, goodB (toW x) = true) ∧ Below base w W)
      (fun c (pre : List WStr) W => (Kc (w.heap.size + 1) w.heap.size wB W ∧ Boxed W w.heap.size 24 (.int .i64 4)) ∧ (c = .ret ∧ Hid (∃ x ∈ pre, goodB (toW x) = false)) ∧ Below base w W)
      ?oI ?oX ?at0
      (fun (x : WStr) => { tmps := #[.string sa, .pointer (some ⟨bn, 0, none⟩), .pointer (some ⟨bo, 0, none⟩), undef, .pointer (some ⟨w.heap.size, 0, none⟩), .pointer (some ⟨w.heap.size + 1, 0, none⟩), .string x.1, .int .i64 no, .int .i64 ((no : Int) + 1), .string s, .int .i64 s.size, .bool false, .tuple #[.string sa, .string sb, .bool sc], .string s, .tuple #[.string sa, .string sb, .bool sc], .string sa, .string sb, .bool sc, .string sa, .func (.func 27) #[] #[.pointer (some ⟨w.heap.size + 1 + 1, 0, none⟩)], .string x.1, undef, undef, undef, undef, undef, undef, undef, undef, undef, undef, undef, undef, undef, undef, undef, undef], defers := [] }) ?assign ?body ?done ?stop
    case kb =>
      intro W l o o' hl ho hc hw
      show (W.putObj l o').cell? _ = W.cell? _
      exact World.cell?_of_block (w := W) (World.putObj_heap_other (by show w.heap.size + 1 + 1 ≠ l; omega))
    case oI => exact OwnFrom.and (OwnFrom.and (Own.from (holdsRow_own _ _ _ _ _ (fun (pre : List WStr) => pre.length) (fun pre => pre.map fun x => Value.string x.1) (fun _ _ => True)) _) (Own.from (Kc.own _ _ _) _)) (OwnFrom.and (ownFrom_pure _ _) (ownFrom_below hle (by omega)))
    case oX =>
      intro c
      exact OwnFrom.and (OwnFrom.and (Own.from (Kc.own _ _ _) _) (Own.from (boxed_own _ _ (fun _ => .int .i64 4)) _)) (OwnFrom.and (ownFrom_pure _ _) (ownFrom_below hle (by omega)))
    case at0 => exact ⟨⟨⟨_, bL, ⟨rfl, Or.inl ⟨rfl, rfl⟩⟩, trivial⟩, Kc.refl _ _ _⟩, (fun x hx => by cases hx), lB⟩
    case assign =>
      intro l x W K hK
      gi_wp2
      exact hK
    case body =>
      rintro l pre x W ⟨⟨⟨lv, bLW, hrow, -⟩, hkc⟩, hgood, hB⟩ hlen
      obtain ⟨q, cap, rfl⟩ := own_form hrow
      have d1 := bLW.cell
      have d2 := bLW.frozen
      have d3 := bLW.lt
      have bEW := hkc.boxed bE (by omega) (by omega)
      have d4 := bEW.cell
      have d5 := bEW.frozen
      have d6 := bEW.lt
      have hxs := x.2
      obtain ⟨i0, hi, hz0, hz1, hz2⟩ := info_parts info_string
      by_cases hg : goodB (toW x) = true
      · have hga : ∀ W, Calls Try.prog 16 #[.string x.1] W fun e w' => e = .returned (.bool true) ∧ W = w' := fun W => by
          have := good_calls x.1 W (by unfold maxLen; omega); rw [show goodB x.1.data.toList = true from hg] at this; exact this
        have HG := Lib.hid hg
        have hrow2 := Lib.hid hrow
        clear hg
        gi_wp2_with (first | (refine ⟨trivial, ?_⟩; gi_at_call 16; refine (CallsIn.inRound l (callsIn_wide.2 (hga _))).mono ?_; rintro e w' ⟨rfl, rfl⟩) | (gi_at_builtin; refine wpListIn_append_own _ rfl _ _ 23 rfl wB.heap.size 9 i0 (.string .empty) 1 16 Try.underlying23 hi hz0 hz1 hz2 rfl (by decide) _ _ _ rfl (hrow.alloc _) ⟨W.heap.size, 0, none⟩ 1 1 [.string x.1] rfl rfl (news_one _ _ _) (by simp [Value.oneCell']) (by unfold maxLen; omega) (by omega) (by have := hkc.1; simp; omega) ?_; intro v' w1 hown' hgrow hnil; clear hnil; obtain ⟨g', cap', rfl⟩ := ownsRow_succ hown'; have hv1 := (bLW.alloc (.cells #[.string x.1] 9)).kept hgrow (bLW.not_row (by decide) hrow2.out); have hc1 := hv1.cell; have hf1 := hv1.frozen))
        have hk2 : Kc (w.heap.size + 1) (w.heap.size + 1) wB (w1.setCell ⟨w.heap.size + 1, 0, none⟩ (.slice (some ⟨g', 0, none⟩) (pre.length + 1) cap')) :=
          ((hkc.grown (World.grownBy_alloc W (.cells #[.string x.1] 9) none) (fun r hr => by cases hr)).grown hgrow (fun r hr => Or.inl (own_block hrow2.out _ hr))).setCell (Or.inl rfl) _
        refine ⟨(ko_append hrow2.out hgrow).trans (KeepsOthers.setCell _ _ _), (hk2.boxed bS (by omega) (by omega)).cell.trans (hkc.boxed bS (by omega) (by omega)).cell.symm, ⟨⟨_, hv1.set _, ?_, trivial⟩, hk2⟩, ?_, ?_⟩
        · have := hown'.kept (grownBy_setCell' w1 (w.heap.size + 1) (.slice (some ⟨g', 0, none⟩) (pre.length + 1) cap')) (.inr (hv1.not_row (by decide) hown').symm)
          simpa using this
        · intro y hy
          rcases List.mem_append.1 hy with hy | hy
          · exact hgood.out y hy
          · rw [List.mem_singleton] at hy; subst hy; exact HG.out
        · exact ((hB.alloc (by have := hB.size; omega) _).grown hgrow (by have := hB.size; simp; omega) (fun k hk => by have := own_block hrow2.out _ hk; omega)).setCell (p := ⟨w.heap.size + 1, 0, none⟩) (by show base ≤ w.heap.size + 1; omega) _
      · have hg : goodB (toW x) = false := by simpa using hg
        have hga : ∀ W, Calls Try.prog 16 #[.string x.1] W fun e w' => e = .returned (.bool false) ∧ W = w' := fun W => by
          have := good_calls x.1 W (by unfold maxLen; omega); rw [show goodB x.1.data.toList = false from hg] at this; exact this
        have HG := Lib.hid hg
        clear hg
        gi_wp2_with (refine ⟨trivial, ?_⟩; gi_at_call 16; refine (CallsIn.inRound l (callsIn_wide.2 (hga _))).mono ?_; rintro e w' ⟨rfl, rfl⟩)
        exact ⟨KeepsOthers.setCell _ _ _, ⟨hkc.weaken.setCell (Or.inr rfl) _, bEW.set _⟩, ⟨rfl, ⟨x, by simp, HG.out⟩⟩, hB.setCell (p := ⟨w.heap.size, 0, none⟩) hle _⟩
    case done =>
      rintro D ys W hD hys ⟨⟨⟨lv, bLW, hrow, -⟩, hkc⟩, hgood, hB⟩ hK
      obtain ⟨q, cap, rfl⟩ := own_form hrow
      have hline : Hid (lineWords (toL s) = some (ys.map toW)) := by
        show _ = _
        unfold lineWords
        rw [← HSA.out, ← hys, if_pos]
        rw [List.all_eq_true]
        intro y hy
        obtain ⟨x, hx, rfl⟩ := List.mem_map.1 hy
        exact hgood.out x hx
      have hbig2 : Hid (¬ 65536 < (toL s).length) := by
        have h2 : (toL s).length = s.size := by simp
        show ¬ _
        rw [h2]; exact HBIG.out
      clear hys
      have bOW := hkc.boxed bO (by have := boxed_ne bO bL (by decide); omega) (by have := boxed_ne bO bL (by decide); omega)
      have bNW := hkc.boxed bN (by have := boxed_ne bN bL (by decide); omega) (by have := boxed_ne bN bL (by decide); omega)
      have bEW := hkc.boxed bE (by omega) (by omega)
      have lXW := hkc.lines lX bL (by decide) (by decide) bL (by decide) (by decide)
      have d1 := bLW.cell
      have d3 := bLW.lt
      have e1 := bOW.cell
      have e2 := bOW.frozen
      have e3 := bOW.lt
      have n1 := bNW.cell
      have n3 := bNW.lt
      have f1 := bEW.cell
      have f2 := bEW.frozen
      have f3 := bEW.lt
      by_cases h0 : ys = []
      · have h0' : ys.length = 0 := by rw [h0]; rfl
        have hpost : Hid (∀ r : List Bs, readGo (toL s :: r) (no + 1) (rX X) = readGo r (no + 1 + 1) (rX X)) := by
          intro r; rw [readGo, if_neg hbig2.out, hline.out, h0]; rfl
        rw [h0'] at d1
        clear h0 h0' hline
        gi_wp2
        have hK' : (W.setCell ⟨w.heap.size, 0, none⟩ (.int .i64 0)).heap[D]? = some (.deferred (some [])) := (KeepsOthers.setCell W ⟨w.heap.size, 0, none⟩ (.int .i64 0)).same D _ hK rfl
        refine ⟨by simp, .inl ⟨_, _, rfl, run_takeDeferred hK', ?_⟩⟩
        have bE2 := bEW.set (.int .i64 0)
        have hc5 := cell_kept bE2.cell (grownBy_putObj' _ D (.deferred none)) (fun r e => by cases e; exact ⟨_, hK', rfl⟩)
        refine ⟨.int .i64 0, by simp [results, Try.f21, go_sem, hc5], 0, ov, X, rfl, ?_, ?_, ?_, ?_, by omega, fun r => by rw [if_pos rfl]; exact hpost.out r⟩
        · exact (Own.putObj (boxed_own bn 3 (fun _ : Unit => .int .i64 ((no : Int) + 1))) (s := ()) _ (bNW.other (boxed_ne bNW bEW (by decide)) _) hK' rfl)
        · exact (Own.putObj (boxed_own bo 31 (fun _ : Unit => ov)) (s := ()) _ (bOW.other (boxed_ne bOW bEW (by decide)) _) hK' rfl)
        · exact (lXW.other bEW (by decide) (by decide) _).putObj _ hK' rfl
        · exact (hB.setCell (p := ⟨w.heap.size, 0, none⟩) hle _).trans (belowK_b (w := w) (by omega) _ D _ _ (by omega) hK' rfl rfl)
      · have h0' : 0 < ys.length := List.length_pos_iff.2 h0
        have hpost : Hid (∀ r : List Bs, readGo (toL s :: r) (no + 1) (rX X) = readGo r (no + 1 + 1) (rX X ++ [(no + 1, ys.map toW)])) := by
          intro r; rw [readGo, if_neg hbig2.out, hline.out]
          simp [h0]
        have H0 := Lib.hid h0
        clear h0 hline
        obtain ⟨q2, cap2, rfl⟩ := own_form lXW.1
        obtain ⟨i0, hi, hz0, hz1, hz2⟩ := info_parts info_line
        have lXW2 := Lib.hid lXW
        have hrow2 := Lib.hid hrow
        gi_wp2_with (gi_at_builtin; refine wpListIn_append_own _ rfl _ _ 31 rfl base 35 i0 (.agg #[.int .i64 0, .slice none 0 0]) 2 32 Try.underlying31 hi hz0 hz1 hz2 rfl (by decide) _ _ _ rfl (lXW.1.alloc _) ⟨W.heap.size, 0, none⟩ 1 1 [.int .i64 ((no : Int) + 1), .slice q ys.length cap] rfl rfl (news_two _ _ _ _) (by simp [Value.oneCell']) (by unfold maxLen; omega) (by omega) (by have := hB.size; simp; omega) ?_; intro v' w1 hown' hgrow hnil; clear hnil; obtain ⟨g', cap', rfl⟩ := ownsRow_succ hown'; have hv1 := (bOW.alloc (.cells #[.int .i64 ((no : Int) + 1), .slice q ys.length cap] 35)).kept hgrow (bOW.not_row (by decide) lXW2.out.1); have hc1 := hv1.cell; have hf1 := hv1.frozen; have hE1 := (bEW.alloc (.cells #[.int .i64 ((no : Int) + 1), .slice q ys.length cap] 35)).kept hgrow (bEW.not_row (by decide) lXW2.out.1); have hE2 := hE1.cell; have hE3 := hE1.frozen)
        have hrs : W.ownsRow wB.heap.size 9 1 (.slice q ys.length cap) (ys.map (·.1)).length ((ys.map (·.1)).map Value.string) := by simpa using hrow2.out
        have hL1 : LnO 35 base w1 (.slice (some ⟨g', 0, none⟩) (X.length + 1) cap') (X ++ [(no + 1, .slice q ys.length cap, ys.map (·.1))]) :=
          (lXW2.out.alloc (.cells #[.int .i64 ((no : Int) + 1), .slice q ys.length cap] 35)).snoc' (hrs.alloc _) (fun h => H0.out (List.map_eq_nil_iff.1 h)) (by omega) (fun x hx => (own_blk (lX.2.1 x hx).2 (List.length_pos_iff.2 (lX.2.1 x hx).1)).2) (by decide) hgrow hown'
        have hN1 := (bNW.alloc (.cells #[.int .i64 ((no : Int) + 1), .slice q ys.length cap] 35)).kept hgrow (bNW.not_row (by decide) lXW2.out.1)
        obtain ⟨w2, hw2⟩ : ∃ w2, w2 = w1.setCell ⟨bo, 0, none⟩ (.slice (some ⟨g', 0, none⟩) (X.length + 1) cap') := ⟨_, rfl⟩
        have bO2 : Boxed w2 bo 31 (.slice (some ⟨g', 0, none⟩) (X.length + 1) cap') := by rw [hw2]; exact hv1.set _
        have bE2 : Boxed w2 w.heap.size 24 (.int .i64 0) := by rw [hw2]; exact hE1.other (boxed_ne hE1 hv1 (by decide)) _
        have bN2 : Boxed w2 bn 3 (.int .i64 ((no : Int) + 1)) := by rw [hw2]; exact hN1.other (boxed_ne hN1 hv1 (by decide)) _
        have lX2 : LnO 35 base w2 (.slice (some ⟨g', 0, none⟩) (X.length + 1) cap') (X ++ [(no + 1, .slice q ys.length cap, ys.map (·.1))]) := by rw [hw2]; exact hL1.other hv1 (by decide) (by decide) _
        have hB2 : Below base w w2 := by
          rw [hw2]
          exact ((hB.alloc (by have := hB.size; omega) _).grown hgrow (by have := hB.size; simp; omega) (fun k hk => own_block lXW2.out.1 _ hk)).setCell (p := ⟨bo, 0, none⟩) hbo1 _
        have hK2 : w2.heap[D]? = some (.deferred (some [])) := by
          rw [hw2]; exact ((ko_append lXW2.out.1 hgrow).trans (KeepsOthers.setCell _ _ _)).same D _ hK rfl
        rw [← hw2]
        have hK' : (w2.setCell ⟨w.heap.size, 0, none⟩ (.int .i64 0)).heap[D]? = some (.deferred (some [])) := (KeepsOthers.setCell w2 ⟨w.heap.size, 0, none⟩ (.int .i64 0)).same D _ hK2 rfl
        refine ⟨by simp, .inl ⟨_, _, rfl, run_takeDeferred hK', ?_⟩⟩
        have bE3 := bE2.set (.int .i64 0)
        have hc5 := cell_kept bE3.cell (grownBy_putObj' _ D (.deferred none)) (fun r e => by cases e; exact ⟨_, hK', rfl⟩)
        refine ⟨.int .i64 0, by simp [results, Try.f21, go_sem, hc5], 0, .slice (some ⟨g', 0, none⟩) (X.length + 1) cap', X ++ [(no + 1, .slice q ys.length cap, ys.map (·.1))], rfl, ?_, ?_, ?_, ?_, by simp, fun r => by rw [if_pos rfl, hpost.out r]; congr 1; rw [rX, rX, List.map_append, List.map_cons, List.map_nil, List.map_map]; rfl⟩
        · exact (Own.putObj (boxed_own bn 3 (fun _ : Unit => .int .i64 ((no : Int) + 1))) (s := ()) _ (bN2.other (boxed_ne bN2 bE2 (by decide)) _) hK' rfl)
        · exact (Own.putObj (boxed_own bo 31 (fun _ : Unit => .slice (some ⟨g', 0, none⟩) (X.length + 1) cap')) (s := ()) _ (bO2.other (boxed_ne bO2 bE2 (by decide)) _) hK' rfl)
        · exact (lX2.other bE2 (by decide) (by decide) _).putObj _ hK' rfl
        · exact (hB2.setCell (p := ⟨w.heap.size, 0, none⟩) hle _).trans (belowK_b (w := w) (by omega) _ D _ _ (by omega) hK' rfl rfl)
    case stop =>
      rintro D c pre W hD ⟨rest, hpre⟩ ⟨⟨hkc, bEW⟩, ⟨rfl, hbad⟩, hB⟩ hK
      have hline : Hid (lineWords (toL s) = none) := by
        show _ = _
        obtain ⟨y, hy, hy2⟩ := hbad.out
        have : (splitGo (TV.ahead (toL s)) []).all goodB = false := by
          rw [← HSA.out, ← hpre, List.all_append, not_all_mem (List.mem_map.2 ⟨y, hy, rfl⟩) hy2]; rfl
        unfold lineWords; rw [this]; rfl
      gi_wp2
      refine ⟨by simp, .inl ⟨_, _, rfl, run_takeDeferred hK, ?_⟩⟩
      have hc5 := cell_kept bEW.cell (grownBy_putObj' _ D (.deferred none)) (fun r e => by cases e; exact ⟨_, hK, rfl⟩)
      have hkc2 : Kc (w.heap.size + 1) w.heap.size wB (W.putObj D (.deferred none)) := (Kc.own _ _ wB).putObj (s := ()) _ hkc hK rfl
      refine ⟨.int .i64 4, by simp [results, Try.f21, go_sem, hc5], 4, ov, X, rfl, ?_, hkc2.boxed bO (by omega) (by omega), hkc2.lines lX bL (by decide) (by decide) bE (by decide) (by decide), hB.trans (belowK_b (w := w) (by omega) W D _ _ (by omega) hK rfl rfl), by omega, fun r => ?_⟩
      · have := hkc2.boxed bN (by omega) (by omega)
        exact this
      · rw [readGo, if_neg (by have h2 : (toL s).length = s.size := by simp
                               rw [h2]; exact HBIG.out), hline.out]; rfl

end Go.Proofs.Ytooimjokbkbleaa
