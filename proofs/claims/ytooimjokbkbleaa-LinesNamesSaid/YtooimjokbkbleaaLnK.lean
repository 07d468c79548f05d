/- The walk of lines.Read. -/
import Derived.Test.YtooimjokbkbleaaLnJ
import Derived.Deep.QuietTactic
import Derived.BigQuiet
namespace Go.Proofs.Ytooimjokbkbleaa
open Go.RowKit Go.Shelf TV
set_option linter.unusedVariables false

theorem lines_cut (L : Bs) : ∀ cur : Bs, linesGo L cur = (cur ++ (Lib.cut L [10]).1) :: (if (Lib.cut L [10]).2.2 then linesGo (Lib.cut L [10]).2.1 [] else []) := by
  induction L with
  | nil => intro cur; rw [cut_one]; simp [linesGo]
  | cons c r ih =>
    intro cur
    rw [linesGo]
    by_cases hc : c = 10
    · subst hc; rw [if_pos rfl, cut_one]; simp
    · rw [if_neg hc, ih]
      rw [cut_one, cut_one]
      simp [hc]

theorem cut_size (L : Bs) : (Lib.cut L [10]).1.length ≤ L.length ∧ ((Lib.cut L [10]).2.2 = true → (Lib.cut L [10]).2.1.length + 1 ≤ L.length) := by
  rw [cut_one]
  refine ⟨(List.takeWhile_sublist _).length_le, fun h => ?_⟩
  simp only at h
  simp only [h, if_true]
  have h1 : ∃ x ∈ L, x = 10 := by simpa using h
  induction L with
  | nil => simp at h
  | cons c r ih =>
    by_cases hc : c = 10
    · subst hc; simp
    · simp only [List.dropWhile_cons, List.length_cons]
      rw [if_pos (by simp [hc])]
      have h2 : r.any (· == 10) = true := by simpa [hc] using h
      have := ih h2 (by simpa using h2)
      omega

set_option maxRecDepth 100000 in
set_option maxHeartbeats 4000000 in
theorem read_calls (s : ByteArray) (m : Int) (w : World) (hs : s.size ≤ 140737488351232) (hm : w.cell? ⟨0, 0, none⟩ = some (.int .i64 m)) :
    Calls Try.prog 11 #[.string s] w (ReadPost 35 s w) := by
  have hsz : Hid ((toL s).length = s.size) := by show _ = _; simp
  by_cases hbig : 16777216 < s.size
  · have hd : decide ((16777216 : Int) < (s.size : Int)) = true := decide_eq_true (by omega)
    have hr : Hid (readT (toL s) = ([], 0, 3)) := by show _ = _; unfold readT; rw [if_pos (by rw [hsz.out]; exact hbig)]
    clear hbig
    go_enter Try.func11, Try.ntmps11
    go_wp2
    go_ret3
    exact ⟨_, [], 0, 3, rfl, Below.refl _ _, hr.out, LnO.nil _ _ _⟩
  · have hd : decide ((16777216 : Int) < (s.size : Int)) = false := decide_eq_false (by omega)
    have hs24 : s.size ≤ 17000000 := by omega
    have hr : Hid (readT (toL s) = readGo (linesGo (toL s) []) 1 []) := by
      show _ = _; unfold readT; rw [if_neg (by rw [hsz.out]; exact hbig)]
    have hmb : 0 < w.heap.size := World.block_lt_of_cell? w _ hm
    clear hbig hs
    go_enter Try.func11, Try.ntmps11
    go_wp2
    have bO := (Boxed.new w 31 (.slice none 0 0)).alloc (.cells #[.int .i64 0] 3)
    have bN := Boxed.new (w.alloc (.cells #[.slice none 0 0] 31)) 3 (.int .i64 0)
    rw [World.size_alloc] at bN
    have hB0 : Below w.heap.size w ((w.alloc (.cells #[.slice none 0 0] 31)).alloc (.cells #[.int .i64 0] 3)) := ((Below.refl _ w).alloc (Nat.le_refl _) _).alloc (by simp) _
    go_loopw [0, 8] (fun tv mv wr => ∃ (t : ByteArray) (more : Bool) (no : Nat) (ov : Value) (X : List LnX), tv = .string t ∧ mv = .bool more ∧ no + t.size ≤ s.size + 1 ∧ (more = true → no + t.size ≤ s.size) ∧ X.length ≤ no ∧
        Hid (readT (toL s) = if more = true then readGo (linesGo (toL t) []) (no + 1) (rX X) else (rX X, 0, 0)) ∧
        Boxed wr w.heap.size 31 ov ∧ Boxed wr (w.heap.size + 1) 3 (.int .i64 (no : Int)) ∧ LnO 35 w.heap.size wr ov X ∧ Below w.heap.size w wr)
      (fun tv mv _ => match tv, mv with | .string t, .bool true => t.size + 1 | _, _ => 0)
    case atStart => exact ⟨s, true, 0, _, [], rfl, rfl, by omega, by omega, Nat.le_refl _, by show _ = _; rw [hr.out, if_pos rfl]; rfl, bO, bN, LnO.nil _ _ _, hB0⟩
    case round =>
      clear hr bO bN hB0
      obtain ⟨t, more, no, ov, X, rfl, rfl, hno, hno2, hX, hgo, bO, bN, hL, hB⟩ := hrel
      have hno2' := Lib.hid hno2
      clear hno2
      have o1 := bO.cell
      have o2 := bO.lt
      have q1 := bN.cell
      have q2 := bN.lt
      obtain ⟨wz, rfl⟩ : ∃ wz : World, wz = wr := ⟨_, rfl⟩
      cases more with
      | false =>
        have hfin : Hid (readT (toL s) = (rX X, 0, 0)) := hgo.out
        clear hgo
        go_wp2
        go_ret3
        exact ⟨_, X, 0, 0, rfl, hB, hfin.out, hL⟩
      | true =>
        have hno3 : no + t.size ≤ s.size := hno2'.out rfl
        have hmz : wz.cell? ⟨0, 0, none⟩ = some (.int .i64 m) := (hB.cell (p := ⟨0, 0, none⟩) hmb).trans hm
        have hgo2 : Hid (readT (toL s) = readGo ((Lib.cut (toL t) [10]).1 :: (if (Lib.cut (toL t) [10]).2.2 then linesGo (Lib.cut (toL t) [10]).2.1 [] else [])) (no + 1) (rX X)) := by
          show _ = _; rw [hgo.out, if_pos rfl, lines_cut]; rfl
        clear hgo
        have hcs := cut_size (toL t)
        have htz : (toL t).length = t.size := by simp
        rw [htz] at hcs
        have HCS := Lib.hid hcs
        clear hcs htz
        have hcut := Lib.hid (Try.strings_Cut t ⟨#[10]⟩ m wz (by omega) hmz)
        go_wp2_with fail
        refine hcut.out.mono ?_
        rintro e w' ⟨rfl, nq, rfl⟩
        obtain ⟨ln, hln⟩ : ∃ ln : ByteArray, ln = ⟨(Lib.cut t.data.toList (ByteArray.mk #[10]).data.toList).1.toArray⟩ := ⟨_, rfl⟩
        obtain ⟨rt, hrt⟩ : ∃ rt : ByteArray, rt = ⟨(Lib.cut t.data.toList (ByteArray.mk #[10]).data.toList).2.1.toArray⟩ := ⟨_, rfl⟩
        obtain ⟨fd, hfd⟩ : ∃ fd : Bool, fd = (Lib.cut t.data.toList (ByteArray.mk #[10]).data.toList).2.2 := ⟨_, rfl⟩
        rw [← hln, ← hrt, ← hfd]
        have e1 : (Lib.cut (toL t) [10]).1 = toL ln := by rw [hln]
        have e2 : (Lib.cut (toL t) [10]).2.1 = toL rt := by rw [hrt]
        have e3 : (Lib.cut (toL t) [10]).2.2 = fd := hfd.symm
        have hgo3 : Hid (readT (toL s) = readGo (toL ln :: (if fd then linesGo (toL rt) [] else [])) (no + 1) (rX X)) := by
          show _ = _; rw [hgo2.out, e1, e2, e3]
        have hl1 : ln.size ≤ t.size := by have := HCS.out.1; rw [e1] at this; simpa using this
        have hl2 : Hid (fd = true → rt.size + 1 ≤ t.size) := by
          have := HCS.out.2
          have h2 : (toL rt).length = rt.size := by simp
          rw [e2, e3, h2] at this
          exact this
        have hl3 : rt.size ≤ t.size := by
          cases hf : fd with
          | true => have := hl2.out hf; omega
          | false =>
            have : toL rt = [] := by rw [← e2, cut_one]; rw [cut_one] at e3; simp only at e3; simp [e3, hf]
            have h2 : (toL rt).length = rt.size := by simp
            rw [this] at h2; simp at h2; omega
        clear hln hrt hfd e1 e2 e3 hgo2 HCS hcut hmz
        go_wp2_with fail
        have hm2 : (wz.drewN nq).cell? ⟨0, 0, none⟩ = some (.int .i64 m) := (hB.cell (p := ⟨0, 0, none⟩) hmb).trans hm
        refine (next_calls ln (w.heap.size + 1) w.heap.size no ov X w.heap.size m (wz.drewN nq) (by omega) (by omega) (by omega) hm2 bN bO hL (by omega) (Nat.le_refl _) hmb).mono ?_
        rintro e w2 ⟨err, ov2, X2, rfl, bN2, bO2, hL2, hB2, hX2, hread⟩
        have hgo4 : Hid (readT (toL s) = if err = 0 then readGo (if fd then linesGo (toL rt) [] else []) (no + 1 + 1) (rX X2) else ([], no + 1, err)) := by
          show _ = _; rw [hgo3.out, hread]
        clear hread hgo3 hm2
        have q1 := bN2.cell
        have q2 := bN2.lt
        have o1 := bO2.cell
        have hB3 : Below w.heap.size w w2 := (below_drewN hB nq).trans hB2
        by_cases he : err = 0
        · have hgo5 : Hid (readT (toL s) = if fd = true then readGo (linesGo (toL rt) []) (no + 1 + 1) (rX X2) else (rX X2, 0, 0)) := by
            show _ = _; rw [hgo4.out, if_pos he]; cases fd <;> rfl
          subst he
          clear hgo4
          go_wp2_with fail
          go_roundw
          case rel => exact ⟨rt, fd, no + 1, ov2, X2, rfl, rfl, by omega, fun h => by have := hl2.out h; omega, by omega, hgo5.out, bO2, bN2, hL2, hB3⟩
          case measure =>
            cases hf : fd with
            | true => have := hl2.out hf; simp; omega
            | false => simp
        · have hbad : Hid (readT (toL s) = ([], no + 1, err)) := by show _ = _; rw [hgo4.out, if_neg he]
          have he2 : ((err : Int) != 0) = true := by rw [bne_iff_ne]; omega
          clear he hgo4
          go_wp2_with fail
          go_quiet (fail)
          go_wp2
          go_ret3
          exact ⟨_, [], no + 1, err, rfl, below_drewN hB3 _, hbad.out, LnO.nil _ _ _⟩

end Go.Proofs.Ytooimjokbkbleaa
