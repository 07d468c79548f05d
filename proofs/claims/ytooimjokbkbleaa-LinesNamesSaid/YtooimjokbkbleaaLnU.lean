/- So many of one byte; the law LinesNames, walked. -/
import Derived.Test.YtooimjokbkbleaaLnQ
import Derived.Test.YtooimjokbkbleaaLnT
import Derived.Laws.MakeOwn
import Derived.Laws.Concat
namespace Go.Proofs.Ytooimjokbkbleaa
open Go.RowKit Go.Shelf TV
set_option linter.unusedVariables false

theorem made_u8 {w : World} {base : Nat} {n bs : Nat} (hb : base ≤ bs) (hn : n ≤ maxLen) (h : w.heap[bs]? = some (.cells (madeCells #[.int .u8 0] n) 5 (0, 0))) :
    w.ownsRow base 5 1 (.slice (some ⟨bs, 0, none⟩) n n) n (Lib.byteCells (List.replicate n 0)) := by
  refine ⟨by simp [Lib.byteCells], Or.inr ⟨bs, n, _, rfl, hb, h, Nat.le_refl _, hn, by rw [size_madeCells, Nat.mul_one], ?_⟩⟩
  rw [Nat.mul_one, Lib.byteCells, List.map_replicate]
  have : (madeCells #[.int .u8 0] n).toList = List.replicate n (Value.int .u8 0) := by
    apply List.ext_getElem
    · simp [size_madeCells]
    · intro i h1 h2
      simp [madeCells, Nat.mod_one]
  rw [this, List.take_of_length_le (by simp)]; rfl

def fillB (n i : Nat) (c : UInt8) : Bs := List.replicate i c ++ List.replicate (n - i) 0
theorem fill_step {n i : Nat} {c : UInt8} (h : i < n) : (Lib.byteCells (fillB n i c)).set i (.int .u8 (c.toNat : Int)) = Lib.byteCells (fillB n (i + 1) c) := by
  unfold Lib.byteCells fillB
  obtain ⟨k, hk⟩ : ∃ k, n - i = k + 1 := ⟨n - i - 1, by omega⟩
  rw [hk, show n - (i + 1) = k by omega, List.replicate_succ, List.map_append, List.map_cons, List.set_append_right _ _ (by simp)]
  simp [List.replicate_succ']

set_option maxRecDepth 2000000 in
theorem bytes_calls (n : Nat) (ni : Int) (c : UInt8) (ci : Int) (hni : ni = n) (hci : ci = c.toNat) (hn : n ≤ 20000000) (w : World) :
    Calls Try.prog 14 #[.int .i64 ni, .int .u8 ci] w fun e w' => (∃ b : ByteArray, toL b = List.replicate n c ∧ b.size = n ∧ e = .returned (.string b)) ∧ Below w.heap.size w w' := by
  subst hni hci
  obtain ⟨i0, hi, hz0, hz1, hz2⟩ := info_parts info_u8
  have hmk : ∀ W, (Instr.makeSlice 46 (.int .i64 (n : Int)) (.int .i64 (n : Int))).run Try.prog W = .ok (.slice (some ⟨W.heap.size, 0, none⟩) n n) (W.alloc (.cells (madeCells #[.int .u8 0] n) 5)) := fun W => by
    have := run_make (P := Try.prog) W 46 5 i0 (.int .u8 0) Try.underlying46 hi hz0 .i64 .i64 (n : Int) (n : Int) (by omega) (Int.le_refl _) (by rw [hz2]; omega) (by omega)
    rw [this, hz1, show ((n : Int)).toNat = n by omega, Nat.mul_one]; rfl
  clear hi hz0 hz1 hz2
  go_enter Try.func14, Try.ntmps14
  go_wp2_with fail
  clear hmk
  go_loopw [6] (fun iv wr => ∃ i : Nat, i ≤ n ∧ iv = .int .i64 i ∧ wr.ownsRow w.heap.size 5 1 (.slice (some ⟨w.heap.size, 0, none⟩) n n) n (Lib.byteCells (fillB n i c)) ∧ Below w.heap.size w wr) (fun iv _ => n - (intOf iv).toNat)
  case atStart => exact ⟨0, Nat.zero_le _, rfl, made_u8 (Nat.le_refl _) (by unfold maxLen; omega) (heap_alloc_new _ _), (Below.refl _ _).alloc (Nat.le_refl _) _⟩
  case round =>
    obtain ⟨i, hi, rfl, hown, hbl⟩ := hrel
    by_cases hlt : i < n
    · obtain ⟨u1, u2⟩ := own_cell hown (i := i) (by simp [Lib.byteCells, fillB]; omega)
      obtain ⟨uv, huv⟩ : ∃ uv, uv = (Lib.byteCells (fillB n i c))[i]'(by simp [Lib.byteCells, fillB]; omega) := ⟨_, rfl⟩
      rw [← huv] at u1
      obtain ⟨_, _, hg0, _, hb0⟩ := own_some hown (by omega)
      have hb : w.heap.size < wr.heap.size := by cases hg0; exact hb0
      clear hg0 hb0
      have hst := own_set hown i (.int .u8 (c.toNat : Int))
      rw [fill_step hlt] at hst
      have HST := Lib.hid hst
      clear huv hst
      go_wp2_with fail
      go_roundw
      case rel => exact ⟨i + 1, by omega, by go_num, HST.out, hbl.setCell (p := ⟨w.heap.size, i, none⟩) (Nat.le_refl _) _⟩
      case measure => simp [intOf]; omega
    · have hin : Hid (i = n) := by show _ = _; omega
      have hl : (List.replicate n c).length = n := by simp
      have hown2 : wr.ownsRow w.heap.size 5 1 (.slice (some ⟨w.heap.size, 0, none⟩) (List.replicate n c).length n) (List.replicate n c).length (Lib.byteCells (List.replicate n c)) := by
        rw [hin.out] at hown
        rw [hl]
        have e : fillB n n c = List.replicate n c := by simp [fillB]
        rw [e] at hown; exact hown
      have hcv := conv_own hown2
      rw [hl] at hcv
      clear hown2 hl
      go_wp2_with fail
      go_ret
      exact ⟨⟨_, rfl, by simp [ByteArray.size], rfl⟩, hbl⟩

end Go.Proofs.Ytooimjokbkbleaa
