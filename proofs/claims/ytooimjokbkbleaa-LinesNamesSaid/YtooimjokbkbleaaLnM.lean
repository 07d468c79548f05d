/- The examples that the laws ask first, walked. -/
import Derived.Test.YtooimjokbkbleaaLnF
import Derived.Test.YtooimjokbkbleaaLnL
namespace Go.Proofs.Ytooimjokbkbleaa
open Go.RowKit Go.Shelf TV
set_option linter.unusedVariables false

def exText : ByteArray := ⟨#[49, 32, 50, 32, 35, 32, 116, 104, 114, 101, 101, 10, 10, 32, 52, 9, 53, 13, 10]⟩
theorem ex_read : readT (toL exText) = ([(1, [[49], [50]]), (3, [[52], [53]])], 0, 0) := by decide +kernel
def exL : List (List ByteArray) := [[⟨#[49]⟩, ⟨#[50]⟩], [⟨#[120]⟩]]
theorem ex_write : writeT (LL exL) = ([49, 32, 50, 10, 120, 10], 0) := by decide +kernel

theorem toL_one {a : ByteArray} {c : UInt8} (h : toL a = [c]) : a = ⟨#[c]⟩ := toL_inj h

theorem two_words : ∀ (l : List ByteArray) (c d : UInt8), l.map toL = [[c], [d]] → l = [⟨#[c]⟩, ⟨#[d]⟩] := by
  intro l c d hl
  rcases l with _ | ⟨a, _ | ⟨b, _ | ⟨x, l⟩⟩⟩
  · simp at hl
  · simp at hl
  · simp only [List.map_cons, List.map_nil, List.cons.injEq, and_true] at hl
    rw [toL_one hl.1, toL_one hl.2]
  · simp at hl
theorem ex_lines {X : List LnX} (h : rX X = [(1, [[49], [50]]), (3, [[52], [53]])]) : ∃ v1 v2, X = [(1, v1, [⟨#[49]⟩, ⟨#[50]⟩]), (3, v2, [⟨#[52]⟩, ⟨#[53]⟩])] := by
  rcases X with _ | ⟨⟨n1, v1, w1⟩, _ | ⟨⟨n2, v2, w2⟩, _ | ⟨x, X⟩⟩⟩
  · simp [rX] at h
  · simp [rX] at h
  · simp only [rX, List.map_cons, List.map_nil, List.cons.injEq, Prod.mk.injEq, and_true] at h
    obtain ⟨⟨rfl, h1⟩, rfl, h2⟩ := h
    rw [two_words _ _ _ h1, two_words _ _ _ h2]
    exact ⟨v1, v2, rfl⟩
  · simp [rX] at h

theorem sa_lit {w : World} {b : Nat} {cs : Array Value} {T : TypeId} {fr : Nat × Nat} {cap : Nat} (h : w.heap[b]? = some (.cells cs T fr)) (hc : cs.toList.length ≤ cap) : Sa w (.slice (some ⟨b, 0, none⟩) cs.toList.length cap) cs.toList :=
  ⟨_, cap, rfl, hc, fun i hi => ⟨b, 0, rfl, block_lt h, by rw [Nat.zero_add, cell_of_block h]; simp at hi; simp [hi]⟩⟩

set_option maxRecDepth 100000 in
theorem works_calls (m : Int) (w : World) (hm : w.cell? ⟨0, 0, none⟩ = some (.int .i64 m)) :
    Calls Try.prog 13 #[] w fun e w' => e = .returned (.bool true) ∧ Below w.heap.size w w' := by
  have HR := Lib.hid (read_calls exText m w (by decide) hm)
  unfold exText at HR
  go_enter Try.func13, Try.ntmps13
  go_wp2_with fail
  refine HR.out.mono ?_
  rintro e w1 ⟨v1, X, no, err, rfl, hB1, hr, hL⟩
  have hr2 := hr.symm.trans (show readT (toL _) = _ from ex_read)
  simp only [Prod.mk.injEq] at hr2
  obtain ⟨hr3, rfl, rfl⟩ := hr2
  obtain ⟨u1, u2, rfl⟩ := ex_lines hr3
  clear hr hr3 HR
  obtain ⟨g, cap, hv, -, hgb, a1, a2⟩ := line_cells hL.1 (i := 0) (by simp)
  obtain ⟨g', cap', hv', -, -, b1, b2⟩ := line_cells hL.1 (i := 1) (by simp)
  rw [hv] at hv'
  simp only [Value.slice.injEq, Option.some.injEq, Addr.mk.injEq] at hv'
  obtain ⟨⟨rfl, -, -⟩, -, rfl⟩ := hv'
  have hu1 := (hL.2.1 (1, u1, [⟨#[49]⟩, ⟨#[50]⟩]) (by simp)).2
  have hu2 := (hL.2.1 (3, u2, [⟨#[52]⟩, ⟨#[53]⟩]) (by simp)).2
  obtain ⟨p1, c1, hp1⟩ := own_form hu1
  obtain ⟨g2, c2, hp2, -, hg2⟩ := own_some hu2 (by simp)
  simp only [List.length_cons, List.length_nil, List.getElem_cons_zero, List.getElem_cons_succ, Nat.zero_mul, Nat.zero_add, Nat.one_mul] at hv hp1 hp2 a1 a2 b1 b2
  subst hv hp1 hp2
  have d1 := (own_cell hu2 (i := 1) (by simp)).1
  simp only [List.map_cons, List.map_nil, List.getElem_cons_succ, List.getElem_cons_zero] at d1
  have hgb' : g < w1.heap.size := hgb
  clear hu1 hu2 hL
  have a1 : w1.cell? ⟨g, 0, none⟩ = some (.int .i64 1) := a1
  have b1 : w1.cell? ⟨g, 2, none⟩ = some (.int .i64 3) := b1
  have a2 : w1.cell? ⟨g, 1, none⟩ = some (.slice p1 2 c1) := a2
  have b2 : w1.cell? ⟨g, 3, none⟩ = some (.slice (some ⟨g2, 0, none⟩) 2 c2) := b2
  go_wp2_with fail
  obtain ⟨w2, hw2⟩ : ∃ w2, w2 = (((w1.alloc (.cells #[.string ⟨#[49]⟩, .string ⟨#[50]⟩] 9)).alloc (.cells #[.string ⟨#[120]⟩] 9)).alloc (.cells #[.slice (some ⟨w1.heap.size, 0, none⟩) 2 2, .slice (some ⟨w1.heap.size + 1, 0, none⟩) 1 1] 23)) := ⟨_, rfl⟩
  have hB2 : Below w1.heap.size w1 w2 := by rw [hw2]; exact (((Below.refl _ _).alloc (Nat.le_refl _) _).alloc (by simp) _).alloc (by simp; omega) _
  have k0 : w2.heap[w1.heap.size]? = some (.cells #[.string ⟨#[49]⟩, .string ⟨#[50]⟩] 9 (0, 0)) := by
    rw [hw2]; exact ((Below.heap_alloc _ _ _ (by simp; omega)).trans (Below.heap_alloc _ _ _ (by simp))).trans (heap_alloc_new _ _)
  have k1 : w2.heap[w1.heap.size + 1]? = some (.cells #[.string ⟨#[120]⟩] 9 (0, 0)) := by
    rw [hw2]
    have := heap_alloc_new (w1.alloc (.cells #[.string ⟨#[49]⟩, .string ⟨#[50]⟩] 9)) (.cells #[.string ⟨#[120]⟩] 9)
    rw [World.size_alloc] at this
    exact (Below.heap_alloc _ _ _ (by simp)).trans this
  have k2 : w2.heap[w1.heap.size + 1 + 1]? = some (.cells #[.slice (some ⟨w1.heap.size, 0, none⟩) 2 2, .slice (some ⟨w1.heap.size + 1, 0, none⟩) 1 1] 23 (0, 0)) := by
    rw [hw2]
    have := heap_alloc_new ((w1.alloc (.cells #[.string ⟨#[49]⟩, .string ⟨#[50]⟩] 9)).alloc (.cells #[.string ⟨#[120]⟩] 9)) (.cells #[.slice (some ⟨w1.heap.size, 0, none⟩) 2 2, .slice (some ⟨w1.heap.size + 1, 0, none⟩) 1 1] 23)
    simpa using this
  have hS : Sss w2 (.slice (some ⟨w1.heap.size + 1 + 1, 0, none⟩) 2 2) exL :=
    ⟨[_, _], sa_lit k2 (Nat.le_refl _), rfl, fun i hi => by
      match i, hi with
      | 0, _ => exact sa_lit k0 (Nat.le_refl _)
      | 1, _ => exact sa_lit k1 (Nat.le_refl _)⟩
  rw [← hw2]
  refine (write_calls exL _ _ hS (bnd_of_tot (by decide))).mono ?_
  rintro e w3 ⟨he, hB3⟩
  rw [ex_write] at he
  subst he
  have hB4 : Below w1.heap.size w1 w3 := hB2.trans (hB3.mono hB2.size)
  have a1 := keep_cell hB4 a1
  have a2 := keep_cell hB4 a2
  have b1 := keep_cell hB4 b1
  have b2 := keep_cell hB4 b2
  have d1 := keep_cell hB4 d1
  clear hS k0 k1 k2 hw2 hB3 hB2
  go_wp2
  go_ret
  exact ⟨rfl, hB1.trans (hB4.mono hB1.size)⟩

end Go.Proofs.Ytooimjokbkbleaa
