/- The law LinesNames, walked. -/
import Derived.Test.YtooimjokbkbleaaLnU
import Derived.Test.YtooimjokbkbleaaLnM
namespace Go.Proofs.Ytooimjokbkbleaa
open Go.RowKit Go.Shelf TV
set_option linter.unusedVariables false

theorem Cat {b : ByteArray} {n : Nat} {c : UInt8} (hb : toL b = List.replicate n c) (hs : b.size = n) (a : ByteArray) : toL (a ++ b) = toL a ++ List.replicate n c ∧ (a ++ b).size = a.size + n := by
  constructor
  · rw [← hb]; simp
  · rw [ByteArray.size_append, hs]

theorem readEnd_calls (s : ByteArray) (m : Int) (w : World) (hs : s.size ≤ 140737488351232) (hm : w.cell? ⟨0, 0, none⟩ = some (.int .i64 m)) (no err : Nat) (ni ei : Int) (hni : ni = no) (hei : ei = err) (h : (readT (toL s)).2 = (no, err)) :
    Calls Try.prog 11 #[.string s] w fun e w' => (∃ q n cap, e = .returned (.tuple #[.slice q n cap, .int .i64 ni, .int .i64 ei])) ∧ Below w.heap.size w w' := by
  subst hni hei
  refine (read_calls s m w hs hm).mono ?_
  rintro e w1 ⟨v, X, n1, e1, rfl, hB, hr, hL⟩
  rw [hr] at h
  simp only [Prod.mk.injEq] at h
  obtain ⟨rfl, rfl⟩ := h
  obtain ⟨q, cap, rfl⟩ := own_form hL.1
  exact ⟨⟨_, _, _, rfl⟩, hB⟩

theorem readWords_calls (s : ByteArray) (m : Int) (w : World) (hs : s.size ≤ 140737488351232) (hm : w.cell? ⟨0, 0, none⟩ = some (.int .i64 m)) (a b : Bs) (h : readT (toL s) = ([(1, [a, b])], 0, 0)) :
    Calls Try.prog 11 #[.string s] w fun e w' => (∃ g cap q cc, e = .returned (.tuple #[.slice (some ⟨g, 0, none⟩) 1 cap, .int .i64 0, .int .i64 0]) ∧ g < w'.heap.size ∧ w'.cell? ⟨g, 1, none⟩ = some (.slice q 2 cc)) ∧ Below w.heap.size w w' := by
  refine (read_calls s m w hs hm).mono ?_
  rintro e w1 ⟨v, X, n1, e1, rfl, hB, hr, hL⟩
  rw [hr] at h
  simp only [Prod.mk.injEq] at h
  obtain ⟨hX, rfl, rfl⟩ := h
  rcases X with _ | ⟨⟨n1, v1, ws⟩, _ | ⟨x, X⟩⟩
  · simp [rX] at hX
  · simp only [rX, List.map_cons, List.map_nil, List.cons.injEq, Prod.mk.injEq, and_true] at hX
    have hlen : ws.length = 2 := by simpa using congrArg List.length hX.2
    obtain ⟨g, cap, hv, -, hgb, a1, a2⟩ := line_cells hL.1 (i := 0) (by simp)
    have hu1 := (hL.2.1 (n1, v1, ws) (by simp)).2
    obtain ⟨p1, c1, hp1⟩ := own_form hu1
    simp only [List.length_cons, List.length_nil, List.getElem_cons_zero, Nat.zero_mul, Nat.zero_add] at hv hp1 a2
    subst hp1
    rw [hlen] at a2
    subst hv
    exact ⟨⟨g, cap, _, _, rfl, hgb, a2⟩, hB⟩
  · simp [rX] at hX

theorem writeEnd_calls (L : List (List ByteArray)) (v : Value) (w : World) (hL : Sss w v L) (hs : Bnd L) (n : Nat) (ni : Int) (hni : ni = n) (h : (writeT (LL L)).2 = n) :
    Calls Try.prog 9 #[v] w fun e w' => (∃ b, e = .returned (.tuple #[.string b, .int .i64 ni])) ∧ Below w.heap.size w w' := by
  subst hni h
  refine (write_calls L v w hL hs).mono ?_
  rintro e w1 ⟨rfl, hB⟩
  exact ⟨⟨_, rfl⟩, hB⟩

theorem sss_over {w : World} {v : Value} {l : List ByteArray} (h : Sa w v (l.map Value.string)) (T : TypeId) : Sss (w.alloc (.cells #[v] T)) (.slice (some ⟨w.heap.size, 0, none⟩) 1 1) [l] :=
  ⟨[v], sa_lit (cs := #[v]) (heap_alloc_new _ _) (Nat.le_refl _), rfl, fun i hi => by
    match i, hi with
    | 0, _ => exact h.keep ((Below.refl _ _).alloc (Nat.le_refl _) _)⟩
theorem sss_lit (w : World) (b : ByteArray) (T T' : TypeId) : Sss ((w.alloc (.cells #[.string b] T)).alloc (.cells #[.slice (some ⟨w.heap.size, 0, none⟩) 1 1] T')) (.slice (some ⟨w.heap.size + 1, 0, none⟩) 1 1) [[b]] := by
  have h := sss_over (l := [b]) (sa_lit (cs := #[.string b]) (cap := 1) (heap_alloc_new w (.cells #[.string b] T)) (Nat.le_refl _)) T'
  rw [World.size_alloc] at h
  exact h
theorem sss_none (w : World) (T T' : TypeId) (c : Nat) : Sss ((w.alloc (.cells #[] T)).alloc (.cells #[.slice (some ⟨w.heap.size, 0, none⟩) 0 0] T')) (.slice (some ⟨w.heap.size + 1, 0, none⟩) 1 1) [[]] := by
  have h := sss_over (l := []) (sa_lit (cs := #[]) (cap := 0) (heap_alloc_new w (.cells #[] T)) (Nat.le_refl _)) T'
  rw [World.size_alloc] at h
  exact h
theorem sa_rep {w : World} {p : Option Addr} {n cap i : Nat} {a : ByteArray} (h : Sa w (.slice p n cap) ((List.replicate i a).map Value.string)) (k : Nat) (hk : k ≤ i) : Sa w (.slice p k cap) ((List.replicate k a).map Value.string) := by
  obtain ⟨p', cap', he, hle, h2⟩ := h
  cases he
  have hl : ((List.replicate i a).map Value.string).length = i := by simp
  rw [hl] at hle
  refine ⟨p, cap, by rw [List.length_map, List.length_replicate], by rw [List.length_map, List.length_replicate]; omega, fun j hj => ?_⟩
  rw [List.length_map, List.length_replicate] at hj
  obtain ⟨b, o, h3, h4, h5⟩ := h2 j (by rw [hl]; omega)
  refine ⟨b, o, h3, h4, ?_⟩
  rw [h5]; simp
theorem wend_V (n : Nat) (h : 32768 < n) : (writeT (LL [List.replicate n ⟨#[97]⟩])).2 = 3 := by
  show (writeT [(List.replicate n (⟨#[97]⟩ : ByteArray)).map toL]).2 = 3
  rw [List.map_replicate]; exact wend_v n h
theorem wend_W (n : Nat) (h0 : 0 < n) (h : n ≤ 32768) : (writeT (LL [List.replicate n ⟨#[97]⟩])).2 = 0 := by
  show (writeT [(List.replicate n (⟨#[97]⟩ : ByteArray)).map toL]).2 = 0
  rw [List.map_replicate]; exact wend_w n h0 h
theorem bnd_rep (n : Nat) (h : n ≤ 1000000) : Bnd [List.replicate n ⟨#[97]⟩] := by
  refine ⟨by show 1 ≤ _; omega, fun x hx => ?_⟩
  rw [List.mem_singleton] at hx
  subst hx
  exact ⟨by rw [List.length_replicate]; omega, fun s hs => by rw [List.eq_of_mem_replicate hs]; decide⟩
theorem bnd_one {l : List ByteArray} (h1 : l.length ≤ 1000000) (h2 : ∀ s ∈ l, s.size ≤ 1000000) : Bnd [l] :=
  ⟨by show 1 ≤ _; omega, fun x hx => by
    rw [List.mem_singleton] at hx
    subst hx
    exact ⟨by omega, fun s hs => by have := h2 s hs; omega⟩⟩

set_option maxRecDepth 2000000 in
set_option maxHeartbeats 4000000 in
theorem LinesNames_walk (w : World) (hmx : ∃ m, w.cell? ⟨0, 0, none⟩ = some (.int .i64 m)) :
    Calls Try.prog 5 #[] w fun e w' => e = .returned (.bool true) ∧ Below w.heap.size w w' := by
  obtain ⟨m, hm⟩ := hmx
  have HM : Hid (∀ w1, Below w.heap.size w w1 → w1.cell? ⟨0, 0, none⟩ = some (.int .i64 m)) := fun w1 hb => keep_cell hb hm
  go_enter Try.func5, Try.ntmps5
  go_wp2_with fail
  refine (works_calls m w hm).mono ?_
  rintro e w1 ⟨rfl, hB1⟩
  go_wp2_with fail
  refine (readEnd_calls _ m w1 (by decide) (HM.out _ hB1) 2 4 2 4 rfl rfl (by decide +kernel)).mono ?_
  rintro e w2 ⟨⟨q2, n2, c2, rfl⟩, hb⟩
  have hB2 := hB1.trans (hb.mono hB1.size)
  clear hb
  go_wp2_with fail
  refine (readEnd_calls _ m w2 (by decide) (HM.out _ hB2) 3 4 3 4 rfl rfl (by decide +kernel)).mono ?_
  rintro e w3 ⟨⟨q3, n3, c3, rfl⟩, hb⟩
  have hB3 := hB2.trans (hb.mono hB2.size)
  clear hb
  go_wp2_with fail
  refine (bytes_calls 65537 65537 32 32 rfl rfl (by omega) w3).mono ?_
  rintro e w4 ⟨⟨t4, ht4, hs4, rfl⟩, hb⟩
  have hB4 := hB3.trans (hb.mono hB3.size)
  clear hb
  have g4 := Lib.hid (Cat ht4 hs4 ⟨#[10]⟩)
  have z4 : t4.size ≤ 20000000 := by rw [hs4]; omega
  clear ht4 hs4
  go_wp2_with fail
  refine (readEnd_calls _ m w4 (by rw [g4.out.2]; decide) (HM.out _ hB4) 2 3 2 3 rfl rfl (by rw [g4.out.1]; exact end_c 65537 (by omega) (by omega))).mono ?_
  rintro e w5 ⟨⟨q5, n5, c5, rfl⟩, hb⟩
  have hB5 := hB4.trans (hb.mono hB4.size)
  clear hb
  go_wp2_with fail
  refine (bytes_calls 65536 65536 32 32 rfl rfl (by omega) w5).mono ?_
  rintro e w6 ⟨⟨t6, ht6, hs6, rfl⟩, hb⟩
  have hB6 := hB5.trans (hb.mono hB5.size)
  clear hb
  have g6 := Lib.hid (Cat ht6 hs6 ⟨#[10]⟩)
  have z6 : t6.size ≤ 20000000 := by rw [hs6]; omega
  clear ht6 hs6
  go_wp2_with fail
  refine (readEnd_calls _ m w6 (by rw [g6.out.2]; decide) (HM.out _ hB6) 0 0 0 0 rfl rfl (by rw [g6.out.1]; exact end_d 65536 (by omega))).mono ?_
  rintro e w7 ⟨⟨q7, n7, c7, rfl⟩, hb⟩
  have hB7 := hB6.trans (hb.mono hB6.size)
  clear hb
  go_wp2_with fail
  refine (bytes_calls 16777217 16777217 10 10 rfl rfl (by omega) w7).mono ?_
  rintro e w8 ⟨⟨t8, ht8, hs8, rfl⟩, hb⟩
  have hB8 := hB7.trans (hb.mono hB7.size)
  clear hb
  have g8 := Lib.hid (And.intro ht8 hs8)
  have z8 : t8.size ≤ 20000000 := by rw [hs8]; omega
  clear ht8 hs8
  go_wp2_with fail
  refine (readEnd_calls _ m w8 (by rw [g8.out.2]; decide) (HM.out _ hB8) 0 3 0 3 rfl rfl (by rw [g8.out.1]; exact end_e 16777217 (by omega))).mono ?_
  rintro e w9 ⟨⟨q9, n9, c9, rfl⟩, hb⟩
  have hB9 := hB8.trans (hb.mono hB8.size)
  clear hb
  go_wp2_with fail
  refine (bytes_calls 16777216 16777216 10 10 rfl rfl (by omega) w9).mono ?_
  rintro e w10 ⟨⟨t10, ht10, hs10, rfl⟩, hb⟩
  have hB10 := hB9.trans (hb.mono hB9.size)
  clear hb
  have g10 := Lib.hid (And.intro ht10 hs10)
  have z10 : t10.size ≤ 20000000 := by rw [hs10]; omega
  clear ht10 hs10
  go_wp2_with fail
  refine (readEnd_calls _ m w10 (by rw [g10.out.2]; decide) (HM.out _ hB10) 0 0 0 0 rfl rfl (by rw [g10.out.1]; exact end_f 16777216 (by omega))).mono ?_
  rintro e w11 ⟨⟨q11, n11, c11, rfl⟩, hb⟩
  have hB11 := hB10.trans (hb.mono hB10.size)
  clear hb
  go_wp2_with fail
  refine (bytes_calls 401 401 97 97 rfl rfl (by omega) w11).mono ?_
  rintro e w12 ⟨⟨t12, ht12, hs12, rfl⟩, hb⟩
  have hB12 := hB11.trans (hb.mono hB11.size)
  clear hb
  have g12 := Lib.hid (Cat ht12 hs12 ⟨#[120, 32]⟩)
  have z12 : t12.size ≤ 20000000 := by rw [hs12]; omega
  clear ht12 hs12
  go_wp2_with fail
  refine (readEnd_calls _ m w12 (by rw [g12.out.2]; decide) (HM.out _ hB12) 1 4 1 4 rfl rfl (by rw [g12.out.1]; exact end_g 401 (by omega) (by omega))).mono ?_
  rintro e w13 ⟨⟨q13, n13, c13, rfl⟩, hb⟩
  have hB13 := hB12.trans (hb.mono hB12.size)
  clear hb
  go_wp2_with fail
  refine (bytes_calls 400 400 97 97 rfl rfl (by omega) w13).mono ?_
  rintro e w14 ⟨⟨t14, ht14, hs14, rfl⟩, hb⟩
  have hB14 := hB13.trans (hb.mono hB13.size)
  clear hb
  have g14 := Lib.hid (Cat ht14 hs14 ⟨#[120, 32]⟩)
  have z14 : t14.size ≤ 20000000 := by rw [hs14]; omega
  clear ht14 hs14
  go_wp2_with fail
  refine (bytes_calls 500 500 98 98 rfl rfl (by omega) w14).mono ?_
  rintro e w15 ⟨⟨t15, ht15, hs15, rfl⟩, hb⟩
  have hB15 := hB14.trans (hb.mono hB14.size)
  clear hb
  have g15 := Lib.hid (Cat ht15 hs15 (⟨#[120, 32]⟩ ++ t14 ++ ⟨#[35]⟩))
  have z15 : t15.size ≤ 20000000 := by rw [hs15]; omega
  clear ht15 hs15
  go_wp2_with fail
  have h15 : readT (toL (⟨#[120, 32]⟩ ++ t14 ++ ⟨#[35]⟩ ++ t15)) = ([(1, [[120], List.replicate 400 97])], 0, 0) := by
    rw [g15.out.1, show toL (⟨#[120, 32]⟩ ++ t14 ++ ⟨#[35]⟩) = toL (⟨#[120, 32]⟩ ++ t14) ++ [35] by simp, g14.out.1]
    exact end_h 400 500 (by omega) (by omega) (by omega)
  have k15 : (⟨#[120, 32]⟩ ++ t14 ++ ⟨#[35]⟩ ++ t15 : ByteArray).size ≤ 1000 := by
    rw [g15.out.2, ByteArray.size_append, g14.out.2]; decide
  refine (readWords_calls _ m w15 (Nat.le_trans k15 (by decide)) (HM.out _ hB15) _ _ h15).mono ?_
  rintro e w16 ⟨⟨g, cg, qg, cc, rfl, hg, hcell⟩, hb⟩
  have hB16 := hB15.trans (hb.mono hB15.size)
  clear hb h15 k15
  go_wp2_with fail
  refine (writeEnd_calls [[]] _ _ (sss_none w16 9 23 0) (bnd_one (by simp) (by simp)) 1 1 rfl (wend_bad (by decide))).mono ?_
  rintro e w17 ⟨⟨s17, rfl⟩, hb⟩
  have ha17 : Below w16.heap.size w16 ((w16.alloc (.cells #[] 9)).alloc (.cells #[.slice (some ⟨w16.heap.size, 0, none⟩) 0 0] 23)) := ((Below.refl _ _).alloc (Nat.le_refl _) _).alloc (by simp) _
  have hb17 := ha17.trans (hb.mono ha17.size)
  have hB17 := hB16.trans (hb17.mono hB16.size)
  have hg := Nat.lt_of_lt_of_le hg hb17.size
  have hcell := keep_cell hb17 hcell
  clear hb ha17 hb17
  go_wp2_with fail
  refine (writeEnd_calls [[⟨#[]⟩]] _ _ (sss_lit w17 ⟨#[]⟩ 9 23) (bnd_one (by simp) (by simp; decide)) 1 1 rfl (wend_bad (by decide))).mono ?_
  rintro e w18 ⟨⟨s18, rfl⟩, hb⟩
  have ha18 : Below w17.heap.size w17 ((w17.alloc (.cells #[.string ⟨#[]⟩] 9)).alloc (.cells #[.slice (some ⟨w17.heap.size, 0, none⟩) 1 1] 23)) := ((Below.refl _ _).alloc (Nat.le_refl _) _).alloc (by simp) _
  have hb18 := ha18.trans (hb.mono ha18.size)
  have hB18 := hB17.trans (hb18.mono hB17.size)
  have hg := Nat.lt_of_lt_of_le hg hb18.size
  have hcell := keep_cell hb18 hcell
  clear hb ha18 hb18
  go_wp2_with fail
  refine (writeEnd_calls [[⟨#[97, 32, 98]⟩]] _ _ (sss_lit w18 ⟨#[97, 32, 98]⟩ 9 23) (bnd_one (by simp) (by simp; decide)) 1 1 rfl (wend_bad (by decide))).mono ?_
  rintro e w19 ⟨⟨s19, rfl⟩, hb⟩
  have ha19 : Below w18.heap.size w18 ((w18.alloc (.cells #[.string ⟨#[97, 32, 98]⟩] 9)).alloc (.cells #[.slice (some ⟨w18.heap.size, 0, none⟩) 1 1] 23)) := ((Below.refl _ _).alloc (Nat.le_refl _) _).alloc (by simp) _
  have hb19 := ha19.trans (hb.mono ha19.size)
  have hB19 := hB18.trans (hb19.mono hB18.size)
  have hg := Nat.lt_of_lt_of_le hg hb19.size
  have hcell := keep_cell hb19 hcell
  clear hb ha19 hb19
  go_wp2_with fail
  refine (writeEnd_calls [[⟨#[35]⟩]] _ _ (sss_lit w19 ⟨#[35]⟩ 9 23) (bnd_one (by simp) (by simp; decide)) 1 1 rfl (wend_bad (by decide))).mono ?_
  rintro e w20 ⟨⟨s20, rfl⟩, hb⟩
  have ha20 : Below w19.heap.size w19 ((w19.alloc (.cells #[.string ⟨#[35]⟩] 9)).alloc (.cells #[.slice (some ⟨w19.heap.size, 0, none⟩) 1 1] 23)) := ((Below.refl _ _).alloc (Nat.le_refl _) _).alloc (by simp) _
  have hb20 := ha20.trans (hb.mono ha20.size)
  have hB20 := hB19.trans (hb20.mono hB19.size)
  have hg := Nat.lt_of_lt_of_le hg hb20.size
  have hcell := keep_cell hb20 hcell
  clear hb ha20 hb20
  go_wp2_with fail
  refine (bytes_calls 401 401 97 97 rfl rfl (by omega) w20).mono ?_
  rintro e w21 ⟨⟨t21, ht21, hs21, rfl⟩, hb⟩
  have hB21 := hB20.trans (hb.mono hB20.size)
  have hg := Nat.lt_of_lt_of_le hg hb.size
  have hcell := keep_cell hb hcell
  clear hb
  have z21 : t21.size ≤ 1000000 := by rw [hs21]; omega
  have g21 := Lib.hid (And.intro ht21 hs21)
  clear ht21 hs21
  go_wp2_with fail
  refine (writeEnd_calls [[t21]] _ _ (sss_lit w21 t21 9 23) (bnd_one (by simp) (by simp; omega)) 1 1 rfl (by show (writeT [[toL t21]]).2 = 1; rw [g21.out.1]; exact wend_u 401 (by omega))).mono ?_
  rintro e w22 ⟨⟨s22, rfl⟩, hb⟩
  have ha22 : Below w21.heap.size w21 ((w21.alloc (.cells #[.string t21] 9)).alloc (.cells #[.slice (some ⟨w21.heap.size, 0, none⟩) 1 1] 23)) := ((Below.refl _ _).alloc (Nat.le_refl _) _).alloc (by simp) _
  have hb22 := ha22.trans (hb.mono ha22.size)
  have hB22 := hB21.trans (hb22.mono hB21.size)
  have hg := Nat.lt_of_lt_of_le hg hb22.size
  have hcell := keep_cell hb22 hcell
  clear hb ha22 hb22
  go_wp2_with fail
  obtain ⟨i0, hi0, hz0, hz1, hz2⟩ := info_parts info_string
  go_loopw [35, 36] (fun mv iv wr => ∃ i : Nat, i ≤ 32769 ∧ iv = .int .i64 i ∧ wr.ownsRow w22.heap.size 9 1 mv i ((List.replicate i (⟨#[97]⟩ : ByteArray)).map Value.string) ∧ Below w22.heap.size w22 wr) (fun _ iv _ => 32769 - (intOf iv).toNat)
  case atStart => exact ⟨0, Nat.zero_le _, rfl, ⟨rfl, Or.inl ⟨rfl, rfl⟩⟩, Below.refl _ _⟩
  case round =>
    obtain ⟨i, hi, rfl, hown, hbl⟩ := hrel
    obtain ⟨q, cap, rfl⟩ := own_form hown
    have hl : ((List.replicate i (⟨#[97]⟩ : ByteArray)).map Value.string).length = i := by simp
    by_cases hlt : i < 32769
    · have hown' := hown.alloc (.cells #[.string ⟨#[97]⟩] 9)
      rw [← hl] at hown'
      go_wp2_with (at_builtin; refine wpList_append_own _ rfl _ _ 23 rfl w22.heap.size 9 i0 (.string .empty) 1 16 Try.underlying23 hi0 hz0 hz1 hz2 rfl (by decide) _ _ _ rfl (hown.alloc _) ⟨wr.heap.size, 0, none⟩ 1 1 [.string ⟨#[97]⟩] rfl rfl (news_one _ _ _) (by simp [Value.oneCell']) (by unfold maxLen; omega) (by omega) (by have := hbl.size; simp; omega) ?_; intro ov' w2 hown2 hgrow hnil; clear hnil; obtain ⟨q2, cap2, rfl⟩ := own_form hown2)
      go_wp2
      go_roundw
      case rel => exact ⟨i + 1, by omega, by go_num, by rw [List.replicate_succ', List.map_append]; exact hown2, ((hbl.alloc hbl.size _).grown hgrow (by have := hbl.size; simp; omega) (fun j hj => by have := own_block hown _ hj; omega))⟩
      case measure => simp [intOf]; omega
    · have hi9 : Hid (i = 32769) := by show _ = _; omega
      obtain ⟨gm, cm, hgm, -, hgb⟩ := own_some hown (by omega)
      cases hgm
      have hcap : i ≤ cap := by
        rcases hown.2 with ⟨h2, h3⟩ | ⟨g', c', cur, hv, -, -, hle, -⟩
        · first | omega | cases h2 | cases h3
        · cases hv; exact hle
      have hB23 := hB22.trans (hbl.mono hB22.size)
      have hg := Nat.lt_of_lt_of_le hg hbl.size
      have hcell := keep_cell hbl hcell
      have HS := Lib.hid (own_sl hown).toSa
      clear hown hl hi0 hz0 hz1 hz2 hgb
      go_wp2_with fail
      refine (writeEnd_calls [List.replicate i ⟨#[97]⟩] _ _ (sss_over HS.out 23) (bnd_rep i (by omega)) 3 3 rfl (wend_V i (by omega))).mono ?_
      rintro e w24 ⟨⟨s24, rfl⟩, hb⟩
      have ha : Below wr.heap.size wr (wr.alloc (.cells #[.slice (some ⟨gm, 0, none⟩) i cap] 23)) := (Below.refl _ _).alloc (Nat.le_refl _) _
      have hb24 := ha.trans (hb.mono ha.size)
      have hB24 := hB23.trans (hb24.mono hB23.size)
      have hg := Nat.lt_of_lt_of_le hg hb24.size
      have hcell := keep_cell hb24 hcell
      have HS2 := Lib.hid (sa_rep (HS.out.keep hb24) 32768 (by omega))
      clear hb ha hb24 HS
      go_wp2_with fail
      refine (writeEnd_calls [List.replicate 32768 ⟨#[97]⟩] _ _ (sss_over HS2.out 23) (bnd_rep 32768 (by omega)) 0 0 rfl (wend_W 32768 (by omega) (by omega))).mono ?_
      rintro e w25 ⟨⟨s25, rfl⟩, hb⟩
      have ha : Below w24.heap.size w24 (w24.alloc (.cells #[.slice (some ⟨gm, 0, none⟩) 32768 cap] 23)) := (Below.refl _ _).alloc (Nat.le_refl _) _
      have hb25 := ha.trans (hb.mono ha.size)
      have hB25 := hB24.trans (hb25.mono hB24.size)
      have hg := Nat.lt_of_lt_of_le hg hb25.size
      have hcell := keep_cell hb25 hcell
      clear hb ha hb25 HS2
      go_wp2
      go_ret
      exact ⟨rfl, hB25⟩

end Go.Proofs.Ytooimjokbkbleaa
